/- Walk of the library's byteStringReplacer: x and / go. -/
import Derived.Test.YtecekflooihkoaaGreatDoorRep3
import Derived.Test.YtecekflooihkoaaGreatDoorParsePlain
import Derived.Deep.QuietTactic
import Derived.BigQuiet
import Derived.Deep.RegionHeld3
set_option linter.unusedVariables false
set_option linter.unusedSimpArgs false
set_option maxHeartbeats 6400000
set_option maxRecDepth 100000
namespace Go.Proofs.YtecekflooihkoaaGreatDoor
open Go.RowKit

def goesB (c : UInt8) : Bool := c == 120 || c == 47
theorem keepT_snoc (l : List UInt8) {k : Nat} (h : k < l.length) : keepT (l.take (k + 1)) = keepT (l.take k) ++ (if goesB l[k] then [] else [l[k]]) := by
  rw [take_snoc l h]
  unfold keepT goesB
  rw [List.filter_append]
  congr 1
  rw [List.filter_cons]
  cases hc : (l[k] == 120 || l[k] == 47) <;> rfl
theorem keepT_len (l : List UInt8) : (keepT l).length ≤ l.length := List.length_filter_le _ _
/-- How many of the first k go. -/
def goesN (l : List UInt8) (k : Nat) : Nat := k - (keepT (l.take k)).length
theorem str_Count (c : UInt8) (l : List UInt8) (w : World) : Calls Tryz.prog 218 #[.string (S l), .string (S [c])] w fun e w' => e = .returned (.int .i64 (l.count c : Nat)) ∧ w' = w :=
  Any.strings_Count_one layCount (S l) c w
/-- What the table says of a byte. -/
theorem TabX.byte {w : World} {q : Nat} (h : TabX w q) (b : UInt8) : ∃ A c, w.cell? ⟨q, b.toNat, none⟩ = some (.slice A 0 c) ∧ (A.isNone = !goesB b) ∧ (A = none → c = 0) := by
  obtain ⟨base, h1, h2⟩ := h
  obtain ⟨cs, A, c, k1, k2, k3, k4, k5, k6⟩ := h2.has
  have hb := b.toNat_lt
  by_cases hg : b.toNat = 120 ∨ b.toNat = 47
  · obtain ⟨-, a, cc, hc⟩ := k6 b.toNat (by simp; exact hg)
    refine ⟨some a, cc, by rw [k1.cell]; exact hc, ?_, fun h => by cases h⟩
    have : goesB b = true := by
      unfold goesB
      rcases hg with hg | hg
      · have : b = 120 := UInt8.toNat_inj.1 hg
        subst this; rfl
      · have : b = 47 := UInt8.toNat_inj.1 hg
        subst this; rfl
    rw [this]; rfl
  · refine ⟨none, 0, by rw [k1.cell]; exact k5 _ (by omega) (by simp; omega), ?_, fun _ => rfl⟩
    have : goesB b = false := by
      unfold goesB
      have e1 : (b == 120) = false := by rw [beq_eq_false_iff_ne]; rintro rfl; exact hg (.inl rfl)
      have e2 : (b == 47) = false := by rw [beq_eq_false_iff_ne]; rintro rfl; exact hg (.inr rfl)
      rw [e1, e2]; rfl
    rw [this]; rfl
theorem TabX.list {w : World} {q : Nat} (h : TabX w q) : ∃ b c, w.cell? ⟨q, 256, none⟩ = some (.slice (some ⟨b, 0, none⟩) 2 c) ∧ w.cell? ⟨b, 0, none⟩ = some (.string (S [47])) ∧ w.cell? ⟨b, 1, none⟩ = some (.string (S [120])) := by
  obtain ⟨base, h1, h2⟩ := h
  obtain ⟨cs, A, c, k1, k2, k3, k4, k5, k6⟩ := h2.has
  have k0 := k4
  rcases k4.2 with ⟨e, hl⟩ | ⟨g, cap, cur, e, _⟩
  · simp at hl
  · simp only [Value.slice.injEq] at e
    obtain ⟨rfl, -, rfl⟩ := e
    refine ⟨g, c, by rw [k1.cell]; exact k3, (k0.cellAt 0 (by simp)).trans rfl, (k0.cellAt 1 (by simp)).trans rfl⟩

theorem keepT_split (l : List UInt8) (k : Nat) : keepT l = keepT (l.take k) ++ keepT (l.drop k) := by
  unfold keepT
  rw [← List.filter_append, List.take_append_drop]
theorem keepT_mono (l : List UInt8) (k : Nat) : (keepT (l.take k)).length ≤ (keepT l).length := by
  rw [keepT_split l k]; simp
theorem keepT_count (l : List UInt8) : (keepT l).length + l.count 47 + l.count 120 = l.length := by
  induction l with
  | nil => rfl
  | cons b l ih =>
    have hk : (keepT (b :: l)).length = (if goesB b then 0 else 1) + (keepT l).length := by
      unfold keepT goesB
      rw [List.filter_cons]
      cases hc : (b == 120 || b == 47) <;> simp <;> omega
    rw [hk, List.count_cons, List.count_cons, List.length_cons]
    by_cases h1 : b = 120
    · subst h1; simp [goesB]; omega
    · by_cases h2 : b = 47
      · subst h2; simp [goesB]; omega
      · have e1 : (b == 120) = false := by simpa using h1
        have e2 : (b == 47) = false := by simpa using h2
        unfold goesB
        rw [e1, e2]
        simp; omega
theorem keepT_id {l : List UInt8} (h : (keepT l).length = l.length) : keepT l = l := by
  unfold keepT at *
  exact List.filter_sublist.eq_of_length h
/-- The bytes that are kept, as far as they are written. -/
def Pre (cs : Array Value) (l : List UInt8) (n : Nat) : Prop := cs.size = n ∧ ∀ t, (h : t < l.length) → cs[t]? = some (B8 l[t])
theorem Pre.snoc {cs : Array Value} {l : List UInt8} {n : Nat} (h : Pre cs l n) (b : UInt8) (hl : l.length < n) : Pre (cs.setIfInBounds l.length (B8 b)) (l ++ [b]) n := by
  refine ⟨by simpa using h.1, fun t ht => ?_⟩
  rw [Array.getElem?_setIfInBounds]
  by_cases e : l.length = t
  · subst e
    rw [if_pos rfl, if_pos (by rw [h.1]; exact hl)]
    simp
  · rw [if_neg e]
    simp at ht
    rw [List.getElem_append_left (by omega)]
    exact h.2 t (by omega)

/-- copy of nothing, at a step of a region that draws its order. -/
theorem step_copy_none {w : World} {ops : Array Oper} {o : Oper} {a : Act} {K : Act → World → Prop} {Q : Exit → Act → World → Prop} {E : Prop} (hgd : o.guard = none) (d s : Operand)
    (ho : o.op = .call { callee := .builtin .copy, args := #[d, s], argTypes := #[81, 81] }) (dp sp : Option Addr) (dLen dCap sCap : Nat) (hd : a.eval d = .slice dp dLen dCap) (hs : a.eval s = .slice sp 0 sCap)
    (h : K (a.put o.dst (goInt 0)) w) : if Region.wanted o (yielded ops a.tmps) = true then Oper.wp Tryz.prog o a w K Q else E := by
  have hw : Region.wanted o (yielded ops a.tmps) = true := by simp [Region.wanted, hgd]
  have hrun := run_copy_none (P := Tryz.prog) w 81 81 o.type 5 dp sp dLen dCap 0 sCap (by kernel_rfl) (by kernel_rfl) (by simp [Nat.min])
  rw [if_pos hw]
  unfold Oper.wp
  simp [execOp, ho, resolve, invoke, builtin, hd, hs, hrun, Result.andThen]
  exact h
/-- What is kept of a text. -/
def RepPost (l : List UInt8) (w : World) (e : Ending) (w' : World) : Prop := e = .returned (.string (S (keepT l))) ∧ Below w.heap.size w w'
theorem bsr_Replace (q : Nat) (l : List UInt8) (hl : l.length ≤ 1000) (w : World) (hT : TabX w q) :
    Calls Tryz.prog 216 #[.pointer (some ⟨q, 0, none⟩), .string (S l)] w (RepPost l w) := by
  obtain ⟨tb, tc, x0, x1, x2⟩ := hT.list
  have hn := keepT_count l
  have hkl := keepT_len l
  have HT := hid hT
  have qlt := hT.lt
  have qT : ∀ (w : World) (a : Option Addr) (n c n' c' : Nat), (binOp .neq 81 (.slice a n c) (.slice none n' c')).run Tryz.prog w = .ok (.bool !a.isNone) w := fun w a n c n' c' => run_neq_slice_nil_any w _ _ a n c n' c' Tryz.underlying81
  clear hT
  by_cases h16 : 16 ≤ l.length
  · have h16' : (16 : Int) ≤ l.length := by omega
    have C1 := hid (fun W => str_Count 47 l W)
    have C2 := hid (fun W => str_Count 120 l W)
    generalize l.count 47 = n1 at *
    generalize l.count 120 = n2 at *
    go_enter Tryz.func216, Tryz.ntmps216
    go_wp2
    rw [show ({ data := #[] } : ByteArray) = S [] from rfl]
    go_loopw [5, 6, 32] (fun z b i wr => ((i = .int .i64 0 ∧ z = .int .i64 l.length ∧ b = .bool false) ∨ (i = .int .i64 1 ∧ z = .int .i64 ((l.length : Int) - n1) ∧ b = .bool (decide (n1 ≠ 0))) ∨ (i = .int .i64 2 ∧ z = .int .i64 ((l.length : Int) - n1 - n2) ∧ b = .bool (decide (n1 + n2 ≠ 0)))) ∧ Hid (Below w.heap.size w wr)) (fun _ _ i _ => 2 - (intOf i).toNat)
    case atStart => exact ⟨.inl ⟨rfl, rfl, rfl⟩, Below.refl _ _⟩
    case round =>
      obtain ⟨hi, hb⟩ := hrel
      obtain ⟨tb', tc', y0, y1, y2⟩ := (HT.out.below hb.out).list
      have z0 := (hb.out.cell (p := ⟨q, 256, none⟩) qlt).trans x0
      have ez : (⟨tb', tc'⟩ : Nat × Nat) = (tb, tc) := by
        rw [y0] at z0
        simp at z0
        rw [z0.1, z0.2]
      simp only [Prod.mk.injEq] at ez
      obtain ⟨rfl, rfl⟩ := ez
      obtain ⟨A47, c47, g47, -, -⟩ := (HT.out.below hb.out).byte 47
      obtain ⟨A120, c120, g120, -, -⟩ := (HT.out.below hb.out).byte 120
      simp only [show (47 : UInt8).toNat = 47 from rfl] at g47
      simp only [show (120 : UInt8).toNat = 120 from rfl] at g120
      clear z0
      rcases hi with ⟨rfl, rfl, rfl⟩ | ⟨rfl, rfl, rfl⟩ | ⟨rfl, rfl, rfl⟩
      · rcases Nat.eq_zero_or_pos n1 with h0 | h0
        · have H0 := hid h0
          rw [h0] at C1
          clear h0
          go_wp2_with fail
          refine (C1.out _).mono ?_
          rintro e w' ⟨rfl, rfl⟩
          go_wp2
          go_roundw
          case rel => exact ⟨(.inr (.inl ⟨rfl, by rw [H0.out]; simp, by rw [H0.out]; rfl⟩)), hb⟩
          case measure => simp [intOf]
        · have t1 : ((n1 : Int) != 0) = true := by rw [bne_iff_ne]; omega
          have T2 := hid (show decide (n1 ≠ 0) = true from decide_eq_true (by omega))
          go_wp2_with fail
          refine (C1.out _).mono ?_
          rintro e w' ⟨rfl, rfl⟩
          go_wp2
          go_quiet (fail)
          go_wp2
          go_roundw
          case rel => exact ⟨(.inr (.inl ⟨rfl, by congr 1, by rw [T2.out]⟩)), by first | exact hid (below_drewN hb.out _) | exact hb⟩
          case measure => simp [intOf]
      · rcases Nat.eq_zero_or_pos n2 with h0 | h0
        · have H0 := hid h0
          rw [h0] at C2
          clear h0
          go_wp2_with fail
          refine (C2.out _).mono ?_
          rintro e w' ⟨rfl, rfl⟩
          go_wp2
          go_roundw
          case rel => exact ⟨(.inr (.inr ⟨rfl, by rw [H0.out]; simp, by rw [H0.out]; simp⟩)), hb⟩
          case measure => simp [intOf]
        · have t1 : ((n2 : Int) != 0) = true := by rw [bne_iff_ne]; omega
          have T2 := hid (show decide (n1 + n2 ≠ 0) = true from decide_eq_true (by omega))
          go_wp2_with fail
          refine (C2.out _).mono ?_
          rintro e w' ⟨rfl, rfl⟩
          go_wp2
          go_quiet (fail)
          go_wp2
          go_roundw
          case rel => exact ⟨(.inr (.inr ⟨rfl, by congr 1, by rw [T2.out]⟩)), by first | exact hid (below_drewN hb.out _) | exact hb⟩
          case measure => simp [intOf]
      · by_cases hgo : n1 + n2 = 0
        · have HK := hid (keepT_id (l := l) (by omega))
          have T2 := hid (show decide (n1 + n2 ≠ 0) = false by simp [hgo])
          rw [T2.out]
          clear hgo
          go_wp2
          go_ret
          exact ⟨by rw [HK.out]; rfl, hb.out⟩
        obtain ⟨n, hnn⟩ : ∃ n, n = (keepT l).length := ⟨_, rfl⟩
        have eZ : (l.length : Int) - n1 - n2 = (n : Int) := by omega
        have T2 := hid (show decide (n1 + n2 ≠ 0) = true from decide_eq_true hgo)
        rw [T2.out, eZ]
        have hnl : n ≤ 1000 := by omega
        clear eZ hgo C1 C2 hn y1 y2 x1 x2 g47 g120
        obtain ⟨i8, hi8, hz8, hsz8, hby8⟩ := info_u8
        obtain ⟨wm, hmk, hBm, hbm⟩ : ∃ wm, (Instr.makeSlice 81 (.int .i64 (n : Int)) (.int .i64 (n : Int))).run Tryz.prog wr = .ok (.slice (some ⟨wr.heap.size, 0, none⟩) n n) wm ∧ Blk wm wr.heap.size 5 (madeCells (Value.int .u8 0).cells n) ∧ Below wr.heap.size wr wm := by
          have hr := run_make (P := Tryz.prog) wr 81 5 i8 _ (by kernel_rfl) hi8 hz8 .i64 .i64 (n : Int) (n : Int) (by omega) (by omega) (by rw [hby8]; omega) (by omega)
          rw [hsz8] at hr
          simp only [Int.toNat_natCast, Nat.mul_one] at hr
          exact ⟨_, hr, Blk.new wr _ _, (Below.refl _ _).alloc (Nat.le_refl _) _⟩
        have HTw := hid (HT.out.below hb.out)
        have HPR := hid (show Blk wm wr.heap.size 5 (madeCells (Value.int .u8 0).cells n) ∧ Pre (madeCells (Value.int .u8 0).cells n) (keepT (l.take 0)) n from ⟨hBm, size_madeCells _ _, fun t ht => by simp [keepT] at ht⟩)
        have HBM := hid hbm
        have HN := hid hnn
        have HKM := hid (keepT_mono l)
        clear hBm hbm hnn hi8 hz8 hsz8 hby8
        go_wp2
        have qlw : q < wr.heap.size := Nat.lt_of_lt_of_le qlt hb.out.size
        obtain ⟨wo, rfl⟩ : ∃ wo : World, wo = wr := ⟨_, rfl⟩
        clear hmk
        go_loopw [13, 14] (fun jv iv wx => ∃ (k : Nat) (cs : Array Value), k ≤ l.length ∧ iv = .int .i64 k ∧ jv = .int .i64 (keepT (l.take k)).length ∧ Hid (Blk wx wo.heap.size 5 cs ∧ Pre cs (keepT (l.take k)) n) ∧ Hid (Below wo.heap.size wo wx)) (fun _ iv _ => l.length - (intOf iv).toNat)
        case atStart => exact ⟨0, _, by omega, rfl, rfl, HPR, HBM⟩
        case round =>
          obtain ⟨k, cs, hk, rfl, rfl, hpr, hbx⟩ := hrel
          obtain ⟨hB, hpre⟩ := hpr.out
          by_cases h : k < l.length
          · obtain ⟨A, c, g1, g2, g3⟩ := (HTw.out.below hbx.out).byte l[k]
            have hlb := l[k].toNat_lt
            have hlb0 : (0 : Int) ≤ (l[k].toNat : Int) := by omega
            have hlb2 : (l[k].toNat : Int) < 256 := by omega
            have hlb3 : (l[k].toNat : Int).toNat = l[k].toNat := Int.toNat_natCast _
            have hsn := keepT_snoc l h
            have hjn : (keepT (l.take (k + 1))).length ≤ n := by rw [HN.out]; exact HKM.out (k + 1)
            have hjn0 : (keepT (l.take k)).length ≤ n := by rw [HN.out]; exact HKM.out k
            cases hg : goesB l[k] with
            | true =>
              rw [hg] at g2 hsn
              simp only [if_true, List.append_nil] at hsn
              obtain ⟨a, rfl⟩ : ∃ a, A = some a := by
                cases A with
                | none => simp at g2
                | some a => exact ⟨a, rfl⟩
              have HR := hid (show Blk wr wo.heap.size 5 cs ∧ Pre cs (keepT (l.take (k + 1))) n by rw [hsn]; exact ⟨hB, hpre⟩)
              have HS := hid (show (keepT (l.take (k + 1))).length = (keepT (l.take k)).length by rw [hsn])
              clear hsn hjn g2 g3 hpre hB hpr hg
              have HX := hid (show ∀ j : Nat, j = (keepT (l.take k)).length → j = (keepT (l.take (k + 1))).length from fun j hj => by rw [HS.out, hj])
              generalize (keepT (l.take k)).length = j at *
              have hj1 : (0 : Int) ≤ j := by omega
              have hj2 : (j : Int) ≤ n := by omega
              by_cases hjn' : j = n
              · subst hjn'
                go_wp2
                go_region_held3 (fun w' => w'.cell? ⟨q, l[k].toNat, none⟩ = some (.slice (some a) 0 c)) (simp [*, go_sem, World.cell?_alloc_past]) (first | (refine step_copy_none rfl _ _ (by rfl) _ _ _ _ _ (by rfl) (by rfl) ?_))
                rw [show IntKind.i64.wrap (j : Int) = (j : Int) by rw [IntKind.wrap_i64]; omega]
                go_wp2
                go_roundw
                case rel => exact ⟨k + 1, cs, by omega, by go_num, by rw [HS.out], hid ⟨HR.out.1.drew, HR.out.2⟩, hid (below_drewN hbx.out 1)⟩
                case measure => simp [intOf]; omega
              · have hj3 : j < n := by omega
                go_wp2
                go_region_held3 (fun w' => w'.cell? ⟨q, l[k].toNat, none⟩ = some (.slice (some a) 0 c)) (simp [*, go_sem, World.cell?_alloc_past]) (first | (refine step_copy_none rfl _ _ (by rfl) _ _ _ _ _ (by rfl) (by rfl) ?_))
                rw [show IntKind.i64.wrap (j : Int) = (j : Int) by rw [IntKind.wrap_i64]; omega]
                go_wp2
                go_roundw
                case rel => exact ⟨k + 1, cs, by omega, by go_num, by rw [HS.out], hid ⟨HR.out.1.drew, HR.out.2⟩, hid (below_drewN hbx.out 1)⟩
                case measure => simp [intOf]; omega
            | false =>
              rw [hg] at g2 hsn
              simp only [Bool.false_eq_true, if_false] at hsn
              obtain rfl : A = none := by
                cases A with
                | none => rfl
                | some a => simp at g2
              obtain rfl := g3 rfl
              have hlen : (keepT (l.take (k + 1))).length = (keepT (l.take k)).length + 1 := by rw [hsn]; simp
              have hj3 : (keepT (l.take k)).length < n := by omega
              have HR := hid (show Blk (wr.setCell ⟨wo.heap.size, (keepT (l.take k)).length, none⟩ (.int .u8 l[k].toNat)) wo.heap.size 5 (cs.setIfInBounds (keepT (l.take k)).length (B8 l[k])) ∧ Pre (cs.setIfInBounds (keepT (l.take k)).length (B8 l[k])) (keepT (l.take (k + 1))) n by rw [hsn]; exact ⟨hB.set_ _ _, hpre.snoc _ hj3⟩)
              have HS := hid hlen
              have HBX := hid (hbx.out.setCell (p := ⟨wo.heap.size, (keepT (l.take k)).length, none⟩) (Nat.le_refl _) (.int .u8 l[k].toNat))
              obtain ⟨v0, hv0⟩ : ∃ v, wr.cell? ⟨wo.heap.size, (keepT (l.take k)).length, none⟩ = some v := ⟨_, by rw [hB.cell]; exact Array.getElem?_eq_getElem (by rw [hpre.1]; exact hj3)⟩
              have hf0 := hB.frozen (keepT (l.take k)).length
              clear hsn hjn g2 g3 hpre hB hpr hg hlen
              generalize (keepT (l.take k)).length = j at *
              have hj1 : (0 : Int) ≤ j := by omega
              have hj2 : (j : Int) < n := by omega
              go_wp2
              go_roundw
              case rel => exact ⟨k + 1, _, by omega, by go_num, by rw [HS.out]; go_num, HR, HBX⟩
              case measure => simp [intOf]; omega
          · have hk' : k = l.length := by omega
            subst hk'
            have hst := run_string_of (P := Tryz.prog) wr 81 5 (by kernel_rfl) (by kernel_rfl) wo.heap.size 0 n n (keepT l) HN.out.symm (fun t ht => by
              rw [Nat.zero_add, hB.cell]
              rw [List.take_length] at hpre
              exact hpre.2 t ht) 9 (by kernel_rfl)
            have HF := hid (show Below wo.heap.size wo wr from hbx.out)
            have HG := hid hb.out
            clear hpr hB hpre hbx
            go_wp2
            go_ret
            exact ⟨rfl, bt hb.out HF.out⟩
  · have h16' : (l.length : Int) < 16 := by omega
    go_enter Tryz.func216, Tryz.ntmps216
    go_wp2
    rw [show ({ data := #[] } : ByteArray) = S [] from rfl]
    go_loopw [5, 6, 10] (fun z b iv wr => ∃ k : Nat, k ≤ l.length ∧ iv = .int .i64 k ∧ z = .int .i64 ((l.length : Int) - k + (keepT (l.take k)).length) ∧ b = .bool (decide ((keepT (l.take k)).length ≠ k)) ∧ Hid (Below w.heap.size w wr)) (fun _ _ iv _ => l.length - (intOf iv).toNat)
    case atStart => exact ⟨0, by omega, rfl, by simp [keepT], by simp [keepT], Below.refl _ _⟩
    case round =>
      obtain ⟨k, hk, rfl, rfl, rfl, hb⟩ := hrel
      by_cases h : k < l.length
      · obtain ⟨A, c, g1, g2, g3⟩ := (HT.out.below hb.out).byte l[k]
        have hlb := l[k].toNat_lt
        have hlb0 : (0 : Int) ≤ (l[k].toNat : Int) := by omega
        have hlb2 : (l[k].toNat : Int) < 256 := by omega
        have hlb3 : (l[k].toNat : Int).toNat = l[k].toNat := Int.toNat_natCast _
        have hsn := keepT_snoc l h
        have hkk : (keepT (l.take k)).length ≤ k := by
          have := keepT_len (l.take k)
          simp at this
          omega
        cases hg : goesB l[k] with
        | true =>
          rw [hg] at g2 hsn
          simp only [if_true, List.append_nil] at hsn
          obtain ⟨a, rfl⟩ : ∃ a, A = some a := by
            cases A with
            | none => simp at g2
            | some a => exact ⟨a, rfl⟩
          have HS := hid (show (keepT (l.take (k + 1))).length = (keepT (l.take k)).length by rw [hsn])
          have HD := hid (show decide ((keepT (l.take (k + 1))).length ≠ k + 1) = true by rw [hsn]; exact decide_eq_true (by omega))
          clear hsn g2 g3 hg
          generalize (keepT (l.take k)).length = j at *
          go_wp2
          go_roundw
          case rel => exact ⟨k + 1, by omega, by go_num, by rw [HS.out]; congr 1; omega, by rw [HD.out], hb⟩
          case measure => simp [intOf]; omega
        | false =>
          rw [hg] at g2 hsn
          simp only [Bool.false_eq_true, if_false] at hsn
          obtain rfl : A = none := by
            cases A with
            | none => rfl
            | some a => simp at g2
          obtain rfl := g3 rfl
          have hlen : (keepT (l.take (k + 1))).length = (keepT (l.take k)).length + 1 := by rw [hsn]; simp
          have HS := hid hlen
          have HD := hid (show decide ((keepT (l.take (k + 1))).length ≠ k + 1) = decide ((keepT (l.take k)).length ≠ k) by rw [hlen, Bool.eq_iff_iff, decide_eq_true_eq, decide_eq_true_eq]; omega)
          clear hsn hlen g2 g3 hg
          generalize (keepT (l.take k)).length = j at *
          go_wp2
          go_roundw
          case rel => exact ⟨k + 1, by omega, by go_num, by rw [HS.out]; congr 1; omega, by rw [HD.out], hb⟩
          case measure => simp [intOf]; omega
      · have hk' : k = l.length := by omega
        subst hk'
        rw [List.take_length]
        by_cases hgo : (keepT l).length = l.length
        · have HK := hid (keepT_id hgo)
          have T2 := hid (show decide ((keepT l).length ≠ l.length) = false by simp [hgo])
          rw [T2.out]
          clear hgo
          go_wp2
          go_ret
          exact ⟨by rw [HK.out]; rfl, hb.out⟩
        obtain ⟨n, hnn⟩ : ∃ n, n = (keepT l).length := ⟨_, rfl⟩
        have eZ : (l.length : Int) - l.length + (keepT l).length = (n : Int) := by omega
        have T2 := hid (show decide ((keepT l).length ≠ l.length) = true from decide_eq_true hgo)
        rw [T2.out, eZ]
        have hnl : n ≤ 1000 := by omega
        clear eZ hgo hn x1 x2
        obtain ⟨i8, hi8, hz8, hsz8, hby8⟩ := info_u8
        obtain ⟨wm, hmk, hBm, hbm⟩ : ∃ wm, (Instr.makeSlice 81 (.int .i64 (n : Int)) (.int .i64 (n : Int))).run Tryz.prog wr = .ok (.slice (some ⟨wr.heap.size, 0, none⟩) n n) wm ∧ Blk wm wr.heap.size 5 (madeCells (Value.int .u8 0).cells n) ∧ Below wr.heap.size wr wm := by
          have hr := run_make (P := Tryz.prog) wr 81 5 i8 _ (by kernel_rfl) hi8 hz8 .i64 .i64 (n : Int) (n : Int) (by omega) (by omega) (by rw [hby8]; omega) (by omega)
          rw [hsz8] at hr
          simp only [Int.toNat_natCast, Nat.mul_one] at hr
          exact ⟨_, hr, Blk.new wr _ _, (Below.refl _ _).alloc (Nat.le_refl _) _⟩
        have HTw := hid (HT.out.below hb.out)
        have HPR := hid (show Blk wm wr.heap.size 5 (madeCells (Value.int .u8 0).cells n) ∧ Pre (madeCells (Value.int .u8 0).cells n) (keepT (l.take 0)) n from ⟨hBm, size_madeCells _ _, fun t ht => by simp [keepT] at ht⟩)
        have HBM := hid hbm
        have HN := hid hnn
        have HKM := hid (keepT_mono l)
        clear hBm hbm hnn hi8 hz8 hsz8 hby8
        go_wp2
        have qlw : q < wr.heap.size := Nat.lt_of_lt_of_le qlt hb.out.size
        obtain ⟨wo, rfl⟩ : ∃ wo : World, wo = wr := ⟨_, rfl⟩
        clear hmk
        go_loopw [13, 14] (fun jv iv wx => ∃ (k : Nat) (cs : Array Value), k ≤ l.length ∧ iv = .int .i64 k ∧ jv = .int .i64 (keepT (l.take k)).length ∧ Hid (Blk wx wo.heap.size 5 cs ∧ Pre cs (keepT (l.take k)) n) ∧ Hid (Below wo.heap.size wo wx)) (fun _ iv _ => l.length - (intOf iv).toNat)
        case atStart => exact ⟨0, _, by omega, rfl, rfl, HPR, HBM⟩
        case round =>
          obtain ⟨k, cs, hk, rfl, rfl, hpr, hbx⟩ := hrel
          obtain ⟨hB, hpre⟩ := hpr.out
          by_cases h : k < l.length
          · obtain ⟨A, c, g1, g2, g3⟩ := (HTw.out.below hbx.out).byte l[k]
            have hlb := l[k].toNat_lt
            have hlb0 : (0 : Int) ≤ (l[k].toNat : Int) := by omega
            have hlb2 : (l[k].toNat : Int) < 256 := by omega
            have hlb3 : (l[k].toNat : Int).toNat = l[k].toNat := Int.toNat_natCast _
            have hsn := keepT_snoc l h
            have hjn : (keepT (l.take (k + 1))).length ≤ n := by rw [HN.out]; exact HKM.out (k + 1)
            have hjn0 : (keepT (l.take k)).length ≤ n := by rw [HN.out]; exact HKM.out k
            cases hg : goesB l[k] with
            | true =>
              rw [hg] at g2 hsn
              simp only [if_true, List.append_nil] at hsn
              obtain ⟨a, rfl⟩ : ∃ a, A = some a := by
                cases A with
                | none => simp at g2
                | some a => exact ⟨a, rfl⟩
              have HR := hid (show Blk wr wo.heap.size 5 cs ∧ Pre cs (keepT (l.take (k + 1))) n by rw [hsn]; exact ⟨hB, hpre⟩)
              have HS := hid (show (keepT (l.take (k + 1))).length = (keepT (l.take k)).length by rw [hsn])
              clear hsn hjn g2 g3 hpre hB hpr hg
              have HX := hid (show ∀ j : Nat, j = (keepT (l.take k)).length → j = (keepT (l.take (k + 1))).length from fun j hj => by rw [HS.out, hj])
              generalize (keepT (l.take k)).length = j at *
              have hj1 : (0 : Int) ≤ j := by omega
              have hj2 : (j : Int) ≤ n := by omega
              by_cases hjn' : j = n
              · subst hjn'
                go_wp2
                go_region_held3 (fun w' => w'.cell? ⟨q, l[k].toNat, none⟩ = some (.slice (some a) 0 c)) (simp [*, go_sem, World.cell?_alloc_past]) (first | (refine step_copy_none rfl _ _ (by rfl) _ _ _ _ _ (by rfl) (by rfl) ?_))
                rw [show IntKind.i64.wrap (j : Int) = (j : Int) by rw [IntKind.wrap_i64]; omega]
                go_wp2
                go_roundw
                case rel => exact ⟨k + 1, cs, by omega, by go_num, by rw [HS.out], hid ⟨HR.out.1.drew, HR.out.2⟩, hid (below_drewN hbx.out 1)⟩
                case measure => simp [intOf]; omega
              · have hj3 : j < n := by omega
                go_wp2
                go_region_held3 (fun w' => w'.cell? ⟨q, l[k].toNat, none⟩ = some (.slice (some a) 0 c)) (simp [*, go_sem, World.cell?_alloc_past]) (first | (refine step_copy_none rfl _ _ (by rfl) _ _ _ _ _ (by rfl) (by rfl) ?_))
                rw [show IntKind.i64.wrap (j : Int) = (j : Int) by rw [IntKind.wrap_i64]; omega]
                go_wp2
                go_roundw
                case rel => exact ⟨k + 1, cs, by omega, by go_num, by rw [HS.out], hid ⟨HR.out.1.drew, HR.out.2⟩, hid (below_drewN hbx.out 1)⟩
                case measure => simp [intOf]; omega
            | false =>
              rw [hg] at g2 hsn
              simp only [Bool.false_eq_true, if_false] at hsn
              obtain rfl : A = none := by
                cases A with
                | none => rfl
                | some a => simp at g2
              obtain rfl := g3 rfl
              have hlen : (keepT (l.take (k + 1))).length = (keepT (l.take k)).length + 1 := by rw [hsn]; simp
              have hj3 : (keepT (l.take k)).length < n := by omega
              have HR := hid (show Blk (wr.setCell ⟨wo.heap.size, (keepT (l.take k)).length, none⟩ (.int .u8 l[k].toNat)) wo.heap.size 5 (cs.setIfInBounds (keepT (l.take k)).length (B8 l[k])) ∧ Pre (cs.setIfInBounds (keepT (l.take k)).length (B8 l[k])) (keepT (l.take (k + 1))) n by rw [hsn]; exact ⟨hB.set_ _ _, hpre.snoc _ hj3⟩)
              have HS := hid hlen
              have HBX := hid (hbx.out.setCell (p := ⟨wo.heap.size, (keepT (l.take k)).length, none⟩) (Nat.le_refl _) (.int .u8 l[k].toNat))
              obtain ⟨v0, hv0⟩ : ∃ v, wr.cell? ⟨wo.heap.size, (keepT (l.take k)).length, none⟩ = some v := ⟨_, by rw [hB.cell]; exact Array.getElem?_eq_getElem (by rw [hpre.1]; exact hj3)⟩
              have hf0 := hB.frozen (keepT (l.take k)).length
              clear hsn hjn g2 g3 hpre hB hpr hg hlen
              generalize (keepT (l.take k)).length = j at *
              have hj1 : (0 : Int) ≤ j := by omega
              have hj2 : (j : Int) < n := by omega
              go_wp2
              go_roundw
              case rel => exact ⟨k + 1, _, by omega, by go_num, by rw [HS.out]; go_num, HR, HBX⟩
              case measure => simp [intOf]; omega
          · have hk' : k = l.length := by omega
            subst hk'
            have hst := run_string_of (P := Tryz.prog) wr 81 5 (by kernel_rfl) (by kernel_rfl) wo.heap.size 0 n n (keepT l) HN.out.symm (fun t ht => by
              rw [Nat.zero_add, hB.cell]
              rw [List.take_length] at hpre
              exact hpre.2 t ht) 9 (by kernel_rfl)
            have HF := hid (show Below wo.heap.size wo wr from hbx.out)
            have HG := hid hb.out
            clear hpr hB hpre hbx
            go_wp2
            go_ret
            exact ⟨rfl, bt hb.out HF.out⟩
end Go.Proofs.YtecekflooihkoaaGreatDoor
