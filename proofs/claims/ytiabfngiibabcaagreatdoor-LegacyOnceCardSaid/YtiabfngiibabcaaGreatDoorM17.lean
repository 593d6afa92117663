/- Walks of package digest: tail, New. Walk of digest.New. -/
import Derived.Test.YtiabfngiibabcaaGreatDoorM16
import Derived.Test.YtiabfngiibabcaaGreatDoorM15
import Derived.Test.YtiabfngiibabcaaGreatDoorM14
import Derived.Test.YtiabfngiibabcaaGreatDoorM11
set_option linter.unusedVariables false
set_option linter.unusedSimpArgs false
set_option maxHeartbeats 6400000
set_option maxRecDepth 100000
namespace Go.Proofs.YtiabfngiibabcaaGreatDoor
open Go Go.RowKit

theorem wpList_append_runU {P : Program} {w : World} {ops : Array Oper} {rest : List Oper} {o : Oper} {a : Act} {Q : Exit → Act → World → Prop} (hgd : o.guard = none) (s x : Operand) (t u : TypeId)
    (ho : o.op = .call { callee := .builtin .append, args := #[s, x], argTypes := #[t, u] }) (v1 v2 v' : Value) (w' : World) (hs : a.eval s = v1) (hx : a.eval x = v2)
    (hrun : (Builtin.append_ #[t, u] o.type #[v1, v2]).run P w = .ok v' w') (h : wpList P ops Q rest (a.put o.dst v') w') : wpList P ops Q (o :: rest) a w := by
  exact wpList_plain hgd fun K hK => by
    unfold Oper.wp execOp
    simp only [ho, resolve, invoke, builtin, Sem.run_bind, Sem.run_pure, Result.andThen_ok, List.map_toArray, List.map_cons, List.map_nil, hs, hx, hrun]
    exact hK _ _ h
theorem row_addr' {w : World} {base n c : Nat} {e : TypeId} {size : Nat} {A : Option Addr} {xs : List Value} (h : w.ownsRow base e size (.slice A n c) n xs) : n ≤ c ∧ (c : Int) ≤ 9223372036854775807 ∧ ((A = none ∧ n = 0) ∨ ∃ b, base ≤ b ∧ A = some ⟨b, 0, none⟩) := by
  rcases h.2 with ⟨h1, h2⟩ | ⟨g, cap, cur, hv, hb, hh, r1, r2, r⟩
  · simp only [Value.slice.injEq] at h1
    obtain ⟨rfl, rfl, rfl⟩ := h1
    exact ⟨by omega, by omega, .inl ⟨rfl, rfl⟩⟩
  · simp only [Value.slice.injEq] at hv
    obtain ⟨rfl, -, rfl⟩ := hv
    exact ⟨r1, by unfold maxLen at r2; omega, .inr ⟨g, hb, rfl⟩⟩
theorem append_none (A : Option Addr) (n c : Nat) (hn : n ≤ c) (W : World) : (Builtin.append_ #[85, 3] 85 #[.slice A n c, .int .i64 0]).run Tryz.prog W = .ok (.slice A n c) W := by
  have hw : IntKind.i64.wrap 0 = 0 := by decide
  cases A <;> simp [Builtin.append_, go_sem, hw, hn]
theorem digest_tail (w : World) (A : Option Addr) (c many : Nat) (l : List UInt8) (hB : BytesAt w A l) (hA : A = none ∨ ∃ b o, A = some ⟨b, o, none⟩) (h0 : A = none → l = []) (hl : l.length ≤ 1000) (hm : many ≤ 1000000000) :
    Calls Tryz.prog 218 #[.slice A l.length c, .int .i64 many, .int .i64 64] w fun e w' => ∃ A' c', e = .returned (.slice A' (tailP l many).length c') ∧ w'.ownsRow w.heap.size 5 1 (.slice A' (tailP l many).length c') (tailP l many).length ((tailP l many).map B8) ∧ Below w.heap.size w w' := by
  have CL := hid (lg_CloneB l c hB hA (by omega) h0)
  clear hB hA h0
  have HT := hid (show tailP l many = (l ++ [128]) ++ List.replicate (padZ l.length) 0 ++ hiB (many * 8) 8 from rfl)
  generalize tailP l many = tp at *
  go_enter Tryz.func218, Tryz.ntmps218
  go_wp2_with fail
  refine CL.out.mono ?_
  rintro e w1 ⟨A1, c1, rfl, hr1, hb1⟩
  obtain ⟨A2, c2, w2, hrun, hr2, hb2⟩ := append_byte w1 128 hr1 (by omega) hb1.size
  have HR2 := hid hr2
  have HB2 := hid (hb1.trans hb2)
  clear hr1 hr2 hb2 hb1
  go_wp2_with (first | (at_builtin; refine wpList_append_run rfl _ _ _ (by rfl) _ _ _ _ (by rfl) (by rfl) hrun ?_))
  go_loopw [7] (fun o wr => ∃ (k : Nat) (A' : Option Addr) (c' : Nat) (os : List UInt8), k ≤ padZ l.length ∧ o = .slice A' os.length c' ∧ os.length = l.length + 1 + k ∧ os.length ≤ l.length + 64 ∧ Hid (os = (l ++ [128]) ++ List.replicate k 0) ∧ Hid (wr.ownsRow w.heap.size 5 1 (.slice A' os.length c') os.length (os.map B8)) ∧ Hid (Below w.heap.size w wr)) (fun o _ => l.length + 65 - sliceLen o)
  case atStart => exact ⟨0, A2, c2, l ++ [128], by omega, by simp, by simp, by simp, by simp [Hid], HR2, HB2⟩
  case round =>
    obtain ⟨k, A', c', os, hk, rfl, hol, hol2, ho, hr, hb⟩ := hrel
    have hz := show padZ l.length = (119 - l.length % 64) % 64 from rfl
    by_cases h : k < padZ l.length
    · have hmod : ((os.length : Int) % 64 != 56) = true := by
        rw [bne_iff_ne]; omega
      obtain ⟨A3, c3, w3, hrun3, hr3, hb3⟩ := append_byte wr 0 hr.out (by omega) hb.out.size
      have HR3 := hid hr3
      have HB3 := hid (hb.out.trans hb3)
      have HO := hid (show os ++ [0] = (l ++ [128]) ++ List.replicate (k + 1) 0 by rw [ho.out, List.replicate_succ']; simp)
      have HZ := hid (show os.length + 1 ≤ l.length + 64 by omega)
      clear hr3 hb3 hz hr hb
      go_wp2_with (first | (at_builtin; refine wpList_append_run rfl _ _ _ (by rfl) _ _ _ _ (by rfl) (by rfl) hrun3 ?_))
      go_roundw
      case rel => exact ⟨k + 1, A3, c3, os ++ [0], by omega, by simp [hol], by simp; omega, by simp; have := HZ.out; omega, HO, HR3, HB3⟩
      case measure => simp [sliceLen]; omega
    · have hk' : k = padZ l.length := by omega
      have hmod : ((os.length : Int) % 64 != 56) = false := by
        rw [bne_eq_false_iff_eq]; omega
      clear hz
      have h0 := append_none A' os.length c' (row_addr' hr.out).1
      have HO := hid (show tp = os ++ hiB (many * 8) 8 by rw [HT.out, ho.out, hk'])
      have hle : os.length ≤ 2000 := by omega
      clear ho hol hol2
      go_wp2_with (first | (at_builtin; refine wpList_append_runU rfl _ _ _ _ (by rfl) _ _ _ _ (by rfl) (by rfl) (h0 _) ?_))
      have HR := hid hr.out
      have HB := hid hb.out
      clear hr hb h0
      go_loopw [7, 8] (fun o i wr => ∃ (j : Nat) (A' : Option Addr) (c' : Nat) (o2 : List UInt8), j ≤ 8 ∧ i = .int .i64 (56 - 8 * (j : Int)) ∧ o = .slice A' o2.length c' ∧ o2.length = os.length + j ∧ Hid (o2 = os ++ (hiB (many * 8) 8).take j) ∧ Hid (wr.ownsRow w.heap.size 5 1 (.slice A' o2.length c') o2.length (o2.map B8)) ∧ Hid (Below w.heap.size w wr)) (fun _ i _ => (intOf i + 8).toNat)
      case atStart => exact ⟨0, A', c', os, by omega, rfl, rfl, by omega, by simp [Hid], HR, HB⟩
      case round =>
        obtain ⟨j, A4, c4, o2, hj, rfl, rfl, hol, ho, hr, hb⟩ := hrel
        by_cases hlt : j < 8
        · have z8 : ((56 : Int) - 8 * (j : Int)).toNat = 56 - 8 * j := by omega
          obtain ⟨A5, c5, w5, hrun5, hr5, hb5⟩ := append_byte wr (UInt8.ofNat (many * 8 / 2 ^ (8 * (8 - 1 - j)))) hr.out (by omega) hb.out.size
          have e5 : ((UInt8.ofNat (many * 8 / 2 ^ (8 * (8 - 1 - j)))).toNat : Int) = (many : Int) * 8 / 2 ^ (56 - 8 * j) % 256 := by
            rw [show 8 * (8 - 1 - j) = 56 - 8 * j by omega]; simp
          rw [e5] at hrun5
          have HO := hid (show o2 ++ [UInt8.ofNat (many * 8 / 2 ^ (8 * (8 - 1 - j)))] = os ++ (hiB (many * 8) 8).take (j + 1) by rw [ho.out, hiB_snoc _ _ _ hlt, List.append_assoc])
          have HR5 := hid hr5
          have HB5 := hid (hb.out.trans hb5)
          have hge : (0 : Int) ≤ 56 - 8 * (j : Int) := by omega
          have hmw : IntKind.u64.wrap (many : Int) = many := by rw [IntKind.wrap_u64]; omega
          have hm8 : (many : Int) * 8 % 18446744073709551616 = many * 8 := by omega
          generalize UInt8.ofNat (many * 8 / 2 ^ (8 * (8 - 1 - j))) = y at *
          clear e5 hr5 hb5 hr hb
          go_wp2_with (first | (at_builtin; refine wpList_append_run rfl _ _ _ (by rfl) _ _ _ _ (by rfl) (by rfl) hrun5 ?_))
          go_roundw
          case rel => exact ⟨j + 1, A5, c5, o2 ++ [y], by omega, by push_cast; congr 1; omega, by simp [hol], by simp [hol]; omega, HO, HR5, HB5⟩
          case measure => simp [intOf]; omega
        · have hj8 : j = 8 := by omega
          subst hj8
          have HE := hid (show o2 = tp by rw [HO.out, ho.out, List.take_of_length_le (Nat.le_of_eq (hiB_len _ _))])
          go_wp2
          go_ret
          rw [← HE.out]
          exact ⟨A4, c4, rfl, hr.out, hb.out⟩
end Go.Proofs.YtiabfngiibabcaaGreatDoor

set_option linter.unusedVariables false
set_option linter.unusedSimpArgs false
set_option maxHeartbeats 6400000
set_option maxRecDepth 100000
namespace Go.Proofs.YtiabfngiibabcaaGreatDoor
open Go Go.RowKit

def hCells (s : St8) (rest : Value) (many : Int) : Array Value := #[.int .u32 s.a, .int .u32 s.b, .int .u32 s.c, .int .u32 s.d, .int .u32 s.e, .int .u32 s.f, .int .u32 s.g, .int .u32 s.h, rest, .int .i64 many]
def beginA : Array Value := #[.int .u64 7640891576956012808, .int .u64 13503953896175478587, .int .u64 4354685564936845355, .int .u64 11912009170470909681, .int .u64 5840696475078001361, .int .u64 11170449401992604703, .int .u64 2270897969802886507, .int .u64 6620516959819538809]
def initS (k : Nat) : St8 :=
  let f := fun i => if i < k then beginTab.getD i 0 / 4294967296 % 4294967296 else 0
  ⟨f 0, f 1, f 2, f 3, f 4, f 5, f 6, f 7⟩
theorem initS_8 : initS 8 = beginP := rfl
theorem digest_New (w : World) (hL : Lib.TabIs Tryz.prog w "pantile/digest.begins" .u64 beginTab) :
    Calls Tryz.prog 173 #[] w fun e w' => e = .returned (.pointer (some ⟨w.heap.size, 0, none⟩)) ∧ Blk w' w.heap.size 258 (hCells beginP (.slice none 0 0) 0) ∧ Below w.heap.size w w' := by
  have g : ∀ i, i < 8 → w.cell? ⟨3, i, none⟩ = some (.int .u64 (beginTab.getD i 0)) := fun i hi => Lib.TabIs.cell hL (g := 3) (by kernel_rfl) i (by rw [beginTab_len]; exact hi)
  have hlt := World.block_lt_of_cell? w _ (g 0 (by decide))
  have hlt' : 3 < w.heap.size := hlt
  have b0 : Below w.heap.size w (w.alloc (.cells (hCells (initS 0) (.slice none 0 0) 0) 258)) := (Below.refl _ _).alloc (Nat.le_refl _) _
  have g' : ∀ i, i < 8 → (w.alloc (.cells (hCells (initS 0) (.slice none 0 0) 0) 258)).cell? ⟨3, i, none⟩ = some (.int .u64 (beginTab.getD i 0)) := fun i hi => (b0.cell (p := ⟨3, i, none⟩) hlt').trans (g i hi)
  have g0 := g' 0 (by decide)
  have g1 := g' 1 (by decide)
  have g2 := g' 2 (by decide)
  have g3 := g' 3 (by decide)
  have g4 := g' 4 (by decide)
  have g5 := g' 5 (by decide)
  have g6 := g' 6 (by decide)
  have g7 := g' 7 (by decide)
  have HB0 := hid (And.intro (Blk.new w 258 (hCells (initS 0) (.slice none 0 0) 0)) b0)
  clear g g' hL b0 hlt
  simp only [beginTab, List.getD_cons_zero, List.getD_cons_succ] at g0 g1 g2 g3 g4 g5 g6 g7
  simp only [hCells, initS, Nat.not_lt_zero, if_false] at g0 g1 g2 g3 g4 g5 g6 g7 HB0
  go_enter Tryz.func173, Tryz.ntmps173
  go_wp2
  go_loopw [2, 3, 7] (fun _ _ i wr => ∃ k : Nat, k ≤ 8 ∧ i = .int .i64 k ∧ Hid (Blk wr w.heap.size 258 (hCells (initS k) (.slice none 0 0) 0) ∧ Below w.heap.size w wr)) (fun _ _ i _ => 8 - (intOf i).toNat)
  case atStart => exact ⟨0, by omega, rfl, HB0⟩
  case round =>
    obtain ⟨k, hk, rfl, hb⟩ := hrel
    have cs := fun i => hb.out.1.cell i
    have fs := fun i => hb.out.1.frozen i
    have hcase : k = 0 ∨ k = 1 ∨ k = 2 ∨ k = 3 ∨ k = 4 ∨ k = 5 ∨ k = 6 ∨ k = 7 ∨ k = 8 := by omega
    have key : ∀ j, j < 8 → j = k → ∀ v, (hCells (initS k) (.slice none 0 0) 0).setIfInBounds j (.int .u32 v) = hCells (initS (k + 1)) (.slice none 0 0) 0 → Hid (Blk (wr.setCell ⟨w.heap.size, j, none⟩ (.int .u32 v)) w.heap.size 258 (hCells (initS (k + 1)) (.slice none 0 0) 0) ∧ Below w.heap.size w (wr.setCell ⟨w.heap.size, j, none⟩ (.int .u32 v))) := fun j hj he v hv => ⟨hv ▸ hb.out.1.set_ j _, hb.out.2.setCell (p := ⟨w.heap.size, j, none⟩) (Nat.le_refl _) _⟩
    have KEY := hid key
    clear key
    rcases hcase with rfl | rfl | rfl | rfl | rfl | rfl | rfl | rfl | rfl
    case inr.inr.inr.inr.inr.inr.inr.inr =>
      go_wp2
      go_ret
      exact ⟨rfl, hb.out.1, hb.out.2⟩
    case inl =>
      have c0 := cs 0
      have f0 := fs 0
      simp [hCells, initS] at c0
      clear cs fs
      have hix : ∀ W, (Instr.index 259 (.agg beginA) (.int .i64 0)).run Tryz.prog W = .ok (.int .u64 7640891576956012808) W := fun W => by kernel_rfl
      unfold beginA at hix
      go_wp2
      go_roundw
      case rel => exact ⟨1, by omega, rfl, KEY.out 0 (by decide) rfl _ rfl⟩
      case measure => simp [intOf]
    case inr.inl =>
      have c0 := cs 1
      have f0 := fs 1
      simp [hCells, initS] at c0
      clear cs fs
      have hix : ∀ W, (Instr.index 259 (.agg beginA) (.int .i64 1)).run Tryz.prog W = .ok (.int .u64 13503953896175478587) W := fun W => by kernel_rfl
      unfold beginA at hix
      go_wp2
      go_roundw
      case rel => exact ⟨2, by omega, rfl, KEY.out 1 (by decide) rfl _ rfl⟩
      case measure => simp [intOf]
    case inr.inr.inl =>
      have c0 := cs 2
      have f0 := fs 2
      simp [hCells, initS] at c0
      clear cs fs
      have hix : ∀ W, (Instr.index 259 (.agg beginA) (.int .i64 2)).run Tryz.prog W = .ok (.int .u64 4354685564936845355) W := fun W => by kernel_rfl
      unfold beginA at hix
      go_wp2
      go_roundw
      case rel => exact ⟨3, by omega, rfl, KEY.out 2 (by decide) rfl _ rfl⟩
      case measure => simp [intOf]
    case inr.inr.inr.inl =>
      have c0 := cs 3
      have f0 := fs 3
      simp [hCells, initS] at c0
      clear cs fs
      have hix : ∀ W, (Instr.index 259 (.agg beginA) (.int .i64 3)).run Tryz.prog W = .ok (.int .u64 11912009170470909681) W := fun W => by kernel_rfl
      unfold beginA at hix
      go_wp2
      go_roundw
      case rel => exact ⟨4, by omega, rfl, KEY.out 3 (by decide) rfl _ rfl⟩
      case measure => simp [intOf]
    case inr.inr.inr.inr.inl =>
      have c0 := cs 4
      have f0 := fs 4
      simp [hCells, initS] at c0
      clear cs fs
      have hix : ∀ W, (Instr.index 259 (.agg beginA) (.int .i64 4)).run Tryz.prog W = .ok (.int .u64 5840696475078001361) W := fun W => by kernel_rfl
      unfold beginA at hix
      go_wp2
      go_roundw
      case rel => exact ⟨5, by omega, rfl, KEY.out 4 (by decide) rfl _ rfl⟩
      case measure => simp [intOf]
    case inr.inr.inr.inr.inr.inl =>
      have c0 := cs 5
      have f0 := fs 5
      simp [hCells, initS] at c0
      clear cs fs
      have hix : ∀ W, (Instr.index 259 (.agg beginA) (.int .i64 5)).run Tryz.prog W = .ok (.int .u64 11170449401992604703) W := fun W => by kernel_rfl
      unfold beginA at hix
      go_wp2
      go_roundw
      case rel => exact ⟨6, by omega, rfl, KEY.out 5 (by decide) rfl _ rfl⟩
      case measure => simp [intOf]
    case inr.inr.inr.inr.inr.inr.inl =>
      have c0 := cs 6
      have f0 := fs 6
      simp [hCells, initS] at c0
      clear cs fs
      have hix : ∀ W, (Instr.index 259 (.agg beginA) (.int .i64 6)).run Tryz.prog W = .ok (.int .u64 2270897969802886507) W := fun W => by kernel_rfl
      unfold beginA at hix
      go_wp2
      go_roundw
      case rel => exact ⟨7, by omega, rfl, KEY.out 6 (by decide) rfl _ rfl⟩
      case measure => simp [intOf]
    case inr.inr.inr.inr.inr.inr.inr.inl =>
      have c0 := cs 7
      have f0 := fs 7
      simp [hCells, initS] at c0
      clear cs fs
      have hix : ∀ W, (Instr.index 259 (.agg beginA) (.int .i64 7)).run Tryz.prog W = .ok (.int .u64 6620516959819538809) W := fun W => by kernel_rfl
      unfold beginA at hix
      go_wp2
      go_roundw
      case rel => exact ⟨8, by omega, rfl, KEY.out 7 (by decide) rfl _ rfl⟩
      case measure => simp [intOf]
end Go.Proofs.YtiabfngiibabcaaGreatDoor
