/- Walk of (*json.reader).text. -/
import Derived.Test.YtbjimikppdfmgaaDoorJs1
import Derived.Test.YtbjimikppdfmgaaDoorAppend
import Derived.Lib.Bytealg
set_option linter.unusedVariables false
set_option linter.unusedSimpArgs false
set_option maxHeartbeats 8000000
set_option maxRecDepth 100000
namespace Go.Proofs.YtbjimikppdfmgaaDoor
open Go.RowKit

theorem js_Index (l : List UInt8) (c : UInt8) (w : World) : Calls Tryd.prog 107 #[.string (S l), .int .u8 c.toNat] w fun e w' => e = .returned (.int .i64 (Lib.indexByte l c)) ∧ w' = w := by
  have hx : (callFunc 149 #[.string (S l), .int .u8 c.toNat]).run Tryd.prog w = .ok (.value (.int .i64 (Lib.indexByte l c))) w := by
    rw [run_callFunc_extern Tryd.func149 (by kernel_rfl) (by kernel_rfl) (by kernel_rfl) (e := Extern.BytealgIndexByte.indexByte) (by kernel_rfl), Lib.run_indexByteString]
    simp [Result.andThen, S_toList]
  go_enter Tryd.func107, Tryd.ntmps107
  go_wp2
  go_ret
  exact ⟨rfl, rfl⟩
def escB (c : UInt8) : Bool := decide (c = 34) || decide (c = 92) || decide (c = 47)
theorem esc_index (c : UInt8) : (escB c = true → Lib.indexByte [34, 92, 47] c ≥ 0) ∧ (escB c = false → Lib.indexByte [34, 92, 47] c = -1) := by
  have h : ∀ n : Fin 256, (escB (UInt8.ofNat n.1) = true → Lib.indexByte [34, 92, 47] (UInt8.ofNat n.1) ≥ 0) ∧ (escB (UInt8.ofNat n.1) = false → Lib.indexByte [34, 92, 47] (UInt8.ofNat n.1) = -1) := by decide
  have := h ⟨c.toNat, c.toNat_lt⟩
  simpa using this
def textL : List UInt8 → Option (List UInt8 × List UInt8)
  | [] => none
  | x :: r => if x = 34 then scanP r [] else none
theorem textP_L (s : List UInt8) : textP s = textL (skipP s) := by
  unfold textP textL
  cases skipP s <;> rfl
theorem nat_ne {c : UInt8} {n : Nat} (hn : n < 256) (h : ¬ c = UInt8.ofNat n) : ((c.toNat : Int) == (n : Int)) = false := by
  have : c.toNat ≠ n := fun e => h (by rw [← e]; simp)
  simp only [beq_eq_false_iff_ne]
  omega
theorem scan_quote {l : List UInt8} {k : Nat} (h : k < l.length) (he : l[k] = 34) (os) : scanP (l.drop k) os = some (os, l.drop (k + 1)) := by
  rw [List.drop_eq_getElem_cons h, he, scanP.eq_def]; simp
theorem scan_odd {l : List UInt8} {k : Nat} (h : k < l.length) (he : l[k] ≠ 34) (ho : l[k].toNat < 32 ∨ 126 < l[k].toNat) (os) : scanP (l.drop k) os = none := by
  rw [List.drop_eq_getElem_cons h, scanP.eq_def]; simp [he, ho]
theorem scan_back_end {l : List UInt8} {k : Nat} (h : k < l.length) (he : l[k] = 92) (hk : ¬ k + 1 < l.length) (os) : scanP (l.drop k) os = none := by
  rw [List.drop_eq_getElem_cons h, he, scanP.eq_def, List.drop_eq_nil_of_le (by omega)]; simp
theorem scan_back {l : List UInt8} {k : Nat} (h : k + 1 < l.length) (he : l[k] = 92) (os) : scanP (l.drop k) os = if escB l[k + 1] = true then scanP (l.drop (k + 2)) (os ++ [l[k + 1]]) else none := by
  rw [List.drop_eq_getElem_cons (by omega : k < l.length), he, scanP.eq_def, List.drop_eq_getElem_cons h]; simp [escB, or_assoc]
theorem scan_plain {l : List UInt8} {k : Nat} (h : k < l.length) (h1 : l[k] ≠ 34) (h2 : ¬ l[k].toNat < 32) (h3 : ¬ 126 < l[k].toNat) (h4 : l[k] ≠ 92) (os) : scanP (l.drop k) os = scanP (l.drop (k + 1)) (os ++ [l[k]]) := by
  rw [List.drop_eq_getElem_cons h, scanP.eq_def]; simp [h1, h2, h3, h4]
theorem scan_end {l : List UInt8} {k : Nat} (h : ¬ k < l.length) (os) : scanP (l.drop k) os = none := by
  rw [List.drop_eq_nil_of_le (by omega), scanP.eq_def]

def TextPost (g : Nat) (W : World) (s : List UInt8) (d : Int) (b : Bool) (e : Ending) (w' : World) : Prop :=
  (∃ t r, textP s = some (t, r) ∧ e = .returned (.string (S t)) ∧ RdTo g W w' r d b) ∨ (textP s = none ∧ e = .returned (.string (S [])) ∧ RdTo g W w' (skipP s) d true)
section
variable {g : Nat} {W W1 W2 : World} {s s' : List UInt8} {d d' : Int} {b b' : Bool}
theorem TextPost.no (h : textL (skipP s) = none) (hr : RdTo g W W1 (skipP s) d b) : TextPost g W s d b (.returned (.string (S []))) (W1.setCell ⟨g, 2, none⟩ (.bool true)) :=
  .inr ⟨(textP_L s).trans h, rfl, hr.set2 true⟩
theorem TextPost.yes {t r : List UInt8} (h : textL (skipP s) = some (t, r)) (hr : RdTo g W W1 (skipP s) d b) : TextPost g W s d b (.returned (.string (S t))) (W1.setCell ⟨g, 0, none⟩ (.string (S r))) :=
  .inl ⟨t, r, (textP_L s).trans h, rfl, hr.set0 r⟩
theorem jr_text (h : Rd W g s d b) (hl : s.length ≤ 100000) : Calls Tryd.prog 95 #[.pointer (some ⟨g, 0, none⟩)] W (TextPost g W s d b) := by
  have SK := hid (jr_skip h)
  have hl2 := skip_len s
  have NO := hid (fun (W1 : World) => TextPost.no (g := g) (W := W) (W1 := W1) (s := s) (d := d) (b := b))
  have YES := hid (fun (W1 : World) (t r) => TextPost.yes (g := g) (W := W) (W1 := W1) (s := s) (d := d) (b := b) (t := t) (r := r))
  have IX := hid (fun c W => js_Index [34, 92, 47] c W)
  clear h
  generalize skipP s = l at *
  go_enter Tryd.func95, Tryd.ntmps95
  go_wp2_with fail
  refine SK.out.mono ?_
  rintro e w1 ⟨rfl, h1⟩
  have H1 := hid h1
  clear h1 SK
  go_wp2
  go_loopw [3, 4] (fun o i wr => ∃ (k : Nat) (os : List UInt8) (A : Option Addr) (c : Nat), 1 ≤ k ∧ k ≤ l.length + 1 ∧ i = .int .i64 k ∧ o = .slice A os.length c ∧ Hid (os.length ≤ k) ∧ Hid (l.head? = some 34 → textL l = scanP (l.drop k) os) ∧ Hid (wr.ownsRow w1.heap.size 5 1 (.slice A os.length c) os.length (os.map B8)) ∧ Hid (Below w1.heap.size w1 wr)) (fun _ i _ => l.length + 1 - (intOf i).toNat)
  case atStart => exact ⟨1, [], none, 0, by omega, by omega, rfl, rfl, Nat.zero_le _, by
    intro hh
    cases l with
    | nil => simp at hh
    | cons x r => simp at hh; subst hh; simp [textL], World.ownsRow_nil _ _ _ _, Below.refl _ _⟩
  case round =>
    obtain ⟨k, os, A, c, hk1, hk2, rfl, rfl, hol, hsc, hrow, hb⟩ := hrel
    have HR := hid (H1.out.below hb.out)
    obtain ⟨d0, d1, d2, e0, e1, e2⟩ := HR.out.b0
    by_cases hlt : k < l.length
    · have h0 : 0 < l.length := by omega
      by_cases hq : l[0] = 34
      · have hq1 : ((l[0].toNat : Int) == 34) = true := by rw [hq]; rfl
        have hh : l.head? = some 34 := by rw [List.head?_eq_getElem?, List.getElem?_eq_getElem h0, hq]
        have SC := hid (hsc.out hh)
        clear hsc
        have hk64 : (k : Int) < l.length := by omega
        by_cases c1 : l[k] = 34
        · have g1 : ((l[k].toNat : Int) == 34) = true := by rw [c1]; rfl
          have HY := hid (show textL l = some (os, l.drop (k + 1)) by rw [SC.out, scan_quote hlt c1])
          have hs : ∀ v, (convert 47 9 (.slice A os.length c)).run Tryd.prog (wr.setCell ⟨g, 0, none⟩ v) = .ok (.string (S os)) (wr.setCell ⟨g, 0, none⟩ v) := fun v =>
            run_string_row _ (row_keep hrow.out fun k hk => Below.heap_setCell _ _ _ _ (by have := row_base_le hrow.out hk; have := H1.out.blk.lt; simp only []; omega))
          have HYE := hid (YES.out wr _ _ HY.out HR.out)
          have ed : (l.drop (k + 1)).take (l.length - (k + 1)) = l.drop (k + 1) := List.take_of_length_le (by simp)
          clear HY
          go_wp2
          go_ret
          exact HYE.out
        · have g1 : ((l[k].toNat : Int) == 34) = false := nat_ne (n := 34) (by omega) c1
          by_cases c2 : (l[k].toNat : Int) < 32
          · have HN := hid (show textL l = none by rw [SC.out, scan_odd hlt c1 (.inl (by omega))])
            go_wp2
            go_ret
            exact NO.out _ HN.out HR.out
          · by_cases c3 : (126 : Int) < l[k].toNat
            · have HN := hid (show textL l = none by rw [SC.out, scan_odd hlt c1 (.inr (by omega))])
              go_wp2
              go_ret
              exact NO.out _ HN.out HR.out
            · by_cases c4 : l[k] = 92
              · have g4 : ((l[k].toNat : Int) == 92) = true := by rw [c4]; rfl
                by_cases hk3 : k + 1 < l.length
                · have g5 : (((k : Int) + 1) == (l.length : Int)) = false := by rw [beq_eq_false_iff_ne]; omega
                  have SB := scan_back hk3 c4 os
                  by_cases he : escB l[k + 1] = true
                  · have IXH := hid (IX.out l[k + 1])
                    have hix := (esc_index l[k + 1]).1 he
                    generalize Lib.indexByte [34, 92, 47] l[k + 1] = ix at *
                    have hix2 : ¬ ix < 0 := by omega
                    obtain ⟨A2, c2', w', hrun0, hrow1, hb1⟩ := append_byte wr l[k + 1] (A := A) (c := c) (os := os) hrow.out (by have := hol.out; omega) hb.out.size
                    rw [if_pos he] at SB
                    have HSC := hid (SC.out.trans SB)
                    have HRW := hid hrow1
                    have HBW := hid (hb.out.trans hb1)
                    clear hrow1 hb1 hrow hb SC SB NO YES
                    go_wp2_with fail
                    refine (IXH.out _).mono ?_
                    rintro e w2 ⟨rfl, rfl⟩
                    go_wp2_with (first | (at_builtin; refine wpList_append_run rfl _ _ _ (by rfl) _ _ _ _ (by rfl) (by rfl) hrun0 ?_))
                    go_roundw
                    case rel => exact ⟨k + 2, os ++ [l[k + 1]], A2, c2', by omega, by omega, by go_num, by simp, by simp [Hid]; have := hol.out; omega, fun _ => HSC.out, HRW, HBW⟩
                    case measure => simp [intOf]; omega
                  · have HN := hid (show textL l = none by rw [SC.out, SB, if_neg he])
                    have IXH := hid (IX.out l[k + 1])
                    rw [(esc_index l[k + 1]).2 (by simpa using he)] at IXH
                    go_wp2_with fail
                    refine (IXH.out _).mono ?_
                    rintro e w2 ⟨rfl, rfl⟩
                    go_wp2
                    go_ret
                    exact NO.out _ HN.out HR.out
                · have HN := hid (show textL l = none by rw [SC.out, scan_back_end hlt c4 hk3])
                  have g5 : (((k : Int) + 1) == (l.length : Int)) = true := by rw [beq_iff_eq]; omega
                  go_wp2
                  go_ret
                  exact NO.out _ HN.out HR.out
              · have g4 : ((l[k].toNat : Int) == 92) = false := nat_ne (n := 92) (by omega) c4
                obtain ⟨A2, c2', w', hrun0, hrow1, hb1⟩ := append_byte wr l[k] (A := A) (c := c) (os := os) hrow.out (by have := hol.out; omega) hb.out.size
                have HSC := hid (SC.out.trans (scan_plain hlt c1 (by omega) (by omega) c4 os))
                have HRW := hid hrow1
                have HBW := hid (hb.out.trans hb1)
                clear hrow1 hb1 hrow hb SC NO YES
                go_wp2_with (first | (at_builtin; refine wpList_append_run rfl _ _ _ (by rfl) _ _ _ _ (by rfl) (by rfl) hrun0 ?_))
                go_roundw
                case rel => exact ⟨k + 1, os ++ [l[k]], A2, c2', by omega, by omega, by go_num, by simp, by simp [Hid]; have := hol.out; omega, fun _ => HSC.out, HRW, HBW⟩
                case measure => simp [intOf]; omega
      · have hq1 : ((l[0].toNat : Int) == 34) = false := nat_ne (n := 34) (by omega) hq
        have HN := hid (show textL l = none by
          cases l with
          | nil => rfl
          | cons x r => simp at hq; simp [textL, hq])
        go_wp2
        go_ret
        exact NO.out _ HN.out HR.out
    · have HN := hid (show textL l = none by
        cases l with
        | nil => rfl
        | cons x r =>
          by_cases hq : x = 34
          · subst hq
            rw [hsc.out rfl, scan_end hlt]
          · simp [textL, hq])
      go_wp2
      go_ret
      exact NO.out _ HN.out HR.out
end
end Go.Proofs.YtbjimikppdfmgaaDoor
