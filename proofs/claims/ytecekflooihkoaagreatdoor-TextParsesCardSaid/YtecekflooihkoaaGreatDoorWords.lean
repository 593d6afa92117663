/- Walk of pantileref07.words. -/
import Derived.Test.YtecekflooihkoaaGreatDoorRep1
import Derived.Test.YtecekflooihkoaaGreatDoorQPlain
set_option linter.unusedVariables false
set_option linter.unusedSimpArgs false
set_option maxHeartbeats 6400000
set_option maxRecDepth 100000
namespace Go.Proofs.YtecekflooihkoaaGreatDoor
open Go.RowKit

/-- What words has read: up to i, out of which the word from f on is not yet told. -/
def WAt (c : UInt8) (l : List UInt8) (f i : Nat) (os : List (List UInt8)) : Prop :=
  (i ≤ l.length ∧ f ≤ i ∧ (∀ j, f ≤ j → j < i → (h : j < l.length) → l[j] ≠ c) ∧ os ++ wordsC c (l.drop f) = wordsC c l) ∨ (i = l.length + 1 ∧ os = wordsC c l)
theorem WAt.on {c : UInt8} {l : List UInt8} {f i : Nat} {os : List (List UInt8)} (h : WAt c l f i os) (hi : i < l.length) (hc : l[i] ≠ c) : WAt c l f (i + 1) os := by
  rcases h with ⟨h1, h2, h3, h4⟩ | ⟨h1, h2⟩
  · refine .inl ⟨by omega, by omega, fun j hj hji hjl => ?_, h4⟩
    rcases Nat.lt_or_ge j i with h | h
    · exact h3 j hj h hjl
    · obtain rfl : j = i := by omega
      exact hc
  · omega
theorem WAt.next {c : UInt8} {l : List UInt8} {f i : Nat} {os : List (List UInt8)} (h : WAt c l f i os) (hi : i ≤ l.length) (hc : ∀ h : i < l.length, l[i] = c) : WAt c l (i + 1) (i + 1) (os ++ [(l.drop f).take (i - f)]) := by
  rcases h with ⟨h1, h2, h3, h4⟩ | ⟨h1, h2⟩
  · by_cases hl : i < l.length
    · have hg : ∀ j, (h : j < (l.drop f).length) → j < i - f → (l.drop f)[j] ≠ c := by
        intro j hj hji
        rw [List.getElem_drop]
        exact h3 _ (by omega) (by omega) _
      have hk : (l.drop f)[i - f]'(by simp; omega) = c := by
        rw [List.getElem_drop]
        have := hc hl
        have e : f + (i - f) = i := by omega
        simp only [e]
        exact this
      obtain ⟨e1, e2⟩ := behind_at hg (by simp; omega) hk
      refine .inl ⟨by omega, Nat.le_refl _, fun j hj hji => by omega, ?_⟩
      rw [← h4, wordsC_step e2, e1, List.drop_drop, show f + (i - f + 1) = i + 1 by omega, List.append_assoc]
      rfl
    · have hi' : i = l.length := by omega
      have hg : ∀ j, (h : j < (l.drop f).length) → (l.drop f)[j] ≠ c := by
        intro j hj
        rw [List.getElem_drop]
        simp at hj
        exact h3 _ (by omega) (by omega) _
      obtain ⟨e1, e2⟩ := behind_none hg
      refine .inr ⟨by omega, ?_⟩
      rw [← h4, wordsC_last e2, e1, List.take_of_length_le (by simp; omega)]
  · omega
theorem ref_words (c : UInt8) (l : List UInt8) (hl : l.length ≤ 1000) (w : World) :
    Calls Tryz.prog 35 #[.string (S l), .int .u8 c.toNat] w fun e w' => ∃ A cc, e = .returned (.slice A (wordsC c l).length cc) ∧ w'.ownsRow w.heap.size 9 1 (.slice A (wordsC c l).length cc) (wordsC c l).length ((wordsC c l).map sV) ∧ Below w.heap.size w w' := by
  have H0 := hid (show WAt c l 0 0 [] from .inl ⟨by omega, Nat.le_refl _, fun j hj hji => by omega, rfl⟩)
  have hc8 := c.toNat_lt
  go_enter Tryz.func35, Tryz.ntmps35
  go_wp2
  go_loopw [5, 6, 7] (fun o fv iv wr => ∃ (f i : Nat) (os : List (List UInt8)) (A : Option Addr) (cc : Nat), i ≤ l.length + 1 ∧ f ≤ i ∧ os.length ≤ i ∧ iv = .int .i64 i ∧ fv = .int .i64 f ∧ o = .slice A os.length cc ∧ Hid (WAt c l f i os) ∧ Hid (wr.ownsRow w.heap.size 9 1 (.slice A os.length cc) os.length (os.map sV)) ∧ Hid (Below w.heap.size w wr)) (fun _ _ i _ => l.length + 1 - (intOf i).toNat)
  case atStart => exact ⟨0, 0, [], none, 0, by omega, by omega, by simp, rfl, rfl, rfl, H0, World.ownsRow_nil _ _ _ _, Below.refl _ _⟩
  case round =>
    obtain ⟨f, i, os, A, cc, hi1, hfi, hos, rfl, rfl, rfl, hq, hrow, hb⟩ := hrel
    by_cases hi : i ≤ l.length
    · by_cases hcont : ∃ h : i < l.length, l[i] ≠ c
      · obtain ⟨hil, hc⟩ := hcont
        have y1 : ((l[i].toNat : Int) == c.toNat) = false := by
          rw [beq_eq_false_iff_ne]
          intro e
          have e' : l[i].toNat = c.toNat := by omega
          exact hc (UInt8.toNat_inj.1 e')
        have y2 : ((i : Int) == l.length) = false := by rw [beq_eq_false_iff_ne]; omega
        have HQ := hid (hq.out.on hil hc)
        clear hq hc
        go_wp2
        go_roundw
        case rel => exact ⟨f, i + 1, os, A, cc, by omega, by omega, by omega, by go_num, rfl, rfl, HQ, hrow, hb⟩
        case measure => simp [intOf]; omega
      · have hc : ∀ h : i < l.length, l[i] = c := fun h => Classical.byContradiction fun hc => hcont ⟨h, hc⟩
        have HQ := hid (hq.out.next hi hc)
        have HC := hid hc
        obtain ⟨A', c', w', hrun, hrow1, hb1, -⟩ := append_str wr ((l.drop f).take (i - f)) hrow.out (by omega) hb.out.size
        have HR := hid hrow1
        have HB := hid (hb.out.trans hb1)
        clear hq hc hcont hrow1 hb1 hrow hb
        have hfl : (f : Int) ≤ l.length := by omega
        have hil : (i : Int) ≤ l.length := by omega
        have e0 : ((f : Int)).toNat = f := rfl
        rcases Nat.lt_or_ge i l.length with hlt | hge
        · have y1 : ((l[i].toNat : Int) == c.toNat) = true := by rw [HC.out hlt]; simp
          have y2 : ((i : Int) == l.length) = false := by rw [beq_eq_false_iff_ne]; omega
          go_wp2_with (first | (at_builtin; refine wpList_append_run rfl _ _ _ (by rfl) _ _ _ _ (by rfl) (by rfl) hrun ?_))
          go_roundw
          case rel => exact ⟨i + 1, i + 1, _, A', c', by omega, by omega, by simp; omega, by go_num, by go_num, by simp, HQ, HR, HB⟩
          case measure => simp [intOf]; omega
        · have y2 : ((i : Int) == l.length) = true := by rw [beq_iff_eq]; omega
          go_wp2_with (first | (at_builtin; refine wpList_append_run rfl _ _ _ (by rfl) _ _ _ _ (by rfl) (by rfl) hrun ?_))
          go_roundw
          case rel => exact ⟨i + 1, i + 1, _, A', c', by omega, by omega, by simp; omega, by go_num, by go_num, by simp, HQ, HR, HB⟩
          case measure => simp [intOf]; omega
    · have hi' : i = l.length + 1 := by omega
      subst hi'
      have hqs : os = wordsC c l := by
        rcases hq.out with h | h
        · omega
        · exact h.2
      subst hqs
      clear hq
      go_wp2
      go_ret
      exact ⟨A, cc, rfl, hrow.out, hb.out⟩
end Go.Proofs.YtecekflooihkoaaGreatDoor
