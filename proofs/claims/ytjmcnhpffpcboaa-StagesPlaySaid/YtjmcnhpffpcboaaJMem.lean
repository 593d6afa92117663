/- A journal's drive without power cuts, in memory; lists of integers that come in. -/
import Derived.Test.YtjmcnhpffpcboaaJPlain
import Derived.Test.YtjmcnhpffpcboaaStages5
import Derived.Test.YtjmcnhpffpcboaaLawMay
import Derived.Test.YtjmcnhpffpcboaaInts
set_option linter.unusedVariables false
set_option linter.unusedSimpArgs false
set_option maxHeartbeats 1600000
set_option maxRecDepth 100000
namespace Go.Proofs.Ytjmcnhpffpcboaa
open Go.RowKit

/-- What a move tells, and where it goes. -/
def mvE (q : Int) (a : Nat) (n : Int) : Int := if mayB a n then (if (if a = 1 then (2 : Int) else 4) ≤ q then 0 else 12) else 16
def mvT (q : Int) (a : Nat) (n : Int) : Nat := if mvE q a n = 0 then n.toNat else a

/-- A journal of stage a and its drive, behind w0; N bounds what was written. -/
def JW (w0 : World) (j g : Nat) (q : Int) (a N : Nat) (W : World) : Prop :=
  ∃ d fp, IsDrive W g d fp ∧ IsJ W j g a ∧ ¬ fp j ∧ j < W.heap.size ∧ d.Ok N ∧ Jd q a d ∧ Below w0.heap.size w0 W ∧ (∀ k, fp k → w0.heap.size ≤ k) ∧ w0.heap.size ≤ j
theorem JW.jo {w0 W : World} {j g : Nat} {q : Int} {a N : Nat} (h : JW w0 j g q a N W) : IsJ W j g a := by
  obtain ⟨d, fp, h1, h2, -⟩ := h
  exact h2
theorem JW.bel {w0 W : World} {j g : Nat} {q : Int} {a N : Nat} (h : JW w0 j g q a N W) : Below w0.heap.size w0 W := by
  obtain ⟨d, fp, h1, h2, h3, h4, h5, h6, h7, -⟩ := h
  exact h7
theorem JW.stageOf {w0 W : World} {j g : Nat} {q : Int} {a N : Nat} (h : JW w0 j g q a N W) : 1 ≤ a ∧ a ≤ 5 := by
  obtain ⟨d, fp, h1, h2, h3, h4, h5, h6, h7, -⟩ := h
  exact ⟨h6.1, h6.2.1⟩
theorem JW.first {w0 W : World} {g : Nat} {q : Int} {fp : Nat → Prop} (hdr : IsDrive W g (Dr.new q) fp) (hq : quotableB q = true) (hb : Below w0.heap.size w0 W) (hge : ∀ k, fp k → w0.heap.size ≤ k) :
    Calls Try.prog 32 #[.pointer (some ⟨g, 0, none⟩)] W fun e w' => ∃ j, e = .returned (.tuple #[.pointer (some ⟨j, 0, none⟩), .int .i64 0]) ∧ JW w0 j g q 1 0 w' := by
  refine (stages_Open hdr (Dr.Ok.new q hq) (by omega)).mono ?_
  rintro e w2 ⟨v, rfl, hb2, hj, -⟩
  rw [open_new] at hj
  obtain ⟨j, rfl, hjl, hJ⟩ := hj rfl
  refine ⟨j, by rw [open_new], Dr.new q, fp, hdr.below hb2, hJ, fun hk => ?_, Blk.lt hJ, Dr.Ok.new q hq, Jd.new q, bt hb hb2, hge, Nat.le_trans hb.size hjl⟩
  have := hdr.lt _ hk
  omega
theorem JW.open_ {w0 W : World} {j g : Nat} {q : Int} {a N : Nat} (h : JW w0 j g q a N W) (hN : N ≤ 1000000000) :
    Calls Try.prog 32 #[.pointer (some ⟨g, 0, none⟩)] W fun e w' => ∃ j', e = .returned (.tuple #[.pointer (some ⟨j', 0, none⟩), .int .i64 0]) ∧ IsJ w' j' g a ∧ JW w0 j g q a N w' := by
  obtain ⟨d, fp, h1, h2, h3, h4, h5, h6, h7, h8, h9⟩ := h
  refine (stages_Open h1 h5 hN).mono ?_
  rintro e w2 ⟨v, rfl, hb2, hj, -⟩
  rw [h6.open_] at hj
  obtain ⟨j', rfl, hjl, hJ⟩ := hj rfl
  exact ⟨j', by rw [h6.open_], hJ, d, fp, h1.below hb2, (hb2.block j h4).trans h2, h3, Nat.lt_of_lt_of_le h4 hb2.size, h5, h6, bt h7 hb2, h8, h9⟩
theorem JW.move {w0 W : World} {j g : Nat} {q : Int} {a N : Nat} (h : JW w0 j g q a N W) (hN : N + 1 < 1000000000) (n : Int) (hn : In64 n) :
    Calls Try.prog 35 #[.pointer (some ⟨j, 0, none⟩), .int .i64 n] W fun e w' => e = .returned (.int .i64 (mvE q a n)) ∧ JW w0 j g q (mvT q a n) (N + 1) w' := by
  obtain ⟨d, fp, h1, h2, h3, h4, h5, h6, h7, h8, h9⟩ := h
  have ha := h6.1
  have ha5 := h6.2.1
  refine (journal_Move (n := n) ⟨h1, h2, h3, h4, Touch.refl _ _⟩ h5 (by omega) ⟨by omega, by omega⟩ hn).mono ?_
  rintro e w' ⟨rfl, fp', k1, k2, k3, k4⟩
  have B' : Below w0.heap.size w0 w' := h7.trans (k4.below (fun k hk => by
    rcases hk with hk | hk
    · exact h8 k hk
    · subst hk; exact h9) h7.size)
  have F' : ∀ k, fp' k → w0.heap.size ≤ k := fun k hk => by
    rcases k4.new k (.inl hk) with (h | h) | h
    · exact h8 k h
    · subst h; exact h9
    · have := h7.size; omega
  have L' : j < w'.heap.size := Nat.lt_of_lt_of_le h4 k4.size
  have O' := moveR_ok h5 a n
  cases hm : mayB a n with
  | false =>
    have hR := move_jd_no h6 n hm
    rw [hR] at k1 k2 O' ⊢
    have e1 : mvE q a n = 16 := by unfold mvE; rw [hm]; rfl
    have e2 : mvT q a n = a := by unfold mvT; rw [e1]; rfl
    rw [e1, e2]
    exact ⟨rfl, d, fp', k1, k2, k3, L', O', h6, B', F', h9⟩
  | true =>
    have hR := move_jd h6 n hm
    by_cases hq : (if a = 1 then (2 : Int) else 4) ≤ q
    · rw [if_pos hq] at hR
      obtain ⟨r1, r2, r3⟩ := hR
      have e1 : mvE q a n = 0 := by unfold mvE; rw [hm, if_pos rfl, if_pos hq]
      have e2 : mvT q a n = n.toNat := by unfold mvT; rw [e1]; rfl
      rw [r1, if_pos rfl, r3] at k2
      rw [e1, e2, r1]
      exact ⟨rfl, _, fp', k1, k2, k3, L', O', r2, B', F', h9⟩
    · rw [if_neg hq] at hR
      obtain ⟨r1, r2⟩ := hR
      have e1 : mvE q a n = 12 := by unfold mvE; rw [hm, if_pos rfl, if_neg hq]
      have e2 : mvT q a n = a := by unfold mvT; rw [e1]; rfl
      rw [r1, if_neg (by omega)] at k2
      rw [e1, e2, r1]
      exact ⟨rfl, _, fp', k1, k2, k3, L', O', r2, B', F', h9⟩
theorem mayB_cases {a : Nat} {n : Int} (hm : mayB a n = true) : (a = 1 ∧ n = 2) ∨ (a = 2 ∧ n = 3) ∨ (a = 3 ∧ n = 2) ∨ (a = 3 ∧ n = 4) ∨ (a = 4 ∧ n = 5) := by
  unfold mayB at hm
  simp at hm
  omega

end Go.Proofs.Ytjmcnhpffpcboaa
