/-
  Lists of integers that come in.
-/
import Derived.Test.YtiabfngiibabcaaGreatDoorM11
import Derived.Test.YtiabfngiibabcaaGreatDoorChecked
set_option linter.unusedVariables false
set_option linter.unusedSimpArgs false
set_option maxRecDepth 100000
namespace Go.Proofs.YtiabfngiibabcaaGreatDoor
open Go.RowKit

/-- A slice of integers. -/
def IntsAt (w : World) (A : Option Addr) (l : List Int) : Prop :=
  0 < l.length → ∃ b off, A = some ⟨b, off, none⟩ ∧ b < w.heap.size ∧ ∀ i, (h : i < l.length) → w.cell? ⟨b, off + i, none⟩ = some (.int .i64 l[i])
theorem IntsAt.below {w w' : World} {A : Option Addr} {l : List Int} (h : IntsAt w A l) (hb : Below w.heap.size w w') : IntsAt w' A l := fun h0 => by
  obtain ⟨b, off, hA, hlt, hc⟩ := h h0
  exact ⟨b, off, hA, Nat.lt_of_lt_of_le hlt hb.size, fun i hi => (hb.cell (p := ⟨b, _, none⟩) hlt).trans (hc i hi)⟩
def IntsIn (l : List Int) : Prop := ∀ i, (h : i < l.length) → In64 l[i]
open Go.ChangeShapes Go.WideShapes in
theorem open_intsL {H : Type} {enc : TypeId × Value → H} {w : World} {base : Nat} {spare : Nat → Bool} {held : Bool} {A : Option Addr} {n cap : Nat} {d : DataW H} {ps : List MemPlace}
    (h : DataW.Trod enc Tryz.prog w base spare held 22 (.slice A n cap) d ps) : ∃ l : List Int, n = l.length ∧ l.length ≤ cap ∧ (cap : Int) ≤ 9223372036854775807 ∧ IntsIn l ∧ IntsAt w A l := by
  have hC : (Tryz.prog).cellsOf 3 = 1 := by kernel_rfl
  obtain ⟨h1, h2, h3⟩ := open_slice_any Tryz.underlying22 (by rw [hC]; omega) h
  rw [hC] at h3
  rcases Nat.eq_zero_or_pos n with h0 | h0
  · exact ⟨[], by simpa using h0, by simp, h2, fun i h => absurd h (by simp), fun h => absurd h (by simp)⟩
  · obtain ⟨b, off, hA, hb, hi⟩ := h3 h0
    obtain ⟨l, hl, hp⟩ := choose_list n (fun i (q : Int) => In64 q ∧ w.cell? ⟨b, off + i, none⟩ = some (.int .i64 q)) 0 (fun i hin => by
      obtain ⟨cs, m, y, hlen, hcell, ht⟩ := hi i hin
      obtain ⟨v, c0, -, hwf⟩ := DataW.trod_int Tryz.underlying3 ht
      subst c0
      have := hcell 0 (by omega)
      rw [Nat.add_zero, Nat.mul_one] at this
      exact ⟨v, wf64 hwf, this⟩)
    exact ⟨l, hl.symm, by omega, h2, fun i hi => (hp i hi).1, fun _ => ⟨b, off, hA, hb, fun i hi => (hp i hi).2⟩⟩
end Go.Proofs.YtiabfngiibabcaaGreatDoor
