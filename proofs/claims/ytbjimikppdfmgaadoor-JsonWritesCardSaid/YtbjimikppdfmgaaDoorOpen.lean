/- Arguments opened: slices, cell by cell. -/
import Derived.Test.YtbjimikppdfmgaaDoorBase
import Derived.ProofKit
import Derived.Deep.Slices
import Derived.Deep.Fields
import Derived.ChangeSame
set_option linter.unusedVariables false
set_option linter.unusedSimpArgs false
namespace Go.Proofs.YtbjimikppdfmgaaDoor
open Go.RowKit Go.ChangeShapes Go.WideShapes Go.Deep

def In64 (a : Int) : Prop := -9223372036854775808 ≤ a ∧ a ≤ 9223372036854775807

section
variable {H : Type} {enc : TypeId × Value → H} {P : Program} {w : World} {base : Nat} {spare : Nat → Bool} {held : Bool}
/-- A slice that came in, whatever its elements: each element's cells read. -/
theorem open_slice_any {t e : TypeId} {A : Option Addr} {n cap : Nat} {d : DataW H} {ps : List MemPlace} (ht : P.underlying t = some (.slice e)) (hC : 0 < P.cellsOf e) (h : DataW.Trod enc P w base spare held t (.slice A n cap) d ps) :
    n ≤ cap ∧ (cap : Int) ≤ 9223372036854775807 ∧ (0 < n → ∃ b off, A = some ⟨b, off, none⟩ ∧ b < w.heap.size ∧
      ∀ i, i < n → ∃ (cs : List Value) (m : Nat) (y : DataW H × List MemPlace), cs.length = P.cellsOf e ∧ (∀ j, j < P.cellsOf e → w.cell? ⟨b, off + (i * P.cellsOf e + j), none⟩ = cs[j]?) ∧ DataW.trod enc P w base spare held m e cs = some y) := by
  obtain ⟨fuel, hf⟩ := h
  rcases open_slice ht hf with ⟨hcs, hx⟩ | ⟨a, len, cap', m, n', D, Pl, hcs, hb, hl, hm, hmm, hx, hi⟩
  · simp [Value.cells] at hcs
    obtain ⟨rfl, rfl, rfl⟩ := hcs
    exact ⟨Nat.le_refl _, by omega, fun h => absurd h (by omega)⟩
  · simp [Value.cells] at hcs
    obtain ⟨rfl, rfl, rfl⟩ := hcs
    refine ⟨hl, by unfold maxLen at hm; omega, fun h0 => ?_⟩
    have hin : ∀ i, i < n → i < m := fun i h => by rw [hmm]; split <;> omega
    obtain ⟨cs0, hc0, _⟩ := hi 0 (hin 0 h0)
    obtain ⟨_, hl0, hat0⟩ := World.cells?_some hc0
    have h00 := hat0 0 hC
    rw [List.getElem?_eq_getElem (by omega)] at h00
    have hs : (a.add (0 * P.cellsOf e)).add 0 = a := by simp [Addr.add]
    rw [hs] at h00
    obtain ⟨b, off, spot⟩ := a
    have hspot : spot = none := by simpa using World.cell?_spot h00
    subst hspot
    refine ⟨b, off, rfl, World.block_lt_of_cell? w _ h00, fun i hin' => ?_⟩
    obtain ⟨cs, hc, ht'⟩ := hi i (hin i hin')
    obtain ⟨_, hlen, hat⟩ := World.cells?_some hc
    refine ⟨cs, n', _, hlen, fun j hj => ?_, ht'⟩
    have := hat j hj
    rw [show ((⟨b, off, none⟩ : Addr).add (i * P.cellsOf e)).add j = ⟨b, off + (i * P.cellsOf e + j), none⟩ by
      unfold Addr.add; split <;> split <;> simp_all <;> omega] at this
    exact this

/-- Of a struct of fields of one cell: each field reads. -/
theorem open_fields {e : TypeId} {fs : Array Field} {m : Nat} {cs : List Value} {y : DataW H × List MemPlace} (he : P.underlying e = some (.struct fs)) (hone : oneCellFields P fs = true) (h : DataW.trod enc P w base spare held m e cs = some y) :
    ∀ (j : Nat) (f : Field), fs[j]? = some f → j < cs.length → ∃ (v : Value) (m' : Nat) (z : DataW H × List MemPlace), cs[j]? = some v ∧ DataW.trod enc P w base spare held m' f.type [v] = some z := by
  obtain ⟨ys, n', hn', hy, hlen, hyl, hf⟩ := DataW.trod_struct he h
  intro j f hj hjl
  obtain ⟨ho, hk⟩ := hone_of hone j f hj
  have h1 := hf j f hj
  rw [ho, hk] at h1
  have hone' : (cs.drop j).take 1 = [cs[j]] := by
    rw [List.drop_eq_getElem_cons hjl]; rfl
  rw [hone'] at h1
  have hjs : j < ys.length := by rw [hyl]; exact (Array.getElem?_eq_some_iff.1 hj).1
  have hys : ys[j]? = some ys[j] := List.getElem?_eq_getElem hjs
  exact ⟨cs[j], _, _, List.getElem?_eq_getElem hjl, h1.trans hys⟩
end

theorem choose_list {α : Type} (n : Nat) (p : Nat → α → Prop) (d : α) (h : ∀ i, i < n → ∃ a, p i a) : ∃ l : List α, l.length = n ∧ ∀ i, (hi : i < l.length) → p i l[i] := by
  induction n with
  | zero => exact ⟨[], rfl, fun i hi => absurd hi (by simp)⟩
  | succ n ih =>
    obtain ⟨l, hl, hp⟩ := ih (fun i hi => h i (by omega))
    obtain ⟨a, ha⟩ := h n (by omega)
    refine ⟨l ++ [a], by simp [hl], fun i hi => ?_⟩
    simp at hi
    by_cases hin : i < l.length
    · rw [List.getElem_append_left hin]; exact hp i hin
    · obtain rfl : i = n := by omega
      rw [List.getElem_append_right (by omega)]
      simpa [hl] using ha
end Go.Proofs.YtbjimikppdfmgaaDoor
