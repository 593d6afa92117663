/- Queries that are made of names and numbers, plainly. No program is named here. -/
import Derived.Test.YtecekflooihkoaaDoorQPlain
import Derived.Test.YtecekflooihkoaaDoorParsePlain
set_option linter.unusedVariables false
set_option linter.unusedSimpArgs false
namespace Go.Proofs.YtecekflooihkoaaDoor
open Go.RowKit

theorem plainO_none {v : List UInt8} (h : ∀ x ∈ v, x ≠ 37) : plainO v = some v := by
  induction v with
  | nil => rfl
  | cons b v ih =>
    have hb : (b == 37) = false := by simpa using h b (by simp)
    rw [plainO_cons hb, ih (fun x hx => h x (by simp [hx]))]
    rfl
theorem pairO_made {n v : List UInt8} (hn : nameB n = true) (hv : ∀ x ∈ v, x ≠ 37) (hl : v.length ≤ 100) : pairO (n ++ 61 :: v) = some (n, v) := by
  have hn1 : ∀ x ∈ n, x ≠ 61 := by
    unfold nameB at hn
    simp only [Bool.and_eq_true, List.all_eq_true] at hn
    intro x hx
    have := hn.1.1 x hx
    rintro rfl
    revert this
    decide
  obtain ⟨e1, e2⟩ := split_at (r := v) hn1
  unfold pairO
  rw [e1, e2, hn, List.tail_cons, plainO_none hv, if_neg (by simp; omega)]
  rfl
theorem queryR_two {n m u v : List UInt8} (hn : nameB n = true) (hm : nameB m = true) (hne : (n == m) = false) (hu : ∀ x ∈ u, 48 ≤ x.toNat ∧ x.toNat ≤ 57) (hv : ∀ x ∈ v, 48 ≤ x.toNat ∧ x.toNat ≤ 57) (hlu : u.length ≤ 100) (hlv : v.length ≤ 100) :
    queryR ((n ++ 61 :: u) ++ 38 :: (m ++ 61 :: v)) = some [(n, u), (m, v)] := by
  have k : ∀ (l : List UInt8), nameB l = true → ∀ w : List UInt8, (∀ x ∈ w, 48 ≤ x.toNat ∧ x.toNat ≤ 57) → ∀ x ∈ l ++ 61 :: w, x ≠ 38 := by
    intro l hl w hw x hx
    rcases List.mem_append.1 hx with hx | hx
    · unfold nameB at hl
      simp only [Bool.and_eq_true, List.all_eq_true] at hl
      have := hl.1.1 x hx
      rintro rfl
      revert this
      decide
    · rcases List.mem_cons.1 hx with rfl | hx
      · decide
      · have := hw x hx
        rintro rfl
        revert this
        decide
  have p : ∀ w : List UInt8, (∀ x ∈ w, 48 ≤ x.toNat ∧ x.toNat ≤ 57) → ∀ x ∈ w, x ≠ 37 := by
    intro w hw x hx
    have := hw x hx
    rintro rfl
    revert this
    decide
  obtain ⟨e1, e2⟩ := split_at (r := m ++ 61 :: v) (k n hn u hu)
  obtain ⟨f1, f2⟩ := split_none (k m hm v hv)
  unfold queryR
  rw [if_neg (by simp), wordsC_step e2, e1, wordsC_last f2, f1]
  unfold queryO
  rw [pairO_made hn (p u hu) hlu]
  simp only [List.any_nil, Bool.false_eq_true, if_false, List.nil_append]
  unfold queryO
  rw [pairO_made hm (p v hv) hlv]
  simp only [List.any_cons, List.any_nil, Bool.or_false, hne, Bool.false_eq_true, if_false]
  rfl
end Go.Proofs.YtecekflooihkoaaDoor
