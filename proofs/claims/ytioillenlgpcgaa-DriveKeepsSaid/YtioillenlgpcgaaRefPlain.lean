/- Files in a list by their names: places, what is put, what is cut. -/
import Derived.Test.YtioillenlgpcgaaUpMem
set_option linter.unusedVariables false
set_option linter.unusedSimpArgs false
namespace Go.Proofs.Ytioillenlgpcgaa
open Go.RowKit Go.WideMaps Go.ChangeMaps Go.WideAt Go.WideShapes

section
variable {α : Type}
/-- The place of a name, counted from k; below 0: it is not there. -/
def atN (name : Key) : List (Key × α) → Nat → Int
  | [], _ => -1
  | p :: r, k => if p.1 == name then (k : Int) else atN name r (k + 1)
theorem atN_spec (name : Key) (m : List (Key × α)) : ∀ k : Nat, (atN name m k = -1 ∧ kget m name = none) ∨ ∃ i : Nat, ∃ h : i < m.length, atN name m k = ((k + i : Nat) : Int) ∧ m[i].1 = name ∧ kget m name = some m[i].2 := by
  induction m with
  | nil => intro k; exact .inl ⟨rfl, rfl⟩
  | cons p r ih =>
    intro k
    unfold atN
    by_cases h : p.1 = name
    · refine .inr ⟨0, by simp, by simp [h], h, ?_⟩
      simp [kget, h]
    · have hb : (p.1 == name) = false := by simpa using h
      rw [if_neg (by simpa using h)]
      have hk : kget (p :: r) name = kget r name := by simp [kget, List.find?_cons, hb]
      rcases ih (k + 1) with ⟨h1, h2⟩ | ⟨i, hi, h1, h2, h3⟩
      · exact .inl ⟨h1, hk.trans h2⟩
      · exact .inr ⟨i + 1, by simp; omega, by rw [h1]; congr 1; omega, by simpa using h2, by rw [hk, h3]; simp⟩
theorem split_at {m : List (Key × α)} {i : Nat} (h : i < m.length) : m = m.take i ++ m[i] :: m.drop (i + 1) := by
  rw [← List.drop_eq_getElem_cons h, List.take_append_drop]
theorem kdel_mid (a b : List (Key × α)) (k : Key) (v : α) (h : Rising (a ++ (k, v) :: b)) : kdel (a ++ (k, v) :: b) k = a ++ b := by
  have h1 := h.ne
  rw [List.pairwise_append] at h1
  obtain ⟨_, h3, h4⟩ := h1
  have h5 := (List.pairwise_cons.1 h3).1
  unfold kdel
  rw [List.filter_append, List.filter_cons, if_neg (by simp)]
  congr 1
  · rw [List.filter_eq_self]
    intro p hp
    have := h4 p hp (k, v) (by simp)
    simpa using this
  · rw [List.filter_eq_self]
    intro p hp
    have := h5 p hp
    simpa using Ne.symm this
theorem kset_mid (a b : List (Key × α)) (k : Key) (v u : α) (h : Rising (a ++ (k, v) :: b)) : kset (a ++ (k, v) :: b) k u = a ++ (k, u) :: b := by
  have h1 := h.ne
  rw [List.pairwise_append] at h1
  obtain ⟨_, h3, h4⟩ := h1
  have h5 := (List.pairwise_cons.1 h3).1
  unfold kset
  rw [List.map_append, List.map_cons, if_pos (by simp)]
  congr 1
  · refine (List.map_congr_left (g := id) fun p hp => ?_).trans (List.map_id _)
    have := h4 p hp (k, v) (by simp)
    rw [if_neg (by simpa using this)]
    rfl
  · congr 1
    refine (List.map_congr_left (g := id) fun p hp => ?_).trans (List.map_id _)
    have := h5 p hp
    rw [if_neg (by simpa using Ne.symm this)]
    rfl
theorem kdel_at {m : List (Key × α)} (hr : Rising m) {i : Nat} (h : i < m.length) : kdel m m[i].1 = m.take i ++ m.drop (i + 1) := by
  have hs := split_at h
  have : kdel (m.take i ++ (m[i].1, m[i].2) :: m.drop (i + 1)) m[i].1 = m.take i ++ m.drop (i + 1) := kdel_mid _ _ _ _ (by rw [← show m = m.take i ++ (m[i].1, m[i].2) :: m.drop (i + 1) from hs]; exact hr)
  rw [← show m = m.take i ++ (m[i].1, m[i].2) :: m.drop (i + 1) from hs] at this
  exact this
theorem set_mid {m : List (Key × α)} {i : Nat} (h : i < m.length) (x : Key × α) : m.set i x = m.take i ++ x :: m.drop (i + 1) := by
  rw [List.set_eq_take_append_cons_drop, if_pos h]
theorem kset_at {m : List (Key × α)} (hr : Rising m) {i : Nat} (h : i < m.length) (u : α) : kset m m[i].1 u = m.set i (m[i].1, u) := by
  have hs := split_at h
  have : kset (m.take i ++ (m[i].1, m[i].2) :: m.drop (i + 1)) m[i].1 u = m.take i ++ (m[i].1, u) :: m.drop (i + 1) := kset_mid _ _ _ _ _ (by rw [← show m = m.take i ++ (m[i].1, m[i].2) :: m.drop (i + 1) from hs]; exact hr)
  rw [← show m = m.take i ++ (m[i].1, m[i].2) :: m.drop (i + 1) from hs] at this
  rw [this, set_mid h]
theorem kput_at {m : List (Key × α)} (hr : Rising m) {i : Nat} (h : i < m.length) (u : α) : kput m m[i].1 u = m.set i (m[i].1, u) := by
  have hs := split_at h
  have : kput (m.take i ++ (m[i].1, m[i].2) :: m.drop (i + 1)) m[i].1 u = m.take i ++ (m[i].1, u) :: m.drop (i + 1) := kput_mid _ _ _ _ _ (by rw [← show m = m.take i ++ (m[i].1, m[i].2) :: m.drop (i + 1) from hs]; exact hr)
  rw [← show m = m.take i ++ (m[i].1, m[i].2) :: m.drop (i + 1) from hs] at this
  rw [this, set_mid h]

/-- What is put where it belongs, one after the other. -/
def putL (k : Key) (v : α) : List (Key × α) → Bool → List (Key × α)
  | [], done => if done then [] else [(k, v)]
  | y :: r, done => (if !done && !bytesBefore y.1 k then [(k, v)] else []) ++ ((if y.1 == k then [] else [y]) ++ putL k v r (done || !bytesBefore y.1 k))
theorem putL_true (k : Key) (v : α) (m : List (Key × α)) : putL k v m true = kdel m k := by
  induction m with
  | nil => rfl
  | cons y r ih =>
    unfold putL
    simp only [Bool.not_true, Bool.false_and, Bool.true_or, ih]
    unfold kdel
    rw [List.filter_cons]
    by_cases h : y.1 = k
    · simp [h]
    · simp [h]
theorem putL_false (k : Key) (v : α) (m : List (Key × α)) (hr : Rising m) : putL k v m false = kput m k v := by
  induction m with
  | nil => rfl
  | cons y r ih =>
    have h1 := List.pairwise_cons.1 hr
    have hd : kdel (y :: r) k = (if y.1 == k then [] else [y]) ++ kdel r k := by
      unfold kdel
      rw [List.filter_cons]
      by_cases h : y.1 = k
      · simp [h]
      · simp [h]
    unfold putL
    cases hb : bytesBefore y.1 k with
    | true =>
      have hne : (y.1 == k) = false := by
        rw [beq_eq_false_iff_ne]
        intro e
        rw [e, bytes_irrefl] at hb
        cases hb
      have hno : ¬ bytesBefore k y.1 = true := fun hc => by
        have := bytes_trans _ _ _ hb hc
        rw [bytes_irrefl] at this
        cases this
      simp only [Bool.not_true, Bool.and_false, Bool.or_false, hne]
      rw [ih h1.2]
      unfold kput
      rw [hd, hne]
      show [y] ++ kins k v (kdel r k) = kins k v (y :: kdel r k)
      show y :: kins k v (kdel r k) = if bytesBefore k y.1 then _ else y :: kins k v (kdel r k)
      rw [if_neg hno]
    | false =>
      simp only [Bool.not_false, Bool.and_true, Bool.or_true, putL_true]
      unfold kput
      rw [hd]
      by_cases h : y.1 = k
      · subst h
        simp only [beq_self_eq_true, if_true, List.nil_append]
        have hn : kdel r y.1 = r := by
          unfold kdel
          rw [List.filter_eq_self]
          intro p hp
          have h2 := h1.1 p hp
          have : p.1 ≠ y.1 := fun e => by rw [e, bytes_irrefl] at h2; cases h2
          simpa using this
        rw [hn]
        cases r with
        | nil => rfl
        | cons z s =>
          show [(y.1, v)] ++ z :: s = kins y.1 v (z :: s)
          unfold kins
          rw [if_pos (h1.1 z (by simp))]
          rfl
      · have hb2 : bytesBefore k y.1 = true := by
          rcases bytes_total y.1 k h with h2 | h2
          · rw [h2] at hb; cases hb
          · exact h2
        have hne : (y.1 == k) = false := by simpa using h
        simp only [hne]
        show [(k, v)] ++ ([y] ++ kdel r k) = kins k v (y :: kdel r k)
        unfold kins
        rw [if_pos hb2]
        rfl
end
end Go.Proofs.Ytioillenlgpcgaa
