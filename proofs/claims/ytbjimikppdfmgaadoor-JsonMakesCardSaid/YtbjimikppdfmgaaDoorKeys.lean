/- Finite maps by rising keys: sums, lookups, orders. -/
import Derived.Test.YtbjimikppdfmgaaDoorDrPlain
import Derived.WideAt
import Derived.WideShapes
set_option linter.unusedVariables false
set_option linter.unusedSimpArgs false
namespace Go.Proofs.YtbjimikppdfmgaaDoor
open Go.RowKit Go.WideMaps Go.ChangeMaps Go.WideAt Go.WideShapes

section
variable {α : Type}
def Rising (m : List (Key × α)) : Prop := m.Pairwise fun p q => bytesBefore p.1 q.1 = true
theorem Rising.ne {m : List (Key × α)} (h : Rising m) : m.Pairwise fun p q => p.1 ≠ q.1 :=
  List.Pairwise.imp (fun {p q} hpq he => by
    have h2 : bytesBefore p.1 q.1 = true := hpq
    rw [he, bytes_irrefl] at h2
    cases h2) h
theorem Rising.del {m : List (Key × α)} (h : Rising m) (k : Key) : Rising (kdel m k) := List.Pairwise.filter _ h
theorem Rising.ins {m : List (Key × α)} (h : Rising m) (k : Key) (v : α) (hn : ∀ p ∈ m, p.1 ≠ k) : Rising (kins k v m) := by
  induction m with
  | nil => exact List.pairwise_singleton _ _
  | cons y r ih =>
    have h1 := List.pairwise_cons.1 h
    unfold kins
    split
    · rename_i hb
      refine List.pairwise_cons.2 ⟨fun p hp => ?_, h⟩
      rcases List.mem_cons.1 hp with rfl | hp
      · exact hb
      · exact bytes_trans _ _ _ hb (h1.1 p hp)
    · rename_i hb
      refine List.pairwise_cons.2 ⟨fun p hp => ?_, ih h1.2 (fun p hp => hn p (by simp [hp]))⟩
      rcases mem_kins.1 hp with rfl | hp
      · rcases bytes_total k y.1 (fun e => hn y (by simp) e.symm) with h2 | h2
        · exact absurd h2 hb
        · exact h2
      · exact h1.1 p hp
theorem Rising.put {m : List (Key × α)} (h : Rising m) (k : Key) (v : α) : Rising (kput m k v) := (h.del k).ins k v fun p hp => (mem_kdel.1 hp).2
theorem Rising.set {m : List (Key × α)} (h : Rising m) (k : Key) (v : α) : Rising (kset m k v) := by
  unfold kset Rising
  rw [List.pairwise_map]
  refine List.Pairwise.imp (fun {p q} hpq => ?_) h
  split <;> split <;> exact hpq
theorem kget_none {m : List (Key × α)} {k : Key} (h : kget m k = none) : ∀ p ∈ m, p.1 ≠ k := by
  unfold kget at h
  simp only [Option.map_eq_none_iff, List.find?_eq_none] at h
  intro p hp e
  have := h p hp
  simp [e] at this
theorem kdel_none {m : List (Key × α)} {k : Key} (h : kget m k = none) : kdel m k = m := by
  unfold kdel
  rw [List.filter_eq_self]
  intro p hp
  simpa using kget_none h p hp
theorem kget_del (m : List (Key × α)) (k : Key) : kget (kdel m k) k = none := by
  unfold kget
  simp only [Option.map_eq_none_iff, List.find?_eq_none]
  intro p hp
  simpa using (mem_kdel.1 hp).2
theorem kget_of_mem {m : List (Key × α)} (h : Rising m) {k : Key} {v : α} (hm : (k, v) ∈ m) : kget m k = some v := by
  induction m with
  | nil => simp at hm
  | cons y r ih =>
    have h1 := List.pairwise_cons.1 h.ne
    unfold kget
    rcases List.mem_cons.1 hm with rfl | hm
    · simp
    · have : (y.1 == k) = false := by simpa using h1.1 _ hm
      simp only [List.find?_cons, this]
      exact ih (List.pairwise_cons.1 h).2 hm
theorem kget_iff {m : List (Key × α)} (h : Rising m) {k : Key} {v : α} : kget m k = some v ↔ (k, v) ∈ m := ⟨kget_some, kget_of_mem h⟩
theorem kget_put_self {m : List (Key × α)} (h : Rising m) (k : Key) (v : α) : kget (kput m k v) k = some v := kget_of_mem (h.put k v) (mem_kput.2 (.inl rfl))
theorem kget_eq_of {m n : List (Key × α)} (hm : Rising m) (hn : Rising n) (k : Key) (h : ∀ v, (k, v) ∈ m ↔ (k, v) ∈ n) : kget m k = kget n k := by
  cases hg : kget m k with
  | none =>
    cases hg2 : kget n k with
    | none => rfl
    | some v => rw [(kget_iff hm).2 ((h v).2 ((kget_iff hn).1 hg2))] at hg; cases hg
  | some v => exact ((kget_iff hn).2 ((h v).1 ((kget_iff hm).1 hg))).symm
theorem kget_del_other {m : List (Key × α)} (h : Rising m) {k j : Key} (hne : j ≠ k) : kget (kdel m k) j = kget m j :=
  kget_eq_of (h.del k) h j fun v => by rw [mem_kdel]; simp [hne]
theorem kget_put_other {m : List (Key × α)} (h : Rising m) {k j : Key} (v : α) (hne : j ≠ k) : kget (kput m k v) j = kget m j :=
  kget_eq_of (h.put k v) h j fun u => by rw [mem_kput]; simp [hne]
theorem mem_kset {m : List (Key × α)} {k : Key} {v : α} {p : Key × α} : p ∈ kset m k v ↔ (∃ q ∈ m, q.1 = k ∧ p = (k, v)) ∨ (p ∈ m ∧ p.1 ≠ k) := by
  unfold kset
  rw [List.mem_map]
  constructor
  · rintro ⟨q, hq, rfl⟩
    by_cases he : q.1 = k
    · subst he; exact .inl ⟨q, hq, rfl, by simp⟩
    · have : (q.1 == k) = false := by simpa using he
      simp only [this]
      exact .inr ⟨hq, he⟩
  · rintro (⟨q, hq, he, rfl⟩ | ⟨hp, hne⟩)
    · exact ⟨q, hq, by simp [he]⟩
    · exact ⟨p, hp, by simp [hne]⟩
theorem kget_set_self {m : List (Key × α)} (h : Rising m) {k : Key} (v : α) {u : α} (hg : kget m k = some u) : kget (kset m k v) k = some v :=
  kget_of_mem (h.set k v) (mem_kset.2 (.inl ⟨(k, u), kget_some hg, rfl, rfl⟩))
theorem kget_set_other {m : List (Key × α)} (h : Rising m) {k j : Key} (v : α) (hne : j ≠ k) : kget (kset m k v) j = kget m j :=
  kget_eq_of (h.set k v) h j fun u => by
    rw [mem_kset]
    constructor
    · rintro (⟨q, _, _, hq⟩ | h1)
      · injection hq with h1 _; exact absurd h1 hne
      · exact h1.1
    · intro h1; exact .inr ⟨h1, hne⟩

/-! ### sums -/
variable (f : α → Nat)
def ksum (m : List (Key × α)) : Nat := (m.map fun p => f p.2).sum
theorem ksum_ins (k : Key) (v : α) (m : List (Key × α)) : ksum f (kins k v m) = f v + ksum f m := by
  induction m with
  | nil => simp [ksum, kins]
  | cons y r ih =>
    unfold kins
    split
    · simp [ksum]
    · simp only [ksum, List.map_cons, List.sum_cons] at ih ⊢; omega
theorem ksum_del {m : List (Key × α)} (h : Rising m) {k : Key} {v : α} (hg : kget m k = some v) : ksum f m = f v + ksum f (kdel m k) := by
  induction m with
  | nil => simp [kget] at hg
  | cons y r ih =>
    have h1 := List.pairwise_cons.1 h.ne
    have h2 := (List.pairwise_cons.1 h).2
    by_cases he : y.1 = k
    · have hv : y.2 = v := by
        unfold kget at hg
        simp [he] at hg
        exact hg
      have hr : kdel r k = r := by
        unfold kdel
        rw [List.filter_eq_self]
        intro p hp
        have := h1.1 p hp
        rw [he] at this
        simpa using Ne.symm this
      have : kdel (y :: r) k = r := by
        unfold kdel at hr ⊢
        simp [he, hr]
      rw [this]
      simp [ksum, hv]
    · have hb : (y.1 == k) = false := by simpa using he
      have hg2 : kget r k = some v := by
        unfold kget at hg ⊢
        simpa [List.find?_cons, hb] using hg
      have := ih h2 hg2
      have hd : kdel (y :: r) k = y :: kdel r k := by
        unfold kdel
        simp [hb]
      rw [hd]
      simp only [ksum, List.map_cons, List.sum_cons] at this ⊢
      omega
theorem ksum_put (k : Key) (v : α) (m : List (Key × α)) : ksum f (kput m k v) = f v + ksum f (kdel m k) := ksum_ins f k v _
theorem ksum_set {m : List (Key × α)} (h : Rising m) {k : Key} {v u : α} (hg : kget m k = some u) : ksum f (kset m k v) = f v + ksum f (kdel m k) := by
  have h1 := ksum_del f (h.set k v) (kget_set_self h v hg)
  have h2 : kdel (kset m k v) k = kdel m k := by
    unfold kdel kset
    rw [List.filter_map]
    have : ((fun p : Key × α => !(p.1 == k)) ∘ fun p => if p.1 == k then (p.1, v) else p) = fun p => !(p.1 == k) := by
      funext p
      simp only [Function.comp_apply]
      split <;> rfl
    rw [this]
    refine Eq.trans (List.map_congr_left (g := id) ?_) (List.map_id _)
    intro p hp
    have := (List.mem_filter.1 hp).2
    simp at this
    simp [this]
  rw [h1, h2]
end
theorem Dr.used_eq (d : Dr) : d.used = (ksum (fun f : File => f.all.length) d.files : Nat) := rfl
end Go.Proofs.YtbjimikppdfmgaaDoor
