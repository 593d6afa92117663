/- Finite maps as lists by their keys, and what a Go map from texts to pointers is good for. -/
import Derived.Test.YtbjimikppdfmgaaDoorBase
import Derived.Maps.Own
import Derived.Maps.OwnSet
import Derived.Maps.Views
import Derived.StringKeys
set_option linter.unusedVariables false
set_option linter.unusedSimpArgs false
namespace Go.Proofs.YtbjimikppdfmgaaDoor
open Go.RowKit Go.WideMaps Go.ChangeMaps

abbrev Key := List UInt8
section
variable {α β : Type}
def kins (k : Key) (v : α) : List (Key × α) → List (Key × α)
  | [] => [(k, v)]
  | y :: r => if bytesBefore k y.1 then (k, v) :: y :: r else y :: kins k v r
def kdel (m : List (Key × α)) (k : Key) : List (Key × α) := m.filter fun p => !(p.1 == k)
def kput (m : List (Key × α)) (k : Key) (v : α) : List (Key × α) := kins k v (kdel m k)
def kset (m : List (Key × α)) (k : Key) (v : α) : List (Key × α) := m.map fun p => if p.1 == k then (p.1, v) else p
def kget (m : List (Key × α)) (k : Key) : Option α := (m.find? fun p => p.1 == k).map (·.2)

def kmap (f : α → β) (m : List (Key × α)) : List (Key × β) := m.map fun p => (p.1, f p.2)
theorem kmap_ins (f : α → β) (k : Key) (v : α) (m : List (Key × α)) : kmap f (kins k v m) = kins k (f v) (kmap f m) := by
  induction m with
  | nil => rfl
  | cons y r ih =>
    simp only [kmap, List.map_cons, kins] at *
    split
    · simp
    · simp [ih]
theorem kmap_del (f : α → β) (k : Key) (m : List (Key × α)) : kmap f (kdel m k) = kdel (kmap f m) k := by
  simp [kmap, kdel, List.filter_map, Function.comp_def]
theorem kmap_put (f : α → β) (k : Key) (v : α) (m : List (Key × α)) : kmap f (kput m k v) = kput (kmap f m) k (f v) := by
  rw [kput, kmap_ins, kmap_del, kput]
theorem kmap_set (f : α → β) (k : Key) (v : α) (m : List (Key × α)) : kmap f (kset m k v) = kset (kmap f m) k (f v) := by
  simp only [kmap, kset, List.map_map]
  apply List.map_congr_left
  intro p _
  simp only [Function.comp_def]
  split <;> rfl
theorem kget_map (f : α → β) (k : Key) (m : List (Key × α)) : kget (kmap f m) k = (kget m k).map f := by
  simp only [kget, kmap, List.find?_map, Option.map_map, Function.comp_def]
theorem kget_some {m : List (Key × α)} {k : Key} {v : α} (h : kget m k = some v) : (k, v) ∈ m := by
  simp only [kget, Option.map_eq_some_iff] at h
  obtain ⟨p, hp, rfl⟩ := h
  have h1 := List.find?_some hp
  simp only [beq_iff_eq] at h1
  subst h1
  exact List.mem_of_find?_eq_some hp
theorem mem_kins {k : Key} {v : α} {m : List (Key × α)} {p : Key × α} : p ∈ kins k v m ↔ p = (k, v) ∨ p ∈ m := by
  induction m with
  | nil => simp [kins]
  | cons y r ih =>
    unfold kins
    split
    · simp
    · simp only [List.mem_cons, ih]
      constructor
      · rintro (h | h | h)
        · exact .inr (.inl h)
        · exact .inl h
        · exact .inr (.inr h)
      · rintro (h | h | h)
        · exact .inr (.inl h)
        · exact .inl h
        · exact .inr (.inr h)
theorem mem_kdel {k : Key} {m : List (Key × α)} {p : Key × α} : p ∈ kdel m k ↔ p ∈ m ∧ p.1 ≠ k := by
  simp [kdel, List.mem_filter]
theorem mem_kput {k : Key} {v : α} {m : List (Key × α)} {p : Key × α} : p ∈ kput m k v ↔ p = (k, v) ∨ (p ∈ m ∧ p.1 ≠ k) := by
  rw [kput, mem_kins, mem_kdel]
theorem pairwise_kins {R : Key × α → Key × α → Prop} (hs : ∀ a b, R a b → R b a) {k : Key} {v : α} {m : List (Key × α)} (h : m.Pairwise R) (hn : ∀ p ∈ m, R (k, v) p) : (kins k v m).Pairwise R := by
  induction m with
  | nil => simp [kins]
  | cons y r ih =>
    unfold kins
    rw [List.pairwise_cons] at h
    split
    · rw [List.pairwise_cons, List.pairwise_cons]
      exact ⟨hn, h⟩
    · rw [List.pairwise_cons]
      refine ⟨fun p hp => ?_, ih h.2 (fun p hp => hn p (by simp [hp]))⟩
      rcases mem_kins.1 hp with rfl | hp
      · exact hs _ _ (hn y (by simp))
      · exact h.1 p hp
theorem pairwise_kput {R : Key × α → Key × α → Prop} (hs : ∀ a b, R a b → R b a) {k : Key} {v : α} {m : List (Key × α)} (h : m.Pairwise R) (hn : ∀ p ∈ m, p.1 ≠ k → R (k, v) p) : (kput m k v).Pairwise R :=
  pairwise_kins hs (h.filter _) fun p hp => hn p (mem_kdel.1 hp).1 (mem_kdel.1 hp).2
theorem length_kins (k : Key) (v : α) (m : List (Key × α)) : (kins k v m).length = m.length + 1 := by
  induction m with
  | nil => rfl
  | cons y r ih => unfold kins; split <;> simp [ih]
theorem length_kput_le (k : Key) (v : α) (m : List (Key × α)) : (kput m k v).length ≤ m.length + 1 := by
  rw [kput, length_kins]
  have := List.length_filter_le (fun p : Key × α => !(p.1 == k)) m
  unfold kdel; omega
theorem length_kset (k : Key) (v : α) (m : List (Key × α)) : (kset m k v).length = m.length := by simp [kset]
end

/-! ### the map in memory -/
/-- How a pointer reads: the number of its block. -/
def Rp (v : Value) : Option (DataW Unit × List MemPlace) :=
  match v with
  | .pointer none => some (.nil, [])
  | .pointer (some ⟨b, 0, none⟩) => some (.lit (.int .u64 b), [])
  | _ => none
def ptrOf : Option Nat → Value
  | none => .pointer none
  | some b => .pointer (some ⟨b, 0, none⟩)
theorem Rp_ptr (b : Nat) : Rp (.pointer (some ⟨b, 0, none⟩)) = some (.lit (.int .u64 b), []) := rfl
theorem Rp_inv {v : Value} {d : DataW Unit} {ps : List MemPlace} (h : Rp v = some (d, ps)) : (v = .pointer none ∧ d = .nil) ∨ ∃ b : Nat, v = .pointer (some ⟨b, 0, none⟩) ∧ d = .lit (.int .u64 b) := by
  unfold Rp at h
  split at h
  · simp at h; exact .inl ⟨rfl, h.1.symm⟩
  · simp at h; exact .inr ⟨_, rfl, h.1.symm⟩
  · cases h
def mapD (m : List (Key × Nat)) : DataW Unit := .map (m.map fun p => (.string p.1, .lit (.int .u64 p.2)))
theorem mapD_nil : mapD [] = .map [] := rfl
theorem insert_map (k : Key) (b : Nat) (m : List (Key × Nat)) : DataW.insert ((.string k, .lit (.int .u64 b)) : Lit × DataW Unit) (m.map fun p => (.string p.1, .lit (.int .u64 p.2))) = (kins k b m).map fun p => (.string p.1, .lit (.int .u64 p.2)) := by
  induction m with
  | nil => rfl
  | cons y r ih =>
    rw [List.map_cons]
    unfold DataW.insert kins
    by_cases h : bytesBefore k y.1 = true
    · rw [if_pos (show ((Lit.string k).before (Lit.string y.1)) = true from h), if_pos h]; rfl
    · rw [if_neg (show ¬ ((Lit.string k).before (Lit.string y.1)) = true from h), if_neg h, ih]; rfl
theorem mapD_del (m : List (Key × Nat)) (k : Key) : (mapD m).del (.string k) = mapD (kdel m k) := by
  simp [mapD, DataW.del, kdel, List.filter_map, Function.comp_def, Lit.sameKey]
theorem mapD_put (m : List (Key × Nat)) (k : Key) (b : Nat) : (mapD m).put (.string k) (.lit (.int .u64 b)) = mapD (kput m k b) := by
  have h := mapD_del m k
  simp only [mapD, DataW.del, DataW.map.injEq] at h
  simp only [mapD, DataW.put, h]
  rw [insert_map, kput]
theorem mapD_at (m : List (Key × Nat)) (k : Key) : (mapD m).atKey (.string k) .nil = match kget m k with | some b => .lit (.int .u64 b) | none => .nil := by
  simp only [mapD, DataW.atKey, kget, List.find?_map, Function.comp_def, Lit.sameKey]
  cases h : m.find? fun p => p.1 == k <;> simp [h]
theorem mapD_size (m : List (Key × Nat)) : Maps.size (mapD m) = m.length := by simp [mapD, Maps.size]

/-- Block b is a map from texts to pointers, whose keys lead to these blocks. -/
def OwnM (P : Program) (k : TypeId) (w : World) (b : Nat) (m : List (Key × Nat)) : Prop := w.ownsMap P k Rp b m.length (mapD m)
section
variable {P : Program} {k t e : TypeId} {w : World} {b : Nat} {m : List (Key × Nat)}
theorem OwnM.made (w : World) : OwnM P k (w.alloc (.map #[] 0)) w.heap.size [] := World.ownsMap_made w P k Rp
theorem OwnM.tight {n : Nat} (h : w.ownsMap P k Rp b n (mapD m)) : OwnM P k w b m := by
  obtain ⟨es, clock, hb, F, hs, hD⟩ := h
  refine ⟨es, clock, hb, F, ?_, hD⟩
  have h1 := congrArg Maps.size hD
  rw [mapD_size, Maps.size_eq, length_read] at h1
  omega
theorem OwnM.kept {w' : World} (h : OwnM P k w b m) (hb : w'.heap[b]? = w.heap[b]?) : OwnM P k w' b m := by
  obtain ⟨es, clock, hb', F, hs, hD⟩ := h
  exact ⟨es, clock, hb.trans hb', F, hs, hD⟩
theorem OwnM.isMap (h : OwnM P k w b m) : ∃ es clock, w.heap[b]? = some (.map es clock) := by
  obtain ⟨es, clock, hb, _⟩ := h
  exact ⟨es, clock, hb⟩
theorem key_of (hk : P.underlying k = some .string) (key : Key) (hl : key.length ≤ 1000000) : keyOf P k (.string (S key)) = some (.string key) := by
  rw [keyOf_string_mk hk (by rw [S_size]; unfold maxLen; omega)]; rfl
theorem OwnM.look (h : OwnM P k w b m) (hk : P.underlying k = some .string) (ht : P.underlying t = some (.map k e)) (hz : (zeroValue e).run P w = .ok (.pointer none) w) (key : Key) (hl : key.length ≤ 1000000) :
    (Instr.lookup t (.map (some b)) (.string (S key)) false).run P w = .ok (ptrOf (kget m key)) w := by
  obtain ⟨v, ps, hrun, hv⟩ := World.ownsMap.lookup h (Maps.string_keyed hk) ht hz (zd := .nil) (zp := []) rfl (key_of hk key hl)
  rw [mapD_at] at hv
  rw [hrun]
  congr 1
  rcases Rp_inv hv with ⟨rfl, hd⟩ | ⟨c, rfl, hd⟩
  · cases hg : kget m key with
    | none => rfl
    | some x => rw [hg] at hd; cases hd
  · cases hg : kget m key with
    | none => rw [hg] at hd; cases hd
    | some x =>
      rw [hg] at hd
      simp only [DataW.lit.injEq, Lit.int.injEq, true_and] at hd
      obtain rfl : x = c := by omega
      rfl
theorem OwnM.put (h : OwnM P k w b m) (hk : P.underlying k = some .string) (ht : P.underlying t = some (.map k e)) (hn : m.length < 9223372036854775807) (key : Key) (hl : key.length ≤ 1000000) (c : Nat) :
    ∃ w', (Instr.mapUpdate t (.map (some b)) (.string (S key)) (.pointer (some ⟨c, 0, none⟩))).run P w = .ok () w' ∧ OwnM P k w' b (kput m key c) ∧ w.grownBy w' (some b) := by
  obtain ⟨w', hrun, hown, hg⟩ := World.ownsMap.update h (Maps.string_keyed hk) ht (by unfold maxLen; omega) (val := .pointer (some ⟨c, 0, none⟩)) (key_of hk key hl) (Rp_ptr c)
  rw [mapD_put] at hown
  exact ⟨w', hrun, OwnM.tight hown, hg⟩
end
end Go.Proofs.YtbjimikppdfmgaaDoor
