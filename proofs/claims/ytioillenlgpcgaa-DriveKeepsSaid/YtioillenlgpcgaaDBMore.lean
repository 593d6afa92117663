/- What is told of both drives; what a drive tells of its own names. -/
import Derived.Test.YtioillenlgpcgaaDFine
set_option linter.unusedVariables false
set_option linter.unusedSimpArgs false
set_option maxRecDepth 100000
namespace Go.Proofs.Ytioillenlgpcgaa
open Go.RowKit

@[go_sem] theorem leq_S (t : TypeId) (a b : List UInt8) : binOp .leq t (.string (S a)) (.string (S b)) = pure (.bool (bytesBefore a b || a == b)) := by
  rw [← less_before, ← S_list a, ← S_list b, S_list a, S_list b]
  show Op.stringOp .leq (S a) (S b) = _
  unfold Op.stringOp
  rw [S_list, S_list]
section
variable {w0 W : World} {g r N : Nat} {d e : Dr} {X : List Xc}
theorem DB.listD (h : DB w0 g r d e N X W) (pre : List UInt8) : Calls Try.prog 19 #[.pointer (some ⟨g, 0, none⟩), .string (S pre)] W (ListPost W d pre) := by
  obtain ⟨fp, fq, h1, h2, h3, h4, h5, h6, h7, h8, h9⟩ := h
  exact drive_List h1 h4 pre
theorem DB.readD (h : DB w0 g r d e N X W) (hN : N ≤ 1000000000) (name : Key) (hl : name.length ≤ 1000000) : Calls Try.prog 16 #[.pointer (some ⟨g, 0, none⟩), .string (S name)] W (ReadPost W d name) := by
  obtain ⟨fp, fq, h1, h2, h3, h4, h5, h6, h7, h8, h9⟩ := h
  exact drive_Read h1 h4 hN name hl
theorem DB.readR (h : DB w0 g r d e N X W) (hN : N ≤ 1000000000) (name : Key) : Calls Try.prog 54 #[.pointer (some ⟨r, 0, none⟩), .string (S name)] W fun x w' => x = .returned (.tuple #[.string (S (e.read name)), .int .i64 (e.readE name)]) ∧ Below W.heap.size W w' := by
  obtain ⟨fp, fq, h1, h2, h3, h4, h5, h6, h7, h8, h9⟩ := h
  exact ref_Read h2 h5 hN name
theorem DB.usedR (h : DB w0 g r d e N X W) (hN : N ≤ 1000000000) : Calls Try.prog 52 #[.pointer (some ⟨r, 0, none⟩)] W fun x w' => x = .returned (.int .i64 e.used) ∧ Below W.heap.size W w' := by
  obtain ⟨fp, fq, h1, h2, h3, h4, h5, h6, h7, h8, h9⟩ := h
  exact ref_Used h2 h5 hN
theorem DB.aliveD (h : DB w0 g r d e N X W) : Calls Try.prog 13 #[.pointer (some ⟨g, 0, none⟩)] W fun x w' => x = .returned (.bool (!d.down)) ∧ w' = W := by
  obtain ⟨fp, fq, h1, h2, h3, h4, h5, h6, h7, h8, h9⟩ := h
  exact drive_Alive h1
end
theorem live_list {d : Dr} (h : d.down = false) : d.list [] = d.files.map (·.1) := by
  unfold Dr.list
  rw [h]
  simp [hasP]
theorem live_read {d : Dr} {N : Nat} (hok : d.Ok N) (h : d.down = false) {k : Nat} (hk : k < d.files.length) : d.readE d.files[k].1 = 0 ∧ d.read d.files[k].1 = d.files[k].2.all := by
  have hg : kget d.files d.files[k].1 = some d.files[k].2 := kget_of_mem hok.rising (List.getElem_mem hk)
  have h0 : d.readE d.files[k].1 = 0 := by unfold Dr.readE Dr.thereE; rw [h, hg]; rfl
  refine ⟨h0, ?_⟩
  unfold Dr.read fileOf
  rw [if_pos h0, hg]
  rfl
theorem name_len {d : Dr} {N : Nat} (hok : d.Ok N) {k : Nat} (hk : k < d.files.length) : d.files[k].1.length ≤ 60 := by
  have h := hok.keys _ (List.getElem_mem hk)
  unfold namedB at h
  simp only [Bool.and_eq_true, decide_eq_true_eq] at h
  exact h.2
theorem name_rise {d : Dr} {N : Nat} (hok : d.Ok N) {k : Nat} (hk : k + 1 < d.files.length) : bytesBefore d.files[k + 1].1 d.files[k].1 = false ∧ (d.files[k + 1].1 == d.files[k].1) = false := by
  have h := (List.pairwise_iff_getElem.1 hok.rising) k (k + 1) (by omega) hk (by omega)
  have hne : d.files[k + 1].1 ≠ d.files[k].1 := fun he => by
    rw [he, Go.WideAt.bytes_irrefl] at h
    cases h
  refine ⟨?_, by simpa using hne⟩
  cases hb : bytesBefore d.files[k + 1].1 d.files[k].1 with
  | false => rfl
  | true => exact absurd (List.lt_asymm (before_lt _ _ h) (before_lt _ _ hb)) id
theorem ksum_step (m : List (Key × File)) {k : Nat} (h : k < m.length) : ksum (fun f : File => f.all.length) (m.take (k + 1)) = ksum (fun f : File => f.all.length) (m.take k) + m[k].2.all.length := by
  rw [take_snoc m h]
  simp only [ksum, List.map_append, List.sum_append, List.map_cons, List.map_nil, List.sum_cons, List.sum_nil, Nat.add_zero]
theorem strs_at {w : World} {base : Nat} {A : Option Addr} {c : Nat} {ls : List (List UInt8)} (h : w.ownsRow base 9 1 (.slice A ls.length c) ls.length (ls.map fun x => Value.string (S x))) :
    ∀ j, (hj : j < ls.length) → ∃ b, A = some ⟨b, 0, none⟩ ∧ b < w.heap.size ∧ w.cell? ⟨b, j, none⟩ = some (.string (S ls[j])) := by
  intro j hj
  have hrow := h
  rcases h.2 with ⟨h1, h2⟩ | ⟨g, cap, cur, h1, hb, hh, _⟩
  · omega
  · simp only [Value.slice.injEq] at h1
    obtain ⟨rfl, _, rfl⟩ := h1
    refine ⟨g, rfl, (Array.getElem?_eq_some_iff.1 hh).1, ?_⟩
    rw [hrow.cellAt j (by omega)]
    simp [List.getElem?_map, List.getElem?_eq_getElem hj]
end Go.Proofs.Ytioillenlgpcgaa
