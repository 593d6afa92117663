/- Slices of bytes: what reads, what is made; texts of bytes and back. -/
import Derived.Test.YtbjimikppdfmgaaDoorChecked
import Derived.Test.YtbjimikppdfmgaaDoorMem
import Derived.Maps.AppendAt
import Derived.Lib.SliceRun
import Derived.Lib.ConvBytes
import Derived.Lib.AtoiErrMem
set_option linter.unusedVariables false
set_option linter.unusedSimpArgs false
set_option maxHeartbeats 1600000
set_option maxRecDepth 100000
namespace Go.Proofs.YtbjimikppdfmgaaDoor
open Go.RowKit

/-- A slice that reads as bytes. -/
def BytesAt (w : World) (A : Option Addr) (l : List UInt8) : Prop :=
  0 < l.length → ∃ b off, A = some ⟨b, off, none⟩ ∧ b < w.heap.size ∧ ∀ i, (h : i < l.length) → w.cell? ⟨b, off + i, none⟩ = some (B8 l[i])
theorem BytesAt.below {w w' : World} {A : Option Addr} {l : List UInt8} (h : BytesAt w A l) (hb : Below w.heap.size w w') : BytesAt w' A l := fun h0 => by
  obtain ⟨b, off, hA, hlt, hc⟩ := h h0
  exact ⟨b, off, hA, Nat.lt_of_lt_of_le hlt hb.size, fun i hi => (hb.cell (p := ⟨b, _, none⟩) hlt).trans (hc i hi)⟩
theorem add_plain' (b off j : Nat) : (⟨b, off, none⟩ : Addr).add j = ⟨b, off + j, none⟩ := by unfold Addr.add; split <;> simp_all
theorem BytesAt.news {w : World} {ad : Addr} {l : List UInt8} (h : BytesAt w (some ad) l) : ∀ j u, (l.map B8)[j]? = some u → w.cell? (ad.add j) = some u := by
  intro j u hu
  have hj : j < l.length := by
    have := (List.getElem?_eq_some_iff.1 hu).1
    simpa using this
  obtain ⟨b, off, hA, _, hc⟩ := h (by omega)
  injection hA with hA
  subst hA
  rw [add_plain', hc j hj]
  simp only [List.getElem?_map, List.getElem?_eq_getElem hj, Option.map_some] at hu
  exact hu
theorem BytesAt.of_none {w : World} {l : List UInt8} (h : BytesAt w none l) : l = [] := by
  rcases Nat.eq_zero_or_pos l.length with h0 | h0
  · exact List.eq_nil_of_length_eq_zero h0
  · obtain ⟨b, off, hA, _⟩ := h h0
    cases hA
/-- An owned row of bytes reads. -/
theorem bytesAt_row {w : World} {base : Nat} {A : Option Addr} {n c : Nat} {l : List UInt8} (h : w.ownsRow base 5 1 (.slice A n c) l.length (l.map B8)) : n = l.length ∧ BytesAt w A l := by
  rcases h.2 with ⟨h1, h2⟩ | ⟨g, cap, cur, hv, hb, hh, hc, hm, hs, ht⟩
  · simp only [Value.slice.injEq] at h1
    exact ⟨by omega, fun h0 => absurd h0 (by omega)⟩
  · simp only [Value.slice.injEq] at hv
    obtain ⟨rfl, rfl, rfl⟩ := hv
    refine ⟨rfl, fun h0 => ⟨g, 0, rfl, (Array.getElem?_eq_some_iff.1 hh).1, fun i hi => ?_⟩⟩
    have := h.cellAt i (by omega)
    rw [Nat.zero_add, this]
    simp [List.getElem?_map, List.getElem?_eq_getElem hi]
theorem B8_one (l : List UInt8) : ∀ u ∈ l.map B8, u.oneCell' = true := by
  intro u hu
  obtain ⟨b, _, rfl⟩ := List.mem_map.1 hu
  rfl

theorem info_u8 : ∃ i, (Tryd.prog).info? 5 = some i ∧ i.zero = some (.int .u8 0) ∧ i.size = 1 ∧ i.bytes = 1 := by
  have h : ((Tryd.prog).info? 5).map (fun i => (i.zero, i.size, i.bytes)) = some (some (.int .u8 0), 1, 1) := by kernel_rfl
  obtain ⟨i, hi, he⟩ := Option.map_eq_some_iff.1 h
  simp only [Prod.mk.injEq] at he
  exact ⟨i, hi, he.1, he.2.1, he.2.2⟩

/-- append(own, bytes...). -/
theorem run_append_bytes (w : World) (base : Nat) (v : Value) (xs l : List UInt8) (hown : w.ownsRow base 5 1 v xs.length (xs.map B8)) (A : Option Addr) (c : Nat) (hl : BytesAt w A l) (hm : xs.length + l.length ≤ 140737488355328) (hbase : base ≤ w.heap.size) (ty : TypeId) :
    ∃ v' w', (Builtin.append_ #[47, 47] ty #[v, .slice A l.length c]).run Tryd.prog w = .ok v' w' ∧ w'.ownsRow base 5 1 v' (xs ++ l).length ((xs ++ l).map B8) ∧ w.grownBy w' v.ownBlock ∧ (v'.ownBlock = v.ownBlock ∨ v'.ownBlock = some w.heap.size) := by
  obtain ⟨i, hi, hz, hs, hb⟩ := info_u8
  cases A with
  | none =>
    have h0 := hl.of_none
    subst h0
    refine ⟨v, w, ?_, by simpa using hown, World.grownBy.refl w _, .inl rfl⟩
    obtain ⟨A', c', rfl⟩ := row_form hown
    simp [Builtin.append_, run_underlying (show (Tryd.prog).underlying 47 = some (.slice 5) by kernel_rfl), sizeOf, typeInfo, hi, Builtin.lenOf, Builtin.firstCells]
    rcases hown.2 with ⟨h1, h2⟩ | ⟨g, cap, cur, hv, hb, hh, hnc, r⟩
    · simp only [Value.slice.injEq] at h1
      obtain ⟨rfl, h1, rfl⟩ := h1
      simp [h1]
    · simp only [Value.slice.injEq] at hv
      obtain ⟨rfl, _, rfl⟩ := hv
      simp [hnc, storeCells]
  | some ad =>
    obtain ⟨v', w', hrun, h2, h3, _, h5⟩ := run_append_own_at (P := Tryd.prog) w base 47 ty 5 i (.int .u8 0) 1 1 (by kernel_rfl) hi hz hs hb rfl (by decide) v xs.length (xs.map B8) hown ad l.length c (l.map B8) (by simp) hl.news (B8_one l) (by unfold maxLen; omega) (by omega) hbase
    exact ⟨v', w', hrun, by simpa using h2, h3, h5⟩

def Made (w : World) (l : List UInt8) (e : Ending) (w' : World) : Prop := ∃ v, e = .returned v ∧ w'.ownsRow w.heap.size 5 1 v l.length (l.map B8) ∧ Below w.heap.size w w'

theorem S_ne {a b : List UInt8} (h : a ≠ b) : (S a == S b) = false := by
  show (a.toArray == b.toArray) = false
  rw [beq_eq_false_iff_ne]
  exact fun e => h (by simpa using e)

theorem S_beq (a b : List UInt8) : (S a == S b) = (a == b) := by
  by_cases h : a = b
  · subst h
    show (a.toArray == a.toArray) = (a == a)
    simp
  · rw [S_ne h]
    simpa using h
/-- string(b), b a row of bytes. -/
theorem run_string_row (w : World) {base : Nat} {A : Option Addr} {c n : Nat} {l : List UInt8} (h : w.ownsRow base 5 1 (.slice A n c) l.length (l.map B8)) : (convert 47 9 (.slice A n c)).run Tryd.prog w = .ok (.string (S l)) w := by
  have hB := bytesAt_row h
  rcases h.2 with ⟨h1, h2⟩ | ⟨g, cap, cur, hv, hb, hh, r⟩
  · simp only [Value.slice.injEq] at h1
    obtain ⟨rfl, rfl, rfl⟩ := h1
    have hl : l = [] := List.eq_nil_of_length_eq_zero h2
    subst hl
    have h1 : (Tryd.prog).underlying 47 = some (.slice 5) := by kernel_rfl
    have h2 : (Tryd.prog).underlying 9 = some .string := by kernel_rfl
    have h3 : (Tryd.prog).underlying 5 = some (.int .u8) := by kernel_rfl
    simp [convert, run_underlying h1, run_underlying h2, run_underlying h3, Result.andThen, go_sem]
    try rfl
  · simp only [Value.slice.injEq] at hv
    obtain ⟨rfl, rfl, rfl⟩ := hv
    refine run_string_of w 47 5 (by kernel_rfl) (by kernel_rfl) g 0 _ c l rfl (fun i hi => ?_) 9 (by kernel_rfl)
    have := h.cellAt i (by omega)
    rw [Nat.zero_add, this]
    simp [List.getElem?_map, List.getElem?_eq_getElem hi]

/-- []byte(s). -/
theorem conv_run (W : World) (l : List UInt8) : (convert 9 47 (.string (S l))).run Tryd.prog W = .ok (.slice (some ⟨W.heap.size, 0, none⟩) l.length (grownCap W l.length 0 5)) (Lib.bytesWorld W 5 (S l)) := by
  have := Lib.run_convert_string_bytes (P := Tryd.prog) W 9 47 5 (S l) (u := .string) (by kernel_rfl) (by kernel_rfl) (by kernel_rfl)
  rw [S_size] at this
  exact this
theorem conv_at (W : World) (l : List UInt8) : BytesAt (Lib.bytesWorld W 5 (S l)) (some ⟨W.heap.size, 0, none⟩) l := fun h0 => by
  refine ⟨W.heap.size, 0, rfl, by rw [Lib.bytesWorld_size]; omega, fun i hi => ?_⟩
  rw [Nat.zero_add, Lib.bytesWorld_cell W _ _ i (by rw [S_size]; exact hi)]
  simp [S_toList, B8, List.getD_eq_getElem?_getD, List.getElem?_eq_getElem hi]
theorem conv_below (W : World) (l : List UInt8) : Below W.heap.size W (Lib.bytesWorld W 5 (S l)) := Lib.bytesWorld_below _ _ _

end Go.Proofs.YtbjimikppdfmgaaDoor
