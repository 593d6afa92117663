/- Texts of bytes and back. -/
import Derived.Test.YtjmcnhpffpcboaaBytes
import Derived.Lib.ConvBytes
import Derived.Lib.AtoiErrMem
set_option linter.unusedVariables false
set_option linter.unusedSimpArgs false
set_option maxHeartbeats 1600000
set_option maxRecDepth 100000
namespace Go.Proofs.Ytjmcnhpffpcboaa
open Go.RowKit

theorem S_ne {a b : List UInt8} (h : a ≠ b) : (S a == S b) = false := by
  show (a.toArray == b.toArray) = false
  rw [beq_eq_false_iff_ne]
  exact fun e => h (by simpa using e)

/-- string(b), b a row of bytes. -/
theorem run_string_row (w : World) {base : Nat} {A : Option Addr} {c n : Nat} {l : List UInt8} (h : w.ownsRow base 5 1 (.slice A n c) l.length (l.map B8)) : (convert 47 9 (.slice A n c)).run Try.prog w = .ok (.string (S l)) w := by
  have hB := bytesAt_row h
  rcases h.2 with ⟨h1, h2⟩ | ⟨g, cap, cur, hv, hb, hh, r⟩
  · simp only [Value.slice.injEq] at h1
    obtain ⟨rfl, rfl, rfl⟩ := h1
    have hl : l = [] := List.eq_nil_of_length_eq_zero h2
    subst hl
    have h1 : (Try.prog).underlying 47 = some (.slice 5) := by kernel_rfl
    have h2 : (Try.prog).underlying 9 = some .string := by kernel_rfl
    have h3 : (Try.prog).underlying 5 = some (.int .u8) := by kernel_rfl
    simp [convert, run_underlying h1, run_underlying h2, run_underlying h3, Result.andThen, go_sem]
    try rfl
  · simp only [Value.slice.injEq] at hv
    obtain ⟨rfl, rfl, rfl⟩ := hv
    refine run_string_of w 47 5 (by kernel_rfl) (by kernel_rfl) g 0 _ c l rfl (fun i hi => ?_) 9 (by kernel_rfl)
    have := h.cellAt i (by omega)
    rw [Nat.zero_add, this]
    simp [List.getElem?_map, List.getElem?_eq_getElem hi]

/-- []byte(s). -/
theorem conv_run (W : World) (l : List UInt8) : (convert 9 47 (.string (S l))).run Try.prog W = .ok (.slice (some ⟨W.heap.size, 0, none⟩) l.length (grownCap W l.length 0 5)) (Lib.bytesWorld W 5 (S l)) := by
  have := Lib.run_convert_string_bytes (P := Try.prog) W 9 47 5 (S l) (u := .string) (by kernel_rfl) (by kernel_rfl) (by kernel_rfl)
  rw [S_size] at this
  exact this
theorem conv_at (W : World) (l : List UInt8) : BytesAt (Lib.bytesWorld W 5 (S l)) (some ⟨W.heap.size, 0, none⟩) l := fun h0 => by
  refine ⟨W.heap.size, 0, rfl, by rw [Lib.bytesWorld_size]; omega, fun i hi => ?_⟩
  rw [Nat.zero_add, Lib.bytesWorld_cell W _ _ i (by rw [S_size]; exact hi)]
  simp [S_toList, B8, List.getD_eq_getElem?_getD, List.getElem?_eq_getElem hi]
theorem conv_below (W : World) (l : List UInt8) : Below W.heap.size W (Lib.bytesWorld W 5 (S l)) := Lib.bytesWorld_below _ _ _

end Go.Proofs.Ytjmcnhpffpcboaa
