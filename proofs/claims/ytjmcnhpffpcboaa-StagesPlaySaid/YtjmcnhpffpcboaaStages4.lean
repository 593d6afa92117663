/- Walk of (*Journal).Move. -/
import Derived.Test.YtjmcnhpffpcboaaStages3
import Derived.Test.YtjmcnhpffpcboaaDrive8
import Derived.Test.YtjmcnhpffpcboaaDrive9
import Derived.Test.YtjmcnhpffpcboaaDrive13
import Derived.Test.YtjmcnhpffpcboaaDrive16
import Derived.Lib.AtoiErrMem
import Derived.Lib.ConvBytes
set_option linter.unusedVariables false
set_option linter.unusedSimpArgs false
set_option maxHeartbeats 3200000
set_option maxRecDepth 100000
attribute [local go_sem ↓] Go.wp_at_zero Go.wp_at_succ
namespace Go.Proofs.Ytjmcnhpffpcboaa
open Go.RowKit

/-- []byte(s). -/
theorem conv_run (W : World) (l : List UInt8) : (convert 9 47 (.string (S l))).run Try.prog W = .ok (.slice (some ⟨W.heap.size, 0, none⟩) l.length (grownCap W l.length 0 5)) (Lib.bytesWorld W 5 (S l)) := by
  have := Lib.run_convert_string_bytes (P := Try.prog) W 9 47 5 (S l) (u := .string) (by kernel_rfl) (by kernel_rfl) (by kernel_rfl)
  rw [S_size] at this
  exact this
theorem conv_at (W : World) (l : List UInt8) : BytesAt (Lib.bytesWorld W 5 (S l)) (some ⟨W.heap.size, 0, none⟩) l := fun h0 => by
  refine ⟨W.heap.size, 0, rfl, by rw [Lib.bytesWorld_size]; omega, fun i hi => ?_⟩
  rw [Nat.zero_add, Lib.bytesWorld_cell W _ _ i (by rw [S_size]; exact hi)]
  simp [S_toList, B8, List.getD_eq_getElem?_getD, List.getElem?_eq_getElem hi]
theorem conv_below (W : World) (l : List UInt8) : Below W.heap.size W (Lib.bytesWorld W 5 (S l)) := Lib.bytesWorld_below _ _ _

def moveC (d : Dr) : Dr × Int := if (d.create tempK).2 = 11 then (if ((d.create tempK).1.remove tempK).2 = 0 then ((d.create tempK).1.remove tempK).1.create tempK else (d.create tempK).1.remove tempK) else d.create tempK
def moveA (d : Dr) (n : Int) : Dr × Int := if (moveC d).2 = 0 then (moveC d).1.append tempK (decI n ++ [10]) else moveC d
def moveS (d : Dr) (n : Int) : Dr × Int := if (moveA d n).2 = 0 then (moveA d n).1.sync tempK else moveA d n
def moveD (d : Dr) (n : Int) : Dr × Int := if (moveS d n).2 = 0 then (moveS d n).1.rename tempK stageK else moveS d n
/-- What a move does to a drive, and what it tells. -/
def moveR (d : Dr) (at_ n : Int) : Dr × Int := if d.down then (d, 13) else if mayB at_ n then moveD d n else (d, 16)

theorem moveC_ok {N : Nat} {d : Dr} (h : d.Ok N) : (moveC d).1.Ok N := by
  unfold moveC
  split
  · split
    · exact ((h.create _).remove _).create _
    · exact (h.create _).remove _
  · exact h.create _
theorem moveA_ok {N : Nat} {d : Dr} (h : d.Ok N) (n : Int) : (moveA d n).1.Ok (N + 1) := by
  unfold moveA
  split
  · exact (moveC_ok h).append _ _
  · exact (moveC_ok h).more (by omega)
theorem moveS_ok {N : Nat} {d : Dr} (h : d.Ok N) (n : Int) : (moveS d n).1.Ok (N + 1) := by
  unfold moveS
  split
  · exact (moveA_ok h n).sync _
  · exact moveA_ok h n
theorem moveR_ok {N : Nat} {d : Dr} (h : d.Ok N) (a n : Int) : (moveR d a n).1.Ok (N + 1) := by
  unfold moveR
  split
  · exact h.more (by omega)
  · split
    · unfold moveD
      split
      · exact (moveS_ok h n).rename _ _
      · exact moveS_ok h n
    · exact h.more (by omega)

/-- Behind some steps of a move: the drive is d, the journal as it was. -/
structure St (w0 : World) (fp0 : Nat → Prop) (j g : Nat) (n : Int) (W : World) (d : Dr) (fp : Nat → Prop) : Prop where
  dr : IsDrive W g d fp
  jo : IsJ W j g n
  nf : ¬ fp j
  lt : j < W.heap.size
  tch : Touch w0 W fp0 fp
theorem St.next {w0 W W' : World} {fp0 fp : Nat → Prop} {j g : Nat} {n : Int} {d d' : Dr} (h : St w0 fp0 j g n W d fp) (ht : Then W g d' fp W') : ∃ fp', St w0 fp0 j g n W' d' fp' := by
  obtain ⟨fp', h1, h2⟩ := ht
  refine ⟨fp', h1, (h2.block j h.lt h.nf).trans h.jo, fun hk => ?_, Nat.lt_of_lt_of_le h.lt h2.size, h.tch.trans h2⟩
  rcases h2.new j hk with h3 | h3
  · exact h.nf h3
  · have := h.lt; omega
theorem St.below {w0 W W' : World} {fp0 fp : Nat → Prop} {j g : Nat} {n : Int} {d : Dr} (h : St w0 fp0 j g n W d fp) (hb : Below W.heap.size W W') : St w0 fp0 j g n W' d fp :=
  ⟨h.dr.below hb, (hb.block j h.lt).trans h.jo, h.nf, Nat.lt_of_lt_of_le h.lt hb.size, h.tch.trans (Touch.of_below hb fp)⟩

/-- A move, whole. -/
def MovePost (w : World) (fp : Nat → Prop) (j g : Nat) (d : Dr) (at_ n : Int) (e : Ending) (w' : World) : Prop :=
  e = .returned (.int .i64 (moveR d at_ n).2) ∧ ∃ fp', IsDrive w' g (moveR d at_ n).1 fp' ∧ IsJ w' j g (if (moveR d at_ n).2 = 0 then n else at_) ∧ ¬ fp' j ∧ Touch w w' (fun k => fp k ∨ k = j) (fun k => fp' k ∨ k = j)

theorem Touch.wide {w w' : World} {fp fp' : Nat → Prop} (h : Touch w w' fp fp') (j : Nat) : Touch w w' (fun k => fp k ∨ k = j) (fun k => fp' k ∨ k = j) :=
  ⟨h.os, h.tape, h.output, h.size, fun k hk hn => h.block k hk (fun hf => hn (.inl hf)), fun k hk => by
    rcases hk with hk | hk
    · rcases h.new k hk with h1 | h1
      · exact .inl (.inl h1)
      · exact .inr h1
    · exact .inl (.inr hk)⟩

theorem St.stay {w W : World} {fp0 fp : Nat → Prop} {j g : Nat} {a n : Int} {d d' : Dr} {e : Int} (h : St w fp0 j g a W d' fp) (hm : moveR d a n = (d', e)) (he : e ≠ 0) : MovePost w fp0 j g d a n (.returned (.int .i64 e)) W := by
  refine ⟨by rw [hm], fp, by rw [hm]; exact h.dr, ?_, h.nf, h.tch.wide j⟩
  rw [hm, if_neg he]
  exact h.jo
theorem St.moved {w W : World} {fp0 fp : Nat → Prop} {j g : Nat} {a n : Int} {d d' : Dr} (h : St w fp0 j g a W d' fp) (hm : moveR d a n = (d', 0)) : MovePost w fp0 j g d a n (.returned (.int .i64 0)) (W.setCell ⟨j, 1, none⟩ (.int .i64 n)) := by
  refine ⟨by rw [hm], fp, ?_, ?_, h.nf, ?_⟩
  · rw [hm]
    exact h.dr.keep (by rw [set_size]; exact Nat.le_refl _) fun k hk => set_other _ _ _ _ k (by rintro rfl; exact h.nf hk)
  · rw [hm, if_pos rfl]
    exact (show Blk W j _ _ from h.jo).set_ 1 (.int .i64 n)
  · exact (h.tch.wide j).trans (Touch.setCell _ _ (p := ⟨j, 1, none⟩) (.inr rfl) _)
end Go.Proofs.Ytjmcnhpffpcboaa
