/-
  Walk of tls.Leaf.
-/
import Derived.Test.YtiabfngiibabcaaGreatDoorTl3
set_option linter.unusedVariables false
set_option linter.unusedSimpArgs false
set_option maxHeartbeats 6400000
set_option maxRecDepth 100000
namespace Go.Proofs.YtiabfngiibabcaaGreatDoor
open Go.RowKit

/-- A literal of bytes is a row. -/
theorem row_lit (w : World) (l : List UInt8) (cs : Array Value) (hcs : cs = (l.map B8).toArray) (hl : l.length ≤ 1000000) (h0 : 0 < l.length) : (w.alloc (.cells cs 5)).ownsRow w.heap.size 5 1 (.slice (some ⟨w.heap.size, 0, none⟩) l.length l.length) l.length (l.map B8) := by
  subst hcs
  refine ⟨by simp, .inr ⟨w.heap.size, l.length, (l.map B8).toArray, rfl, Nat.le_refl _, heap_alloc_new w _, Nat.le_refl _, by unfold maxLen; omega, by simp, by rw [Nat.mul_one]; exact List.take_of_length_le (by simp)⟩⟩
def LeafPost (x : Lf) (w : World) (e : Ending) (w' : World) : Prop :=
  (okL x = true ∧ ∃ A c, e = .returned (.tuple #[.slice A (leafB x).length c, .int .i64 0]) ∧ w'.ownsRow w.heap.size 5 1 (.slice A (leafB x).length c) (leafB x).length ((leafB x).map B8) ∧ Below w.heap.size w w') ∨
  (okL x = false ∧ e = .returned (.tuple #[.slice none 0 0, .int .i64 1]) ∧ Below w.heap.size w w')
theorem tls_Leaf (x : Lf) (w : World) (hl : x.cert.length ≤ 1000000) : Calls Tryz.prog 40 #[leafV x] w (LeafPost x w) := by
  have b1 : Below w.heap.size w (w.alloc (.cells #[.int .i64 x.time, .string (S x.cert)] 30)) := (Below.refl _ _).alloc (Nat.le_refl _) _
  obtain ⟨w1, HW1⟩ : ∃ w1, Hid (w1 = w.alloc (.cells #[.int .i64 x.time, .string (S x.cert)] 30)) := ⟨_, rfl⟩
  have hB1 : Blk w1 w.heap.size 30 #[.int .i64 x.time, .string (S x.cert)] := by rw [HW1.out]; exact Blk.new _ _ _
  rw [← HW1.out] at b1
  have MY := hid (tls_may x w1 hl)
  have HB1 := hid (And.intro b1 hB1)
  have k0 : w1.cell? ⟨w.heap.size, 0, none⟩ = some (.int .i64 x.time) := hB1.cell 0
  have k1 : w1.cell? ⟨w.heap.size, 1, none⟩ = some (.string (S x.cert)) := hB1.cell 1
  clear b1 hB1
  cases hok : okL x with
  | false =>
    rw [hok] at MY
    have HF := hid hok
    clear hok
    obtain ⟨t, ce⟩ := x
    simp only [leafV] at *
    go_enter Tryz.func40, Tryz.ntmps40
    go_wp2_with fail
    rw [← HW1.out]
    go_wp2_with fail
    refine MY.out.mono ?_
    rintro e w2 ⟨rfl, hb2⟩
    have HB2 := hid (bt HB1.out.1 hb2)
    clear hb2
    go_wp2
    go_ret2
    exact .inr ⟨HF.out, rfl, HB2.out⟩
  | true =>
    rw [hok] at MY
    have HF := hid hok
    obtain ⟨⟨t1, t2⟩, -, c1⟩ := okL_of hok
    clear hok
    obtain ⟨t, ce⟩ := x
    simp only [leafV] at *
    obtain ⟨tn, rfl⟩ : ∃ tn : Nat, t = tn := ⟨t.toNat, by omega⟩
    go_enter Tryz.func40, Tryz.ntmps40
    go_wp2_with fail
    rw [← HW1.out]
    go_wp2_with fail
    refine MY.out.mono ?_
    rintro e w2 ⟨rfl, hb2⟩
    have hb2' := bt HB1.out.1 hb2
    have hlt2 : w.heap.size < w2.heap.size := Nat.lt_of_lt_of_le HB1.out.2.lt hb2.size
    have q0 := (hb2.cell (p := ⟨w.heap.size, 0, none⟩) HB1.out.2.lt).trans k0
    have q1 := (hb2.cell (p := ⟨w.heap.size, 1, none⟩) HB1.out.2.lt).trans k1
    have b3 : Below w2.heap.size w2 (w2.alloc (.cells #[.int .u8 0, .int .u8 0] 5)) := (Below.refl _ _).alloc (Nat.le_refl _) _
    have BD := tls_body (w2.alloc (.cells #[.int .u8 0, .int .u8 0] 5)) w2.heap.size (some ⟨w2.heap.size, 0, none⟩) 2 2 [0, 0] tn ce (row_lit w2 [0, 0] _ rfl (by simp) (by simp)) b3.size (by omega) (by omega) (by omega)
    have hE : [0, 0] ++ (hiB tn 8 ++ (hiB 0 2 ++ (hiB ce.length 3 ++ (ce ++ hiB 0 2)))) = leafB ⟨tn, ce⟩ := by unfold leafB; simp
    have hLn : 2 + 15 + ce.length = (leafB ⟨tn, ce⟩).length := by rw [leafB_len]
    rw [hE, hLn] at BD
    have BDH := hid BD
    have HB3 := hid (And.intro hb2' b3)
    clear BD hE hLn hb2 hb2' b3
    obtain ⟨lb, HLB⟩ : ∃ lb, Hid (leafB ⟨tn, ce⟩ = lb) := ⟨_, rfl⟩
    rw [HLB.out] at BDH
    unfold leafV at BDH
    simp only [] at BDH
    go_wp2_with (go_at_call 96; refine BDH.out.mono ?_; rintro e w4 ⟨A4, c4, rfl, hr4, hb4⟩)
    have HR := hid (row_base hr4 HB3.out.1.size)
    have HBF := hid ((HB3.out.1.trans ((HB3.out.2.mono HB3.out.1.size).trans (hb4.mono HB3.out.1.size))))
    clear hr4 hb4
    go_ret2
    refine .inl ⟨HF.out, A4, c4, ?_, ?_, HBF.out⟩
    · rw [HLB.out]; rfl
    · rw [HLB.out]; exact HR.out
end Go.Proofs.YtiabfngiibabcaaGreatDoor
