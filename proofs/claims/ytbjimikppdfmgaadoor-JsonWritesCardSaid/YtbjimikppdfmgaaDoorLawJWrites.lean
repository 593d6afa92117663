/- The law JsonWrites. -/
import Derived.Test.YtbjimikppdfmgaaDoorJsC
import Derived.Test.YtbjimikppdfmgaaDoorJsI
import Derived.Test.YtbjimikppdfmgaaDoorJsRw
import Derived.Test.YtbjimikppdfmgaaDoorJsF
set_option linter.unusedVariables false
set_option linter.unusedSimpArgs false
set_option maxHeartbeats 16000000
set_option maxRecDepth 100000
namespace Go.Proofs.YtbjimikppdfmgaaDoor
open Go.RowKit

theorem ar5w {w : World} {b : Nat} {x : J5} (h : Blk w b 40 x.ar) : w.cell? ⟨b, 0, none⟩ = some (.int .i64 x.kind) ∧ w.cell? ⟨b, 1, none⟩ = some (.string (S x.text)) ∧ w.cell? ⟨b, 2, none⟩ = some (.int .i64 x.num) ∧ w.cell? ⟨b, 3, none⟩ = some (.slice x.nA x.nn x.nc) ∧ w.cell? ⟨b, 4, none⟩ = some (.slice x.kA x.kn x.kc) :=
  ⟨(h.cell 0).trans rfl, (h.cell 1).trans rfl, (h.cell 2).trans rfl, (h.cell 3).trans rfl, (h.cell 4).trans rfl⟩
theorem law_JsonWrites (j : Jv) (x : J5) (ok : Nat → Prop) (W : World) (hj : JAt W ok j x) (hb : TxtB j) (hL : LibW W) :
    Calls Tryd.prog 4 #[.agg #[.int .i64 x.kind, .string (S x.text), .int .i64 x.num, .slice x.nA x.nn x.nc, .slice x.kA x.kn x.kc]] W fun e w' => e = .returned (.bool true) ∧ Below W.heap.size W w' := by
  have HL := hid (fun W' (hb : Below W.heap.size W W') => hL.below hb)
  have b0 := (Below.refl W.heap.size W).alloc (Nat.le_refl _) (.cells x.ar 40)
  have BK := hid (Blk.new W 40 x.ar)
  have CT := hid (ref06_Cut 7 (by omega) j hb (W.alloc (.cells x.ar 40)) ok x (hj.belowW b0))
  have HB0 := hid b0
  have FW := hid (cut_few 5 7 j)
  have WR := hid (fun (w1 : World) (h : Below W.heap.size W w1) (ok : Nat → Prop) (y : J5) (hy : JAt w1 ok (cutJ 7 j) y) => js_Write (cutJ 7 j) (cut_few 5 7 j) w1 ok y hy (fun W' h2 => HL.out W' (bt h h2)))
  have IS := hid (fun (w1 : World) (ok : Nat → Prop) (y : J5) (hy : JAt w1 ok (cutJ 7 j) y) => ref06_Is 5 (by omega) (cutJ 7 j) (cut_few 5 7 j) w1 ok y hy)
  have RW := hid (fun (hr : rightP 5 (cutJ 7 j) = true) (w1 : World) (ok : Nat → Prop) (y : J5) (hy : JAt w1 ok (cutJ 7 j) y) => ref06_Write 5 (by omega) (cutJ 7 j) hr (cut_few 5 7 j) w1 ok y hy)
  have LV := hid (fun (w1 : World) (h : Below W.heap.size W w1) => js_lives w1 (fun W' h2 => HL.out W' (bt h h2)))
  have hw := hid (show writeS (cutJ 7 j) = if rightP 5 (cutJ 7 j) then (textJ 5 (cutJ 7 j), 0) else ([], 1) from rfl)
  clear hj hb hL b0
  obtain ⟨xk, xt, xu, xA, xa, xb, xB, xc, xd⟩ := x
  simp only [] at *
  go_enter Tryd.func4, Tryd.ntmps4
  go_wp2_with fail
  refine CT.out.mono ?_
  rintro e w1 ⟨yk, yt, yu, yA, ya, yb, yB, yc, yd, rfl, jy, b1⟩
  have BK1 := BK.out.below b1 BK.out.lt
  obtain ⟨c0, c1, c2, c3, c4⟩ := ar5w BK1
  have f0 := BK1.frozen 0
  have f1 := BK1.frozen 1
  have f2 := BK1.frozen 2
  have f3 := BK1.frozen 3
  have f4 := BK1.frozen 4
  have hs1 : W.heap.size < w1.heap.size := BK1.lt
  have SET : Blk (((((w1.setCell ⟨W.heap.size, 0, none⟩ (.int .i64 yk)).setCell ⟨W.heap.size, 1, none⟩ (.string (S yt))).setCell ⟨W.heap.size, 2, none⟩ (.int .i64 yu)).setCell ⟨W.heap.size, 3, none⟩ (.slice yA ya yb)).setCell ⟨W.heap.size, 4, none⟩ (.slice yB yc yd)) W.heap.size 40 (J5.ar ⟨yk, yt, yu, yA, ya, yb, yB, yc, yd⟩) := by
    have := ((((BK1.set_ 0 (.int .i64 yk)).set_ 1 (.string (S yt))).set_ 2 (.int .i64 yu)).set_ 3 (.slice yA ya yb)).set_ 4 (.slice yB yc yd)
    simpa [J5.ar] using this
  have hk : ∀ k, k ≠ W.heap.size → (((((w1.setCell ⟨W.heap.size, 0, none⟩ (.int .i64 yk)).setCell ⟨W.heap.size, 1, none⟩ (.string (S yt))).setCell ⟨W.heap.size, 2, none⟩ (.int .i64 yu)).setCell ⟨W.heap.size, 3, none⟩ (.slice yA ya yb)).setCell ⟨W.heap.size, 4, none⟩ (.slice yB yc yd)).heap[k]? = w1.heap[k]? := fun k hk => by
    rw [set_other _ _ _ _ k hk, set_other _ _ _ _ k hk, set_other _ _ _ _ k hk, set_other _ _ _ _ k hk, set_other _ _ _ _ k hk]
  have hsz : (((((w1.setCell ⟨W.heap.size, 0, none⟩ (.int .i64 yk)).setCell ⟨W.heap.size, 1, none⟩ (.string (S yt))).setCell ⟨W.heap.size, 2, none⟩ (.int .i64 yu)).setCell ⟨W.heap.size, 3, none⟩ (.slice yA ya yb)).setCell ⟨W.heap.size, 4, none⟩ (.slice yB yc yd)).heap.size = w1.heap.size := by
    rw [set_size, set_size, set_size, set_size, set_size]
  have JY := hid (jy.keep (w' := ((((w1.setCell ⟨W.heap.size, 0, none⟩ (.int .i64 yk)).setCell ⟨W.heap.size, 1, none⟩ (.string (S yt))).setCell ⟨W.heap.size, 2, none⟩ (.int .i64 yu)).setCell ⟨W.heap.size, 3, none⟩ (.slice yA ya yb)).setCell ⟨W.heap.size, 4, none⟩ (.slice yB yc yd)) (ok' := fun k => W.heap.size + 1 ≤ k) (fun k hk1 _ => hk k (by simp [alloc_size] at hk1; omega)) (by rw [hsz]; exact Nat.le_refl _) (fun k hk1 _ => by simp [alloc_size] at hk1; omega))
  have bw1 := bt HB0.out b1
  have BB := hid (show Below W.heap.size W (((((w1.setCell ⟨W.heap.size, 0, none⟩ (.int .i64 yk)).setCell ⟨W.heap.size, 1, none⟩ (.string (S yt))).setCell ⟨W.heap.size, 2, none⟩ (.int .i64 yu)).setCell ⟨W.heap.size, 3, none⟩ (.slice yA ya yb)).setCell ⟨W.heap.size, 4, none⟩ (.slice yB yc yd)) from ⟨bw1.os, bw1.tape, bw1.output, by rw [hsz]; exact bw1.size, fun k hk1 => (hk k (by omega)).trans (bw1.block k hk1)⟩)
  have ST := hid SET
  have W2 := hid (WR.out _ BB.out _ _ JY.out)
  simp only [] at c0 c1 c2 c3 c4
  clear CT BK BK1 SET hk hsz jy b1 bw1 WR HB0
  go_wp2_with fail
  refine W2.out.mono ?_
  rintro e w3 ⟨rfl, b3⟩
  have JY3 := hid (JY.out.belowW b3)
  have B3 := hid (bt BB.out b3)
  have ST3 := hid (ST.out.below b3 ST.out.lt)
  clear b3 W2 JY BB ST c0 c1 c2 c3 c4 f0 f1 f2 f3 f4
  obtain ⟨c0, c1, c2, c3, c4⟩ := ar5w ST3.out
  simp only [] at c0 c1 c2 c3 c4
  have I3 := hid (IS.out w3 _ _ JY3.out)
  clear IS
  cases hr : rightP 5 (cutJ 7 j) with
  | false =>
    rw [hr] at I3
    have HW := hid (show writeS (cutJ 7 j) = ([], 1) by rw [hw.out, hr]; rfl)
    rw [HW.out]
    clear hw hr RW FW HW
    go_wp2_with fail
    refine I3.out.mono ?_
    rintro e w4 ⟨rfl, b4⟩
    have B4 := hid (bt B3.out b4)
    clear b4 I3
    go_wp2_with fail
    refine (LV.out _ B4.out).mono ?_
    rintro e w5 ⟨rfl, b5⟩
    have B5 := hid (bt B4.out b5)
    clear b5
    go_wp2
    go_ret
    exact ⟨rfl, B5.out⟩
  | true =>
    have RW1 := hid (RW.out hr)
    rw [hr] at I3
    have HW := hid (show writeS (cutJ 7 j) = (textJ 5 (cutJ 7 j), 0) by rw [hw.out, hr]; rfl)
    rw [HW.out]
    clear hw hr RW FW HW
    generalize textJ 5 (cutJ 7 j) = tj at *
    have hse : (S tj == S tj) = true := by rw [S_beq]; simp
    go_wp2_with fail
    refine I3.out.mono ?_
    rintro e w4 ⟨rfl, b4⟩
    have B4 := hid (bt B3.out b4)
    have JY4 := hid (JY3.out.belowW b4)
    have ST4 := hid (ST3.out.below b4 ST3.out.lt)
    clear b4 I3 c0 c1 c2 c3 c4
    obtain ⟨c0, c1, c2, c3, c4⟩ := ar5w ST4.out
    simp only [] at c0 c1 c2 c3 c4
    have R4 := hid (RW1.out w4 _ _ JY4.out)
    go_wp2_with fail
    refine R4.out.mono ?_
    rintro e w5 ⟨rfl, b5⟩
    have B5 := hid (bt B4.out b5)
    clear b5 R4 RW1
    go_wp2_with fail
    refine (LV.out _ B5.out).mono ?_
    rintro e w6 ⟨rfl, b6⟩
    have B6 := hid (bt B5.out b6)
    clear b6
    go_wp2
    go_ret
    exact ⟨rfl, B6.out⟩
theorem row_JsonWrites (j : Jv) (x : J5) (W : World) (h : JAt W (fun _ => True) j x ∧ TxtB j) (hL : LibW W) :
    Calls Tryd.prog 4 #[x.val] W fun e w' => e = .returned (.bool true) ∧ Below W.heap.size W w' := law_JsonWrites j x _ W h.1 h.2 hL
end Go.Proofs.YtbjimikppdfmgaaDoor
