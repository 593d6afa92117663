/- Walks of json.Write and of the document's examples. -/
import Derived.Test.YtbjimikppdfmgaaDoorJsT
import Derived.Test.YtbjimikppdfmgaaDoorJsV
set_option linter.unusedVariables false
set_option linter.unusedSimpArgs false
set_option maxHeartbeats 8000000
set_option maxRecDepth 100000
namespace Go.Proofs.YtbjimikppdfmgaaDoor
open Go.RowKit

/-- What Write tells. -/
def writeS (j : Jv) : List UInt8 × Int := if rightP 5 j then (textJ 5 j, 0) else ([], 1)
theorem js_Write (j : Jv) (hf : fewJ 5 j) (W : World) (ok : Nat → Prop) (x : J5) (hj : JAt W ok j x) (hL : ∀ W', Below W.heap.size W W' → LibW W') :
    Calls Tryd.prog 16 #[.agg #[.int .i64 x.kind, .string (S x.text), .int .i64 x.num, .slice x.nA x.nn x.nc, .slice x.kA x.kn x.kc]] W fun e w' => e = .returned (.tuple #[.string (S (writeS j).1), .int .i64 (writeS j).2]) ∧ Below W.heap.size W w' := by
  have T0 := hid (TW.start W x)
  have RI := hid (fun (w1 : World) (hb : Below W.heap.size W w1) => js_right 5 (by omega) j hf w1 ok x (hj.belowW hb))
  have TX := hid (fun (h : rightP 5 j = true) (w1 : World) (hb : Below W.heap.size W w1) => js_text 5 (by omega) j h hf w1 ok x (hj.belowW hb) (fun W' hW => hL W' (bt hb hW)))
  have hw := hid (show writeS j = if rightP 5 j then (textJ 5 j, 0) else ([], 1) from rfl)
  generalize textJ 5 j = tj at *
  clear hf hj hL
  obtain ⟨k0, k1, k2, k3, k4, k5, k6, k7, k8⟩ := x
  simp only [] at *
  cases hr : rightP 5 j with
  | false =>
    have HW := hid (show writeS j = ([], 1) by rw [hw.out, hr]; rfl)
    rw [hr] at RI
    clear TX hw hr
    go_enter Tryd.func16, Tryd.ntmps16
    go_wp2_with fail
    refine (RI.out _ T0.out.bel).mono ?_
    rintro e w1 ⟨rfl, h1⟩
    have HB := hid (bt T0.out.bel h1)
    clear h1
    go_wp2
    go_ret2
    exact ⟨by rw [HW.out]; rfl, HB.out⟩
  | true =>
    have HW := hid (show writeS j = (tj, 0) by rw [hw.out, hr]; rfl)
    have T1 := hid (TX.out hr)
    rw [hr] at RI
    clear TX hw hr
    go_enter Tryd.func16, Tryd.ntmps16
    go_wp2_with fail
    refine (RI.out _ T0.out.bel).mono ?_
    rintro e w1 ⟨rfl, h1⟩
    have T2 := hid (T0.out.below h1)
    obtain ⟨x0, x1, x2, x3, x4, x5⟩ := T2.out.cells
    simp only [] at x0 x1 x2 x3 x4 x5
    clear h1
    go_wp2_with fail
    refine (T1.out _ T2.out.bel).mono ?_
    rintro e w2 ⟨rfl, h2⟩
    have HB := hid (bt T2.out.bel h2)
    clear h2
    go_wp2
    go_ret2
    exact ⟨by rw [HW.out]; rfl, HB.out⟩
theorem litV_few : fewJ 5 litV := by
  have h : ∀ n, fewJ n (.mk 2 [] 1 [] []) ∧ fewJ n (.mk 1 [98] 0 [] []) := fun n => by
    constructor <;> (rw [fewJ.eq_def]; cases n <;> simp)
  have h3 : ∀ n, fewJ n (.mk 3 [] 0 [] [.mk 2 [] 1 [] [], .mk 1 [98] 0 [] []]) := fun n => by
    rw [fewJ.eq_def]; cases n with
    | zero => simp
    | succ n => simp [(h n).1, (h n).2]
  unfold litV
  rw [fewJ.eq_def]
  simp [h3 4]
theorem js_lives (W : World) (hL : ∀ W', Below W.heap.size W W' → LibW W') : Calls Tryd.prog 18 #[] W fun e w' => e = .returned (.bool true) ∧ Below W.heap.size W w' := by
  have R1 := hid (js_Read lit1 W (by decide) hL)
  have R2 := hid (fun (w1 : World) (hb : Below W.heap.size W w1) => js_Read [48, 49] w1 (by decide) (fun W' h => hL W' (bt hb h)))
  have WR := hid (fun (w1 : World) (hb : Below W.heap.size W w1) (ok : Nat → Prop) (x : J5) (hj : JAt w1 ok litV x) => js_Write litV litV_few w1 ok x hj (fun W' h => hL W' (bt hb h)))
  have e1 : readS lit1 = (some litV, 0) := by unfold readS; rw [if_neg (by decide), lit_read]
  have e2 : readS [48, 49] = (none, 2) := by unfold readS; rw [if_neg (by decide), lit_bad]
  have e3 : writeS litV = ([123, 34, 97, 34, 58, 91, 49, 44, 34, 98, 34, 93, 125], 0) := by unfold writeS; rw [lit_right, if_pos rfl, lit_text]
  have E1 := hid e1
  have E2 := hid e2
  rw [e3] at WR
  unfold lit1 at R1 E1
  clear e1 e2 e3 hL
  go_enter Tryd.func18, Tryd.ntmps18
  go_wp2_with fail
  refine R1.out.mono ?_
  rintro e w1 ⟨x, rfl, j1, b1⟩
  rw [E1.out] at j1 ⊢
  have J1 := hid j1
  have B1 := hid b1
  clear j1 b1 R1
  obtain ⟨k0, k1, k2, k3, k4, k5, k6, k7, k8⟩ := x
  simp only [] at *
  have B2 := hid (B1.out.trans (((Below.refl w1.heap.size w1).alloc (Nat.le_refl _) (.cells #[.int .i64 k0, .string (S k1), .int .i64 k2, .slice k3 k4 k5, .slice k6 k7 k8] 40)).mono B1.out.size))
  have J2 := hid (J1.out.belowW ((Below.refl w1.heap.size w1).alloc (Nat.le_refl _) (.cells #[.int .i64 k0, .string (S k1), .int .i64 k2, .slice k3 k4 k5, .slice k6 k7 k8] 40)))
  go_wp2_with fail
  refine (WR.out _ B2.out _ _ J2.out).mono ?_
  rintro e w2 ⟨rfl, h2⟩
  have B3 := hid (bt B2.out h2)
  clear h2 J1 J2 B1 B2 WR
  go_wp2_with fail
  refine (R2.out _ B3.out).mono ?_
  rintro e w3 ⟨y, rfl, j3, b3⟩
  rw [E2.out] at j3 ⊢
  have B4 := hid (bt B3.out b3)
  clear j3 b3 B3 R2
  obtain ⟨l0, l1, l2, l3, l4, l5, l6, l7, l8⟩ := y
  simp only [] at *
  have B5 := hid (B4.out.trans (((Below.refl w3.heap.size w3).alloc (Nat.le_refl _) (.cells #[.int .i64 l0, .string (S l1), .int .i64 l2, .slice l3 l4 l5, .slice l6 l7 l8] 40)).mono B4.out.size))
  go_wp2
  go_ret
  exact ⟨rfl, B5.out⟩
end Go.Proofs.YtbjimikppdfmgaaDoor
