/- Walk of (*json.reader).value at a number. -/
import Derived.Test.YtbjimikppdfmgaaDoorJs7
set_option linter.unusedVariables false
set_option linter.unusedSimpArgs false
set_option maxHeartbeats 8000000
set_option maxRecDepth 100000
namespace Go.Proofs.YtbjimikppdfmgaaDoor
open Go.RowKit

theorem jr_value_num (g : Nat) (W : World) (s : List UInt8) (d : Int) (b : Bool) (h : Rd W g s d b) (hs : s.length < 70000) (hL : ∀ W', Touch W W' (· = g) (· = g) → LibW W') (hq : ¬ (skipP s).head? = some 34) (h1 : (signP 91 (skipP s)).2 = false) (h2 : (signP 123 (signP 91 (skipP s)).1).2 = false) :
    Calls Tryd.prog 58 #[.pointer (some ⟨g, 0, none⟩)] W (ValPost g W d (if b then none else (numP (signP 123 (signP 91 (skipP s)).1).1).map fun p => (.mk 2 [] p.1 [] [], skipP p.2))) := by
  have SK := hid (fun (W : World) (s : List UInt8) (d : Int) (b : Bool) (h : Rd W g s d b) => jr_skip h)
  have SG := hid (fun (W : World) (s : List UInt8) (d : Int) (b : Bool) (h : Rd W g s d b) (c : UInt8) => jr_sign h c)
  have hlen : (signP 123 (signP 91 (skipP s)).1).1.length ≤ 100000 := by
    have := skip_len s
    have := (sign_len 91 (skipP s)).1
    have := (sign_len 123 (signP 91 (skipP s)).1).1
    omega
  have NU := hid (fun (W : World) (h : Rd W g (signP 123 (signP 91 (skipP s)).1).1 d b) (hL : LibW W) => jr_number h hlen hL)
  have HP := hid (fun W => js_HasPrefix (skipP s) [34] W)
  rw [hasJ_head, decide_eq_false hq] at HP
  have V0 := hid (VW.start h)
  have glt := h.lt
  have LW := hid hL
  have S1 := hid h1
  have S2 := hid h2
  clear h h1 h2 hL hlen
  obtain ⟨R, hR⟩ : ∃ R, R = (if b then none else (numP (signP 123 (signP 91 (skipP s)).1).1).map fun p => (Jv.mk 2 [] p.1 [] [], skipP p.2)) := ⟨_, rfl⟩
  rw [← hR]
  have HR := hid hR
  clear hR
  go_enter Tryd.func58, Tryd.ntmps58
  go_wp2_with fail
  refine (SK.out _ _ _ _ V0.out.rd).mono ?_
  rintro e w1 ⟨rfl, h1⟩
  have V1 := hid (V0.out.read h1)
  have hbx := V1.out.facts.1
  obtain ⟨d0, d1, d2, e0, e1, e2⟩ := (RdTo.refl V1.out.rd).b0
  clear h1 V0
  go_wp2_with fail
  refine (HP.out _).mono ?_
  rintro e w' ⟨rfl, hw⟩
  subst hw
  go_wp2_with fail
  refine (SG.out _ _ _ _ V1.out.rd 91).mono ?_
  rintro e w2 ⟨rfl, h2⟩
  have V2 := hid (V1.out.read h2)
  have hbx2 := V2.out.facts.1
  rw [S1.out]
  clear h2 V1 hbx d0 d1 d2 e0 e1 e2
  go_wp2_with fail
  refine (SG.out _ _ _ _ V2.out.rd 123).mono ?_
  rintro e w3 ⟨rfl, h3⟩
  have V3 := hid (V2.out.read h3)
  have hbx3 := V3.out.facts.1
  rw [S2.out]
  clear h3 V2 hbx2
  go_wp2_with fail
  refine (NU.out _ V3.out.rd (LW.out _ V3.out.tou)).mono ?_
  rintro e w4 ⟨k, hk, rfl, h4, hp⟩
  have HPP := hid hp
  have V4 := hid (V3.out.read h4)
  have V5 := hid ((V4.out.set 0 (.int .i64 2) ⟨2, [], 0, none, 0, 0, none, 0, 0⟩ rfl).set 2 (.int .i64 k) ⟨2, [], k, none, 0, 0, none, 0, 0⟩ rfl)
  have g0 := V4.out.facts.2.1 0 _ rfl
  have g2 := V4.out.facts.2.1 2 _ rfl
  have k0 := V4.out.facts.2.2.2.1 0
  have k2 := V4.out.facts.2.2.2.1 2
  have hbx4 := V4.out.facts.1
  clear h4 V3 hbx3 hp
  generalize (signP 123 (signP 91 (skipP s)).1).1 = q at *
  go_wp2_with fail
  refine (SK.out _ _ _ _ V5.out.rd).mono ?_
  rintro e w5 ⟨rfl, h5⟩
  have V6 := hid (V5.out.read h5)
  obtain ⟨a0, a1, a2, a3, a4⟩ := V6.out.cells
  obtain ⟨z0, z1, z2, z3, z4⟩ := V6.out.zeros
  have m0 := V6.out.facts.2.2.2.2 0
  have m1 := V6.out.facts.2.2.2.2 1
  have m2 := V6.out.facts.2.2.2.2 2
  have m3 := V6.out.facts.2.2.2.2 3
  have m4 := V6.out.facts.2.2.2.2 4
  simp only [] at a0 a1 a2 a3 a4
  clear h5 V5 V4 g0 g2 k0 k2 hbx4
  have HD := hid (VW.done V6.out (r := R) (by rw [HR.out]; cases b <;> simp) (fun p hp => by
    rw [HR.out] at hp
    cases b with
    | true => simp at hp
    | false =>
      simp at hp
      obtain ⟨a, r, he, rfl⟩ := hp
      have := HPP.out _ he
      injection this with e1 e2
      subst e1 e2
      rfl) (leafJ _ _ 2 [] k) (u0 := .int .i64 2) (u1 := .string (S [])) (u2 := .int .i64 k) (u3 := .slice none 0 0) (u4 := .slice none 0 0))
  go_wp2
  refine bodyPost_ret (v := .agg #[.int .i64 2, .string (S []), .int .i64 k, .slice none 0 0, .slice none 0 0]) (by simp [results, Tryd.results58, go_sem, z0, z1, z2, z3, z4]) rfl HD.out
end Go.Proofs.YtbjimikppdfmgaaDoor
