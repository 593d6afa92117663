/- Walk of (*json.reader).value at a map; value, whole. -/
import Derived.Test.YtbjimikppdfmgaaDoorJs11
set_option linter.unusedVariables false
set_option linter.unusedSimpArgs false
set_option maxHeartbeats 8000000
set_option maxRecDepth 100000
namespace Go.Proofs.YtbjimikppdfmgaaDoor
open Go.RowKit

theorem kidM_cnt {v : List UInt8 → Option (Jv × List UInt8)} (ns : List (List UInt8)) (s : List UInt8) (p) (h : kidM v ns s = some p) : p.2.1.length ≤ ns.length + 1 := by
  unfold kidM at h
  split at h
  · simp at h
  · split at h
    · simp at h
    · split at h
      · simp at h
        obtain ⟨j, s2, e2, rfl⟩ := h
        simp
      · simp at h
theorem jr_value_map (g : Nat) (W : World) (s : List UInt8) (d : Int) (h : Rd W g s d false) (hs : s.length < 70000) (hd : 0 ≤ d ∧ d < 5) (hq : ¬ (skipP s).head? = some 34) (h1 : (signP 91 (skipP s)).2 = false) (h2 : (signP 123 (signP 91 (skipP s)).1).2 = true) (v : List UInt8 → Option (Jv × List UInt8)) (hv : ∀ s p, v s = some p → p.2.length ≤ s.length)
    (step : ∀ W' s' b, s'.length < 70000 → Touch W W' (· = g) (· = g) → Rd W' g s' (d + 1) b → Calls Tryd.prog 58 #[.pointer (some ⟨g, 0, none⟩)] W' (ValPost g W' (d + 1) (if b then none else v s'))) :
    Calls Tryd.prog 58 #[.pointer (some ⟨g, 0, none⟩)] W (ValPost g W d ((itemsP (kidM v) 125 70000 [] (signP 123 (signP 91 (skipP s)).1).1).map fun p => (.mk 4 [] 0 p.2.1 p.1, skipP p.2.2))) := by
  have SK := hid (fun (W : World) (s : List UInt8) (d : Int) (b : Bool) (h : Rd W g s d b) => jr_skip h)
  have SG := hid (fun (W : World) (s : List UInt8) (d : Int) (b : Bool) (h : Rd W g s d b) (c : UInt8) => jr_sign h c)
  have HP := hid (fun W => js_HasPrefix (skipP s) [34] W)
  rw [hasJ_head, decide_eq_false hq] at HP
  have hlen : (signP 123 (signP 91 (skipP s)).1).1.length < 70000 := by
    have := skip_len s
    have := (sign_len 91 (skipP s)).1
    have := (sign_len 123 (signP 91 (skipP s)).1).1
    omega
  have V0 := hid (VW.start h)
  have glt := h.lt
  have IT := hid (fun (Wi : World) (K : VW W Wi g (signP 123 (signP 91 (skipP s)).1).1 d false ⟨4, [], 0, none, 0, 0, none, 0, 0⟩) => jr_items (mapT W g) (F := 98) (fa := #[.pointer (some ⟨W.heap.size, 0, none⟩), .pointer (some ⟨W.heap.size + 1 + 1, 0, none⟩)]) (V := .func (.func 98) #[] #[.pointer (some ⟨W.heap.size, 0, none⟩), .pointer (some ⟨W.heap.size + 1 + 1, 0, none⟩)]) (.inr rfl) (fun W => by kernel_rfl) 125 (kidM v) (kidM_len hv) List.length kidM_cnt g Wi (signP 123 (signP 91 (skipP s)).1).1 d [] (fun k => k = W.heap.size ∨ k = W.heap.size + 1 + 1) K.rd
    ⟨none, 0, K.box, K.val, World.ownsRow_nil _ _ _ _, (fun k => ⟨fun h => h.elim .inl (fun h => .inr (.inl h)), fun h => h.elim .inl (fun h => h.elim .inr (fun h => by cases h))⟩), Nat.zero_le _⟩ rfl (fun h => by have := K.lt; omega) hd (by omega) 70000 hlen (by omega)
    (fun a fq s' W' hs' hc' ht' hr' hi' hg' => by
      obtain ⟨A, c, mi⟩ := hi'
      exact jr_kid_map W g W' A c a fq s' (d + 1) hr' mi K.lt (touch_old K.tou ht' (fun k hk => by omega)) hc' hs' v step))
  have S1 := hid h1
  have S2 := hid h2
  clear h h1 h2 step hlen
  obtain ⟨R, hR⟩ : ∃ R, R = ((itemsP (kidM v) 125 70000 [] (signP 123 (signP 91 (skipP s)).1).1).map fun p => (Jv.mk 4 [] 0 p.2.1 p.1, skipP p.2.2)) := ⟨_, rfl⟩
  rw [← hR]
  have HR := hid hR
  clear hR
  go_enter Tryd.func58, Tryd.ntmps58
  go_wp2_with fail
  refine (SK.out _ _ _ _ V0.out.rd).mono ?_
  rintro e w1 ⟨rfl, h1⟩
  have V1 := hid (V0.out.read h1)
  have hbx := V1.out.facts.1
  obtain ⟨d0, d1, d2, e0, e1, e2⟩ := (RdTo.refl V1.out.rd).b0
  clear h1 V0
  go_wp2_with fail
  refine (HP.out _).mono ?_
  rintro e w' ⟨rfl, hw⟩
  subst hw
  go_wp2_with fail
  refine (SG.out _ _ _ _ V1.out.rd 91).mono ?_
  rintro e w2 ⟨rfl, h2⟩
  have V2 := hid (V1.out.read h2)
  have hbx2 := V2.out.facts.1
  rw [S1.out]
  clear h2 V1 hbx d0 d1 d2 e0 e1 e2
  go_wp2_with fail
  refine (SG.out _ _ _ _ V2.out.rd 123).mono ?_
  rintro e w3 ⟨rfl, h3⟩
  have V3 := hid (V2.out.read h3)
  have hbx3 := V3.out.facts.1
  have V3b := hid (V3.out.set 0 (.int .i64 4) ⟨4, [], 0, none, 0, 0, none, 0, 0⟩ rfl)
  have g0 := V3.out.facts.2.1 0 _ rfl
  have k0 := V3.out.facts.2.2.2.1 0
  rw [S2.out]
  clear h3 V2 hbx2
  go_wp2_with fail
  refine (IT.out _ V3b.out).mono ?_
  rintro e w4 ⟨A, c, xs, js, a, fq, s4, rfl, hxc, hxl, r4, t4, hln, hK, hJ, ⟨A2, c2, mi⟩, hng, hp⟩
  have HPP := hid hp
  have hwi : W.heap.size + 1 + 1 < (w3.setCell ⟨W.heap.size + 1 + 1, 0, none⟩ (.int .i64 4)).heap.size := V3b.out.val.lt
  have V4 : Hid (VW W w4 g s4 d (itemsP (kidM v) 125 70000 [] (signP 123 (signP 91 (skipP s)).1).1).isNone ⟨4, [], 0, A2, a.length, c2, none, 0, 0⟩) :=
    hid ⟨r4, glt, mi.box, (t4.block _ V3b.out.res.lt (fun h => by rcases h with h | h | h <;> omega)).trans V3b.out.res, mi.val, touch_old V3b.out.tou t4 (fun k hk => by omega)⟩
  have JJ : JAt w4 (fun k => W.heap.size + 1 + 1 < k) (.mk 4 [] 0 a js) ⟨4, [], 0, A2, a.length, c2, A, xs.length, c⟩ :=
    .mk ⟨4, [], 0, A2, a.length, c2, A, xs.length, c⟩ a js xs rfl (row_cap mi.row) hln (by rw [← hln]; exact hxc) (by have := mi.few; omega) (by rw [← hln]; omega) ((names_row mi.row).keep (fun _ _ _ => rfl) (Nat.le_refl _) (fun k hk _ => by omega)) hln (hK.keep (fun _ _ _ => rfl) (Nat.le_refl _) (fun k hk _ => by omega)) (fun i h h' => (hJ i h h').keep (fun _ _ _ => rfl) (Nat.le_refl _) (fun k hk _ => by omega))
  have V5 := hid (V4.out.set 4 (.slice A xs.length c) ⟨4, [], 0, A2, a.length, c2, A, xs.length, c⟩ rfl)
  have J5' := hid (JJ.keep (w' := w4.setCell ⟨W.heap.size + 1 + 1, 4, none⟩ (.slice A xs.length c)) (fun k hk _ => set_other _ _ _ _ k (by omega)) (by rw [set_size]; exact Nat.le_refl _) (fun k hk _ => hk))
  have g4 := V4.out.facts.2.1 4 _ rfl
  have k4 := V4.out.facts.2.2.2.1 4
  have hbx4 := V4.out.facts.1
  clear r4 t4 hK hJ mi hng hp JJ V3 V3b hbx3 g0 k0 hln IT
  generalize (signP 123 (signP 91 (skipP s)).1).1 = q at *
  go_wp2_with fail
  refine (SK.out _ _ _ _ V5.out.rd).mono ?_
  rintro e w5 ⟨rfl, h5⟩
  have V6 := hid (V5.out.read h5)
  have J6 := hid (J5'.out.keep (w' := w5) (ok' := fun k => W.heap.size ≤ k ∧ k ≠ W.heap.size + 1) (fun k hk hkl => h5.tou.block k hkl (by omega)) h5.tou.size (fun k hk _ => by omega))
  obtain ⟨a0, a1, a2, a3, a4⟩ := V6.out.cells
  obtain ⟨z0, z1, z2, z3, z4⟩ := V6.out.zeros
  have m0 := V6.out.facts.2.2.2.2 0
  have m1 := V6.out.facts.2.2.2.2 1
  have m2 := V6.out.facts.2.2.2.2 2
  have m3 := V6.out.facts.2.2.2.2 3
  have m4 := V6.out.facts.2.2.2.2 4
  simp only [] at a0 a1 a2 a3 a4
  clear h5 V5 V4 g4 k4 hbx4 J5'
  have HD := hid (VW.done V6.out (r := R) (by rw [HR.out]; simp) (fun p hp => by
    rw [HR.out] at hp
    simp at hp
    obtain ⟨l, a', r', he, rfl⟩ := hp
    have := HPP.out _ he
    simp only [Prod.mk.injEq] at this
    obtain ⟨rfl, rfl, rfl⟩ := this
    rfl) J6.out (u0 := .int .i64 4) (u1 := .string (S [])) (u2 := .int .i64 0) (u3 := .slice A2 a.length c2) (u4 := .slice A xs.length c))
  go_wp2
  refine bodyPost_ret (v := .agg #[.int .i64 4, .string (S []), .int .i64 0, .slice A2 a.length c2, .slice A xs.length c]) (by simp [results, Tryd.results58, go_sem, z0, z1, z2, z3, z4]) rfl HD.out
end Go.Proofs.YtbjimikppdfmgaaDoor
