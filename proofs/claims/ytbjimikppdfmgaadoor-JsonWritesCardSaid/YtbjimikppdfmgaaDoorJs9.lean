/- Walk of (*json.reader).value at a list. -/
import Derived.Test.YtbjimikppdfmgaaDoorJs8
set_option linter.unusedVariables false
set_option linter.unusedSimpArgs false
set_option maxHeartbeats 8000000
set_option maxRecDepth 100000
namespace Go.Proofs.YtbjimikppdfmgaaDoor
open Go.RowKit

def listT : Taker Unit where
  I := fun _ fq _ => ∀ k, ¬ fq k
  lt := fun _ fq _ h k hk => absurd hk (h k)
  keep := fun _ _ _ _ h _ _ => h
theorem rd_of_touch {g : Nat} {W W' : World} {fq fq' : Nat → Prop} {s : List UInt8} {d : Int} {b : Bool} (h : Rd W' g s d b) (ht : Touch W W' (orG g fq) (orG g fq')) (hf : ∀ k, ¬ fq k) : RdTo g W W' s d b :=
  ⟨h, ht.os, ht.tape, ht.output, ht.size, fun k hk hn => ht.block k hk (fun e => e.elim hn (hf k)), fun k hk => .inl hk⟩
theorem kid_list {g : Nat} {W : World} {d : Int} {r : Option (Jv × List UInt8)} {fq : Nat → Prop} (hf : ∀ k, ¬ fq k) {e : Ending} {w' : World} (h : ValPost g W d r e w') : KidPost listT g fq W d (r.map fun p => (p.1, (), p.2)) e w' := by
  obtain ⟨x, j, s, rfl, hr, ht, hj, hp⟩ := h
  refine ⟨x, j, (), fq, s, rfl, by simpa using hr, ⟨ht.os, ht.tape, ht.output, ht.size, fun k hk hn => ht.block k hk (fun e => hn (.inl e)), fun k hk => .inl hk⟩, hj.keep (fun _ _ _ => rfl) (Nat.le_refl _) (fun k hk _ => ⟨hk, hf k⟩), hf, hf g, fun p hp' => ?_⟩
  cases r with
  | none => simp at hp'
  | some q =>
    obtain rfl := hp q rfl
    simp at hp'
    exact hp'.symm

theorem jr_value_list (g : Nat) (W : World) (s : List UInt8) (d : Int) (h : Rd W g s d false) (hd : 0 ≤ d ∧ d < 5) (hs : s.length < 70000) (v : List UInt8 → Option (Jv × List UInt8)) (hv : ∀ s p, v s = some p → p.2.length ≤ s.length)
    (hq : ¬ (skipP s).head? = some 34) (h1 : (signP 91 (skipP s)).2 = true)
    (step : ∀ W' s', s'.length < 70000 → Touch W W' (· = g) (· = g) → Rd W' g s' (d + 1) false → Calls Tryd.prog 58 #[.pointer (some ⟨g, 0, none⟩)] W' (ValPost g W' (d + 1) (v s'))) :
    Calls Tryd.prog 58 #[.pointer (some ⟨g, 0, none⟩)] W (ValPost g W d ((itemsP (kidL v) 93 70000 () (signP 91 (skipP s)).1).map fun p => (.mk 3 [] 0 [] p.1, skipP p.2.2))) := by
  have SK := hid (fun (W : World) (s : List UInt8) (d : Int) (b : Bool) (h : Rd W g s d b) => jr_skip h)
  have SG := hid (fun (W : World) (s : List UInt8) (d : Int) (b : Bool) (h : Rd W g s d b) (c : UInt8) => jr_sign h c)
  have HP := hid (fun W => js_HasPrefix (skipP s) [34] W)
  rw [hasJ_head, decide_eq_false hq] at HP
  have hlen : (signP 91 (skipP s)).1.length < 70000 := by
    have := skip_len s
    have := (sign_len 91 (skipP s)).1
    omega
  have IT := hid (fun (Wi : World) (hT : Touch W Wi (· = g) (· = g)) (hR : Rd Wi g (signP 91 (skipP s)).1 d false) => jr_items listT (F := 58) (fa := #[.pointer (some ⟨g, 0, none⟩)]) (V := .func (.func 58) #[.pointer (some ⟨g, 0, none⟩)] #[]) (.inl ⟨_, rfl, rfl⟩) (fun W => by kernel_rfl) 93 (kidL v) (kidL_len hv) (fun _ => 0) (fun _ _ _ _ => Nat.zero_le _) g Wi (signP 91 (skipP s)).1 d () (fun _ => False) hR (fun k h => h) rfl (fun h => h) hd (by omega) 70000 hlen (by omega)
    (fun a fq s' W' hs' _ ht' hr' hi' hg' => (step W' s' hs' (hT.trans (rd_of_touch hr' ht' (fun k h => h)).tou) hr').mono fun e w' hP => kid_list hi' hP))
  have V0 := hid (VW.start h)
  have glt := h.lt
  have S1 := hid h1
  clear h h1 step hlen
  obtain ⟨R, hR⟩ : ∃ R, R = ((itemsP (kidL v) 93 70000 () (signP 91 (skipP s)).1).map fun p => (Jv.mk 3 [] 0 [] p.1, skipP p.2.2)) := ⟨_, rfl⟩
  rw [← hR]
  have HR := hid hR
  clear hR
  go_enter Tryd.func58, Tryd.ntmps58
  go_wp2_with fail
  refine (SK.out _ _ _ _ V0.out.rd).mono ?_
  rintro e w1 ⟨rfl, h1⟩
  have V1 := hid (V0.out.read h1)
  have hbx := V1.out.facts.1
  obtain ⟨d0, d1, d2, e0, e1, e2⟩ := (RdTo.refl V1.out.rd).b0
  clear h1 V0
  go_wp2_with fail
  refine (HP.out _).mono ?_
  rintro e w' ⟨rfl, hw⟩
  subst hw
  go_wp2_with fail
  refine (SG.out _ _ _ _ V1.out.rd 91).mono ?_
  rintro e w2 ⟨rfl, h2⟩
  have V2 := hid (V1.out.read h2)
  have hbx2 := V2.out.facts.1
  rw [S1.out]
  clear h2 V1 hbx d0 d1 d2 e0 e1 e2
  go_wp2_with fail
  refine (IT.out w2 V2.out.tou V2.out.rd).mono ?_
  rintro e w4 ⟨A, c, xs, js, a, fq, s4, rfl, hxc, hxl, r4, t4, hln, hK, hJ, hI, hng, hp⟩
  have R4 := rd_of_touch r4 t4 (fun k h => h)
  have HPP := hid hp
  have V4 := hid (V2.out.read R4)
  have V5 := hid ((V4.out.set 0 (.int .i64 3) ⟨3, [], 0, none, 0, 0, none, 0, 0⟩ rfl).set 4 (.slice A xs.length c) ⟨3, [], 0, none, 0, 0, A, xs.length, c⟩ rfl)
  have g0 := V4.out.facts.2.1 0 _ rfl
  have g4 := V4.out.facts.2.1 4 _ rfl
  have k0 := V4.out.facts.2.2.2.1 0
  have k4 := V4.out.facts.2.2.2.1 4
  have hbx4 := V4.out.facts.1
  have hw2 := V2.out.val.lt
  have JJ : JAt w4 (fun k => W.heap.size + 1 + 1 < k) (.mk 3 [] 0 [] js) ⟨3, [], 0, none, 0, 0, A, xs.length, c⟩ :=
    .mk ⟨3, [], 0, none, 0, 0, A, xs.length, c⟩ [] js xs rfl (Nat.le_refl _) hln (by rw [← hln]; exact hxc) (Nat.zero_le _) (by rw [← hln]; omega) (fun h => by simp at h) hln (hK.keep (fun _ _ _ => rfl) (Nat.le_refl _) (fun k hk _ => by omega)) (fun i h h' => (hJ i h h').keep (fun _ _ _ => rfl) (Nat.le_refl _) (fun k hk _ => by omega))
  have J5' := hid (JJ.keep (w' := (w4.setCell ⟨W.heap.size + 1 + 1, 0, none⟩ (.int .i64 3)).setCell ⟨W.heap.size + 1 + 1, 4, none⟩ (.slice A xs.length c)) (fun k hk _ => by rw [set_other _ _ _ _ k (by omega), set_other _ _ _ _ k (by omega)]) (by rw [set_size, set_size]; exact Nat.le_refl _) (fun k hk _ => hk))
  clear r4 t4 hK hJ hI hng hp R4 JJ V2 hbx2 hln
  generalize (signP 91 (skipP s)).1 = q at *
  go_wp2_with fail
  refine (SK.out _ _ _ _ V5.out.rd).mono ?_
  rintro e w5 ⟨rfl, h5⟩
  have V6 := hid (V5.out.read h5)
  have J6 := hid (J5'.out.keep (w' := w5) (ok' := fun k => W.heap.size ≤ k ∧ k ≠ W.heap.size + 1) (fun k hk hkl => h5.tou.block k hkl (by omega)) h5.tou.size (fun k hk _ => by omega))
  obtain ⟨a0, a1, a2, a3, a4⟩ := V6.out.cells
  obtain ⟨z0, z1, z2, z3, z4⟩ := V6.out.zeros
  have m0 := V6.out.facts.2.2.2.2 0
  have m1 := V6.out.facts.2.2.2.2 1
  have m2 := V6.out.facts.2.2.2.2 2
  have m3 := V6.out.facts.2.2.2.2 3
  have m4 := V6.out.facts.2.2.2.2 4
  simp only [] at a0 a1 a2 a3 a4
  clear h5 V5 V4 g0 g4 k0 k4 hbx4 J5'
  have HD := hid (VW.done V6.out (r := R) (by rw [HR.out]; simp) (fun p hp => by
    rw [HR.out] at hp
    simp at hp
    obtain ⟨l, a', r', he, rfl⟩ := hp
    have := HPP.out _ he
    simp only [Prod.mk.injEq] at this
    obtain ⟨rfl, -, rfl⟩ := this
    rfl) J6.out (u0 := .int .i64 3) (u1 := .string (S [])) (u2 := .int .i64 0) (u3 := .slice none 0 0) (u4 := .slice A xs.length c))
  go_wp2
  refine bodyPost_ret (v := .agg #[.int .i64 3, .string (S []), .int .i64 0, .slice none 0 0, .slice A xs.length c]) (by simp [results, Tryd.results58, go_sem, z0, z1, z2, z3, z4]) rfl HD.out
end Go.Proofs.YtbjimikppdfmgaaDoor
