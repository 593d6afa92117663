/- Walk of pantilelaw13.like, where both drives are as one. -/
import Derived.Test.YtjmcnhpffpcboaaRef9
set_option linter.unusedVariables false
set_option linter.unusedSimpArgs false
set_option maxHeartbeats 6400000
set_option maxRecDepth 100000
attribute [local go_sem ↓] Go.wp_at_zero Go.wp_at_succ
namespace Go.Proofs.Ytjmcnhpffpcboaa
open Go.RowKit

theorem row_below {w w' : World} {base : Nat} {e : TypeId} {size n : Nat} {v : Value} {xs : List Value} (h : w.ownsRow base e size v n xs) (hb : Below w.heap.size w w') : w'.ownsRow base e size v n xs := row_keep h fun k hk => by
  obtain ⟨cs, hcs⟩ := row_heap h hk
  exact hb.block k (Array.getElem?_eq_some_iff.1 hcs).1
theorem DB.listR {w0 W : World} {g r N : Nat} {d e : Dr} {X : List Xc} (h : DB w0 g r d e N X W) (pre : List UInt8) (hp : pre.length ≤ 1000000000) : Calls Try.prog 81 #[.pointer (some ⟨r, 0, none⟩), .string (S pre)] W (ListPost W e pre) := by
  obtain ⟨fp, fq, h1, h2, h3, h4, h5, h6, h7, h8, h9⟩ := h
  exact ref_List h2 h5 pre hp
theorem DB.rowsR {w0 W : World} {g r N : Nat} {d e : Dr} {X : List Xc} (h : DB w0 g r d e N X W) : ∃ (A : Option Addr) (c n : Nat) (ks : List Key), r < W.heap.size ∧ W.cell? ⟨r, 0, none⟩ = some (.slice A ks.length c) ∧ W.cell? ⟨r, 2, none⟩ = some (.int .i64 e.deeds) ∧ W.cell? ⟨r, 3, none⟩ = some (.bool e.down) ∧
    ks.length ≤ 65536 ∧ (∀ k ∈ ks, k.length ≤ 60) ∧ ∀ i, (hi : i < ks.length) → ∃ b, A = some ⟨b, 0, none⟩ ∧ b < W.heap.size ∧ W.cell? ⟨b, i * 3, none⟩ = some (.string (S ks[i])) := by
  obtain ⟨fp, fq, h1, h2, h3, h4, h5, h6, h7, h8, h9⟩ := h
  obtain ⟨v, rs, hB, hF, hd⟩ := h2.has
  obtain ⟨A, c, rfl⟩ := hF.form
  have hlen : e.files.length = rs.length := by rw [hd]; simp
  have hfl := h5.files
  refine ⟨A, c, 0, rs.map (·.key), hB.lt, by rw [List.length_map]; exact hB.cell 0, hB.cell 2, hB.cell 3, by rw [List.length_map]; omega, fun k hk => ?_, fun i hi => ?_⟩
  · obtain ⟨x, hx, rfl⟩ := List.mem_map.1 hk
    have h := h5.keys (rPair x) (by rw [hd]; exact List.mem_map_of_mem hx)
    unfold namedB at h
    simp only [Bool.and_eq_true, decide_eq_true_eq] at h
    exact h.2
  · rw [List.length_map] at hi
    obtain ⟨b, c', q1, q2, q3, q4, q5, q6⟩ := hF.elem hi
    simp only [Value.slice.injEq] at q1
    exact ⟨b, q1.1, q2, by rw [q4]; simp⟩
theorem law13_like {w0 W : World} {g r N : Nat} {d : Dr} {X : List Xc} (h : DB w0 g r d d N X W) (hN : N ≤ 1000000) : Calls Try.prog 48 #[.pointer (some ⟨g, 0, none⟩), .pointer (some ⟨r, 0, none⟩)] W fun e w' => e = .returned (.bool true) ∧ Below W.heap.size W w' := by
  obtain ⟨A, c, -, ks, hrlt, c0, c2, c3, hks, hkl, hel⟩ := h.rowsR
  have UD := hid (fun W' (hb : Below W.heap.size W W') => (h.below hb).used)
  have UR := hid (fun W' (hb : Below W.heap.size W W') => (h.below hb).usedR (by omega))
  have DD := hid (fun W' (hb : Below W.heap.size W W') => (h.below hb).deeds)
  have AD := hid (fun W' (hb : Below W.heap.size W W') => (h.below hb).aliveD)
  have CE := hid (fun W' (hb : Below W.heap.size W W') => (⟨(hb.cell (p := ⟨r, 0, none⟩) hrlt).trans c0, (hb.cell (p := ⟨r, 2, none⟩) hrlt).trans c2, (hb.cell (p := ⟨r, 3, none⟩) hrlt).trans c3⟩ : W'.cell? ⟨r, 0, none⟩ = some (.slice A ks.length c) ∧ W'.cell? ⟨r, 2, none⟩ = some (.int .i64 d.deeds) ∧ W'.cell? ⟨r, 3, none⟩ = some (.bool d.down)))
  have EL := hid (fun W' (hb : Below W.heap.size W W') i (hi : i < ks.length) => show ∃ b, A = some ⟨b, 0, none⟩ ∧ W'.cell? ⟨b, i * 3, none⟩ = some (.string (S ks[i])) from by
    obtain ⟨b, q1, q2, q3⟩ := hel i hi
    exact ⟨b, q1, (hb.cell (p := ⟨b, _, none⟩) q2).trans q3⟩)
  have RD := hid (fun W' (hb : Below W.heap.size W W') (k : Key) (hk : k ∈ ks) => (h.below hb).readD (by omega) k (by have := hkl k hk; omega))
  have RR := hid (fun W' (hb : Below W.heap.size W W') (k : Key) => (h.below hb).readR (by omega) k)
  have LD := hid (fun W' (hb : Below W.heap.size W W') pre => (h.below hb).listD pre)
  have LR := hid (fun W' (hb : Below W.heap.size W W') pre hp => (h.below hb).listR pre hp)
  unfold ListPost at LD LR
  have LL := hid (fun pre => show (d.list pre).length ≤ 1000000000 from by
    have hf := h.okD.files
    unfold Dr.list
    split
    · simp
    · refine Nat.le_trans (List.length_filter_le _ _) ?_
      simp; omega)
  have hks2 : ks.length ≤ 1000000 := by omega
  have hbc := Below.refl W.heap.size W
  clear h hks hkl hel
  generalize d.used = us at *
  generalize d.deeds = de at *
  generalize d.down = dn at *
  go_enter Try.func48, Try.ntmps48
  go_wp2
  go_region_held3 (fun w' => w'.cell? ⟨r, 2, none⟩ = some (.int .i64 de) ∧ w'.cell? ⟨r, 3, none⟩ = some (.bool dn)) (simp [*, go_sem, World.cell?_alloc_past])
    (first
     | (go_at_call 44; refine (UD.out _ (by first | exact hbc | exact hbc.drew)).mono ?_; rintro o w2 ⟨rfl, hw⟩; have hw' := hw.symm; subst hw')
     | (go_at_call 78; refine (UR.out _ (by first | exact hbc | exact hbc.drew)).mono ?_; rintro o w2 ⟨rfl, hb2⟩; have hbd : Below W.heap.size W w2 := (by first | exact bt hbc hb2 | exact bt hbc.drew hb2); clear hbc; have hbc := hbd; clear hbd hb2; obtain ⟨-, k2, k3⟩ := CE.out _ hbc)
     | (go_at_call 45; refine (DD.out _ (by first | exact hbc | exact hbc.drew)).mono ?_; rintro o w2 ⟨rfl, hw⟩; have hw' := hw.symm; subst hw')
     | (go_at_call 41; refine (AD.out _ (by first | exact hbc | exact hbc.drew)).mono ?_; rintro o w2 ⟨rfl, hw⟩; have hw' := hw.symm; subst hw'))
  have HBC := hid hbc
  clear hbc k2 k3 c2 c3 UD UR DD AD
  go_wp2
  go_loopw [5, 6, 7, 8, 9] (fun i _ _ _ _ wr => ∃ k : Nat, k ≤ ks.length ∧ i = .int .i64 k ∧ Hid (Below W.heap.size W wr)) (fun i _ _ _ _ _ => ks.length - (intOf i).toNat)
  case atStart => exact ⟨0, Nat.zero_le _, rfl, by first | exact HBC | exact hid (below_drewN HBC.out _) | exact hid HBC.out.drew⟩
  case round =>
    obtain ⟨k, hk, rfl, hB⟩ := hrel
    obtain ⟨k0, -, -⟩ := CE.out _ hB.out
    by_cases hlt : k < ks.length
    · obtain ⟨b, hA, e0⟩ := EL.out _ hB.out k hlt
      subst hA
      have E1 := hid (fun W' (hb : Below W.heap.size W W') => show W'.cell? ⟨r, 0, none⟩ = some (.slice (some ⟨b, 0, none⟩) ks.length c) ∧ W'.cell? ⟨b, k * 3, none⟩ = some (.string (S ks[k])) from by
        obtain ⟨b', hA', e1⟩ := EL.out _ hb k hlt
        injection hA' with hA'
        injection hA' with hA'
        subst hA'
        exact ⟨(CE.out _ hb).1, e1⟩)
      have R1 := hid (RD.out _ hB.out ks[k] (List.getElem_mem hlt))
      have R2 := hid (fun W' hb => RR.out W' hb ks[k])
      unfold ReadPost at R1
      have hwz := hB.out.size
      clear EL RD RR LD LR LL CE
      generalize ks[k] = nm at *
      generalize d.read nm = bs at *
      generalize d.readE nm = er at *
      go_wp2_with fail
      refine R1.out.mono ?_
      rintro o w2 ⟨v, rfl, hrow, hb2⟩
      obtain ⟨A2, cc2, rfl⟩ := row_form hrow
      have HB2 := hid (hB.out.trans (hb2.mono hwz))
      have ROW := hid hrow
      obtain ⟨y0, y1⟩ := E1.out _ HB2.out
      have R3 := hid (R2.out _ HB2.out)
      clear hrow hb2 R1 R2 k0 e0
      go_wp2_with fail
      refine R3.out.mono ?_
      rintro o w3 ⟨rfl, hb3⟩
      have HS : (convert 47 9 (.slice A2 bs.length cc2)).run Try.prog w3 = .ok (.string (S bs)) w3 := run_string_row w3 (l := bs) (row_base (row_below ROW.out hb3) (Nat.zero_le _))
      have HB3 := hid (HB2.out.trans (hb3.mono (by have := HB2.out.size; omega)))
      clear hb3 R3 y0 y1 ROW
      go_wp2
      go_roundw
      case rel => exact ⟨k + 1, by omega, by go_num, by first | exact HB3 | exact hid (below_drewN HB3.out _) | exact hid HB3.out.drew⟩
      case measure => simp [intOf]; omega
    · have hk' : k = ks.length := by omega
      subst hk'
      have L1 := hid (LD.out _ hB.out [])
      have LR1 := hid (fun W' hb => LR.out W' hb [] (by simp))
      have l1 := LL.out []
      generalize d.list [] = ls1 at L1 LR1 l1
      have SM1 := hid (fun A B c c' W hA hB => ref_Same_yes ls1 l1 A B c c' W hA hB)
      go_wp2_with fail
      refine L1.out.mono ?_
      rintro o p1 ⟨v, rfl, hrow, hb2⟩
      obtain ⟨A1, a1, rfl⟩ := row_form hrow
      have HP1 := hid (hB.out.trans (hb2.mono (by have := hB.out.size; omega)))
      have ROW1 := hid hrow
      have Q1 := hid (LR1.out _ HP1.out)
      clear hrow hb2 L1 LR1
      go_wp2_with fail
      refine Q1.out.mono ?_
      rintro o q1 ⟨v, rfl, hrow, hb3⟩
      obtain ⟨B1, b1, rfl⟩ := row_form hrow
      have S1 := hid (SM1.out A1 B1 a1 b1 q1 (strs_at (row_below ROW1.out hb3)) (strs_at hrow))
      have HQ1 := hid (HP1.out.trans (hb3.mono (by have := HP1.out.size; omega)))
      clear hrow hb3 Q1 SM1 ROW1
      go_wp2_with fail
      refine S1.out.mono ?_
      rintro o z1 ⟨rfl, hb4⟩
      have HZ1 := hid (HQ1.out.trans (hb4.mono (by have := HQ1.out.size; omega)))
      clear hb4 S1
      have L2 := hid (LD.out _ HZ1.out [97])
      have LR2 := hid (fun W' hb => LR.out W' hb [97] (by simp))
      have l2 := LL.out [97]
      generalize d.list [97] = ls2 at L2 LR2 l2
      have SM2 := hid (fun A B c c' W hA hB => ref_Same_yes ls2 l2 A B c c' W hA hB)
      go_wp2_with fail
      refine L2.out.mono ?_
      rintro o p2 ⟨v, rfl, hrow, hb2⟩
      obtain ⟨A2, a2, rfl⟩ := row_form hrow
      have HP2 := hid (HZ1.out.trans (hb2.mono (by have := HZ1.out.size; omega)))
      have ROW2 := hid hrow
      have Q2 := hid (LR2.out _ HP2.out)
      clear hrow hb2 L2 LR2
      go_wp2_with fail
      refine Q2.out.mono ?_
      rintro o q2 ⟨v, rfl, hrow, hb3⟩
      obtain ⟨B2, b2, rfl⟩ := row_form hrow
      have S2 := hid (SM2.out A2 B2 a2 b2 q2 (strs_at (row_below ROW2.out hb3)) (strs_at hrow))
      have HQ2 := hid (HP2.out.trans (hb3.mono (by have := HP2.out.size; omega)))
      clear hrow hb3 Q2 SM2 ROW2
      go_wp2_with fail
      refine S2.out.mono ?_
      rintro o z2 ⟨rfl, hb4⟩
      have HZ2 := hid (HQ2.out.trans (hb4.mono (by have := HQ2.out.size; omega)))
      clear hb4 S2
      go_wp2
      go_ret
      exact ⟨rfl, HZ2.out⟩
end Go.Proofs.Ytjmcnhpffpcboaa
