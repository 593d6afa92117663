/- Walk of (*Journal).Move. -/
import Derived.Test.YtjmcnhpffpcboaaStages4
import Derived.Test.YtjmcnhpffpcboaaLawK
import Derived.Deep.RegionHeld3
import Derived.Deep.DrawnRows
import Derived.Deep.DeepCutAuto
set_option linter.unusedVariables false
set_option linter.unusedSimpArgs false
set_option maxHeartbeats 3200000
set_option maxRecDepth 100000
attribute [local go_sem ↓] Go.wp_at_zero Go.wp_at_succ
namespace Go.Proofs.Ytjmcnhpffpcboaa
open Go.RowKit

theorem journal_Move {w : World} {j g : Nat} {a n : Int} {d : Dr} {fp : Nat → Prop} {N : Nat} (h : St w fp j g a w d fp) (hok : d.Ok N) (hN : N + 1 < 1000000000) (ha : In64 a) (hn : In64 n) :
    Calls Try.prog 35 #[.pointer (some ⟨j, 0, none⟩), .int .i64 n] w (MovePost w fp j g d a n) := by
  have Al := hid (drive_Alive h.dr)
  have c0 := Blk.cell h.jo 0
  have c1 := Blk.cell h.jo 1
  simp at c0 c1
  cases hdn : d.down with
  | true =>
    rw [hdn] at Al
    have H := hid (h.stay (n := n) (e := 13) (d' := d) (by unfold moveR; rw [hdn]; rfl) (by omega))
    clear hdn h hok
    go_enter Try.func35, Try.ntmps35
    go_wp2_with fail
    refine Al.out.mono ?_
    rintro e w1 ⟨rfl, rfl⟩
    go_wp2
    go_ret
    exact H.out
  | false =>
    rw [hdn] at Al
    have Ma := hid (stages_May a n ha hn w)
    cases hm : mayB a n with
    | false =>
      rw [hm] at Ma
      have H := hid (fun W (hb : Below w.heap.size w W) => (h.below hb).stay (n := n) (e := 16) (d' := d) (by unfold moveR; rw [hdn, hm]; rfl) (by omega))
      clear hdn h hok hm
      go_enter Try.func35, Try.ntmps35
      go_wp2_with fail
      refine Al.out.mono ?_
      rintro e w1 ⟨rfl, rfl⟩
      go_wp2_with fail
      refine Ma.out.mono ?_
      rintro e w1 ⟨rfl, hb⟩
      have HB := hid hb
      clear hb
      go_wp2
      go_ret
      exact H.out _ HB.out
    | true =>
      rw [hm] at Ma
      have hR : moveR d a n = moveD d n := by unfold moveR; rw [hdn, hm]; rfl
      have hcell : Hid (∀ W d1 f1, St w fp j g a W d1 f1 → W.cell? ⟨j, 0, none⟩ = some (.pointer (some ⟨g, 0, none⟩)) ∧ W.frozen? ⟨j, 1, none⟩ = false) := fun W d1 f1 hs => ⟨by have := Blk.cell hs.jo 0; simpa using this, Blk.frozen hs.jo 1⟩
      have Cr : Hid (∀ W d1 f1, d1.Ok N → St w fp j g a W d1 f1 → Calls Try.prog 30 #[.pointer (some ⟨g, 0, none⟩), .string (S tempK)] W fun x w' => x = .returned (.int .i64 (d1.create tempK).2) ∧ ∃ f2, St w fp j g a w' (d1.create tempK).1 f2) :=
        fun W d1 f1 hk hs => (drive_Create hs.dr hk tempK (by decide)).mono fun x w' ⟨h1, h2⟩ => ⟨h1, hs.next h2⟩
      have Rm : Hid (∀ W d1 f1, d1.Ok N → St w fp j g a W d1 f1 → Calls Try.prog 62 #[.pointer (some ⟨g, 0, none⟩), .string (S tempK)] W fun x w' => x = .returned (.int .i64 (d1.remove tempK).2) ∧ ∃ f2, St w fp j g a w' (d1.remove tempK).1 f2) :=
        fun W d1 f1 hk hs => (drive_Remove hs.dr hk (by omega) tempK (by decide)).mono fun x w' ⟨h1, h2⟩ => ⟨h1, hs.next h2⟩
      have Sy : Hid (∀ W d1 f1, d1.Ok (N + 1) → St w fp j g a W d1 f1 → Calls Try.prog 38 #[.pointer (some ⟨g, 0, none⟩), .string (S tempK)] W fun x w' => x = .returned (.int .i64 (d1.sync tempK).2) ∧ ∃ f2, St w fp j g a w' (d1.sync tempK).1 f2) :=
        fun W d1 f1 hk hs => (drive_Sync hs.dr hk (by omega) tempK (by decide)).mono fun x w' ⟨h1, h2⟩ => ⟨h1, hs.next h2⟩
      have Rn : Hid (∀ W d1 f1, d1.Ok (N + 1) → St w fp j g a W d1 f1 → Calls Try.prog 63 #[.pointer (some ⟨g, 0, none⟩), .string (S tempK), .string (S stageK)] W fun x w' => x = .returned (.int .i64 (d1.rename tempK stageK).2) ∧ ∃ f2, St w fp j g a w' (d1.rename tempK stageK).1 f2) :=
        fun W d1 f1 hk hs => (drive_Rename hs.dr hk (by omega) tempK stageK (by decide) (by decide)).mono fun x w' ⟨h1, h2⟩ => ⟨h1, hs.next h2⟩
      have hS0 : Hid (∀ W, Below w.heap.size w W → St w fp j g a W d fp) := fun W hb => h.below hb
      have hOC := hid hok
      clear hdn h hm
      go_enter Try.func35, Try.ntmps35
      go_wp2_with fail
      refine Al.out.mono ?_
      rintro e w1 ⟨rfl, hw⟩
      have hw' := hw.symm
      subst hw'
      go_wp2_with fail
      refine Ma.out.mono ?_
      rintro e w1 ⟨rfl, hb⟩
      have s1 := hS0.out _ hb
      have q1 := (hcell.out _ _ _ s1).1
      have S1 := hid s1
      clear hb s1
      go_wp2_with fail
      refine (Cr.out _ _ _ hok S1.out).mono ?_
      rintro e w2 ⟨rfl, f2, s2⟩
      have q2 := (hcell.out _ _ _ s2).1
      have S2 := hid s2
      clear s2
      go_upto_if 27 with fail
      go_cut [5] (fun s5 wx => s5 = .int .i64 (moveC d).2 ∧ ∃ f3, St w fp j g a wx (moveC d).1 f3)
      case first =>
        by_cases h11 : (d.create tempK).2 = 11
        · have hC : Hid (moveC d = if ((d.create tempK).1.remove tempK).2 = 0 then ((d.create tempK).1.remove tempK).1.create tempK else (d.create tempK).1.remove tempK) := by unfold Hid moveC; rw [if_pos h11]
          have Rmm := hid (Rm.out w2 _ _ (hok.create _) S2.out)
          generalize he2 : (d.create tempK).2 = e2 at *
          subst h11
          clear he2
          go_wp2_with fail
          refine Rmm.out.mono ?_
          rintro e w3 ⟨rfl, f3, s3⟩
          have q3 := (hcell.out _ _ _ s3).1
          have S3 := hid s3
          clear s3
          by_cases h0 : ((d.create tempK).1.remove tempK).2 = 0
          · have hC2 : Hid (moveC d = ((d.create tempK).1.remove tempK).1.create tempK) := by unfold Hid; rw [hC.out, if_pos h0]
            have Crr := hid (Cr.out w3 _ _ ((hok.create _).remove _) S3.out)
            rw [h0]
            clear h0
            go_wp2_with fail
            refine Crr.out.mono ?_
            rintro e w4 ⟨rfl, f4, s4⟩
            have S4 := hid s4
            clear s4
            go_wp2_with fail
            go_meet
            exact ⟨by rw [hC2.out], f4, by rw [hC2.out]; exact S4.out⟩
          · have hC2 : Hid (moveC d = (d.create tempK).1.remove tempK) := by unfold Hid; rw [hC.out, if_neg h0]
            have h0' : ((((d.create tempK).1.remove tempK).2 == 0) : Bool) = false := by simpa using h0
            clear h0
            go_wp2_with fail
            go_meet
            exact ⟨by rw [hC2.out], f3, by rw [hC2.out]; exact S3.out⟩
        · have hC2 : Hid (moveC d = d.create tempK) := by unfold Hid moveC; rw [if_neg h11]
          have h0' : (((d.create tempK).2 == 11) : Bool) = false := by simpa using h11
          clear h11
          go_wp2_with fail
          go_meet
          exact ⟨by rw [hC2.out], f2, by rw [hC2.out]; exact S2.out⟩
      case rest =>
        obtain ⟨rfl, f3, s3⟩ := hcut
        have hOK3 := hid (moveC_ok hok)
        have q3 := (hcell.out _ _ _ s3).1
        have z3 := (hcell.out _ _ _ s3).2
        have S3 := hid s3
        clear s3 S2 q2 S1 q1 Ma Al c0 c1 hok Cr Rm hS0
        by_cases h3 : (moveC d).2 = 0
        · have hA : Hid (moveA d n = (moveC d).1.append tempK (decI n ++ [10])) := by unfold Hid moveA; rw [if_pos h3]
          have hOKA := hid (moveA_ok hOC.out n)
          have hdl : (decI n).length ≤ 20 := by
            unfold decI
            split
            · have := decN_len19 n.natAbs (by unfold In64 at hn; omega)
              simp; omega
            · have := decN_len19 n.natAbs (by unfold In64 at hn; omega)
              omega
          have De : Hid (∀ W, Below wc.heap.size wc W → Calls Try.prog 21 #[.int .i64 n] W fun e W2 => e = .returned (.string (S (decI n))) ∧ W2.cell? ⟨j, 0, none⟩ = some (.pointer (some ⟨g, 0, none⟩)) ∧ (Lib.bytesWorld W2 5 (S (decI n ++ [10]))).cell? ⟨j, 0, none⟩ = some (.pointer (some ⟨g, 0, none⟩)) ∧
              (convert 9 47 (.string (S (decI n ++ [10])))).run Try.prog W2 = .ok (.slice (some ⟨W2.heap.size, 0, none⟩) (decI n ++ [10]).length (grownCap W2 (decI n ++ [10]).length 0 5)) (Lib.bytesWorld W2 5 (S (decI n ++ [10]))) ∧
              Hid (Calls Try.prog 31 #[.pointer (some ⟨g, 0, none⟩), .string (S tempK), .slice (some ⟨W2.heap.size, 0, none⟩) (decI n ++ [10]).length (grownCap W2 (decI n ++ [10]).length 0 5)] (Lib.bytesWorld W2 5 (S (decI n ++ [10]))) fun x w' => x = .returned (.int .i64 (moveA d n).2) ∧ w'.cell? ⟨j, 0, none⟩ = some (.pointer (some ⟨g, 0, none⟩)) ∧ ∃ f2, St w fp j g a w' (moveA d n).1 f2)) := by
            intro W hb
            refine (text_Decimal n W hn.1 hn.2).mono ?_
            rintro e W2 ⟨rfl, hb2⟩
            have hs2 : St w fp j g a W2 (moveC d).1 f3 := S3.out.below (bt hb hb2)
            have hs3 := hs2.below (conv_below W2 (decI n ++ [10]))
            refine ⟨rfl, (hcell.out _ _ _ hs2).1, (hcell.out _ _ _ hs3).1, conv_run W2 _, ?_⟩
            refine (drive_Append hs3.dr hOK3.out (by omega) tempK (by decide) _ (decI n ++ [10]) _ (conv_at W2 _) (fun p hp hk => ?_) (by simp; omega)).mono ?_
            · injection hp with hp
              subst hp
              have := hs2.dr.lt _ hk
              exact absurd this (by simp)
            · rintro x w' ⟨rfl, h2⟩
              obtain ⟨f2, hs4⟩ := hs3.next h2
              rw [hA.out]
              exact ⟨rfl, (hcell.out _ _ _ hs4).1, f2, hs4⟩
          have De2 := hid (De.out wc.drew (Below.refl _ wc).drew)
          clear De
          rw [h3]
          clear h3
          generalize hdd : decI n = dd at De2 hdl
          generalize hdat : dd ++ [10] = data at De2
          clear hdd hA
          have hbd : ¬ (9223372036854775807 < dd.length + 1) := by omega
          have HF := hid hR
          clear hR
          go_upto_region 11 with fail
          go_cut [5] (fun s5 wx => s5 = .int .i64 (moveA d n).2 ∧ wx.cell? ⟨j, 0, none⟩ = some (.pointer (some ⟨g, 0, none⟩)) ∧ ∃ f4, St w fp j g a wx (moveA d n).1 f4)
          case first =>
            refine region_anyK (fun w' => w'.cell? ⟨j, 0, none⟩ = some (.pointer (some ⟨g, 0, none⟩))) 9 (by kernel_rfl) (by ((try dsimp only); first | assumption | simp [*, go_sem, World.cell?_alloc_past])) (fun hSk => ?_)
            refine anyK_take 0 [0] (v := ?_) rfl (by kernel_rfl) (by kernel_rfl) (fun _ _ _ h => h) (Or.inl ⟨by rfl, ?_⟩) hSk ?_
            rotate_left
            · intro w' hSw; (try dsimp only at hSw); go_simp; try with_reducible rfl
            try simp only [Act.put, List.setIfInBounds_toArray, List.set_cons_zero, List.set_cons_succ]
            refine anyK_take 1 [1] (v := ?_) rfl (by kernel_rfl) (by kernel_rfl) (fun _ _ _ h => h) (Or.inl ⟨by rfl, ?_⟩) hSk ?_
            rotate_left
            · intro w' hSw; (try dsimp only at hSw); go_simp; try with_reducible rfl
            try simp only [Act.put, List.setIfInBounds_toArray, List.set_cons_zero, List.set_cons_succ]
            refine anyK_take 2 [2] (v := ?_) rfl (by kernel_rfl) (by kernel_rfl) (fun _ _ _ h => h) (Or.inl ⟨by rfl, ?_⟩) hSk ?_
            rotate_left
            · intro w' hSw; (try dsimp only at hSw); go_simp; try with_reducible rfl
            try simp only [Act.put, List.setIfInBounds_toArray, List.set_cons_zero, List.set_cons_succ]
            refine anyK_take 3 [3] (v := ?_) rfl (by kernel_rfl) (by kernel_rfl) (fun _ _ _ h => h) (Or.inl ⟨by rfl, ?_⟩) hSk ?_
            rotate_left
            · intro w' hSw; (try dsimp only at hSw); go_simp; try with_reducible rfl
            try simp only [Act.put, List.setIfInBounds_toArray, List.set_cons_zero, List.set_cons_succ]
            refine anyK_take 4 [4] (v := ?_) rfl (by kernel_rfl) (by kernel_rfl) (fun _ _ _ h => h) (Or.inl ⟨by rfl, ?_⟩) hSk ?_
            rotate_left
            · intro w' hSw; (try dsimp only at hSw); go_simp; try with_reducible rfl
            try simp only [Act.put, List.setIfInBounds_toArray, List.set_cons_zero, List.set_cons_succ]
            refine anyK_only 5 (by kernel_rfl) rfl (fun K hK => ?_)
            (first | (rw [if_pos (by rfl)]; go_simp; go_at_call 21; refine De2.out.mono ?_; rintro e w3 ⟨rfl, k0, k1, k2, k3⟩; go_wp2_with fail) | (rw [if_pos (by rfl)]; go_simp; go_at_call 31; refine k3.out.mono ?_; rintro e w4 ⟨rfl, k4, k5⟩; go_wp2_with fail) | go_simp)
            clear hSk
            refine hK.out _ _ (by ((try dsimp only); first | assumption | simp [*, go_sem, World.cell?_alloc_past])) (fun hSk => ?_)
            clear hK K
            try simp only [Act.put, List.setIfInBounds_toArray, List.set_cons_zero, List.set_cons_succ]
            refine anyK_only 6 (by kernel_rfl) rfl (fun K hK => ?_)
            go_simp
            clear hSk
            refine hK.out _ _ (by ((try dsimp only); first | assumption | simp [*, go_sem, World.cell?_alloc_past])) (fun hSk => ?_)
            clear hK K
            try simp only [Act.put, List.setIfInBounds_toArray, List.set_cons_zero, List.set_cons_succ]
            refine anyK_only 7 (by kernel_rfl) rfl (fun K hK => ?_)
            (first | (rw [if_pos (by rfl)]; go_simp; go_at_call 21; refine De2.out.mono ?_; rintro e w3 ⟨rfl, k0, k1, k2, k3⟩; go_wp2_with fail) | (rw [if_pos (by rfl)]; go_simp; go_at_call 31; refine k3.out.mono ?_; rintro e w4 ⟨rfl, k4, k5⟩; go_wp2_with fail) | go_simp)
            clear hSk
            refine hK.out _ _ (by ((try dsimp only); first | assumption | simp [*, go_sem, World.cell?_alloc_past])) (fun hSk => ?_)
            clear hK K
            try simp only [Act.put, List.setIfInBounds_toArray, List.set_cons_zero, List.set_cons_succ]
            refine anyK_only 8 (by kernel_rfl) rfl (fun K hK => ?_)
            (first | (rw [if_pos (by rfl)]; go_simp; go_at_call 21; refine De2.out.mono ?_; rintro e w3 ⟨rfl, k0, k1, k2, k3⟩; go_wp2_with fail) | (rw [if_pos (by rfl)]; go_simp; go_at_call 31; refine k3.out.mono ?_; rintro e w4 ⟨rfl, k4, k5⟩; go_wp2_with fail) | go_simp)
            clear hSk
            refine hK.out _ _ (by ((try dsimp only); first | assumption | simp [*, go_sem, World.cell?_alloc_past])) (fun hSk => ?_)
            clear hK K
            try simp only [Act.put, List.setIfInBounds_toArray, List.set_cons_zero, List.set_cons_succ]
            refine anyK_last (by kernel_rfl) rfl (by kernel_rfl) (fun K hK => ?_)
            go_simp
            refine hK.out _ _ ?_
            clear hK K
            try simp only [Act.put, List.setIfInBounds_toArray, List.set_cons_zero, List.set_cons_succ]
            refine anyK_done (by kernel_rfl) ?_ _
            clear hSk
            all_goals (go_wp2_with fail; go_meet; exact ⟨rfl, k4, k5⟩)
          case rest =>
            obtain ⟨rfl, q4, f4, s4⟩ := hcut
            have S4 := hid s4
            clear s4 q3 z3 De2
            by_cases h4 : (moveA d n).2 = 0
            · have hB : Hid (moveS d n = (moveA d n).1.sync tempK) := by unfold Hid moveS; rw [if_pos h4]
              have Syy := hid (Sy.out wc _ _ hOKA.out S4.out)
              have hOKS := hid (moveS_ok hOC.out n)
              rw [h4]
              clear h4 Sy
              go_wp2_with fail
              refine Syy.out.mono ?_
              rintro e w5 ⟨rfl, f5, s5⟩
              rw [← hB.out] at s5 ⊢
              have q5 := (hcell.out _ _ _ s5).1
              have S5 := hid s5
              clear s5 q4
              by_cases h5 : (moveS d n).2 = 0
              · have hD : Hid (moveD d n = (moveS d n).1.rename tempK stageK) := by unfold Hid moveD; rw [if_pos h5]
                have Rnn := hid (Rn.out w5 _ _ hOKS.out S5.out)
                rw [h5]
                clear h5 Rn Syy
                go_wp2_with fail
                refine Rnn.out.mono ?_
                rintro e w6 ⟨rfl, f6, s6⟩
                rw [← hD.out] at s6 ⊢
                have z6 := (hcell.out _ _ _ s6).2
                have y6 : w6.cell? ⟨j, 1, none⟩ = some (.int .i64 a) := by have := Blk.cell s6.jo 1; simpa using this
                have S6 := hid s6
                clear s6 q5 Rnn
                by_cases h6 : (moveD d n).2 = 0
                · have H := hid (S6.out.moved (n := n) (by rw [HF.out]; exact Prod.ext rfl h6))
                  rw [h6]
                  clear h6
                  go_wp2
                  go_ret
                  exact H.out
                · have H := hid (S6.out.stay (n := n) (e := (moveD d n).2) (by rw [HF.out]) h6)
                  have h0' : (((moveD d n).2 == 0) : Bool) = false := by simpa using h6
                  clear h6
                  go_wp2
                  go_ret
                  exact H.out
              · have hF : Hid (moveD d n = moveS d n) := by unfold Hid moveD; simp [h5]
                have H := hid (S5.out.stay (n := n) (e := (moveS d n).2) (by rw [HF.out, hF.out]) h5)
                have h0' : (((moveS d n).2 == 0) : Bool) = false := by simpa using h5
                clear h5
                go_wp2
                go_ret
                exact H.out
            · have hF : Hid (moveD d n = moveA d n) := by unfold Hid moveD moveS; simp [h4]
              have H := hid (S4.out.stay (n := n) (e := (moveA d n).2) (by rw [HF.out, hF.out]) h4)
              have h0' : (((moveA d n).2 == 0) : Bool) = false := by simpa using h4
              clear h4
              go_wp2
              go_ret
              exact H.out
        · have hF : Hid (moveD d n = moveC d) := by unfold Hid moveD moveS moveA; simp [h3]
          have H := hid (S3.out.stay (n := n) (e := (moveC d).2) (by rw [hR, hF.out]) h3)
          have h0' : (((moveC d).2 == 0) : Bool) = false := by simpa using h3
          clear h3 hR
          go_wp2
          go_ret
          exact H.out
end Go.Proofs.Ytjmcnhpffpcboaa
