/- Walks of package drive: Append. -/
import Derived.Test.YtbjimikppdfmgaaGreatDoorDrive9
import Derived.Test.YtbjimikppdfmgaaGreatDoorLawK
import Derived.Deep.DeepCutAuto
set_option linter.unusedVariables false
set_option linter.unusedSimpArgs false
set_option maxHeartbeats 3200000
set_option maxRecDepth 100000
attribute [local go_sem ↓] Go.wp_at_zero Go.wp_at_succ
namespace Go.Proofs.YtbjimikppdfmgaaGreatDoor
open Go.RowKit

/-- What the closure of an append reads. -/
structure Four (w : World) (g mb pb nb db fb : Nat) (name : Key) (u : Int) (A : Option Addr) (n c : Nat) (pv : Value) : Prop where
  c0 : w.cell? ⟨pb, 0, none⟩ = some (.pointer (some ⟨g, 0, none⟩))
  c1 : w.cell? ⟨nb, 0, none⟩ = some (.string (S name))
  c2 : w.cell? ⟨db, 0, none⟩ = some (.slice A n c)
  c3 : w.cell? ⟨g, 0, none⟩ = some (.map (some mb))
  c4 : w.cell? ⟨g, 2, none⟩ = some (.int .i64 u)
  c5 : w.cell? ⟨fb, 1, none⟩ = some pv
  f2 : w.frozen? ⟨g, 2, none⟩ = false
  f3 : w.frozen? ⟨fb, 1, none⟩ = false
  L : (Instr.lookup 46 (.map (some mb)) (.string (S name)) false).run Tryz.prog w = .ok (.pointer (some ⟨fb, 0, none⟩)) w

theorem append_walk {w : World} {g mb pb nb db fb : Nat} {name : Key} {u : Int} {A pA : Option Addr} {n c pn pc : Nat} (hT : Four w.drew g mb pb nb db fb name u A n c (.slice pA pn pc)) (R : World → Prop)
    (hA : Calls Tryz.prog 65 #[.slice A n c] w.drew fun e w1 => ∃ A1 n1 c1, e = .returned (.slice A1 n1 c1) ∧ Four w1 g mb pb nb db fb name u A n c (.slice pA pn pc) ∧ Four (w1.alloc (.cells #[.slice A1 n1 c1] 60)) g mb pb nb db fb name u A n c (.slice pA pn pc) ∧
      ∃ A2 n2 c2 w2, (Builtin.append_ #[81, 81] 81 #[.slice pA pn pc, .slice (some ⟨w1.heap.size, 0, none⟩) 1 1]).run Tryz.prog (w1.alloc (.cells #[.slice A1 n1 c1] 60)) = .ok (.slice A2 n2 c2) w2 ∧
        Four w2 g mb pb nb db fb name u A n c (.slice pA pn pc) ∧ Four (w2.setCell ⟨fb, 1, none⟩ (.slice A2 n2 c2)) g mb pb nb db fb name u A n c (.slice A2 n2 c2) ∧ Four ((w2.setCell ⟨fb, 1, none⟩ (.slice A2 n2 c2)).drew.setCell ⟨g, 2, none⟩ (.int .i64 (IntKind.i64.wrap (u + n)))) g mb pb nb db fb name (IntKind.i64.wrap (u + n)) A n c (.slice A2 n2 c2) ∧
        R ((w2.setCell ⟨fb, 1, none⟩ (.slice A2 n2 c2)).drew.setCell ⟨g, 2, none⟩ (.int .i64 (IntKind.i64.wrap (u + n))))) :
    Calls Tryz.prog 64 #[.pointer (some ⟨pb, 0, none⟩), .pointer (some ⟨nb, 0, none⟩), .pointer (some ⟨db, 0, none⟩)] w fun e w' => e = .returned (.tuple #[]) ∧ R w' := by
  have HA := hid hA
  clear hA
  obtain ⟨cp, cn, cd, cg, cu, cf, fu, ff, L⟩ := hT
  go_enter Tryz.func64, Tryz.ntmps64
  go_upto_region 0 with fail
  go_cut [] (fun wx => ∃ v, Four wx g mb pb nb db fb name u A n c v ∧ Four (wx.drew.setCell ⟨g, 2, none⟩ (.int .i64 (IntKind.i64.wrap (u + n)))) g mb pb nb db fb name (IntKind.i64.wrap (u + n)) A n c v ∧ R (wx.drew.setCell ⟨g, 2, none⟩ (.int .i64 (IntKind.i64.wrap (u + n)))))
  case first =>
    refine region_anyK (fun w' => w'.cell? ⟨pb, 0, none⟩ = some (.pointer (some ⟨g, 0, none⟩)) ∧ w'.cell? ⟨nb, 0, none⟩ = some (.string (S name)) ∧ w'.cell? ⟨db, 0, none⟩ = some (.slice A n c) ∧ w'.cell? ⟨g, 0, none⟩ = some (.map (some mb)) ∧ w'.cell? ⟨fb, 1, none⟩ = some (.slice pA pn pc) ∧ (Instr.lookup 46 (.map (some mb)) (.string (S name)) false).run Tryz.prog w' = .ok (.pointer (some ⟨fb, 0, none⟩)) w') 21 (by kernel_rfl) (by ((try dsimp only); simp [*, go_sem, World.cell?_alloc_past])) (fun hSk => ?_)
    refine anyK_take 0 [0] (v := ?_) rfl (by kernel_rfl) (by kernel_rfl) (fun _ _ _ h => h) (Or.inl ⟨by rfl, ?_⟩) hSk ?_
    rotate_left
    · intro w' hSw; (try dsimp only at hSw); go_simp; try with_reducible rfl
    try simp only [Act.put, List.setIfInBounds_toArray, List.set_cons_zero, List.set_cons_succ]
    refine anyK_take 1 [1] (v := ?_) rfl (by kernel_rfl) (by kernel_rfl) (fun _ _ _ h => h) (Or.inl ⟨by rfl, ?_⟩) hSk ?_
    rotate_left
    · intro w' hSw; (try dsimp only at hSw); go_simp; try with_reducible rfl
    try simp only [Act.put, List.setIfInBounds_toArray, List.set_cons_zero, List.set_cons_succ]
    refine anyK_take 2 [2] (v := ?_) rfl (by kernel_rfl) (by kernel_rfl) (fun _ _ _ h => h) (Or.inl ⟨by rfl, ?_⟩) hSk ?_
    rotate_left
    · intro w' hSw; (try dsimp only at hSw); go_simp; try with_reducible rfl
    try simp only [Act.put, List.setIfInBounds_toArray, List.set_cons_zero, List.set_cons_succ]
    refine anyK_take 3 [3] (v := ?_) rfl (by kernel_rfl) (by kernel_rfl) (fun _ _ _ h => h) (Or.inl ⟨by rfl, ?_⟩) hSk ?_
    rotate_left
    · intro w' hSw; (try dsimp only at hSw); go_simp; try with_reducible rfl
    try simp only [Act.put, List.setIfInBounds_toArray, List.set_cons_zero, List.set_cons_succ]
    refine anyK_take 4 [4] (v := ?_) rfl (by kernel_rfl) (by kernel_rfl) (fun _ _ _ h => h) (Or.inl ⟨by rfl, ?_⟩) hSk ?_
    rotate_left
    · intro w' hSw; (try dsimp only at hSw); go_simp; try with_reducible rfl
    try simp only [Act.put, List.setIfInBounds_toArray, List.set_cons_zero, List.set_cons_succ]
    refine anyK_take 5 [5] (v := ?_) rfl (by kernel_rfl) (by kernel_rfl) (fun _ _ _ h => h) (Or.inl ⟨by rfl, ?_⟩) hSk ?_
    rotate_left
    · intro w' hSw; (try dsimp only at hSw); go_simp; try with_reducible rfl
    try simp only [Act.put, List.setIfInBounds_toArray, List.set_cons_zero, List.set_cons_succ]
    refine anyK_take 6 [6] (v := ?_) rfl (by kernel_rfl) (by kernel_rfl) (fun _ _ _ h => h) (Or.inl ⟨by rfl, ?_⟩) hSk ?_
    rotate_left
    · intro w' hSw; (try dsimp only at hSw); go_simp; try with_reducible rfl
    try simp only [Act.put, List.setIfInBounds_toArray, List.set_cons_zero, List.set_cons_succ]
    refine anyK_take 7 [7] (v := ?_) rfl (by kernel_rfl) (by kernel_rfl) (fun _ _ _ h => h) (Or.inl ⟨by rfl, ?_⟩) hSk ?_
    rotate_left
    · intro w' hSw; (try dsimp only at hSw); go_simp; try with_reducible rfl
    try simp only [Act.put, List.setIfInBounds_toArray, List.set_cons_zero, List.set_cons_succ]
    refine anyK_take 8 [8] (v := ?_) rfl (by kernel_rfl) (by kernel_rfl) (fun _ _ _ h => h) (Or.inl ⟨by rfl, ?_⟩) hSk ?_
    rotate_left
    · intro w' hSw; (try dsimp only at hSw); go_simp; try with_reducible rfl
    try simp only [Act.put, List.setIfInBounds_toArray, List.set_cons_zero, List.set_cons_succ]
    refine anyK_take 9 [9] (v := ?_) rfl (by kernel_rfl) (by kernel_rfl) (fun _ _ _ h => h) (Or.inl ⟨by rfl, ?_⟩) hSk ?_
    rotate_left
    · intro w' hSw; (try dsimp only at hSw); go_simp; try with_reducible rfl
    try simp only [Act.put, List.setIfInBounds_toArray, List.set_cons_zero, List.set_cons_succ]
    refine anyK_take 10 [10] (v := ?_) rfl (by kernel_rfl) (by kernel_rfl) (fun _ _ _ h => h) (Or.inl ⟨by rfl, ?_⟩) hSk ?_
    rotate_left
    · intro w' hSw; (try dsimp only at hSw); go_simp; try with_reducible rfl
    try simp only [Act.put, List.setIfInBounds_toArray, List.set_cons_zero, List.set_cons_succ]
    refine anyK_take 11 [11] (v := ?_) rfl (by kernel_rfl) (by kernel_rfl) (fun _ _ _ h => h) (Or.inl ⟨by rfl, ?_⟩) hSk ?_
    rotate_left
    · intro w' hSw; (try dsimp only at hSw); go_simp; try with_reducible rfl
    try simp only [Act.put, List.setIfInBounds_toArray, List.set_cons_zero, List.set_cons_succ]
    refine anyK_take 12 [12] (v := ?_) rfl (by kernel_rfl) (by kernel_rfl) (fun _ _ _ h => h) (Or.inl ⟨by rfl, ?_⟩) hSk ?_
    rotate_left
    · intro w' hSw; (try dsimp only at hSw); go_simp; try with_reducible rfl
    try simp only [Act.put, List.setIfInBounds_toArray, List.set_cons_zero, List.set_cons_succ]
    refine anyK_take 13 [13] (v := ?_) rfl (by kernel_rfl) (by kernel_rfl) (fun _ _ _ h => h) (Or.inl ⟨by rfl, ?_⟩) hSk ?_
    rotate_left
    · intro w' hSw; (try dsimp only at hSw); go_simp; try with_reducible rfl
    try simp only [Act.put, List.setIfInBounds_toArray, List.set_cons_zero, List.set_cons_succ]
    refine anyK_take 14 [14] (v := ?_) rfl (by kernel_rfl) (by kernel_rfl) (fun _ _ _ h => h) (Or.inl ⟨by rfl, ?_⟩) hSk ?_
    rotate_left
    · intro w' hSw; (try dsimp only at hSw); go_simp; try with_reducible rfl
    try simp only [Act.put, List.setIfInBounds_toArray, List.set_cons_zero, List.set_cons_succ]
    refine anyK_take 15 [15] (v := ?_) rfl (by kernel_rfl) (by kernel_rfl) (fun _ _ _ h => h) (Or.inl ⟨by rfl, ?_⟩) hSk ?_
    rotate_left
    · intro w' hSw; (try dsimp only at hSw); go_simp; try with_reducible rfl
    try simp only [Act.put, List.setIfInBounds_toArray, List.set_cons_zero, List.set_cons_succ]
    refine anyK_only 16 (by kernel_rfl) rfl (fun K hK => ?_)
    (first | (refine step_append_run rfl _ _ _ (by rfl) _ _ _ _ (by rfl) (by rfl) hrun ?_) | (rw [if_pos (by rfl)]; go_simp; go_at_call 65; refine HA.out.mono ?_; rintro e w1 ⟨A1, n1, c1, rfl, ⟨p0, p1, p2, p3, p4, p5, p6, p7, p8⟩, ⟨q0, q1, q2, q3, q4, q5, q6, q7, q8⟩, A2, n2, c2, w2, hrun, ⟨r0, r1, r2, r3, r4, r5, r6, r7, r8⟩, ⟨s0, s1, s2, s3, s4, s5, s6, s7, s8⟩, ⟨t0, t1, t2, t3, t4, t5, t6, t7, t8⟩, hR⟩; go_wp2_with fail) | go_simp)
    clear hSk
    refine hK.out _ _ (by ((try dsimp only); simp [*, go_sem, World.cell?_alloc_past])) (fun hSk => ?_)
    clear hK K
    try simp only [Act.put, List.setIfInBounds_toArray, List.set_cons_zero, List.set_cons_succ]
    refine anyK_only 17 (by kernel_rfl) rfl (fun K hK => ?_)
    (first | (refine step_append_run rfl _ _ _ (by rfl) _ _ _ _ (by rfl) (by rfl) hrun ?_) | (rw [if_pos (by rfl)]; go_simp; go_at_call 65; refine HA.out.mono ?_; rintro e w1 ⟨A1, n1, c1, rfl, ⟨p0, p1, p2, p3, p4, p5, p6, p7, p8⟩, ⟨q0, q1, q2, q3, q4, q5, q6, q7, q8⟩, A2, n2, c2, w2, hrun, ⟨r0, r1, r2, r3, r4, r5, r6, r7, r8⟩, ⟨s0, s1, s2, s3, s4, s5, s6, s7, s8⟩, ⟨t0, t1, t2, t3, t4, t5, t6, t7, t8⟩, hR⟩; go_wp2_with fail) | go_simp)
    clear hSk
    refine hK.out _ _ (by ((try dsimp only); simp [*, go_sem, World.cell?_alloc_past])) (fun hSk => ?_)
    clear hK K
    try simp only [Act.put, List.setIfInBounds_toArray, List.set_cons_zero, List.set_cons_succ]
    refine anyK_only 18 (by kernel_rfl) rfl (fun K hK => ?_)
    (first | (refine step_append_run rfl _ _ _ (by rfl) _ _ _ _ (by rfl) (by rfl) hrun ?_) | (rw [if_pos (by rfl)]; go_simp; go_at_call 65; refine HA.out.mono ?_; rintro e w1 ⟨A1, n1, c1, rfl, ⟨p0, p1, p2, p3, p4, p5, p6, p7, p8⟩, ⟨q0, q1, q2, q3, q4, q5, q6, q7, q8⟩, A2, n2, c2, w2, hrun, ⟨r0, r1, r2, r3, r4, r5, r6, r7, r8⟩, ⟨s0, s1, s2, s3, s4, s5, s6, s7, s8⟩, ⟨t0, t1, t2, t3, t4, t5, t6, t7, t8⟩, hR⟩; go_wp2_with fail) | go_simp)
    clear hSk
    refine hK.out _ _ (by ((try dsimp only); simp [*, go_sem, World.cell?_alloc_past])) (fun hSk => ?_)
    clear hK K
    try simp only [Act.put, List.setIfInBounds_toArray, List.set_cons_zero, List.set_cons_succ]
    refine anyK_take 19 [20, 19] (v := ?_) rfl (by kernel_rfl) (by kernel_rfl) (fun _ _ _ h => h) (Or.inl ⟨by rfl, ?_⟩) hSk ?_
    rotate_left
    · intro w' hSw; (try dsimp only at hSw); go_simp; try with_reducible rfl
    try simp only [Act.put, List.setIfInBounds_toArray, List.set_cons_zero, List.set_cons_succ]
    refine anyK_take 20 [20] (v := ?_) rfl (by kernel_rfl) (by kernel_rfl) (fun _ _ _ h => h) (Or.inl ⟨by rfl, ?_⟩) hSk ?_
    rotate_left
    · intro w' hSw; (try dsimp only at hSw); go_simp; try with_reducible rfl
    try simp only [Act.put, List.setIfInBounds_toArray, List.set_cons_zero, List.set_cons_succ]
    refine anyK_last (by kernel_rfl) rfl (by kernel_rfl) (fun K hK => ?_)
    go_simp
    refine hK.out _ _ ?_
    clear hK K
    try simp only [Act.put, List.setIfInBounds_toArray, List.set_cons_zero, List.set_cons_succ]
    refine anyK_done (by kernel_rfl) ?_ _
    clear hSk
    all_goals (go_wp2_with fail; go_meet; exact ⟨_, ⟨s0, s1, s2, s3, s4, s5, s6, s7, s8⟩, ⟨t0, t1, t2, t3, t4, t5, t6, t7, t8⟩, hR⟩)
  case rest =>
    obtain ⟨v, ⟨s0, s1, s2, s3, s4, s5, s6, s7, s8⟩, ⟨t0, t1, t2, t3, t4, t5, t6, t7, t8⟩, hR⟩ := hcut
    clear HA
    go_wp2
    refine region_anyK (fun w' => w'.cell? ⟨pb, 0, none⟩ = some (.pointer (some ⟨g, 0, none⟩)) ∧ w'.cell? ⟨db, 0, none⟩ = some (.slice A n c) ∧ w'.cell? ⟨g, 2, none⟩ = some (.int .i64 u)) 9 (by kernel_rfl) (by ((try dsimp only); simp [*, go_sem, World.cell?_alloc_past])) (fun hSk => ?_)
    refine anyK_take 0 [0] (v := ?_) rfl (by kernel_rfl) (by kernel_rfl) (fun _ _ _ h => h) (Or.inl ⟨by rfl, ?_⟩) hSk ?_
    rotate_left
    · intro w' hSw; (try dsimp only at hSw); go_simp; try with_reducible rfl
    try simp only [Act.put, List.setIfInBounds_toArray, List.set_cons_zero, List.set_cons_succ]
    refine anyK_take 1 [1] (v := ?_) rfl (by kernel_rfl) (by kernel_rfl) (fun _ _ _ h => h) (Or.inl ⟨by rfl, ?_⟩) hSk ?_
    rotate_left
    · intro w' hSw; (try dsimp only at hSw); go_simp; try with_reducible rfl
    try simp only [Act.put, List.setIfInBounds_toArray, List.set_cons_zero, List.set_cons_succ]
    refine anyK_take 2 [2] (v := ?_) rfl (by kernel_rfl) (by kernel_rfl) (fun _ _ _ h => h) (Or.inl ⟨by rfl, ?_⟩) hSk ?_
    rotate_left
    · intro w' hSw; (try dsimp only at hSw); go_simp; try with_reducible rfl
    try simp only [Act.put, List.setIfInBounds_toArray, List.set_cons_zero, List.set_cons_succ]
    refine anyK_take 3 [3] (v := ?_) rfl (by kernel_rfl) (by kernel_rfl) (fun _ _ _ h => h) (Or.inl ⟨by rfl, ?_⟩) hSk ?_
    rotate_left
    · intro w' hSw; (try dsimp only at hSw); go_simp; try with_reducible rfl
    try simp only [Act.put, List.setIfInBounds_toArray, List.set_cons_zero, List.set_cons_succ]
    refine anyK_take 4 [4] (v := ?_) rfl (by kernel_rfl) (by kernel_rfl) (fun _ _ _ h => h) (Or.inl ⟨by rfl, ?_⟩) hSk ?_
    rotate_left
    · intro w' hSw; (try dsimp only at hSw); go_simp; try with_reducible rfl
    try simp only [Act.put, List.setIfInBounds_toArray, List.set_cons_zero, List.set_cons_succ]
    refine anyK_take 5 [5] (v := ?_) rfl (by kernel_rfl) (by kernel_rfl) (fun _ _ _ h => h) (Or.inl ⟨by rfl, ?_⟩) hSk ?_
    rotate_left
    · intro w' hSw; (try dsimp only at hSw); go_simp; try with_reducible rfl
    try simp only [Act.put, List.setIfInBounds_toArray, List.set_cons_zero, List.set_cons_succ]
    refine anyK_take 6 [6] (v := ?_) rfl (by kernel_rfl) (by kernel_rfl) (fun _ _ _ h => h) (Or.inl ⟨by rfl, ?_⟩) hSk ?_
    rotate_left
    · intro w' hSw; (try dsimp only at hSw); go_simp; try with_reducible rfl
    try simp only [Act.put, List.setIfInBounds_toArray, List.set_cons_zero, List.set_cons_succ]
    refine anyK_take 7 [8, 7] (v := ?_) rfl (by kernel_rfl) (by kernel_rfl) (fun _ _ _ h => h) (Or.inl ⟨by rfl, ?_⟩) hSk ?_
    rotate_left
    · intro w' hSw; (try dsimp only at hSw); go_simp; try with_reducible rfl
    try simp only [Act.put, List.setIfInBounds_toArray, List.set_cons_zero, List.set_cons_succ]
    refine anyK_take 8 [8] (v := ?_) rfl (by kernel_rfl) (by kernel_rfl) (fun _ _ _ h => h) (Or.inl ⟨by rfl, ?_⟩) hSk ?_
    rotate_left
    · intro w' hSw; (try dsimp only at hSw); go_simp; try with_reducible rfl
    try simp only [Act.put, List.setIfInBounds_toArray, List.set_cons_zero, List.set_cons_succ]
    refine anyK_last (by kernel_rfl) rfl (by kernel_rfl) (fun K hK => ?_)
    go_simp
    refine hK.out _ _ ?_
    clear hK K
    try simp only [Act.put, List.setIfInBounds_toArray, List.set_cons_zero, List.set_cons_succ]
    refine anyK_done (by kernel_rfl) ?_ _
    clear hSk
    all_goals
      go_wp2
      go_end0
      exact ⟨rfl, hR⟩
end Go.Proofs.YtbjimikppdfmgaaGreatDoor
