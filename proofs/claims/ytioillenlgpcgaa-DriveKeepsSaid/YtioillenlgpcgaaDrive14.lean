/- Walks of package drive: the closure of Rename. -/
import Derived.Test.YtioillenlgpcgaaDrive13
import Derived.Test.YtioillenlgpcgaaLawK
set_option linter.unusedVariables false
set_option linter.unusedSimpArgs false
set_option maxHeartbeats 3200000
set_option maxRecDepth 100000
attribute [local go_sem ↓] Go.wp_at_zero Go.wp_at_succ
namespace Go.Proofs.Ytioillenlgpcgaa
open Go.RowKit

/-- The cells that the closure of Rename reads. -/
structure Ren (w : World) (g mb pb ab bb : Nat) (a b : Key) (u : Int) : Prop where
  c0 : w.cell? ⟨pb, 0, none⟩ = some (.pointer (some ⟨g, 0, none⟩))
  c1 : w.cell? ⟨ab, 0, none⟩ = some (.string (S a))
  c2 : w.cell? ⟨bb, 0, none⟩ = some (.string (S b))
  c3 : w.cell? ⟨g, 0, none⟩ = some (.map (some mb))
  c4 : w.cell? ⟨g, 2, none⟩ = some (.int .i64 u)
  f2 : w.frozen? ⟨g, 2, none⟩ = false

theorem rename_walk_none {w w2 w3 : World} {g mb pb ab bb fb : Nat} {a b : Key} {u : Int} (hT : Ren w g mb pb ab bb a b u)
    (L1 : (Instr.lookup 58 (.map (some mb)) (.string (S a)) false).run Try.prog w.drew = .ok (.pointer (some ⟨fb, 0, none⟩)) w.drew)
    (hdel : (Builtin.delete_ #[58, 9] 0 #[.map (some mb), .string (S a)]).run Try.prog w.drew.drew = .ok (.tuple #[]) w2) (hT2 : Ren w2 g mb pb ab bb a b u)
    (L2 : (Instr.lookup 58 (.map (some mb)) (.string (S b)) false).run Try.prog w2.drew = .ok (.pointer none) w2.drew)
    (hput : (Instr.mapUpdate 58 (.map (some mb)) (.string (S b)) (.pointer (some ⟨fb, 0, none⟩))).run Try.prog w2.drew.drew = .ok () w3) (hT3 : Ren w3 g mb pb ab bb a b u) :
    Calls Try.prog 68 #[.pointer (some ⟨pb, 0, none⟩), .pointer (some ⟨ab, 0, none⟩), .pointer (some ⟨bb, 0, none⟩)] w fun e w' => e = .returned (.tuple #[]) ∧ w' = w3 := by
  obtain ⟨p0, p1, p2, p3, p4, p5⟩ := hT
  obtain ⟨q0, q1, q2, q3, q4, q5⟩ := hT2
  obtain ⟨r0, r1, r2, r3, r4, r5⟩ := hT3
  go_enter Try.func68, Try.ntmps68
  go_wp2
  go_region_held3 (fun w' => w'.cell? ⟨pb, 0, none⟩ = some (.pointer (some ⟨g, 0, none⟩)) ∧ w'.cell? ⟨ab, 0, none⟩ = some (.string (S a)) ∧ w'.cell? ⟨g, 0, none⟩ = some (.map (some mb))) (simp [*, go_sem, World.cell?_alloc_past]) (first | fail)
  all_goals go_wp2
  all_goals go_region_held3 (fun w' => w'.cell? ⟨pb, 0, none⟩ = some (.pointer (some ⟨g, 0, none⟩)) ∧ w'.cell? ⟨ab, 0, none⟩ = some (.string (S a)) ∧ w'.cell? ⟨g, 0, none⟩ = some (.map (some mb))) (simp [*, go_sem, World.cell?_alloc_past]) (first | fail)
  all_goals go_wp2
  all_goals go_region_held3 (fun w' => w'.cell? ⟨pb, 0, none⟩ = some (.pointer (some ⟨g, 0, none⟩)) ∧ w'.cell? ⟨bb, 0, none⟩ = some (.string (S b)) ∧ w'.cell? ⟨g, 0, none⟩ = some (.map (some mb))) (simp [*, go_sem, World.cell?_alloc_past]) (first | fail)
  all_goals go_wp2
  all_goals go_region_held3 (fun w' => w'.cell? ⟨pb, 0, none⟩ = some (.pointer (some ⟨g, 0, none⟩)) ∧ w'.cell? ⟨bb, 0, none⟩ = some (.string (S b)) ∧ w'.cell? ⟨g, 0, none⟩ = some (.map (some mb))) (simp [*, go_sem, World.cell?_alloc_past]) (first | fail)
  all_goals
    go_wp2
    go_end0
    exact ⟨rfl, rfl⟩

theorem rename_walk_some {w w2 : World} {g mb pb ab bb fb ob : Nat} {a b : Key} {u : Int} (hT : Ren w g mb pb ab bb a b u)
    (L1 : (Instr.lookup 58 (.map (some mb)) (.string (S a)) false).run Try.prog w.drew = .ok (.pointer (some ⟨fb, 0, none⟩)) w.drew)
    (hdel : (Builtin.delete_ #[58, 9] 0 #[.map (some mb), .string (S a)]).run Try.prog w.drew.drew = .ok (.tuple #[]) w2) (hT2 : Ren w2 g mb pb ab bb a b u)
    (L2 : (Instr.lookup 58 (.map (some mb)) (.string (S b)) false).run Try.prog w2.drew = .ok (.pointer (some ⟨ob, 0, none⟩)) w2.drew) (R : World → Prop)
    (hA : Calls Try.prog 35 #[.pointer (some ⟨ob, 0, none⟩)] w2.drew.drew fun e w1 => ∃ A n c, e = .returned (.slice A n c) ∧ Ren w1 g mb pb ab bb a b u ∧ Ren (w1.setCell ⟨g, 2, none⟩ (.int .i64 (IntKind.i64.wrap (u - n)))) g mb pb ab bb a b (IntKind.i64.wrap (u - n)) ∧
      ∃ w3, (Instr.mapUpdate 58 (.map (some mb)) (.string (S b)) (.pointer (some ⟨fb, 0, none⟩))).run Try.prog (w1.setCell ⟨g, 2, none⟩ (.int .i64 (IntKind.i64.wrap (u - n)))).drew = .ok () w3 ∧ Ren w3 g mb pb ab bb a b (IntKind.i64.wrap (u - n)) ∧ R w3) :
    Calls Try.prog 68 #[.pointer (some ⟨pb, 0, none⟩), .pointer (some ⟨ab, 0, none⟩), .pointer (some ⟨bb, 0, none⟩)] w fun e w' => e = .returned (.tuple #[]) ∧ R w' := by
  have HA := hid hA
  clear hA
  obtain ⟨p0, p1, p2, p3, p4, p5⟩ := hT
  obtain ⟨q0, q1, q2, q3, q4, q5⟩ := hT2
  go_enter Try.func68, Try.ntmps68
  go_wp2
  go_region_held3 (fun w' => w'.cell? ⟨pb, 0, none⟩ = some (.pointer (some ⟨g, 0, none⟩)) ∧ w'.cell? ⟨ab, 0, none⟩ = some (.string (S a)) ∧ w'.cell? ⟨g, 0, none⟩ = some (.map (some mb))) (simp [*, go_sem, World.cell?_alloc_past]) (first | fail)
  all_goals go_wp2
  all_goals go_region_held3 (fun w' => w'.cell? ⟨pb, 0, none⟩ = some (.pointer (some ⟨g, 0, none⟩)) ∧ w'.cell? ⟨ab, 0, none⟩ = some (.string (S a)) ∧ w'.cell? ⟨g, 0, none⟩ = some (.map (some mb))) (simp [*, go_sem, World.cell?_alloc_past]) (first | fail)
  all_goals go_wp2
  all_goals go_region_held3 (fun w' => w'.cell? ⟨pb, 0, none⟩ = some (.pointer (some ⟨g, 0, none⟩)) ∧ w'.cell? ⟨bb, 0, none⟩ = some (.string (S b)) ∧ w'.cell? ⟨g, 0, none⟩ = some (.map (some mb))) (simp [*, go_sem, World.cell?_alloc_past]) (first | fail)
  all_goals go_wp2
  refine region_anyK (fun w' => w'.cell? ⟨pb, 0, none⟩ = some (.pointer (some ⟨g, 0, none⟩)) ∧ w'.cell? ⟨g, 2, none⟩ = some (.int .i64 u)) 10 (by kernel_rfl) (by ((try dsimp only); simp [*, go_sem, World.cell?_alloc_past])) (fun hSk => ?_)
  refine anyK_take 0 [0] (v := ?_) rfl (by kernel_rfl) (by kernel_rfl) (fun _ _ _ h => h) (Or.inl ⟨by rfl, ?_⟩) hSk ?_
  rotate_left
  · intro w' hSw; (try dsimp only at hSw); go_simp; try with_reducible rfl
  try simp only [Act.put, List.setIfInBounds_toArray, List.set_cons_zero, List.set_cons_succ]
  refine anyK_take 1 [1] (v := ?_) rfl (by kernel_rfl) (by kernel_rfl) (fun _ _ _ h => h) (Or.inl ⟨by rfl, ?_⟩) hSk ?_
  rotate_left
  · intro w' hSw; (try dsimp only at hSw); go_simp; try with_reducible rfl
  try simp only [Act.put, List.setIfInBounds_toArray, List.set_cons_zero, List.set_cons_succ]
  refine anyK_take 2 [2] (v := ?_) rfl (by kernel_rfl) (by kernel_rfl) (fun _ _ _ h => h) (Or.inl ⟨by rfl, ?_⟩) hSk ?_
  rotate_left
  · intro w' hSw; (try dsimp only at hSw); go_simp; try with_reducible rfl
  try simp only [Act.put, List.setIfInBounds_toArray, List.set_cons_zero, List.set_cons_succ]
  refine anyK_take 3 [3] (v := ?_) rfl (by kernel_rfl) (by kernel_rfl) (fun _ _ _ h => h) (Or.inl ⟨by rfl, ?_⟩) hSk ?_
  rotate_left
  · intro w' hSw; (try dsimp only at hSw); go_simp; try with_reducible rfl
  try simp only [Act.put, List.setIfInBounds_toArray, List.set_cons_zero, List.set_cons_succ]
  refine anyK_take 4 [4] (v := ?_) rfl (by kernel_rfl) (by kernel_rfl) (fun _ _ _ h => h) (Or.inl ⟨by rfl, ?_⟩) hSk ?_
  rotate_left
  · intro w' hSw; (try dsimp only at hSw); go_simp; try with_reducible rfl
  try simp only [Act.put, List.setIfInBounds_toArray, List.set_cons_zero, List.set_cons_succ]
  refine anyK_only 5 (by kernel_rfl) rfl (fun K hK => ?_)
  (first | (rw [if_pos (by rfl)]; go_simp; go_at_call 35; refine HA.out.mono ?_; rintro e w1 ⟨A, n, c, rfl, ⟨r0, r1, r2, r3, r4, r5⟩, ⟨s0, s1, s2, s3, s4, s5⟩, w3, hrun, ⟨t0, t1, t2, t3, t4, t5⟩, hR⟩; go_wp2_with fail) | go_simp)
  clear hSk
  refine hK.out _ _ (by ((try dsimp only); simp [*, go_sem, World.cell?_alloc_past])) (fun hSk => ?_)
  clear hK K
  try simp only [Act.put, List.setIfInBounds_toArray, List.set_cons_zero, List.set_cons_succ]
  refine anyK_take 6 [6] (v := ?_) rfl (by kernel_rfl) (by kernel_rfl) (fun _ _ _ h => h) (Or.inl ⟨by rfl, ?_⟩) hSk ?_
  rotate_left
  · intro w' hSw; (try dsimp only at hSw); go_simp; try with_reducible rfl
  try simp only [Act.put, List.setIfInBounds_toArray, List.set_cons_zero, List.set_cons_succ]
  refine anyK_take 7 [7] (v := ?_) rfl (by kernel_rfl) (by kernel_rfl) (fun _ _ _ h => h) (Or.inl ⟨by rfl, ?_⟩) hSk ?_
  rotate_left
  · intro w' hSw; (try dsimp only at hSw); go_simp; try with_reducible rfl
  try simp only [Act.put, List.setIfInBounds_toArray, List.set_cons_zero, List.set_cons_succ]
  refine anyK_take 8 [9, 8] (v := ?_) rfl (by kernel_rfl) (by kernel_rfl) (fun _ _ _ h => h) (Or.inl ⟨by rfl, ?_⟩) hSk ?_
  rotate_left
  · intro w' hSw; (try dsimp only at hSw); go_simp; try with_reducible rfl
  try simp only [Act.put, List.setIfInBounds_toArray, List.set_cons_zero, List.set_cons_succ]
  refine anyK_take 9 [9] (v := ?_) rfl (by kernel_rfl) (by kernel_rfl) (fun _ _ _ h => h) (Or.inl ⟨by rfl, ?_⟩) hSk ?_
  rotate_left
  · intro w' hSw; (try dsimp only at hSw); go_simp; try with_reducible rfl
  try simp only [Act.put, List.setIfInBounds_toArray, List.set_cons_zero, List.set_cons_succ]
  refine anyK_last (by kernel_rfl) rfl (by kernel_rfl) (fun K hK => ?_)
  go_simp
  refine hK.out _ _ ?_
  clear hK K
  try simp only [Act.put, List.setIfInBounds_toArray, List.set_cons_zero, List.set_cons_succ]
  refine anyK_done (by kernel_rfl) ?_ _
  clear hSk
  all_goals go_wp2
  all_goals go_region_held3 (fun w' => w'.cell? ⟨pb, 0, none⟩ = some (.pointer (some ⟨g, 0, none⟩)) ∧ w'.cell? ⟨bb, 0, none⟩ = some (.string (S b)) ∧ w'.cell? ⟨g, 0, none⟩ = some (.map (some mb))) (simp [*, go_sem, World.cell?_alloc_past]) (first | fail)
  all_goals
    go_wp2
    go_end0
    exact ⟨rfl, hR⟩
end Go.Proofs.Ytioillenlgpcgaa
