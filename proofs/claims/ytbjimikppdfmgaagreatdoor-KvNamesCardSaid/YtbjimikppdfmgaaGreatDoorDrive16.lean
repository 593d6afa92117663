/- Walks of package drive: the closure of Rename. Walks of package drive: the closure of Rename, whole. Walks of package drive: Rename, whole. -/
import Derived.Test.YtbjimikppdfmgaaGreatDoorDrive13
import Derived.Test.YtbjimikppdfmgaaGreatDoorLawK
set_option linter.unusedVariables false
set_option linter.unusedSimpArgs false
set_option maxHeartbeats 3200000
set_option maxRecDepth 100000
attribute [local go_sem ↓] Go.wp_at_zero Go.wp_at_succ
namespace Go.Proofs.YtbjimikppdfmgaaGreatDoor
open Go.RowKit

/-- The cells that the closure of Rename reads. -/
structure Ren (w : World) (g mb pb ab bb : Nat) (a b : Key) (u : Int) : Prop where
  c0 : w.cell? ⟨pb, 0, none⟩ = some (.pointer (some ⟨g, 0, none⟩))
  c1 : w.cell? ⟨ab, 0, none⟩ = some (.string (S a))
  c2 : w.cell? ⟨bb, 0, none⟩ = some (.string (S b))
  c3 : w.cell? ⟨g, 0, none⟩ = some (.map (some mb))
  c4 : w.cell? ⟨g, 2, none⟩ = some (.int .i64 u)
  f2 : w.frozen? ⟨g, 2, none⟩ = false

theorem rename_walk_none {w w2 w3 : World} {g mb pb ab bb fb : Nat} {a b : Key} {u : Int} (hT : Ren w g mb pb ab bb a b u)
    (L1 : (Instr.lookup 46 (.map (some mb)) (.string (S a)) false).run Tryz.prog w.drew = .ok (.pointer (some ⟨fb, 0, none⟩)) w.drew)
    (hdel : (Builtin.delete_ #[46, 9] 0 #[.map (some mb), .string (S a)]).run Tryz.prog w.drew.drew = .ok (.tuple #[]) w2) (hT2 : Ren w2 g mb pb ab bb a b u)
    (L2 : (Instr.lookup 46 (.map (some mb)) (.string (S b)) false).run Tryz.prog w2.drew = .ok (.pointer none) w2.drew)
    (hput : (Instr.mapUpdate 46 (.map (some mb)) (.string (S b)) (.pointer (some ⟨fb, 0, none⟩))).run Tryz.prog w2.drew.drew = .ok () w3) (hT3 : Ren w3 g mb pb ab bb a b u) :
    Calls Tryz.prog 89 #[.pointer (some ⟨pb, 0, none⟩), .pointer (some ⟨ab, 0, none⟩), .pointer (some ⟨bb, 0, none⟩)] w fun e w' => e = .returned (.tuple #[]) ∧ w' = w3 := by
  obtain ⟨p0, p1, p2, p3, p4, p5⟩ := hT
  obtain ⟨q0, q1, q2, q3, q4, q5⟩ := hT2
  obtain ⟨r0, r1, r2, r3, r4, r5⟩ := hT3
  go_enter Tryz.func89, Tryz.ntmps89
  go_wp2
  go_region_held3 (fun w' => w'.cell? ⟨pb, 0, none⟩ = some (.pointer (some ⟨g, 0, none⟩)) ∧ w'.cell? ⟨ab, 0, none⟩ = some (.string (S a)) ∧ w'.cell? ⟨g, 0, none⟩ = some (.map (some mb))) (simp [*, go_sem, World.cell?_alloc_past]) (first | fail)
  all_goals go_wp2
  all_goals go_region_held3 (fun w' => w'.cell? ⟨pb, 0, none⟩ = some (.pointer (some ⟨g, 0, none⟩)) ∧ w'.cell? ⟨ab, 0, none⟩ = some (.string (S a)) ∧ w'.cell? ⟨g, 0, none⟩ = some (.map (some mb))) (simp [*, go_sem, World.cell?_alloc_past]) (first | fail)
  all_goals go_wp2
  all_goals go_region_held3 (fun w' => w'.cell? ⟨pb, 0, none⟩ = some (.pointer (some ⟨g, 0, none⟩)) ∧ w'.cell? ⟨bb, 0, none⟩ = some (.string (S b)) ∧ w'.cell? ⟨g, 0, none⟩ = some (.map (some mb))) (simp [*, go_sem, World.cell?_alloc_past]) (first | fail)
  all_goals go_wp2
  all_goals go_region_held3 (fun w' => w'.cell? ⟨pb, 0, none⟩ = some (.pointer (some ⟨g, 0, none⟩)) ∧ w'.cell? ⟨bb, 0, none⟩ = some (.string (S b)) ∧ w'.cell? ⟨g, 0, none⟩ = some (.map (some mb))) (simp [*, go_sem, World.cell?_alloc_past]) (first | fail)
  all_goals
    go_wp2
    go_end0
    exact ⟨rfl, rfl⟩

theorem rename_walk_some {w w2 : World} {g mb pb ab bb fb ob : Nat} {a b : Key} {u : Int} (hT : Ren w g mb pb ab bb a b u)
    (L1 : (Instr.lookup 46 (.map (some mb)) (.string (S a)) false).run Tryz.prog w.drew = .ok (.pointer (some ⟨fb, 0, none⟩)) w.drew)
    (hdel : (Builtin.delete_ #[46, 9] 0 #[.map (some mb), .string (S a)]).run Tryz.prog w.drew.drew = .ok (.tuple #[]) w2) (hT2 : Ren w2 g mb pb ab bb a b u)
    (L2 : (Instr.lookup 46 (.map (some mb)) (.string (S b)) false).run Tryz.prog w2.drew = .ok (.pointer (some ⟨ob, 0, none⟩)) w2.drew) (R : World → Prop)
    (hA : Calls Tryz.prog 58 #[.pointer (some ⟨ob, 0, none⟩)] w2.drew.drew fun e w1 => ∃ A n c, e = .returned (.slice A n c) ∧ Ren w1 g mb pb ab bb a b u ∧ Ren (w1.setCell ⟨g, 2, none⟩ (.int .i64 (IntKind.i64.wrap (u - n)))) g mb pb ab bb a b (IntKind.i64.wrap (u - n)) ∧
      ∃ w3, (Instr.mapUpdate 46 (.map (some mb)) (.string (S b)) (.pointer (some ⟨fb, 0, none⟩))).run Tryz.prog (w1.setCell ⟨g, 2, none⟩ (.int .i64 (IntKind.i64.wrap (u - n)))).drew = .ok () w3 ∧ Ren w3 g mb pb ab bb a b (IntKind.i64.wrap (u - n)) ∧ R w3) :
    Calls Tryz.prog 89 #[.pointer (some ⟨pb, 0, none⟩), .pointer (some ⟨ab, 0, none⟩), .pointer (some ⟨bb, 0, none⟩)] w fun e w' => e = .returned (.tuple #[]) ∧ R w' := by
  have HA := hid hA
  clear hA
  obtain ⟨p0, p1, p2, p3, p4, p5⟩ := hT
  obtain ⟨q0, q1, q2, q3, q4, q5⟩ := hT2
  go_enter Tryz.func89, Tryz.ntmps89
  go_wp2
  go_region_held3 (fun w' => w'.cell? ⟨pb, 0, none⟩ = some (.pointer (some ⟨g, 0, none⟩)) ∧ w'.cell? ⟨ab, 0, none⟩ = some (.string (S a)) ∧ w'.cell? ⟨g, 0, none⟩ = some (.map (some mb))) (simp [*, go_sem, World.cell?_alloc_past]) (first | fail)
  all_goals go_wp2
  all_goals go_region_held3 (fun w' => w'.cell? ⟨pb, 0, none⟩ = some (.pointer (some ⟨g, 0, none⟩)) ∧ w'.cell? ⟨ab, 0, none⟩ = some (.string (S a)) ∧ w'.cell? ⟨g, 0, none⟩ = some (.map (some mb))) (simp [*, go_sem, World.cell?_alloc_past]) (first | fail)
  all_goals go_wp2
  all_goals go_region_held3 (fun w' => w'.cell? ⟨pb, 0, none⟩ = some (.pointer (some ⟨g, 0, none⟩)) ∧ w'.cell? ⟨bb, 0, none⟩ = some (.string (S b)) ∧ w'.cell? ⟨g, 0, none⟩ = some (.map (some mb))) (simp [*, go_sem, World.cell?_alloc_past]) (first | fail)
  all_goals go_wp2
  refine region_anyK (fun w' => w'.cell? ⟨pb, 0, none⟩ = some (.pointer (some ⟨g, 0, none⟩)) ∧ w'.cell? ⟨g, 2, none⟩ = some (.int .i64 u)) 10 (by kernel_rfl) (by ((try dsimp only); simp [*, go_sem, World.cell?_alloc_past])) (fun hSk => ?_)
  refine anyK_take 0 [0] (v := ?_) rfl (by kernel_rfl) (by kernel_rfl) (fun _ _ _ h => h) (Or.inl ⟨by rfl, ?_⟩) hSk ?_
  rotate_left
  · intro w' hSw; (try dsimp only at hSw); go_simp; try with_reducible rfl
  try simp only [Act.put, List.setIfInBounds_toArray, List.set_cons_zero, List.set_cons_succ]
  refine anyK_take 1 [1] (v := ?_) rfl (by kernel_rfl) (by kernel_rfl) (fun _ _ _ h => h) (Or.inl ⟨by rfl, ?_⟩) hSk ?_
  rotate_left
  · intro w' hSw; (try dsimp only at hSw); go_simp; try with_reducible rfl
  try simp only [Act.put, List.setIfInBounds_toArray, List.set_cons_zero, List.set_cons_succ]
  refine anyK_take 2 [2] (v := ?_) rfl (by kernel_rfl) (by kernel_rfl) (fun _ _ _ h => h) (Or.inl ⟨by rfl, ?_⟩) hSk ?_
  rotate_left
  · intro w' hSw; (try dsimp only at hSw); go_simp; try with_reducible rfl
  try simp only [Act.put, List.setIfInBounds_toArray, List.set_cons_zero, List.set_cons_succ]
  refine anyK_take 3 [3] (v := ?_) rfl (by kernel_rfl) (by kernel_rfl) (fun _ _ _ h => h) (Or.inl ⟨by rfl, ?_⟩) hSk ?_
  rotate_left
  · intro w' hSw; (try dsimp only at hSw); go_simp; try with_reducible rfl
  try simp only [Act.put, List.setIfInBounds_toArray, List.set_cons_zero, List.set_cons_succ]
  refine anyK_take 4 [4] (v := ?_) rfl (by kernel_rfl) (by kernel_rfl) (fun _ _ _ h => h) (Or.inl ⟨by rfl, ?_⟩) hSk ?_
  rotate_left
  · intro w' hSw; (try dsimp only at hSw); go_simp; try with_reducible rfl
  try simp only [Act.put, List.setIfInBounds_toArray, List.set_cons_zero, List.set_cons_succ]
  refine anyK_only 5 (by kernel_rfl) rfl (fun K hK => ?_)
  (first | (rw [if_pos (by rfl)]; go_simp; go_at_call 58; refine HA.out.mono ?_; rintro e w1 ⟨A, n, c, rfl, ⟨r0, r1, r2, r3, r4, r5⟩, ⟨s0, s1, s2, s3, s4, s5⟩, w3, hrun, ⟨t0, t1, t2, t3, t4, t5⟩, hR⟩; go_wp2_with fail) | go_simp)
  clear hSk
  refine hK.out _ _ (by ((try dsimp only); simp [*, go_sem, World.cell?_alloc_past])) (fun hSk => ?_)
  clear hK K
  try simp only [Act.put, List.setIfInBounds_toArray, List.set_cons_zero, List.set_cons_succ]
  refine anyK_take 6 [6] (v := ?_) rfl (by kernel_rfl) (by kernel_rfl) (fun _ _ _ h => h) (Or.inl ⟨by rfl, ?_⟩) hSk ?_
  rotate_left
  · intro w' hSw; (try dsimp only at hSw); go_simp; try with_reducible rfl
  try simp only [Act.put, List.setIfInBounds_toArray, List.set_cons_zero, List.set_cons_succ]
  refine anyK_take 7 [7] (v := ?_) rfl (by kernel_rfl) (by kernel_rfl) (fun _ _ _ h => h) (Or.inl ⟨by rfl, ?_⟩) hSk ?_
  rotate_left
  · intro w' hSw; (try dsimp only at hSw); go_simp; try with_reducible rfl
  try simp only [Act.put, List.setIfInBounds_toArray, List.set_cons_zero, List.set_cons_succ]
  refine anyK_take 8 [9, 8] (v := ?_) rfl (by kernel_rfl) (by kernel_rfl) (fun _ _ _ h => h) (Or.inl ⟨by rfl, ?_⟩) hSk ?_
  rotate_left
  · intro w' hSw; (try dsimp only at hSw); go_simp; try with_reducible rfl
  try simp only [Act.put, List.setIfInBounds_toArray, List.set_cons_zero, List.set_cons_succ]
  refine anyK_take 9 [9] (v := ?_) rfl (by kernel_rfl) (by kernel_rfl) (fun _ _ _ h => h) (Or.inl ⟨by rfl, ?_⟩) hSk ?_
  rotate_left
  · intro w' hSw; (try dsimp only at hSw); go_simp; try with_reducible rfl
  try simp only [Act.put, List.setIfInBounds_toArray, List.set_cons_zero, List.set_cons_succ]
  refine anyK_last (by kernel_rfl) rfl (by kernel_rfl) (fun K hK => ?_)
  go_simp
  refine hK.out _ _ ?_
  clear hK K
  try simp only [Act.put, List.setIfInBounds_toArray, List.set_cons_zero, List.set_cons_succ]
  refine anyK_done (by kernel_rfl) ?_ _
  clear hSk
  all_goals go_wp2
  all_goals go_region_held3 (fun w' => w'.cell? ⟨pb, 0, none⟩ = some (.pointer (some ⟨g, 0, none⟩)) ∧ w'.cell? ⟨bb, 0, none⟩ = some (.string (S b)) ∧ w'.cell? ⟨g, 0, none⟩ = some (.map (some mb))) (simp [*, go_sem, World.cell?_alloc_past]) (first | fail)
  all_goals
    go_wp2
    go_end0
    exact ⟨rfl, hR⟩
end Go.Proofs.YtbjimikppdfmgaaGreatDoor

set_option linter.unusedVariables false
set_option linter.unusedSimpArgs false
set_option maxHeartbeats 1600000
set_option maxRecDepth 100000
namespace Go.Proofs.YtbjimikppdfmgaaGreatDoor
open Go.RowKit

theorem ren_of {w W : World} {g mb pb ab bb : Nat} {d : Dr} {fp : Nat → Prop} {a b : Key} {cs : Array Value} {u : Int} (h : IsDrive w g d fp) (hmb : fp mb) (hC : Caps w g pb ab a fp) (cb : w.cell? ⟨bb, 0, none⟩ = some (.string (S b))) (hbl : bb < w.heap.size) (hbn : ¬ fp bb)
    (hkk : ∀ k, k < w.heap.size → k ≠ mb → k ≠ g → W.heap[k]? = w.heap[k]?) (hBg : Blk W g 48 cs) (h0 : cs[0]? = some (.map (some mb))) (h2 : cs[2]? = some (.int .i64 u)) : Ren W g mb pb ab bb a b u := by
  have hkeep : ∀ (k : Nat) x, k < w.heap.size → ¬ fp k → w.cell? ⟨k, 0, none⟩ = some x → W.cell? ⟨k, 0, none⟩ = some x := fun k x hk hn hc =>
    (World.cell?_of_block (a := ⟨k, 0, none⟩) (hkk k hk (by rintro rfl; exact hn hmb) (by rintro rfl; exact hn h.own))).trans hc
  exact ⟨hkeep _ _ hC.hp hC.np hC.cp, hkeep _ _ hC.hn hC.nn hC.cn, hkeep _ _ hbl hbn cb, (hBg.cell 0).trans h0, (hBg.cell 2).trans h2, hBg.frozen 2⟩

def lenOf : Option File → Int
  | some o => o.all.length
  | none => 0
theorem used_rename {d : Dr} {a b : Key} {f : File} (hr : Rising d.files) (hk : kget d.files a = some f) (o : Option File) (ho : kget (kdel d.files a) b = o) :
    ({ d with files := kput (kdel d.files a) b f } : Dr).used = d.used - lenOf o := by
  have h1 : d.used = ((ksum (fun f : File => f.all.length) d.files : Nat) : Int) := d.used_eq
  have h2 : ({ d with files := kput (kdel d.files a) b f } : Dr).used = ((ksum (fun f : File => f.all.length) (kput (kdel d.files a) b f) : Nat) : Int) := Dr.used_eq _
  rw [h1, h2, ksum_del _ hr hk, ksum_put]
  cases o with
  | none =>
    rw [kdel_none ho]
    simp [lenOf]
  | some o =>
    rw [ksum_del _ (hr.del a) ho]
    simp only [lenOf]
    omega

theorem rename_closure {w : World} {g pb ab bb : Nat} {d : Dr} {fp : Nat → Prop} {a b : Key} {N : Nat} (h : IsDrive w g d fp) (hok : d.Ok N) (hN : N ≤ 1000000000) (hC : Caps w g pb ab a fp) (cb : w.cell? ⟨bb, 0, none⟩ = some (.string (S b))) (hbl : bb < w.heap.size) (hbn : ¬ fp bb)
    (hla : a.length ≤ 1000000) (hlb : b.length ≤ 1000000) {f : File} (hk : kget d.files a = some f) :
    Calls Tryz.prog 89 #[.pointer (some ⟨pb, 0, none⟩), .pointer (some ⟨ab, 0, none⟩), .pointer (some ⟨bb, 0, none⟩)] w fun e w' => e = .returned (.tuple #[]) ∧ Then w g { d with files := kput (kdel d.files a) b f } fp w' := by
  have hu := used_rename (b := b) hok.rising hk _ rfl
  have hu0 := used_nonneg { d with files := kput (kdel d.files a) b f }
  have hu1 := hok.used
  obtain ⟨mb, aft, rs, hb, ha, hf, hd⟩ := h.has
  have hglt := hb.lt
  have hmlt : mb < w.heap.size := h.lt mb hf.own
  have e0 : (driveCells d mb aft)[0]? = some (.map (some mb)) := rfl
  have e2 : (driveCells d mb aft)[2]? = some (.int .i64 d.used) := rfl
  obtain ⟨es0, cl0, hmbh⟩ := hf.map.isMap
  have hb' : w.heap[g]? = some (.cells (driveCells d mb aft) 48 (0, 0)) := hb
  have hgm : g ≠ mb := by rintro rfl; rw [hmbh] at hb'; cases hb'
  cases hk2 : kget rs a with
  | none =>
    rw [hd, kget_map, hk2] at hk
    cases hk
  | some r =>
    have hfr : r.f = f := by rw [hd, kget_map, hk2] at hk; exact Option.some.inj hk
    subst hfr
    have hr : Rising rs := by
      have h1 := hok.rising
      rw [hd] at h1
      exact Rising.of_kmap h1
    have hmem := kget_some hk2
    have hT : Ren w g mb pb ab bb a b d.used := ren_of h hf.own hC cb hbl hbn (fun _ _ _ _ => rfl) hb e0 e2
    have hz : ∀ W : World, (zeroValue 79).run Tryz.prog W = .ok (.pointer none) W := fun W => by kernel_rfl
    have hm1 : OwnM Tryz.prog 9 w.drew mb (kmap FileR.blk rs) := hf.map.kept rfl
    have L1 := hm1.look (t := 46) (e := 79) (by kernel_rfl) (by kernel_rfl) (hz _) a hla
    rw [kget_map, hk2] at L1
    have hm1' : OwnM Tryz.prog 9 w.drew.drew mb (kmap FileR.blk rs) := hf.map.kept rfl
    obtain ⟨w2, hdel, hm2, ht2⟩ := hm1'.drop (t := 46) (e := 79) (by kernel_rfl) (by kernel_rfl) a hla 0
    have hg2 := turned_grown ht2
    have hs2 : w.heap.size ≤ w2.heap.size := hg2.size
    have hblk2 : ∀ k, k < w.heap.size → k ≠ mb → w2.heap[k]? = w.heap[k]? := fun k hk hkm => hg2.block k hk (by simpa using hkm)
    have hB2 : Blk w2 g 48 (driveCells d mb aft) := (hblk2 g hglt hgm).trans hb
    have hT2 : Ren w2 g mb pb ab bb a b d.used := ren_of h hf.own hC cb hbl hbn (fun k hk hkm _ => hblk2 k hk hkm) hB2 e0 e2
    have hm2' : OwnM Tryz.prog 9 w2.drew mb (kdel (kmap FileR.blk rs) a) := hm2.kept rfl
    have L2 := hm2'.look (t := 46) (e := 79) (by kernel_rfl) (by kernel_rfl) (hz _) b hlb
    rw [← kmap_del, kget_map] at L2
    have hkd : kget (kdel d.files a) b = (kget (kdel rs a) b).map FileR.f := by rw [hd, ← kmap_del, kget_map]
    have hrl : (kdel (kmap FileR.blk rs) a).length ≤ 65536 := by
      have h1 : d.files.length = rs.length := by rw [hd]; simp [kmap]
      have h2 := hok.files
      have h3 : (kdel (kmap FileR.blk rs) a).length ≤ (kmap FileR.blk rs).length := List.length_filter_le _ _
      have h4 : (kmap FileR.blk rs).length = rs.length := by simp [kmap]
      omega
    have hsub : ∀ p ∈ kput (kdel rs a) b r, ∃ q ∈ rs, q.2 = p.2 := fun p hp => by
      rcases mem_kput.1 hp with rfl | ⟨hp, _⟩
      · exact ⟨_, hmem, rfl⟩
      · exact ⟨p, (mem_kdel.1 hp).1, rfl⟩
    have hap : (kput (kdel rs a) b r).Pairwise FApart := pairwise_kput (fun x y hxy => FApart.symm hxy) (hf.apart.filter _) fun p hp _ => by
      have h1 := mem_kdel.1 hp
      have h9 : FApart (a, r) p := pairwise_two (fun x y hxy => FApart.symm hxy) hf.apart hmem h1.1 (by rintro rfl; exact h1.2 rfl)
      exact ⟨h9.1, h9.2⟩
    have hdf : kput (kdel d.files a) b r.f = kmap FileR.f (kput (kdel rs a) b r) := by rw [kmap_put, kmap_del, ← hd]
    have hmf : kput (kdel (kmap FileR.blk rs) a) b r.blk = kmap FileR.blk (kput (kdel rs a) b r) := by rw [kmap_put, kmap_del]
    cases ho : kget (kdel rs a) b with
    | none =>
      rw [ho] at L2 hkd
      rw [hkd] at hu
      simp [lenOf] at hu
      have hm2'' : OwnM Tryz.prog 9 w2.drew.drew mb (kdel (kmap FileR.blk rs) a) := hm2.kept rfl
      obtain ⟨w3, hput, hm3, hg3⟩ := hm2''.put (t := 46) (e := 79) (by kernel_rfl) (by kernel_rfl) (by omega) b hlb r.blk
      have hs3 : w2.heap.size ≤ w3.heap.size := hg3.size
      have hblk3 : ∀ k, k < w.heap.size → k ≠ mb → w3.heap[k]? = w.heap[k]? := fun k hk hkm => (hg3.block k (Nat.lt_of_lt_of_le hk hs2) (by simpa using hkm)).trans (hblk2 k hk hkm)
      have hB3 : Blk w3 g 48 (driveCells d mb aft) := (hblk3 g hglt hgm).trans hb
      have hT3 : Ren w3 g mb pb ab bb a b d.used := ren_of h hf.own hC cb hbl hbn (fun k hk hkm _ => hblk3 k hk hkm) hB3 e0 e2
      refine (rename_walk_none hT L1 hdel hT2 L2 hput hT3).mono ?_
      rintro e w' ⟨rfl, rfl⟩
      rw [hmf] at hm3
      refine ⟨rfl, fp, IsDrive.turn h hb hf (by omega) (fun k hk hkm _ => hblk3 k hk hkm) hm3 hsub hap ?_ ha hdf, ⟨?_, ?_, ?_, by omega, fun k hk hkf => hblk3 k hk (by rintro rfl; exact hkf hf.own), fun k hk => .inl hk⟩⟩
      · unfold driveCells
        rw [hu]
        exact hB3
      · exact hg3.os.trans hg2.os
      · exact hg3.tape.trans hg2.tape
      · exact hg3.output.trans hg2.output
    | some o =>
      rw [ho] at L2 hkd
      rw [hkd] at hu
      simp [lenOf] at hu
      rw [hu] at hu0
      have hoM : (b, o) ∈ kdel rs a := kget_some ho
      have hoR := (mem_kdel.1 hoM).1
      have hok' : kget rs b = some o := kget_of_mem hr hoR
      obtain ⟨hFo, hk3, hp, ha2⟩ := file_get hf hd hok hN hok'
      have hFo2 : IsFile w2.drew.drew fp o := hFo.keepAll (fun k cs t h1 _ h3 => hblk2 k (h.lt k h1) (by rintro rfl; rw [hmbh] at h3; cases h3)) (fun _ h => h)
      have A := file_all hFo2 hp ha2
      refine rename_walk_some hT L1 hdel hT2 L2 (fun w' => Then w g { d with files := kput (kdel d.files a) b r.f } fp w') (A.mono ?_)
      rintro e w1 ⟨v, rfl, hrow, hb1⟩
      have hb1' : Below w2.heap.size w2 w1 := bt (Below.refl w2.heap.size w2).drew.drew hb1
      have hs1 := hb1'.size
      have hblk1 : ∀ k, k < w.heap.size → k ≠ mb → w1.heap[k]? = w.heap[k]? := fun k hk hkm => (hb1'.block k (by omega)).trans (hblk2 k hk hkm)
      have hB1 : Blk w1 g 48 (driveCells d mb aft) := (hblk1 g hglt hgm).trans hb
      obtain ⟨A', c', hv⟩ := row_form hrow
      subst hv
      have hw : IntKind.i64.wrap (d.used - o.f.all.length) = d.used - o.f.all.length := wrap_small (by omega) (by omega)
      have hB3 := hB1.set_ 2 (.int .i64 (d.used - o.f.all.length))
      have hmset : (w1.setCell ⟨g, 2, none⟩ (.int .i64 (d.used - o.f.all.length))).drew.heap[mb]? = w2.heap[mb]? := (set_other _ _ _ _ mb (Ne.symm hgm)).trans (hb1'.block mb (by omega))
      have hm3 : OwnM Tryz.prog 9 (w1.setCell ⟨g, 2, none⟩ (.int .i64 (d.used - o.f.all.length))).drew mb (kdel (kmap FileR.blk rs) a) := hm2.kept hmset
      obtain ⟨w3, hput, hm4, hg3⟩ := hm3.put (t := 46) (e := 79) (by kernel_rfl) (by kernel_rfl) (by omega) b hlb r.blk
      have hsz : (w1.setCell ⟨g, 2, none⟩ (.int .i64 (d.used - o.f.all.length))).drew.heap.size = w1.heap.size := set_size w1 _ _
      have hs3 := hg3.size
      have hset : ∀ k, k < w.heap.size → k ≠ mb → k ≠ g → (w1.setCell ⟨g, 2, none⟩ (.int .i64 (d.used - o.f.all.length))).heap[k]? = w.heap[k]? := fun k hk hkm hkg => (set_other _ _ _ _ k hkg).trans (hblk1 k hk hkm)
      have hblk3 : ∀ k, k < w1.heap.size → k ≠ mb → w3.heap[k]? = (w1.setCell ⟨g, 2, none⟩ (.int .i64 (d.used - o.f.all.length))).heap[k]? := fun k hk hkm => hg3.block k (by omega) (by simpa using hkm)
      have hkk : ∀ k, k < w.heap.size → k ≠ mb → k ≠ g → w3.heap[k]? = w.heap[k]? := fun k hk hkm hkg => (hblk3 k (by omega) hkm).trans (hset k hk hkm hkg)
      have hB4 : Blk w3 g 48 ((driveCells d mb aft).setIfInBounds 2 (.int .i64 (d.used - o.f.all.length))) := (hblk3 g (by omega) hgm).trans hB3
      have T1 : Ren w1 g mb pb ab bb a b d.used := ren_of h hf.own hC cb hbl hbn (fun k hk hkm _ => hblk1 k hk hkm) hB1 e0 e2
      have T2 : Ren (w1.setCell ⟨g, 2, none⟩ (.int .i64 (d.used - o.f.all.length))) g mb pb ab bb a b (d.used - o.f.all.length) := ren_of h hf.own hC cb hbl hbn hset hB3 rfl rfl
      have T3 : Ren w3 g mb pb ab bb a b (d.used - o.f.all.length) := ren_of h hf.own hC cb hbl hbn hkk hB4 rfl rfl
      refine ⟨A', _, c', rfl, T1, ?_⟩
      rw [hw]
      refine ⟨T2, w3, hput, T3, fp, ?_, ⟨?_, ?_, ?_, by omega, fun k hk hkf => hkk k hk (by rintro rfl; exact hkf hf.own) (by rintro rfl; exact hkf h.own), fun k hk => .inl hk⟩⟩
      · rw [hmf] at hm4
        refine IsDrive.turn h hb hf (by omega) hkk hm4 hsub hap ?_ ha hdf
        have e5 : driveCells { d with files := kput (kdel d.files a) b r.f } mb aft = (driveCells d mb aft).setIfInBounds 2 (.int .i64 (d.used - o.f.all.length)) := by
          rw [← hu]
          rfl
        rw [e5]; exact hB4
      · exact hg3.os.trans (hb1'.os.trans hg2.os)
      · exact hg3.tape.trans (hb1'.tape.trans hg2.tape)
      · exact hg3.output.trans (hb1'.output.trans hg2.output)
end Go.Proofs.YtbjimikppdfmgaaGreatDoor

set_option linter.unusedVariables false
set_option linter.unusedSimpArgs false
set_option maxHeartbeats 1600000
set_option maxRecDepth 100000
attribute [local go_sem ↓] Go.wp_at_zero Go.wp_at_succ
namespace Go.Proofs.YtbjimikppdfmgaaGreatDoor
open Go.RowKit

theorem drive_Rename {w : World} {g : Nat} {d : Dr} {fp : Nat → Prop} {N : Nat} (h : IsDrive w g d fp) (hok : d.Ok N) (hN : N ≤ 1000000000) (a b : Key) (hla : a.length ≤ 1000000) (hlb : b.length ≤ 1000000) :
    Calls Tryz.prog 73 #[.pointer (some ⟨g, 0, none⟩), .string (S a), .string (S b)] w fun x w' => x = .returned (.int .i64 (d.rename a b).2) ∧ Then w g (d.rename a b).1 fp w' := by
  have hlt := h.lt
  generalize hW : (((w.alloc (.cells #[.pointer (some ⟨g, 0, none⟩)] 22)).alloc (.cells #[.string (S a)] 9)).alloc (.cells #[.string (S b)] 9)) = W
  have b0 : Below w.heap.size w W := by rw [← hW]; exact (((Below.refl _ _).alloc (Nat.le_refl _) _).alloc (by simp) _).alloc (by simp; omega) _
  have hC : Caps W g w.heap.size (w.heap.size + 1) a fp := by
    rw [← hW]
    exact ⟨by simp [World.cell?_alloc_past, go_sem], by simp [World.cell?_alloc_past, go_sem], by simp; omega, by simp, fun hk => by have := hlt _ hk; omega, fun hk => by have := hlt _ hk; omega⟩
  have hdc : W.cell? ⟨w.heap.size + 1 + 1, 0, none⟩ = some (.string (S b)) := by
    rw [← hW]
    simp [World.cell?_alloc_past, go_sem]
  have hdlt : w.heap.size + 1 + 1 < W.heap.size := by rw [← hW]; simp
  have hdn : ¬ fp (w.heap.size + 1 + 1) := fun hk => by have := hlt _ hk; omega
  have hD : ∀ (e : Int) (hE : d.renameE a b = e),
      Calls Tryz.prog 54 #[.pointer (some ⟨g, 0, none⟩), .int .i64 e, .func (.func 89) #[] #[.pointer (some ⟨w.heap.size, 0, none⟩), .pointer (some ⟨w.heap.size + 1, 0, none⟩), .pointer (some ⟨w.heap.size + 1 + 1, 0, none⟩)]] W fun x w' => x = .returned (.int .i64 (d.rename a b).2) ∧ Then w g (d.rename a b).1 fp w' := by
    intro e hE
    unfold Dr.rename
    rw [hE]
    refine (deed_with (h.below b0) hok e 89 #[.pointer (some ⟨w.heap.size, 0, none⟩), .pointer (some ⟨w.heap.size + 1, 0, none⟩), .pointer (some ⟨w.heap.size + 1 + 1, 0, none⟩)]
      (fun W => Go.MuLone.run_callFunc_enter Tryz.func89 (by kernel_rfl) rfl _ W) (fun d => { d with files := kput (kdel d.files a) b (fileOf d a) })
      (fun h0 d1 w1 e1 e2 ok1 h1 h2 => ?_)).mono ?_
    · rw [h0] at hE
      have hth : d.thereE a = 0 := by
        unfold Dr.renameE at hE
        split at hE
        · cases hE
        · exact hE
      cases hk : kget d.files a with
      | none => simp [Dr.thereE, hk] at hth
      | some f =>
        have hk1 : kget d1.files a = some f := by rw [e1]; exact hk
        have hfo : fileOf d1 a = f := by simp [fileOf, hk1]
        simp only [hfo]
        exact rename_closure h1 ok1 hN (hC.touch h2) ((World.cell?_of_block (a := ⟨w.heap.size + 1 + 1, 0, none⟩) (h2.block _ hdlt hdn)).trans hdc) (Nat.lt_of_lt_of_le hdlt h2.size) hdn hla hlb hk1
    · rintro x w2 ⟨hx, ht⟩
      exact ⟨hx, ht.of_below b0 hlt⟩
  have h0 := h.below b0
  have T := hid (drive_there h0 a hla)
  have Nm := hid (drive_named (w := W) b hlb)
  have hcp := hC.cp
  have hcn := hC.cn
  by_cases he : d.thereE a = 0
  · rw [he] at T
    cases hnb : namedB b with
    | true =>
      have D := hid (hD 0 (by unfold Dr.renameE; rw [if_neg (fun hy => by rw [hnb] at hy; exact absurd hy.2 (by simp)), he]))
      rw [hnb] at Nm
      clear hD h0 hdn hdlt hC b0 hlt h hok he hnb
      go_enter Tryz.func73, Tryz.ntmps73
      go_wp2_with fail
      refine T.out.mono ?_
      rintro x w1 ⟨rfl, rfl⟩
      go_wp2_with fail
      refine Nm.out.mono ?_
      rintro x w1 ⟨rfl, rfl⟩
      go_wp2_with fail
      refine D.out.mono ?_
      rintro x w2 ⟨rfl, ht⟩
      go_wp2
      go_ret
      exact ⟨rfl, ht⟩
    | false =>
      have D := hid (hD 1 (by unfold Dr.renameE; rw [if_pos ⟨he, by rw [hnb]; rfl⟩]))
      rw [hnb] at Nm
      clear hD h0 hdn hdlt hC b0 hlt h hok he hnb
      go_enter Tryz.func73, Tryz.ntmps73
      go_wp2_with fail
      refine T.out.mono ?_
      rintro x w1 ⟨rfl, rfl⟩
      go_wp2_with fail
      refine Nm.out.mono ?_
      rintro x w1 ⟨rfl, rfl⟩
      go_wp2_with fail
      refine D.out.mono ?_
      rintro x w2 ⟨rfl, ht⟩
      go_wp2
      go_ret
      exact ⟨rfl, ht⟩
  · have he3 : d.thereE a = 10 := by
      unfold Dr.thereE at he ⊢
      by_cases hs : (kget d.files a).isSome = true
      · rw [if_pos hs] at he
        exact absurd rfl he
      · rw [if_neg hs]
    have D := hid (hD 10 (by unfold Dr.renameE; rw [if_neg (fun hy => he hy.1), he3]))
    rw [he3] at T
    clear hD h0 hdn hdlt hC b0 hlt h hok he he3 Nm
    go_enter Tryz.func73, Tryz.ntmps73
    go_wp2_with fail
    refine T.out.mono ?_
    rintro x w1 ⟨rfl, rfl⟩
    go_wp2_with fail
    refine D.out.mono ?_
    rintro x w2 ⟨rfl, ht⟩
    go_wp2
    go_ret
    exact ⟨rfl, ht⟩
end Go.Proofs.YtbjimikppdfmgaaGreatDoor
