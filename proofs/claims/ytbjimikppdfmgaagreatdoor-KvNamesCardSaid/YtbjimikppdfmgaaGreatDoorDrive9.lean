/- Walks of package drive: Remove. -/
import Derived.Test.YtbjimikppdfmgaaGreatDoorDrive8
import Derived.Test.YtbjimikppdfmgaaGreatDoorLawK
set_option linter.unusedVariables false
set_option linter.unusedSimpArgs false
set_option maxHeartbeats 1600000
set_option maxRecDepth 100000
attribute [local go_sem ↓] Go.wp_at_zero Go.wp_at_succ
namespace Go.Proofs.YtbjimikppdfmgaaGreatDoor
open Go.RowKit

/-- The cells that a closure of two captured variables reads. -/
structure Three (w : World) (g mb pb nb : Nat) (name : Key) (u : Int) : Prop where
  c0 : w.cell? ⟨pb, 0, none⟩ = some (.pointer (some ⟨g, 0, none⟩))
  c1 : w.cell? ⟨nb, 0, none⟩ = some (.string (S name))
  c2 : w.cell? ⟨g, 0, none⟩ = some (.map (some mb))
  c3 : w.cell? ⟨g, 2, none⟩ = some (.int .i64 u)
  f2 : w.frozen? ⟨g, 2, none⟩ = false

theorem remove_walk {w : World} {g mb pb nb fb : Nat} {name : Key} {u : Int} (hT : Three w g mb pb nb name u)
    (L : (Instr.lookup 46 (.map (some mb)) (.string (S name)) false).run Tryz.prog w.drew = .ok (.pointer (some ⟨fb, 0, none⟩)) w.drew) (R : World → Prop)
    (hA : Calls Tryz.prog 58 #[.pointer (some ⟨fb, 0, none⟩)] w.drew fun e w1 => ∃ A n c, e = .returned (.slice A n c) ∧ Three w1 g mb pb nb name u ∧ (Instr.lookup 46 (.map (some mb)) (.string (S name)) false).run Tryz.prog w1 = .ok (.pointer (some ⟨fb, 0, none⟩)) w1 ∧ Three (w1.setCell ⟨g, 2, none⟩ (.int .i64 (IntKind.i64.wrap (u - n)))) g mb pb nb name (IntKind.i64.wrap (u - n)) ∧
      ∃ w2, (Builtin.delete_ #[46, 9] 0 #[.map (some mb), .string (S name)]).run Tryz.prog (w1.setCell ⟨g, 2, none⟩ (.int .i64 (IntKind.i64.wrap (u - n)))).drew = .ok (.tuple #[]) w2 ∧
        w2.cell? ⟨pb, 0, none⟩ = some (.pointer (some ⟨g, 0, none⟩)) ∧ w2.cell? ⟨nb, 0, none⟩ = some (.string (S name)) ∧ w2.cell? ⟨g, 0, none⟩ = some (.map (some mb)) ∧ R w2) :
    Calls Tryz.prog 88 #[.pointer (some ⟨pb, 0, none⟩), .pointer (some ⟨nb, 0, none⟩)] w fun e w' => e = .returned (.tuple #[]) ∧ R w' := by
  have HA := hid hA
  clear hA
  obtain ⟨cp, cn, cg, cu, fu⟩ := hT
  go_enter Tryz.func88, Tryz.ntmps88
  go_wp2
  refine region_anyK (fun w' => w'.cell? ⟨pb, 0, none⟩ = some (.pointer (some ⟨g, 0, none⟩)) ∧ w'.cell? ⟨nb, 0, none⟩ = some (.string (S name)) ∧ w'.cell? ⟨g, 0, none⟩ = some (.map (some mb)) ∧ w'.cell? ⟨g, 2, none⟩ = some (.int .i64 u) ∧ (Instr.lookup 46 (.map (some mb)) (.string (S name)) false).run Tryz.prog w' = .ok (.pointer (some ⟨fb, 0, none⟩)) w') 15 (by kernel_rfl) (by ((try dsimp only); simp [*, go_sem, World.cell?_alloc_past])) (fun hSk => ?_)
  refine anyK_take 0 [0] (v := ?_) rfl (by kernel_rfl) (by kernel_rfl) (fun _ _ _ h => h) (Or.inl ⟨by rfl, ?_⟩) hSk ?_
  rotate_left
  · intro w' hSw; (try dsimp only at hSw); go_simp; try with_reducible rfl
  try simp only [Act.put, List.setIfInBounds_toArray, List.set_cons_zero, List.set_cons_succ]
  refine anyK_take 1 [1] (v := ?_) rfl (by kernel_rfl) (by kernel_rfl) (fun _ _ _ h => h) (Or.inl ⟨by rfl, ?_⟩) hSk ?_
  rotate_left
  · intro w' hSw; (try dsimp only at hSw); go_simp; try with_reducible rfl
  try simp only [Act.put, List.setIfInBounds_toArray, List.set_cons_zero, List.set_cons_succ]
  refine anyK_take 2 [2] (v := ?_) rfl (by kernel_rfl) (by kernel_rfl) (fun _ _ _ h => h) (Or.inl ⟨by rfl, ?_⟩) hSk ?_
  rotate_left
  · intro w' hSw; (try dsimp only at hSw); go_simp; try with_reducible rfl
  try simp only [Act.put, List.setIfInBounds_toArray, List.set_cons_zero, List.set_cons_succ]
  refine anyK_take 3 [3] (v := ?_) rfl (by kernel_rfl) (by kernel_rfl) (fun _ _ _ h => h) (Or.inl ⟨by rfl, ?_⟩) hSk ?_
  rotate_left
  · intro w' hSw; (try dsimp only at hSw); go_simp; try with_reducible rfl
  try simp only [Act.put, List.setIfInBounds_toArray, List.set_cons_zero, List.set_cons_succ]
  refine anyK_take 4 [4] (v := ?_) rfl (by kernel_rfl) (by kernel_rfl) (fun _ _ _ h => h) (Or.inl ⟨by rfl, ?_⟩) hSk ?_
  rotate_left
  · intro w' hSw; (try dsimp only at hSw); go_simp; try with_reducible rfl
  try simp only [Act.put, List.setIfInBounds_toArray, List.set_cons_zero, List.set_cons_succ]
  refine anyK_take 5 [5] (v := ?_) rfl (by kernel_rfl) (by kernel_rfl) (fun _ _ _ h => h) (Or.inl ⟨by rfl, ?_⟩) hSk ?_
  rotate_left
  · intro w' hSw; (try dsimp only at hSw); go_simp; try with_reducible rfl
  try simp only [Act.put, List.setIfInBounds_toArray, List.set_cons_zero, List.set_cons_succ]
  refine anyK_take 6 [6] (v := ?_) rfl (by kernel_rfl) (by kernel_rfl) (fun _ _ _ h => h) (Or.inl ⟨by rfl, ?_⟩) hSk ?_
  rotate_left
  · intro w' hSw; (try dsimp only at hSw); go_simp; try with_reducible rfl
  try simp only [Act.put, List.setIfInBounds_toArray, List.set_cons_zero, List.set_cons_succ]
  refine anyK_take 7 [7] (v := ?_) rfl (by kernel_rfl) (by kernel_rfl) (fun _ _ _ h => h) (Or.inl ⟨by rfl, ?_⟩) hSk ?_
  rotate_left
  · intro w' hSw; (try dsimp only at hSw); go_simp; try with_reducible rfl
  try simp only [Act.put, List.setIfInBounds_toArray, List.set_cons_zero, List.set_cons_succ]
  refine anyK_take 8 [8] (v := ?_) rfl (by kernel_rfl) (by kernel_rfl) (fun _ _ _ h => h) (Or.inl ⟨by rfl, ?_⟩) hSk ?_
  rotate_left
  · intro w' hSw; (try dsimp only at hSw); go_simp; try with_reducible rfl
  try simp only [Act.put, List.setIfInBounds_toArray, List.set_cons_zero, List.set_cons_succ]
  refine anyK_take 9 [9] (v := ?_) rfl (by kernel_rfl) (by kernel_rfl) (fun _ _ _ h => h) (Or.inl ⟨by rfl, ?_⟩) hSk ?_
  rotate_left
  · intro w' hSw; (try dsimp only at hSw); go_simp; try with_reducible rfl
  try simp only [Act.put, List.setIfInBounds_toArray, List.set_cons_zero, List.set_cons_succ]
  refine anyK_only 10 (by kernel_rfl) rfl (fun K hK => ?_)
  (first | (rw [if_pos (by rfl)]; go_simp; go_at_call 58; refine HA.out.mono ?_; rintro e w1 ⟨A, n, c, rfl, ⟨p0, p1, p2, p3, p4⟩, L1, ⟨q0, q1, q2, q3, q4⟩, w2, hrun, k0, k1, k2, hR⟩; go_wp2_with fail) | go_simp)
  clear hSk
  refine hK.out _ _ (by ((try dsimp only); simp [*, go_sem, World.cell?_alloc_past])) (fun hSk => ?_)
  clear hK K
  try simp only [Act.put, List.setIfInBounds_toArray, List.set_cons_zero, List.set_cons_succ]
  refine anyK_take 11 [11] (v := ?_) rfl (by kernel_rfl) (by kernel_rfl) (fun _ _ _ h => h) (Or.inl ⟨by rfl, ?_⟩) hSk ?_
  rotate_left
  · intro w' hSw; (try dsimp only at hSw); go_simp; try with_reducible rfl
  try simp only [Act.put, List.setIfInBounds_toArray, List.set_cons_zero, List.set_cons_succ]
  refine anyK_take 12 [12] (v := ?_) rfl (by kernel_rfl) (by kernel_rfl) (fun _ _ _ h => h) (Or.inl ⟨by rfl, ?_⟩) hSk ?_
  rotate_left
  · intro w' hSw; (try dsimp only at hSw); go_simp; try with_reducible rfl
  try simp only [Act.put, List.setIfInBounds_toArray, List.set_cons_zero, List.set_cons_succ]
  refine anyK_take 13 [14, 13] (v := ?_) rfl (by kernel_rfl) (by kernel_rfl) (fun _ _ _ h => h) (Or.inl ⟨by rfl, ?_⟩) hSk ?_
  rotate_left
  · intro w' hSw; (try dsimp only at hSw); go_simp; try with_reducible rfl
  try simp only [Act.put, List.setIfInBounds_toArray, List.set_cons_zero, List.set_cons_succ]
  refine anyK_take 14 [14] (v := ?_) rfl (by kernel_rfl) (by kernel_rfl) (fun _ _ _ h => h) (Or.inl ⟨by rfl, ?_⟩) hSk ?_
  rotate_left
  · intro w' hSw; (try dsimp only at hSw); go_simp; try with_reducible rfl
  try simp only [Act.put, List.setIfInBounds_toArray, List.set_cons_zero, List.set_cons_succ]
  refine anyK_last (by kernel_rfl) rfl (by kernel_rfl) (fun K hK => ?_)
  go_simp
  refine hK.out _ _ ?_
  clear hK K
  try simp only [Act.put, List.setIfInBounds_toArray, List.set_cons_zero, List.set_cons_succ]
  refine anyK_done (by kernel_rfl) ?_ _
  clear hSk
  all_goals go_wp2
  all_goals
    go_region_held3 (fun w' => w'.cell? ⟨pb, 0, none⟩ = some (.pointer (some ⟨g, 0, none⟩)) ∧ w'.cell? ⟨nb, 0, none⟩ = some (.string (S name)) ∧ w'.cell? ⟨g, 0, none⟩ = some (.map (some mb))) (simp [*, go_sem, World.cell?_alloc_past])
      (first | fail)
  all_goals
    go_wp2
    go_end0
    exact ⟨rfl, hR⟩

theorem pairwise_two {α : Type} {R : α → α → Prop} (hs : ∀ a b, R a b → R b a) {l : List α} (h : l.Pairwise R) {a b : α} (ha : a ∈ l) (hb : b ∈ l) (hne : a ≠ b) : R a b := by
  induction l with
  | nil => simp at ha
  | cons x r ih =>
    have h1 := List.pairwise_cons.1 h
    rcases List.mem_cons.1 ha with h2 | h2
    · rcases List.mem_cons.1 hb with h3 | h3
      · exact absurd (h2.trans h3.symm) hne
      · rw [h2]; exact h1.1 _ h3
    · rcases List.mem_cons.1 hb with h3 | h3
      · rw [h3]; exact hs _ _ (h1.1 _ h2)
      · exact ih h1.2 h2 h3
/-- A drive's map was turned, and its own block: its files are some of those that it had. -/
theorem IsDrive.turn {w w2 : World} {g mb : Nat} {d d' : Dr} {fp : Nat → Prop} {aft : Int} {rs rs' : List (Key × FileR)} (h : IsDrive w g d fp) (hb : Blk w g 48 (driveCells d mb aft)) (hf : HasFiles w fp mb rs)
    (hs : w.heap.size ≤ w2.heap.size) (hk : ∀ k, k < w.heap.size → k ≠ mb → k ≠ g → w2.heap[k]? = w.heap[k]?) (hm2 : OwnM Tryz.prog 9 w2 mb (kmap FileR.blk rs')) (hsub : ∀ p ∈ rs', ∃ q ∈ rs, q.2 = p.2) (hap : rs'.Pairwise FApart)
    (hb2 : Blk w2 g 48 (driveCells d' mb aft)) (ha : 0 ≤ d'.left → aft = d'.left) (hd : d'.files = kmap FileR.f rs') : IsDrive w2 g d' fp := by
  refine ⟨fun k hk => Nat.lt_of_lt_of_le (h.lt k hk) hs, h.own, mb, aft, rs', hb2, ha, ⟨hm2, hf.own, fun p hp => ?_, hap⟩, hd⟩
  obtain ⟨q, hq, he⟩ := hsub p hp
  have hF := hf.each q hq
  rw [he] at hF
  obtain ⟨es0, cl0, hmb⟩ := hf.map.isMap
  refine hF.keepAll (fun k cs t h1 h2 h3 => hk k (h.lt k h1) ?_ ?_) (fun _ h => h)
  · rintro rfl
    rw [hmb] at h3; cases h3
  · rintro rfl
    have hb' : w.heap[k]? = _ := hb
    rw [hb'] at h3
    injection h3 with h3
    injection h3 with _ h4
    exact h2 h4.symm

theorem used_del {d : Dr} {name : Key} {f : File} (hr : Rising d.files) (hk : kget d.files name = some f) : ({ d with files := kdel d.files name } : Dr).used = d.used - f.all.length := by
  have h1 : d.used = ((ksum (fun f : File => f.all.length) d.files : Nat) : Int) := d.used_eq
  have h2 : ({ d with files := kdel d.files name } : Dr).used = ((ksum (fun f : File => f.all.length) (kdel d.files name) : Nat) : Int) := Dr.used_eq _
  rw [h1, h2, ksum_del _ hr hk]
  omega
theorem used_nonneg (d : Dr) : 0 ≤ d.used := by rw [Dr.used_eq]; omega
theorem wrap_small {n : Int} (h0 : -9223372036854775808 ≤ n) (h1 : n ≤ 9223372036854775807) : IntKind.i64.wrap n = n := by
  unfold IntKind.wrap
  simp [IntKind.bits, IntKind.signed]
  omega

theorem remove_closure {w : World} {g pb nb : Nat} {d : Dr} {fp : Nat → Prop} {name : Key} {N : Nat} (h : IsDrive w g d fp) (hok : d.Ok N) (hN : N ≤ 1000000000) (hC : Caps w g pb nb name fp) (hl : name.length ≤ 1000000) {f : File} (hk : kget d.files name = some f) :
    Calls Tryz.prog 88 #[.pointer (some ⟨pb, 0, none⟩), .pointer (some ⟨nb, 0, none⟩)] w fun e w' => e = .returned (.tuple #[]) ∧ Then w g { d with files := kdel d.files name } fp w' := by
  have hu := used_del hok.rising hk
  have hu0 := used_nonneg { d with files := kdel d.files name }
  have hu1 := hok.used
  rw [hu] at hu0
  obtain ⟨mb, aft, rs, hb, ha, hf, hd⟩ := h.has
  have cg := hb.cell 0
  have cu := hb.cell 2
  simp [driveCells] at cg cu
  have hglt := hb.lt
  have hmlt : mb < w.heap.size := h.lt mb hf.own
  cases hk2 : kget rs name with
  | none =>
    rw [hd, kget_map, hk2] at hk
    cases hk
  | some r =>
    obtain ⟨hF, hk3, hp, ha2⟩ := file_get hf hd hok hN hk2
    have hfr : r.f = f := by rw [hk] at hk3; exact (Option.some.inj hk3).symm
    have hfd : IsFile w.drew fp r := hF.keepAll (fun _ _ _ _ _ _ => rfl) (fun _ h => h)
    have A := file_all hfd hp ha2
    have hm1 : OwnM Tryz.prog 9 w.drew mb (kmap FileR.blk rs) := hf.map.kept rfl
    have hz : (zeroValue 79).run Tryz.prog w.drew = .ok (.pointer none) w.drew := by kernel_rfl
    have L := hm1.look (t := 46) (e := 79) (by kernel_rfl) (by kernel_rfl) hz name hl
    rw [kget_map, hk2] at L
    obtain ⟨es0, cl0, hmb⟩ := hf.map.isMap
    have hne : ∀ k v, w.cell? ⟨k, 0, none⟩ = some v → k ≠ mb := by
      rintro k v hk rfl
      simp [World.cell?, hmb] at hk
    have hgm := hne _ _ cg
    have hpg : pb ≠ g := by rintro rfl; exact hC.np h.own
    have hng : nb ≠ g := by rintro rfl; exact hC.nn h.own
    refine remove_walk ⟨hC.cp, hC.cn, cg, cu, hb.frozen 2⟩ L (fun w' => Then w g { d with files := kdel d.files name } fp w') (A.mono ?_)
    rintro e w1 ⟨v, rfl, hrow, hb1⟩
    have hb1' : Below w.heap.size w w1 := bt (Below.refl w.heap.size w).drew hb1
    have hs1 := hb1'.size
    have hblk1 : ∀ k, k < w.heap.size → w1.heap[k]? = w.heap[k]? := fun k hk => hb1'.block k hk
    have hg1 : ∀ (k o : Nat) v, k < w.heap.size → w.cell? ⟨k, o, none⟩ = some v → w1.cell? ⟨k, o, none⟩ = some v := fun k o v hk hc => (World.cell?_of_block (a := ⟨k, o, none⟩) (hblk1 k hk)).trans hc
    have hB1 : Blk w1 g 48 (driveCells d mb aft) := (hblk1 g hglt).trans hb
    have hmw1 : OwnM Tryz.prog 9 w1 mb (kmap FileR.blk rs) := hf.map.kept (hblk1 mb hmlt)
    have LL1 := hmw1.look (t := 46) (e := 79) (by kernel_rfl) (by kernel_rfl) (by kernel_rfl) name hl
    rw [kget_map, hk2] at LL1
    obtain ⟨A', c', hv⟩ := row_form hrow
    subst hv
    have hw : IntKind.i64.wrap (d.used - r.f.all.length) = d.used - f.all.length := by rw [hfr]; exact wrap_small (by omega) (by omega)
    have hB2 := hB1.set_ 2 (.int .i64 (IntKind.i64.wrap (d.used - r.f.all.length)))
    have hB3 : Blk (w1.setCell ⟨g, 2, none⟩ (.int .i64 (IntKind.i64.wrap (d.used - r.f.all.length)))) g 48 (driveCells { d with files := kdel d.files name } mb aft) := by
      have e2 : driveCells { d with files := kdel d.files name } mb aft = (driveCells d mb aft).setIfInBounds 2 (.int .i64 (IntKind.i64.wrap (d.used - r.f.all.length))) := by
        rw [hw, ← hu]
        unfold driveCells
        rfl
      rw [e2]; exact hB2
    have hset : ∀ k, k < w.heap.size → k ≠ g → (w1.setCell ⟨g, 2, none⟩ (.int .i64 (IntKind.i64.wrap (d.used - r.f.all.length)))).heap[k]? = w.heap[k]? := fun k hk hkg => (set_other _ _ _ _ k hkg).trans (hblk1 k hk)
    have hm3 : OwnM Tryz.prog 9 (w1.setCell ⟨g, 2, none⟩ (.int .i64 (IntKind.i64.wrap (d.used - r.f.all.length)))).drew mb (kmap FileR.blk rs) := hf.map.kept (hset mb hmlt (Ne.symm hgm))
    obtain ⟨w2, hrun, hm2, ht2⟩ := hm3.drop (t := 46) (e := 79) (by kernel_rfl) (by kernel_rfl) name hl 0
    have hg2 := turned_grown ht2
    have hs2 := hg2.size
    have hs2' : w1.heap.size ≤ w2.heap.size := by
      have := set_size w1 ⟨g, 2, none⟩ (.int .i64 (IntKind.i64.wrap (d.used - r.f.all.length)))
      have h3 : (w1.setCell ⟨g, 2, none⟩ (.int .i64 (IntKind.i64.wrap (d.used - r.f.all.length)))).drew.heap.size ≤ w2.heap.size := hs2
      have h4 : (w1.setCell ⟨g, 2, none⟩ (.int .i64 (IntKind.i64.wrap (d.used - r.f.all.length)))).drew.heap.size = w1.heap.size := this
      omega
    have hblk2 : ∀ k, k < w1.heap.size → k ≠ mb → w2.heap[k]? = (w1.setCell ⟨g, 2, none⟩ (.int .i64 (IntKind.i64.wrap (d.used - r.f.all.length)))).heap[k]? := fun k hk hkm => hg2.block k (by
      have : (w1.setCell ⟨g, 2, none⟩ (.int .i64 (IntKind.i64.wrap (d.used - r.f.all.length)))).drew.heap.size = w1.heap.size := set_size w1 _ _
      omega) (by simpa using hkm)
    have hB4 : Blk w2 g 48 (driveCells { d with files := kdel d.files name } mb aft) := (hblk2 g (by omega) hgm).trans hB3
    have hkk : ∀ k, k < w.heap.size → k ≠ mb → k ≠ g → w2.heap[k]? = w.heap[k]? := fun k hk hkm hkg => (hblk2 k (by omega) hkm).trans (hset k hk hkg)
    have hcell2 : ∀ k v, k < w.heap.size → k ≠ g → w.cell? ⟨k, 0, none⟩ = some v → w2.cell? ⟨k, 0, none⟩ = some v := fun k v hk hkg hc => (World.cell?_of_block (a := ⟨k, 0, none⟩) (hkk k hk (hne k v hc) hkg)).trans hc
    have hcells : ∀ k v, k < w.heap.size → k ≠ g → w.cell? ⟨k, 0, none⟩ = some v → (w1.setCell ⟨g, 2, none⟩ (.int .i64 (IntKind.i64.wrap (d.used - r.f.all.length)))).cell? ⟨k, 0, none⟩ = some v := fun k v hk hkg hc => (World.cell?_of_block (a := ⟨k, 0, none⟩) (hset k hk hkg)).trans hc
    have cg3 := hB3.cell 0
    have cu3 := hB3.cell 2
    have cg4 := hB4.cell 0
    have eu : ({ d with files := kdel d.files name } : Dr).used = IntKind.i64.wrap (d.used - r.f.all.length) := by rw [hu, hw]
    simp [driveCells] at cg3 cu3 cg4
    rw [eu] at cu3
    refine ⟨A', _, c', rfl, ⟨hg1 _ _ _ hC.hp hC.cp, hg1 _ _ _ hC.hn hC.cn, hg1 _ _ _ hglt cg, hg1 _ _ _ hglt cu, hB1.frozen 2⟩, LL1, ⟨hcells _ _ hC.hp hpg hC.cp, hcells _ _ hC.hn hng hC.cn, cg3, cu3, hB3.frozen 2⟩, w2, hrun, hcell2 _ _ hC.hp hpg hC.cp, hcell2 _ _ hC.hn hng hC.cn, cg4, fp, ?_, ?_⟩
    · refine IsDrive.turn h hb hf (by omega) hkk (rs' := kdel rs name) (by rw [kmap_del]; exact hm2) (fun p hp => ⟨p, (mem_kdel.1 hp).1, rfl⟩) (hf.apart.filter _) hB4 ha (by
        show kdel d.files name = _
        rw [kmap_del, ← hd])
    · refine ⟨?_, ?_, ?_, by omega, fun k hk hkf => hkk k hk (by rintro rfl; exact hkf hf.own) (by rintro rfl; exact hkf h.own), fun k hk => .inl hk⟩
      · exact hg2.os.trans hb1'.os
      · exact hg2.tape.trans hb1'.tape
      · exact hg2.output.trans hb1'.output

theorem drive_Remove {w : World} {g : Nat} {d : Dr} {fp : Nat → Prop} {N : Nat} (h : IsDrive w g d fp) (hok : d.Ok N) (hN : N ≤ 1000000000) (name : Key) (hl : name.length ≤ 1000000) :
    Calls Tryz.prog 68 #[.pointer (some ⟨g, 0, none⟩), .string (S name)] w fun x w' => x = .returned (.int .i64 (d.remove name).2) ∧ Then w g (d.remove name).1 fp w' := by
  have hlt := h.lt
  generalize hW : ((w.alloc (.cells #[.pointer (some ⟨g, 0, none⟩)] 22)).alloc (.cells #[.string (S name)] 9)) = W
  have b0 : Below w.heap.size w W := by rw [← hW]; exact ((Below.refl _ _).alloc (Nat.le_refl _) _).alloc (by simp) _
  have hC : Caps W g w.heap.size (w.heap.size + 1) name fp := by
    rw [← hW]
    exact ⟨by simp [World.cell?_alloc_past, go_sem], by simp [World.cell?_alloc_past, go_sem], by simp; omega, by simp, fun hk => by have := hlt _ hk; omega, fun hk => by have := hlt _ hk; omega⟩
  have hD : ∀ (W : World) (hW : Below w.heap.size w W) (hC : Caps W g w.heap.size (w.heap.size + 1) name fp),
      Calls Tryz.prog 54 #[.pointer (some ⟨g, 0, none⟩), .int .i64 (d.thereE name), .func (.func 88) #[] #[.pointer (some ⟨w.heap.size, 0, none⟩), .pointer (some ⟨w.heap.size + 1, 0, none⟩)]] W fun x w' => x = .returned (.int .i64 (d.remove name).2) ∧ Then w g (d.remove name).1 fp w' ∧ w'.cell? ⟨w.heap.size, 0, none⟩ = some (.pointer (some ⟨g, 0, none⟩)) ∧ w'.cell? ⟨w.heap.size + 1, 0, none⟩ = some (.string (S name)) := by
    intro W hW hC
    refine (deed_with (h.below hW) hok (d.thereE name) 88 #[.pointer (some ⟨w.heap.size, 0, none⟩), .pointer (some ⟨w.heap.size + 1, 0, none⟩)]
      (fun W => Go.MuLone.run_callFunc_enter Tryz.func88 (by kernel_rfl) rfl _ W) (fun d => { d with files := kdel d.files name })
      (fun h0 d1 w1 e1 e2 ok1 h1 h2 => ?_)).mono ?_
    · cases hk : kget d.files name with
      | none => simp [Dr.thereE, hk] at h0
      | some f =>
        have hk1 : kget d1.files name = some f := by rw [e1]; exact hk
        have hfo : fileOf d1 name = f := by simp [fileOf, hk1]
        try simp only [hfo]
        exact remove_closure h1 ok1 hN (hC.touch h2) hl hk1
    · rintro x w2 ⟨hx, ht⟩
      obtain ⟨fp', ht1, ht2⟩ := ht
      have hC2 := hC.touch ht2
      exact ⟨hx, Then.of_below hW ⟨fp', ht1, ht2⟩ hlt, hC2.cp, hC2.cn⟩
  have D := hid (hD W.drew b0.drew hC.drewN)
  clear hD
  have h1 : IsDrive W.drew g d fp := h.below b0.drew
  have T := hid (drive_there h1 name hl)
  have hcp := hC.cp
  have hcn := hC.cn
  clear h1 hC b0 hlt hok h
  generalize hE : d.thereE name = e at D T
  clear hE
  go_enter Tryz.func68, Tryz.ntmps68
  go_wp2
  go_region_held3 (fun w' => w'.cell? ⟨w.heap.size, 0, none⟩ = some (.pointer (some ⟨g, 0, none⟩)) ∧ w'.cell? ⟨w.heap.size + 1, 0, none⟩ = some (.string (S name))) (simp [*, go_sem, World.cell?_alloc_past])
    (first | (go_at_call 56; refine T.out.mono ?_; rintro x w1 ⟨rfl, rfl⟩) | (go_at_call 54; refine D.out.mono ?_; rintro x w2 ⟨rfl, ht, k0, k1⟩))
  all_goals
    go_wp2
    go_ret
    exact ⟨rfl, ht⟩
end Go.Proofs.YtbjimikppdfmgaaGreatDoor
