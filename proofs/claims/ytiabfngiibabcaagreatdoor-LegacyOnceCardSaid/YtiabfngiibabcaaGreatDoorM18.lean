/- Walk of (*digest.Hash).Write. -/
import Derived.Test.YtiabfngiibabcaaGreatDoorM17
import Derived.Test.YtiabfngiibabcaaGreatDoorM12
import Derived.Test.YtiabfngiibabcaaGreatDoorM07
import Derived.Stop.RegionWithIn
set_option linter.unusedVariables false
set_option linter.unusedSimpArgs false
set_option maxHeartbeats 12800000
set_option maxRecDepth 100000
set_option allowUnsafeReducibility true
namespace Go.Proofs.YtiabfngiibabcaaGreatDoor
open Go Go.RowKit
attribute [local go_sem] Oper.semAt_some

attribute [local irreducible] mixP
theorem wp_then_false {P : Program} {c : Code} {K : Act → World → Prop} {Q : Exit → Act → World → Prop} {a : Act} {w : World} (h : c.wp P (Exit.then K (fun _ _ _ => False)) a w) : c.wp P (Exit.then K Q) a w :=
  wp_mono h fun e a w hq => by cases e <;> first | exact hq | exact hq.elim
theorem wp_norm {P : Program} {c : Code} {Q : Exit → Act → World → Prop} {a : Act} {w : World} (h : c.wp P (Exit.then (fun a w => Q .normal a w) (fun _ _ _ => False)) a w) : c.wp P Q a w :=
  wp_mono h fun e a w hq => by cases e <;> first | exact hq | exact hq.elim
theorem rest_slice {w : World} {base n c : Nat} {A : Option Addr} {l : List UInt8} (hr : w.ownsRow base 5 1 (.slice A n c) n (l.map B8)) (hl : n = l.length) :
    ∀ A6, A6 = (if c = n / 64 * 64 then A else Option.map (fun x => x.add (n / 64 * 64)) A) → (∀ W, BytesAt W A l → BytesAt W A6 (restP l)) ∧ (A6 = none ∨ ∃ b o, A6 = some ⟨b, o, none⟩) ∧ (A6 = none → restP l = []) := by
  obtain ⟨h1, h2, h3⟩ := row_addr' hr
  subst hl
  rintro A6 rfl
  rcases h3 with ⟨rfl, h0⟩ | ⟨b, -, rfl⟩
  · obtain rfl : l = [] := List.eq_nil_of_length_eq_zero h0
    exact ⟨fun W h => fun h0 => by simp [restP] at h0, .inl (by simp), fun _ => by simp [restP]⟩
  · by_cases hc : c = l.length / 64 * 64
    · rw [if_pos hc]
      have hnil : restP l = [] := List.eq_nil_of_length_eq_zero (by simp [restP]; omega)
      exact ⟨fun W hB => fun h0 => by rw [hnil] at h0; simp at h0, .inr ⟨b, 0, rfl⟩, fun _ => hnil⟩
    · rw [if_neg hc]
      refine ⟨fun W hB => ?_, .inr ⟨b, 0 + l.length / 64 * 64, by simp [add_plain']⟩, fun h => by cases h⟩
      have := hB.part (i := l.length / 64 * 64) (n := l.length) (m := restP l) (by unfold restP; rw [List.take_of_length_le (by simp)])
      simpa [add_plain'] using this
theorem box10 {W : World} {x : Nat} {t : TypeId} {s : St8} {r : Value} {m : Int} (hB : Blk W x t (hCells s r m)) : W.cell? ⟨x, 0, none⟩ = some (.int .u32 s.a) ∧ W.cell? ⟨x, 1, none⟩ = some (.int .u32 s.b) ∧ W.cell? ⟨x, 2, none⟩ = some (.int .u32 s.c) ∧ W.cell? ⟨x, 3, none⟩ = some (.int .u32 s.d) ∧ W.cell? ⟨x, 4, none⟩ = some (.int .u32 s.e) ∧ W.cell? ⟨x, 5, none⟩ = some (.int .u32 s.f) ∧ W.cell? ⟨x, 6, none⟩ = some (.int .u32 s.g) ∧ W.cell? ⟨x, 7, none⟩ = some (.int .u32 s.h) ∧ W.cell? ⟨x, 8, none⟩ = some r ∧ W.cell? ⟨x, 9, none⟩ = some (.int .i64 m) :=
  ⟨hB.cell 0, hB.cell 1, hB.cell 2, hB.cell 3, hB.cell 4, hB.cell 5, hB.cell 6, hB.cell 7, hB.cell 8, hB.cell 9⟩
theorem hset_rest {W : World} {x : Nat} {t : TypeId} {s : St8} {r : Value} {m : Int} (h : Blk W x t (hCells s r m)) (v : Value) : Blk (W.setCell ⟨x, 8, none⟩ v) x t (hCells s v m) := h.set_ 8 v
theorem hset8 {W : World} {x : Nat} {t : TypeId} {s : St8} {r : Value} {m : Int} (h : Blk W x t (hCells s r m)) (u : St8) :
    Blk ((((((((W.setCell ⟨x, 0, none⟩ (.int .u32 u.a)).setCell ⟨x, 1, none⟩ (.int .u32 u.b)).setCell ⟨x, 2, none⟩ (.int .u32 u.c)).setCell ⟨x, 3, none⟩ (.int .u32 u.d)).setCell ⟨x, 4, none⟩ (.int .u32 u.e)).setCell ⟨x, 5, none⟩ (.int .u32 u.f)).setCell ⟨x, 6, none⟩ (.int .u32 u.g)).setCell ⟨x, 7, none⟩ (.int .u32 u.h)) x t (hCells u r m) := by
  have h8 := (((((((h.set_ 0 (.int .u32 u.a)).set_ 1 (.int .u32 u.b)).set_ 2 (.int .u32 u.c)).set_ 3 (.int .u32 u.d)).set_ 4 (.int .u32 u.e)).set_ 5 (.int .u32 u.f)).set_ 6 (.int .u32 u.g)).set_ 7 (.int .u32 u.h)
  simpa [hCells] using h8
theorem far8_heap (W : World) (y k : Nat) (hk : k ≠ y) (v0 v1 v2 v3 v4 v5 v6 v7 : Value) :
    ((((((((W.setCell ⟨y, 0, none⟩ v0).setCell ⟨y, 1, none⟩ v1).setCell ⟨y, 2, none⟩ v2).setCell ⟨y, 3, none⟩ v3).setCell ⟨y, 4, none⟩ v4).setCell ⟨y, 5, none⟩ v5).setCell ⟨y, 6, none⟩ v6).setCell ⟨y, 7, none⟩ v7).heap[k]? = W.heap[k]? := by
  rw [Below.heap_setCell _ _ _ k hk, Below.heap_setCell _ _ _ k hk, Below.heap_setCell _ _ _ k hk, Below.heap_setCell _ _ _ k hk, Below.heap_setCell _ _ _ k hk, Below.heap_setCell _ _ _ k hk, Below.heap_setCell _ _ _ k hk, Below.heap_setCell _ _ _ k hk]
theorem digest_Write (W0 W : World) (hb : Nat) (s : St8) (rest data : List UInt8) (A D : Option Addr) (c cd many : Nat) (hk : Lib.TabIs Tryz.prog W0 "pantile/digest.k" .u64 kTab) (h0 : Below W0.heap.size W0 W) (hbb : W0.heap.size ≤ hb)
    (hh : Blk W hb 258 (hCells s (.slice A rest.length c) many)) (hr : W.ownsRow W0.heap.size 5 1 (.slice A rest.length c) rest.length (rest.map B8)) (hd : BytesAt W0 D data) (hrl : rest.length ≤ 1000) (hdl : data.length ≤ 100000) (hm : many ≤ 100000000) :
    Calls Tryz.prog 174 #[.pointer (some ⟨hb, 0, none⟩), .slice D data.length cd] W fun e w' => e = .returned (.tuple #[]) ∧ ∃ A' c', Blk w' hb 258 (hCells (blocksF mixP s (rest ++ data) ((rest ++ data).length / 64)) (.slice A' (restP (rest ++ data)).length c') (many + data.length : Nat)) ∧
      w'.ownsRow W0.heap.size 5 1 (.slice A' (restP (rest ++ data)).length c') (restP (rest ++ data)).length ((restP (rest ++ data)).map B8) ∧ Below W0.heap.size W0 w' := by
  have hne0 : hb ≠ W.heap.size := by have := hh.lt; omega
  obtain ⟨W1, HW1⟩ : ∃ W1, Hid (W1 = (W.setCell ⟨hb, 9, none⟩ (.int .i64 ((many : Int) + (data.length : Int)))).alloc (.cells #[.pointer (some ⟨hb, 0, none⟩)] 216)) := ⟨_, rfl⟩
  have hsz1 : (W.setCell ⟨hb, 9, none⟩ (.int .i64 ((many : Int) + (data.length : Int)))).heap.size = W.heap.size := by simp [World.setCell]
  have hB1 : Blk W1 hb 258 (hCells s (.slice A rest.length c) ((many : Int) + (data.length : Int))) := by
    rw [HW1.out]
    exact (hh.set_ 9 _).alloc _
  have hX1 : Blk W1 W.heap.size 216 #[.pointer (some ⟨hb, 0, none⟩)] := by
    rw [HW1.out]
    have := Blk.new (W.setCell ⟨hb, 9, none⟩ (.int .i64 ((many : Int) + (data.length : Int)))) 216 #[.pointer (some ⟨hb, 0, none⟩)]
    rwa [hsz1] at this
  have hb0 := h0.setCell (p := ⟨hb, 9, none⟩) hbb (.int .i64 ((many : Int) + (data.length : Int)))
  have hW1 : Below W0.heap.size W0 W1 := by
    rw [HW1.out]
    exact hb0.alloc hb0.size _
  have hrne : ∀ k, OwnBy (.slice A rest.length c) k → k ≠ hb := fun k hk e => row_ne hr hh (by decide) (e ▸ hk)
  have hr1 : W1.ownsRow W0.heap.size 5 1 (.slice A rest.length c) rest.length (rest.map B8) := by
    rw [HW1.out]
    exact row_alloc (row_keep hr fun k hk => Below.heap_setCell _ _ _ _ (hrne k hk)) _
  have hlen0 : (rest ++ data).length = rest.length + data.length := List.length_append
  obtain ⟨v3, w3, hrun3, hr3, hg3, -⟩ := run_append_bytes W1.drew W0.heap.size (.slice A rest.length c) rest data (row_drew1 hr1) D cd (hd.below (below_drewN hW1 1)) (by omega) (below_drewN hW1 1).size 85
  obtain ⟨A3, c3, rfl⟩ := row_form hr3
  have hB3 := grown_keep hg3 (row_drew1 hr1) hB1.drew (by decide)
  have hX3 := grown_keep hg3 (row_drew1 hr1) hX1.drew (by decide)
  have hW3 := Below.grown (below_drewN hW1 1) hg3 (below_drewN hW1 1).size fun k hk => row_base_le (row_drew1 hr1) hk
  have e0 := hX1.cell 0
  have e8 := hB1.cell 8
  have x0 := hX3.cell 0
  have x8 := hB3.cell 8
  have xf8 := hB3.frozen 8
  simp [hCells] at e0 e8 x0 x8
  obtain ⟨k0, k1, k2, k3, k4, k5, k6, k7, k8, k9⟩ := box10 hh
  have kf9 := hh.frozen 9
  have hlt := hh.lt
  have H3 := hid (And.intro hB3 (And.intro hX3 (And.intro hW3 hr3)))
  clear hB3 hX3 hW3 hg3 hr1 hX1 hB1 hb0 hrne hlen0 hr hh
  refine (callsIn_wide (n := 8)).1 ?_
  refine callsIn_of_wp_marks Tryz.func174 rfl trivial ?_ rfl
  simp only [Tryz.ntmps174, List.size_toArray, List.length_cons, List.length_nil, Nat.reduceAdd, Nat.reduceSub, Array.replicate_succ, Array.replicate_zero, List.push_toArray, List.append_toArray, List.nil_append, List.cons_append]
  refine wpIn_wide.2 ?_
  go_wp2
  rw [← HW1.out]
  refine wp_then_false ?_
  refine region_anyK (fun w' => w'.cell? ⟨W.heap.size, 0, none⟩ = some (.pointer (some ⟨hb, 0, none⟩)) ∧ w'.cell? ⟨hb, 8, none⟩ = some (.slice A rest.length c)) 9 (by kernel_rfl) (by ((try dsimp only); first | assumption | simp [*, go_sem, World.cell?_alloc_past])) (fun hSk => ?_)
  refine anyK_take 0 [0] (v := ?_) rfl (by kernel_rfl) (by kernel_rfl) (fun _ _ _ h => h) (Or.inl ⟨by rfl, ?_⟩) hSk ?_
  rotate_left
  · intro w' hSw; (try dsimp only at hSw); go_simp; try with_reducible rfl
  try simp only [List.getElem_toArray, List.getElem_cons_succ, List.getElem_cons_zero, Act.put, List.setIfInBounds_toArray, List.set_cons_zero, List.set_cons_succ]
  refine anyK_take 1 [1] (v := ?_) rfl (by kernel_rfl) (by kernel_rfl) (fun _ _ _ h => h) (Or.inl ⟨by rfl, ?_⟩) hSk ?_
  rotate_left
  · intro w' hSw; (try dsimp only at hSw); go_simp; try with_reducible rfl
  try simp only [List.getElem_toArray, List.getElem_cons_succ, List.getElem_cons_zero, Act.put, List.setIfInBounds_toArray, List.set_cons_zero, List.set_cons_succ]
  refine anyK_take 2 [2] (v := ?_) rfl (by kernel_rfl) (by kernel_rfl) (fun _ _ _ h => h) (Or.inl ⟨by rfl, ?_⟩) hSk ?_
  rotate_left
  · intro w' hSw; (try dsimp only at hSw); go_simp; try with_reducible rfl
  try simp only [List.getElem_toArray, List.getElem_cons_succ, List.getElem_cons_zero, Act.put, List.setIfInBounds_toArray, List.set_cons_zero, List.set_cons_succ]
  refine anyK_take 3 [3] (v := ?_) rfl (by kernel_rfl) (by kernel_rfl) (fun _ _ _ h => h) (Or.inl ⟨by rfl, ?_⟩) hSk ?_
  rotate_left
  · intro w' hSw; (try dsimp only at hSw); go_simp; try with_reducible rfl
  try simp only [List.getElem_toArray, List.getElem_cons_succ, List.getElem_cons_zero, Act.put, List.setIfInBounds_toArray, List.set_cons_zero, List.set_cons_succ]
  refine anyK_take 4 [4] (v := ?_) rfl (by kernel_rfl) (by kernel_rfl) (fun _ _ _ h => h) (Or.inl ⟨by rfl, ?_⟩) hSk ?_
  rotate_left
  · intro w' hSw; (try dsimp only at hSw); go_simp; try with_reducible rfl
  try simp only [List.getElem_toArray, List.getElem_cons_succ, List.getElem_cons_zero, Act.put, List.setIfInBounds_toArray, List.set_cons_zero, List.set_cons_succ]
  refine anyK_take 5 [5] (v := ?_) rfl (by kernel_rfl) (by kernel_rfl) (fun _ _ _ h => h) (Or.inl ⟨by rfl, ?_⟩) hSk ?_
  rotate_left
  · intro w' hSw; (try dsimp only at hSw); go_simp; try with_reducible rfl
  try simp only [List.getElem_toArray, List.getElem_cons_succ, List.getElem_cons_zero, Act.put, List.setIfInBounds_toArray, List.set_cons_zero, List.set_cons_succ]
  refine anyK_only 6 (by kernel_rfl) rfl (fun K hK => ?_)
  (first | ((refine step_append_run rfl _ _ _ (by rfl) _ _ _ _ (by rfl) (by rfl) hrun3 ?_)) | go_simp)
  clear hSk
  refine hK.out _ _ (by ((try dsimp only); first | assumption | simp [*, go_sem, World.cell?_alloc_past])) (fun hSk => ?_)
  clear hK K
  try simp only [List.getElem_toArray, List.getElem_cons_succ, List.getElem_cons_zero, Act.put, List.setIfInBounds_toArray, List.set_cons_zero, List.set_cons_succ]
  refine anyK_take 7 [8, 7] (v := ?_) rfl (by kernel_rfl) (by kernel_rfl) (fun _ _ _ h => h) (Or.inl ⟨by rfl, ?_⟩) hSk ?_
  rotate_left
  · intro w' hSw; (try dsimp only at hSw); go_simp; try with_reducible rfl
  try simp only [List.getElem_toArray, List.getElem_cons_succ, List.getElem_cons_zero, Act.put, List.setIfInBounds_toArray, List.set_cons_zero, List.set_cons_succ]
  refine anyK_take 8 [8] (v := ?_) rfl (by kernel_rfl) (by kernel_rfl) (fun _ _ _ h => h) (Or.inl ⟨by rfl, ?_⟩) hSk ?_
  rotate_left
  · intro w' hSw; (try dsimp only at hSw); go_simp; try with_reducible rfl
  try simp only [List.getElem_toArray, List.getElem_cons_succ, List.getElem_cons_zero, Act.put, List.setIfInBounds_toArray, List.set_cons_zero, List.set_cons_succ]
  refine anyK_last (by kernel_rfl) rfl (by kernel_rfl) (fun K hK => ?_)
  go_simp
  refine hK.out _ _ ?_
  clear hK K
  try simp only [List.getElem_toArray, List.getElem_cons_succ, List.getElem_cons_zero, Act.put, List.setIfInBounds_toArray, List.set_cons_zero, List.set_cons_succ]
  refine anyK_done (by kernel_rfl) ?_ _
  obtain ⟨w4, HW4⟩ : ∃ w4, Hid (w4 = w3.setCell ⟨hb, 8, none⟩ (.slice A3 (rest.length + data.length) c3)) := ⟨_, rfl⟩
  have hz4 : w4.heap.size = w3.heap.size := by rw [HW4.out]; simp [World.setCell]
  obtain ⟨l, HLl⟩ : ∃ l, Hid (l = rest ++ data) := ⟨_, rfl⟩
  have hll : l.length = rest.length + data.length := by rw [HLl.out, List.length_append]
  have hB4 : Blk w4 hb 258 (hCells s (.slice A3 (rest.length + data.length) c3) ((many : Int) + (data.length : Int))) := by
    rw [HW4.out]
    exact H3.out.1.set_ 8 _
  have hX4 : Blk w4 W.heap.size 216 #[.pointer (some ⟨hb, 0, none⟩)] := by
    rw [HW4.out]
    exact H3.out.2.1.far (p := ⟨hb, 8, none⟩) (Ne.symm hne0) _
  have hW4 : Below W0.heap.size W0 w4 := by
    rw [HW4.out]
    exact H3.out.2.2.1.setCell (p := ⟨hb, 8, none⟩) hbb _
  have hr4 : w4.ownsRow W0.heap.size 5 1 (.slice A3 (rest.length + data.length) c3) (rest.length + data.length) (l.map B8) := by
    have h3 := H3.out.2.2.2
    rw [← HLl.out, hll] at h3
    rw [HW4.out]
    exact row_keep h3 fun k hk => Below.heap_setCell _ _ _ _ (fun (e : k = hb) => row_ne h3 H3.out.1 (by decide) (e ▸ hk))
  have hsx : w3.cell? ⟨hb, 8, none⟩ = some (.slice A rest.length c) := x8
  have e4 : w4.cell? ⟨W.heap.size, 0, none⟩ = some (.pointer (some ⟨hb, 0, none⟩)) := hX4.cell 0
  have e48 : w4.cell? ⟨hb, 8, none⟩ = some (.slice A3 (rest.length + data.length) c3) := hB4.cell 8
  rw [← HW4.out]
  have H4 := hid (And.intro hB4 (And.intro hX4 (And.intro hW4 hr4)))
  clear H3 hB4 hX4 hW4 hr4 hSk x0 x8 xf8 hsx hrun3 hr3 e0 e8 k0 k1 k2 k3 k4 k5 k6 k7 k8 k9 kf9 hW1
  have HLL := hid hll
  clear hll
  generalize rest.length + data.length = n at *
  obtain ⟨mm, HMM⟩ : ∃ mm : Int, Hid (mm = (many : Int) + (data.length : Int)) := ⟨_, rfl⟩
  rw [← HMM.out]
  have H4 := H4
  rw [← HMM.out] at H4
  go_wp2_with (go_at_call 215; refine (digest_blocks _ _ _ _).mono ?_; rintro e w' ⟨rfl, rfl⟩)
  rw [← hz4]
  clear hz4
  obtain ⟨hn1, hn2, hn3⟩ := row_addr' H4.out.2.2.2
  obtain ⟨dk, hdk⟩ : ∃ dk, 64 ≤ n → A3 = some ⟨dk, 0, none⟩ := by
    rcases hn3 with ⟨h1, h2⟩ | ⟨b, h1, h2⟩
    · exact ⟨0, fun h => by omega⟩
    · exact ⟨b, fun _ => h2⟩
  have hdk4 : ∀ k, OwnBy (.slice A3 n c3) k → k < w4.heap.size := fun k hk => by
    obtain ⟨cs, hcs⟩ := row_heap H4.out.2.2.2 hk
    exact (Array.getElem?_eq_some_iff.1 hcs).1
  have hhb4 : hb < w4.heap.size := H4.out.1.lt
  have hWb4 : W.heap.size < w4.heap.size := H4.out.2.1.lt
  have hbase4 := H4.out.2.2.1.size
  obtain ⟨I, HI⟩ : ∃ I : List Nat → World → Prop, Hid (I = fun pre Wz => Blk Wz hb 258 (hCells (blocksF mixP s l pre.length) (.slice A3 n c3) mm) ∧ Blk Wz W.heap.size 216 #[.pointer (some ⟨hb, 0, none⟩)] ∧ Wz.ownsRow W0.heap.size 5 1 (.slice A3 n c3) n (l.map B8) ∧ Below W0.heap.size W0 Wz) := ⟨_, rfl⟩
  have hI0 : ∀ (p : List Nat) (B C : World), I p B → B.heap.size ≤ C.heap.size → C.os = B.os → C.tape = B.tape → C.output = B.output → (∀ k, k < w4.heap.size → C.heap[k]? = B.heap[k]?) → I p C := by
    intro p B C h hs ho ht hu hk
    rw [HI.out] at h ⊢
    refine ⟨(hk _ hhb4).trans h.1, (hk _ hWb4).trans h.2.1, row_keep h.2.2.1 fun k hkk => hk k (hdk4 k hkk), ⟨ho.trans h.2.2.2.os, ht.trans h.2.2.2.tape, hu.trans h.2.2.2.output, Nat.le_trans h.2.2.2.size hs, fun k hk' => (hk k (by omega)).trans (h.2.2.2.block k hk')⟩⟩
  have HI0 := hid hI0
  have hb5 : Below w4.heap.size w4 ((w4.alloc (.cells #[.slice A3 n c3] 85)).alloc (.cells #[.int .i64 64] 3)) := ((Below.refl _ _).alloc (Nat.le_refl _) _).alloc (by simp) _
  have hI5 : I [] ((w4.alloc (.cells #[.slice A3 n c3] 85)).alloc (.cells #[.int .i64 64] 3)) := by
    refine hI0 [] w4 _ ?_ hb5.size hb5.os hb5.tape hb5.output hb5.block
    rw [HI.out]
    exact ⟨H4.out.1, H4.out.2.1, H4.out.2.2.2, H4.out.2.2.1⟩
  have HI5 := hid hI5
  have HBD := hid (show Blk ((w4.alloc (.cells #[.slice A3 n c3] 85)).alloc (.cells #[.int .i64 64] 3)) w4.heap.size 85 #[.slice A3 n c3] from (Blk.new _ _ _).alloc _)
  have HBS := hid (show Blk ((w4.alloc (.cells #[.slice A3 n c3] 85)).alloc (.cells #[.int .i64 64] 3)) (w4.heap.size + 1) 3 #[.int .i64 64] by simpa using Blk.new (w4.alloc (.cells #[.slice A3 n c3] 85)) 3 #[.int .i64 64])
  have hz5 : ((w4.alloc (.cells #[.slice A3 n c3] 85)).alloc (.cells #[.int .i64 64] 3)).heap.size = w4.heap.size + 1 + 1 := by simp
  clear hI0 hI5 hb5 H4 e4 e48
  generalize (w4.alloc (.cells #[.slice A3 n c3] 85)).alloc (.cells #[.int .i64 64] 3) = w5 at *
  refine (wpIn_wide (n := 8)).1 ?_
  refine wpIn_rangeFunc_run (F := Fence.wide) rfl (by omega) (gf := 251) (lb := #[.pointer (some ⟨w4.heap.size, 0, none⟩), .pointer (some ⟨w4.heap.size + 1, 0, none⟩)]) rfl trivial (enters_of Tryz.func251 (by kernel_rfl) rfl) (encs := bEnc dk 0 c3) (bb := w4.heap.size) (Kp := BKp w4.heap.size (w4.heap.size + 1)) (S := fun xs => xs = List.range (n / 64)) (Sp := fun _ => True) (Nx := fun pre x => x = pre.length ∧ pre.length < n / 64) (by omega)
    (fun o => digest_blocks1 w4.heap.size (w4.heap.size + 1) dk 0 c3 n A3 hdk _ ((HBD.out.alloc _).alloc _) ((HBS.out.alloc _).alloc _) (by omega) hn1 hn2 _)
    (fun h k => ⟨Nat.le_trans h.1 k.1, k.2.1.trans h.2.1, k.2.2.trans h.2.2⟩) (fun Wz l o' hl => ⟨by simp, World.putObj_heap_other (by omega), World.putObj_heap_other (by omega)⟩) (fun x => rfl)
    I (fun _ _ _ => False)
    (fun p B C hB hs => HI0.out p B C hB hs.size hs.os hs.tape hs.output (fun k hk => hs.block k (by omega) (by omega))) (fun _ _ _ _ h _ => h) HI5.out
    (fun x a' Wz => a' = { tmps := #[.pointer (some ⟨hb, 0, none⟩), .slice D data.length cd, .pointer (some ⟨W.heap.size, 0, none⟩), undef, .slice (some ⟨dk, 64 * x, none⟩) 64 (c3 - 64 * x), .pointer (some ⟨hb, 0, none⟩), .pointer (some ⟨hb, 0, none⟩), .pointer (some ⟨hb, 9, none⟩), .int .i64 many, .slice D data.length cd, .int .i64 data.length, .int .i64 mm, .pointer (some ⟨hb, 0, none⟩), .pointer (some ⟨hb, 9, none⟩), .pointer (some ⟨hb, 0, none⟩), .pointer (some ⟨hb, 0, none⟩), .pointer (some ⟨hb, 0, none⟩), .pointer (some ⟨hb, 8, none⟩), .slice A rest.length c, .slice D data.length cd, .slice A3 n c3, .pointer (some ⟨hb, 0, none⟩), .pointer (some ⟨hb, 8, none⟩), .pointer (some ⟨hb, 0, none⟩), .pointer (some ⟨hb, 0, none⟩), .pointer (some ⟨hb, 8, none⟩), .slice A3 n c3, .func (.func 251) #[] #[.pointer (some ⟨w4.heap.size, 0, none⟩), .pointer (some ⟨w4.heap.size + 1, 0, none⟩)], .slice (some ⟨dk, 64 * x, none⟩) 64 (c3 - 64 * x), undef, undef, undef, undef, undef, undef, undef, undef, undef, undef, undef, undef, undef, undef, undef, undef, undef, undef, undef, undef, undef, undef, undef, undef, undef], defers := [] })
    ?hAx ?assign ?body ?done ?stop
  case hAx => exact fun x a' Bw r o' h _ => h
  case assign =>
    rintro l' pre x Wz K hsz hI hnx hK
    clear hnx
    simp only [bEnc, Nat.zero_add]
    gi_wp2
    exact hK _ _ (KeepsFrom.refl _ _) ⟨Nat.le_refl _, rfl, rfl⟩ hI rfl
  case body =>
    rintro l' pre x a' Wz hsz hI rfl ⟨hx, hlx⟩
    have hI' := hI
    rw [HI.out] at hI'
    obtain ⟨hB, hX, hr, hW⟩ := hI'
    have hxn : 64 * x + 64 ≤ n := by omega
    obtain rfl := hdk (by omega)
    have HLLo := HLL.out
    have hrL := row_drew1 hr
    rw [← HLLo] at hrL
    have hbk : BytesAt Wz.drew (some ⟨dk, 0 + 64 * x, none⟩) ((l.drop (64 * x)).take 64) := ((bytesAt_row hrL).2).part rfl
    rw [Nat.zero_add] at hbk
    have hk9 : Lib.TabIs Tryz.prog Wz.drew "pantile/digest.k" .u64 kTab := Go.Joins.var_stays (g := 4) (by kernel_rfl) hk (below_drewN hW 1) (Nat.le_refl _)
    have MX := digest_mix32 Wz.drew (blocksF mixP s l pre.length) (some ⟨dk, 64 * x, none⟩) ((l.drop (64 * x)).take 64) (c3 - 64 * x) hbk (by rw [List.length_take, List.length_drop]; omega) (by omega) (by omega) hk9
    have hst : mixP (blocksF mixP s l pre.length) ((l.drop (64 * x)).take 64) = blocksF mixP s l (pre ++ [x]).length := by
      rw [List.length_append, List.length_singleton, blocksF_snoc, ← hx]
    rw [hst] at MX
    have MXX := hid (CallsIn.inRound l' ((callsIn_wide (n := 5)).2 MX))
    have HBz := hid hB.drew
    have HHI := hid hI
    have ce := hX.cell 0
    simp only [List.getElem?_toArray, List.getElem?_cons_zero] at ce
    obtain ⟨y0, y1, y2, y3, y4, y5, y6, y7, y8, y9⟩ := box10 hB
    have hhz : hb < Wz.drew.heap.size := hB.lt
    have hhX : W.heap.size < Wz.drew.heap.size := hX.lt
    have HHX := hid hX
    have HXN := hid hx
    have HFIN := hid (show ∀ w9, Below Wz.drew.heap.size Wz.drew w9 → ∀ W', Blk W' hb 258 (hCells (blocksF mixP s l (pre ++ [x]).length) (.slice (some ⟨dk, 0, none⟩) n c3) mm) → W'.os = w9.os → W'.tape = w9.tape → W'.output = w9.output → w9.heap.size ≤ W'.heap.size → (∀ k, k ≠ hb → W'.heap[k]? = w9.heap[k]?) → KeepsFrom w5.heap.size Wz W' ∧ BKp w4.heap.size (w4.heap.size + 1) Wz W' ∧ I (pre ++ [x]) W' from fun w9 hb9 W' hB' ho ht hu hs hk' => by
      have hz9 : Wz.heap.size ≤ w9.heap.size := hb9.size
      have blk : ∀ k, k < Wz.heap.size → k ≠ hb → W'.heap[k]? = Wz.heap[k]? := fun k hk1 hk2 => (hk' k hk2).trans (hb9.block k hk1)
      refine ⟨⟨by omega, fun k o hk1 ho2 _ => ?_⟩, ⟨by omega, blk _ (by omega) (by omega), blk _ (by omega) (by omega)⟩, ?_⟩
      · exact (blk k (Array.getElem?_eq_some_iff.1 ho2).1 (by omega)).trans ho2
      · rw [HI.out]
        have hdkn : ∀ k, OwnBy (.slice (some ⟨dk, 0, none⟩) n c3) k → k ≠ hb := fun k hk1 e => row_ne hr hB (by decide) (e ▸ hk1)
        refine ⟨hB', (blk _ hX.lt (Ne.symm hne0)).trans hX, row_keep hr fun k hk1 => blk k ?_ (hdkn k hk1), ⟨ho.trans (hb9.os.trans hW.os), ht.trans (hb9.tape.trans hW.tape), hu.trans (hb9.output.trans hW.output), by have := hW.size; omega, fun k hk1 => (blk k (by have := hW.size; omega) (by omega)).trans (hW.block k hk1)⟩⟩
        obtain ⟨cs, hcs⟩ := row_heap hr hk1
        exact (Array.getElem?_eq_some_iff.1 hcs).1)
    clear hB hX hr hrL hW hI hbk hk9 MX hst hx
    generalize blocksF mixP s l pre.length = st at *
    generalize hst2 : blocksF mixP s l (pre ++ [x]).length = st2 at *
    have HST2 := hid hst2
    clear hst2
    have HFI2 := hid (show ∀ w9, Below Wz.drew.heap.size Wz.drew w9 → Blk w9 hb 258 (hCells st (.slice (some ⟨dk, 0, none⟩) n c3) mm) → KeepsFrom w5.heap.size Wz ((((((((w9.setCell ⟨hb, 0, none⟩ (.int .u32 st2.a)).setCell ⟨hb, 1, none⟩ (.int .u32 st2.b)).setCell ⟨hb, 2, none⟩ (.int .u32 st2.c)).setCell ⟨hb, 3, none⟩ (.int .u32 st2.d)).setCell ⟨hb, 4, none⟩ (.int .u32 st2.e)).setCell ⟨hb, 5, none⟩ (.int .u32 st2.f)).setCell ⟨hb, 6, none⟩ (.int .u32 st2.g)).setCell ⟨hb, 7, none⟩ (.int .u32 st2.h)) ∧ BKp w4.heap.size (w4.heap.size + 1) Wz ((((((((w9.setCell ⟨hb, 0, none⟩ (.int .u32 st2.a)).setCell ⟨hb, 1, none⟩ (.int .u32 st2.b)).setCell ⟨hb, 2, none⟩ (.int .u32 st2.c)).setCell ⟨hb, 3, none⟩ (.int .u32 st2.d)).setCell ⟨hb, 4, none⟩ (.int .u32 st2.e)).setCell ⟨hb, 5, none⟩ (.int .u32 st2.f)).setCell ⟨hb, 6, none⟩ (.int .u32 st2.g)).setCell ⟨hb, 7, none⟩ (.int .u32 st2.h)) ∧ I (pre ++ [x]) ((((((((w9.setCell ⟨hb, 0, none⟩ (.int .u32 st2.a)).setCell ⟨hb, 1, none⟩ (.int .u32 st2.b)).setCell ⟨hb, 2, none⟩ (.int .u32 st2.c)).setCell ⟨hb, 3, none⟩ (.int .u32 st2.d)).setCell ⟨hb, 4, none⟩ (.int .u32 st2.e)).setCell ⟨hb, 5, none⟩ (.int .u32 st2.f)).setCell ⟨hb, 6, none⟩ (.int .u32 st2.g)).setCell ⟨hb, 7, none⟩ (.int .u32 st2.h)) from fun w9 hb9 hB9 => by
      have h8 := hset8 hB9 st2
      have hq := below_set8 (Below.refl hb w9) (Nat.le_refl hb) (.int .u32 st2.a) (.int .u32 st2.b) (.int .u32 st2.c) (.int .u32 st2.d) (.int .u32 st2.e) (.int .u32 st2.f) (.int .u32 st2.g) (.int .u32 st2.h)
      exact HFIN.out w9 hb9 _ h8 hq.os hq.tape hq.output hq.size (fun k hk => far8_heap w9 hb k hk _ _ _ _ _ _ _ _))
    clear HFIN
    unfold cells8 at MXX
    have hfw : Fence.wide.fn 216 := trivial
    have hfd : Fence.wide.depth.isSome = false := rfl
    gi_wp2
    gi_region_with (gi_at_call 216; refine MXX.out.mono ?_; rintro e w9 ⟨rfl, hb9⟩; have HB9 := hid (And.intro hb9 (HBz.out.below hb9 hhz)); obtain ⟨g0, g1, g2, g3, g4, g5, g6, g7, g8, g9⟩ := box10 HB9.out.2; obtain ⟨f0, f1, f2, f3, f4, f5, f6, f7⟩ := frozen8 HB9.out.2; have x9 := (HHX.out.drew.below hb9 hhX).cell 0; simp only [List.getElem?_toArray, List.getElem?_cons_zero] at x9; clear hb9)
    all_goals
      gi_wp2
      exact HFI2.out w9 HB9.out.1 HB9.out.2
  case done =>
    rintro D' ys Wz hD hys hI hK
    rw [HI.out] at hI
    obtain ⟨hB, hX, hr, hW⟩ := hI
    have hyl : ys.length = n / 64 := by rw [hys, List.length_range]
    rw [hyl] at hB
    have HLLo := HLL.out
    obtain ⟨A6, HA6⟩ : ∃ A6, Hid (A6 = (if c3 = n / 64 * 64 then A3 else Option.map (fun x => x.add (n / 64 * 64)) A3)) := ⟨_, rfl⟩
    obtain ⟨p6, a6, n6⟩ := rest_slice hr HLLo.symm A6 HA6.out
    have hrL := hr
    rw [← HLLo] at hrL
    have hq : (restP l).length = n - n / 64 * 64 := by unfold restP; rw [List.length_drop, HLLo]
    have CL := lg_CloneB (w := Wz.drew) (restP l) (c3 - n / 64 * 64) (p6 _ (bytesAt_row (row_drew1 hrL)).2) a6 (by omega) n6
    rw [hq] at CL
    rw [HA6.out] at CL
    have CLH := hid CL
    have hz6 : ((n : Int) / 64 * 64).toNat = n / 64 * 64 := by omega
    have hg6 : (0 : Int) ≤ (n : Int) / 64 * 64 := by omega
    have hl6 : (n : Int) / 64 * 64 ≤ n := by omega
    have hKlt : D' < Wz.heap.size := (Array.getElem?_eq_some_iff.1 hK).1
    have hDhb : D' ≠ hb := by omega
    have e0 := hX.cell 0
    have e8 := (box10 hB).2.2.2.2.2.2.2.2.1
    simp only [List.getElem?_toArray, List.getElem?_cons_zero] at e0
    have HF := hid (show ∀ (w9 : World) (A7 : Option Addr) (c7 : Nat), w9.ownsRow Wz.drew.heap.size 5 1 (.slice A7 (n - n / 64 * 64) c7) (n - n / 64 * 64) ((restP l).map B8) → Below Wz.drew.heap.size Wz.drew w9 →
        (w9.setCell ⟨hb, 8, none⟩ (.slice A7 (n - n / 64 * 64) c7)).heap[D']? = some (.deferred (some [])) ∧ ∃ A' c', Blk ((w9.setCell ⟨hb, 8, none⟩ (.slice A7 (n - n / 64 * 64) c7)).putObj D' (.deferred none)) hb 258 (hCells (blocksF mixP s (rest ++ data) ((rest ++ data).length / 64)) (.slice A' (restP (rest ++ data)).length c') (many + data.length : Nat)) ∧
      ((w9.setCell ⟨hb, 8, none⟩ (.slice A7 (n - n / 64 * 64) c7)).putObj D' (.deferred none)).ownsRow W0.heap.size 5 1 (.slice A' (restP (rest ++ data)).length c') (restP (rest ++ data)).length ((restP (rest ++ data)).map B8) ∧ Below W0.heap.size W0 ((w9.setCell ⟨hb, 8, none⟩ (.slice A7 (n - n / 64 * 64) c7)).putObj D' (.deferred none)) from fun w9 A7 c7 hr9 hb9 => by
      have hz9 : Wz.heap.size ≤ w9.heap.size := hb9.size
      have hB9 : Blk w9 hb 258 (hCells (blocksF mixP s l (n / 64)) (.slice A3 n c3) mm) := hB.drew.below hb9 hB.lt
      refine ⟨(Below.heap_setCell _ _ _ _ hDhb).trans ((hb9.block D' hKlt).trans hK), A7, c7, ?_, ?_, ?_⟩
      · rw [← HLl.out, hq, HLLo, show ((many + data.length : Nat) : Int) = mm by rw [HMM.out]; push_cast; rfl]
        exact (World.putObj_heap_other (Ne.symm hDhb)).trans (hset_rest hB9 (.slice A7 (n - n / 64 * 64) c7))
      · rw [← HLl.out, hq]
        have hbz := hB.lt
        refine row_base (row_keep hr9 fun k hk => ?_) (show W0.heap.size ≤ Wz.heap.size from hW.size)
        have hk2 : Wz.heap.size ≤ k := row_base_le hr9 hk
        exact (World.putObj_heap_other (by omega)).trans (Below.heap_setCell _ _ _ _ (show k ≠ hb by omega))
      · refine ⟨hb9.os.trans hW.os, hb9.tape.trans hW.tape, hb9.output.trans hW.output, ?_, fun k hk => ?_⟩
        · have := hW.size
          simp [World.setCell]
          omega
        · have := hW.size
          exact (World.putObj_heap_other (by omega)).trans ((Below.heap_setCell _ _ _ _ (show k ≠ hb by omega)).trans ((hb9.block k (show k < Wz.heap.size by omega)).trans (hW.block k hk))))
    have HBX := hid (And.intro hB hX)
    have hhz : hb < Wz.drew.heap.size := hB.lt
    have hhX : W.heap.size < Wz.drew.heap.size := hX.lt
    have f8 := hB.frozen 8
    have hw1 : IntKind.i64.wrap ((n : Int) / 64) = (n : Int) / 64 := IntWalk.i64_in _ (by omega)
    have hw2 : IntKind.i64.wrap ((n : Int) / 64 * 64) = (n : Int) / 64 * 64 := IntWalk.i64_in _ (by omega)
    clear hB hX hr hrL hW CL p6 a6 n6 hK hyl hys
    go_wp2
    refine wp_norm ?_
    refine region_anyK (fun w' => w'.cell? ⟨W.heap.size, 0, none⟩ = some (.pointer (some ⟨hb, 0, none⟩)) ∧ w'.cell? ⟨hb, 8, none⟩ = some (.slice A3 n c3)) 16 (by kernel_rfl) (by ((try dsimp only); first | assumption | simp [*, go_sem, World.cell?_alloc_past])) (fun hSk => ?_)
    refine anyK_take 0 [0] (v := ?_) rfl (by kernel_rfl) (by kernel_rfl) (fun _ _ _ h => h) (Or.inl ⟨by rfl, ?_⟩) hSk ?_
    rotate_left
    · intro w' hSw; (try dsimp only at hSw); go_simp; try with_reducible rfl
    try simp only [List.getElem_toArray, List.getElem_cons_succ, List.getElem_cons_zero, Act.put, List.setIfInBounds_toArray, List.set_cons_zero, List.set_cons_succ]
    refine anyK_take 1 [1] (v := ?_) rfl (by kernel_rfl) (by kernel_rfl) (fun _ _ _ h => h) (Or.inl ⟨by rfl, ?_⟩) hSk ?_
    rotate_left
    · intro w' hSw; (try dsimp only at hSw); go_simp; try with_reducible rfl
    try simp only [List.getElem_toArray, List.getElem_cons_succ, List.getElem_cons_zero, Act.put, List.setIfInBounds_toArray, List.set_cons_zero, List.set_cons_succ]
    refine anyK_take 2 [2] (v := ?_) rfl (by kernel_rfl) (by kernel_rfl) (fun _ _ _ h => h) (Or.inl ⟨by rfl, ?_⟩) hSk ?_
    rotate_left
    · intro w' hSw; (try dsimp only at hSw); go_simp; try with_reducible rfl
    try simp only [List.getElem_toArray, List.getElem_cons_succ, List.getElem_cons_zero, Act.put, List.setIfInBounds_toArray, List.set_cons_zero, List.set_cons_succ]
    refine anyK_take 3 [3] (v := ?_) rfl (by kernel_rfl) (by kernel_rfl) (fun _ _ _ h => h) (Or.inl ⟨by rfl, ?_⟩) hSk ?_
    rotate_left
    · intro w' hSw; (try dsimp only at hSw); go_simp; try with_reducible rfl
    try simp only [List.getElem_toArray, List.getElem_cons_succ, List.getElem_cons_zero, Act.put, List.setIfInBounds_toArray, List.set_cons_zero, List.set_cons_succ]
    refine anyK_take 4 [4] (v := ?_) rfl (by kernel_rfl) (by kernel_rfl) (fun _ _ _ h => h) (Or.inl ⟨by rfl, ?_⟩) hSk ?_
    rotate_left
    · intro w' hSw; (try dsimp only at hSw); go_simp; try with_reducible rfl
    try simp only [List.getElem_toArray, List.getElem_cons_succ, List.getElem_cons_zero, Act.put, List.setIfInBounds_toArray, List.set_cons_zero, List.set_cons_succ]
    refine anyK_take 5 [5] (v := ?_) rfl (by kernel_rfl) (by kernel_rfl) (fun _ _ _ h => h) (Or.inl ⟨by rfl, ?_⟩) hSk ?_
    rotate_left
    · intro w' hSw; (try dsimp only at hSw); go_simp; try with_reducible rfl
    try simp only [List.getElem_toArray, List.getElem_cons_succ, List.getElem_cons_zero, Act.put, List.setIfInBounds_toArray, List.set_cons_zero, List.set_cons_succ]
    refine anyK_take 6 [6] (v := ?_) rfl (by kernel_rfl) (by kernel_rfl) (fun _ _ _ h => h) (Or.inl ⟨by rfl, ?_⟩) hSk ?_
    rotate_left
    · intro w' hSw; (try dsimp only at hSw); go_simp; try with_reducible rfl
    try simp only [List.getElem_toArray, List.getElem_cons_succ, List.getElem_cons_zero, Act.put, List.setIfInBounds_toArray, List.set_cons_zero, List.set_cons_succ]
    refine anyK_take 7 [7] (v := ?_) rfl (by kernel_rfl) (by kernel_rfl) (fun _ _ _ h => h) (Or.inl ⟨by rfl, ?_⟩) hSk ?_
    rotate_left
    · intro w' hSw; (try dsimp only at hSw); go_simp; try with_reducible rfl
    try simp only [List.getElem_toArray, List.getElem_cons_succ, List.getElem_cons_zero, Act.put, List.setIfInBounds_toArray, List.set_cons_zero, List.set_cons_succ]
    refine anyK_take 8 [8] (v := ?_) rfl (by kernel_rfl) (by kernel_rfl) (fun _ _ _ h => h) (Or.inl ⟨by rfl, ?_⟩) hSk ?_
    rotate_left
    · intro w' hSw; (try dsimp only at hSw); go_simp; try with_reducible rfl
    try simp only [List.getElem_toArray, List.getElem_cons_succ, List.getElem_cons_zero, Act.put, List.setIfInBounds_toArray, List.set_cons_zero, List.set_cons_succ]
    refine anyK_take 9 [9] (v := ?_) rfl (by kernel_rfl) (by kernel_rfl) (fun _ _ _ h => h) (Or.inl ⟨by rfl, ?_⟩) hSk ?_
    rotate_left
    · intro w' hSw; (try dsimp only at hSw); go_simp; try with_reducible rfl
    try simp only [List.getElem_toArray, List.getElem_cons_succ, List.getElem_cons_zero, Act.put, List.setIfInBounds_toArray, List.set_cons_zero, List.set_cons_succ]
    refine anyK_take 10 [10] (v := ?_) rfl (by kernel_rfl) (by kernel_rfl) (fun _ _ _ h => h) (Or.inl ⟨by rfl, ?_⟩) hSk ?_
    rotate_left
    · intro w' hSw; (try dsimp only at hSw); go_simp; try with_reducible rfl
    try simp only [List.getElem_toArray, List.getElem_cons_succ, List.getElem_cons_zero, Act.put, List.setIfInBounds_toArray, List.set_cons_zero, List.set_cons_succ]
    refine anyK_take 11 [11] (v := ?_) rfl (by kernel_rfl) (by kernel_rfl) (fun _ _ _ h => h) (Or.inl ⟨by rfl, ?_⟩) hSk ?_
    rotate_left
    · intro w' hSw; (try dsimp only at hSw); go_simp; try with_reducible rfl
    try simp only [List.getElem_toArray, List.getElem_cons_succ, List.getElem_cons_zero, Act.put, List.setIfInBounds_toArray, List.set_cons_zero, List.set_cons_succ]
    refine anyK_take 12 [12] (v := ?_) rfl (by kernel_rfl) (by kernel_rfl) (fun _ _ _ h => h) (Or.inl ⟨by rfl, ?_⟩) hSk ?_
    rotate_left
    · intro w' hSw; (try dsimp only at hSw); go_simp; try with_reducible rfl
    try simp only [List.getElem_toArray, List.getElem_cons_succ, List.getElem_cons_zero, Act.put, List.setIfInBounds_toArray, List.set_cons_zero, List.set_cons_succ]
    refine anyK_only 13 (by kernel_rfl) rfl (fun K hK => ?_)
    (first | ((rw [if_pos (by rfl)]; go_simp; go_at_call 217; refine CLH.out.mono ?_; rintro e w9 ⟨A7, c7, rfl, hr7, hb7⟩; have HR7 := hid (And.intro hr7 hb7); have y0 := (HBX.out.2.drew.below hb7 hhX).cell 0; have y8 := (box10 (HBX.out.1.drew.below hb7 hhz)).2.2.2.2.2.2.2.2.1; have yf := (HBX.out.1.drew.below hb7 hhz).frozen 8; simp only [List.getElem?_toArray, List.getElem?_cons_zero] at y0; clear hr7 hb7; rw [← HA6.out]; go_wp2_with fail)) | go_simp)
    clear hSk
    refine hK.out _ _ (by ((try dsimp only); first | assumption | simp [*, go_sem, World.cell?_alloc_past])) (fun hSk => ?_)
    clear hK K
    try simp only [List.getElem_toArray, List.getElem_cons_succ, List.getElem_cons_zero, Act.put, List.setIfInBounds_toArray, List.set_cons_zero, List.set_cons_succ]
    refine anyK_take 14 [15, 14] (v := ?_) rfl (by kernel_rfl) (by kernel_rfl) (fun _ _ _ h => h) (Or.inl ⟨by rfl, ?_⟩) hSk ?_
    rotate_left
    · intro w' hSw; (try dsimp only at hSw); go_simp; try with_reducible rfl
    try simp only [List.getElem_toArray, List.getElem_cons_succ, List.getElem_cons_zero, Act.put, List.setIfInBounds_toArray, List.set_cons_zero, List.set_cons_succ]
    refine anyK_take 15 [15] (v := ?_) rfl (by kernel_rfl) (by kernel_rfl) (fun _ _ _ h => h) (Or.inl ⟨by rfl, ?_⟩) hSk ?_
    rotate_left
    · intro w' hSw; (try dsimp only at hSw); go_simp; try with_reducible rfl
    try simp only [List.getElem_toArray, List.getElem_cons_succ, List.getElem_cons_zero, Act.put, List.setIfInBounds_toArray, List.set_cons_zero, List.set_cons_succ]
    refine anyK_last (by kernel_rfl) rfl (by kernel_rfl) (fun K hK => ?_)
    go_simp
    refine hK.out _ _ ?_
    clear hK K
    try simp only [List.getElem_toArray, List.getElem_cons_succ, List.getElem_cons_zero, Act.put, List.setIfInBounds_toArray, List.set_cons_zero, List.set_cons_succ]
    refine anyK_done (by kernel_rfl) ?_ _
    obtain ⟨q1, A8, c8, q2⟩ := HF.out _ A7 c7 HR7.out.1 HR7.out.2
    have hrun := hid (run_takeDeferred (P := Tryz.prog) q1)
    have HQ2 := hid q2
    clear q1 q2
    go_wp2
    refine ⟨by simp, .inl ⟨_, _, rfl, hrun.out, ?_⟩⟩
    exact ⟨.tuple #[], by simp [results, Tryz.results174, go_sem], rfl, A8, c8, HQ2.out⟩
  case stop =>
    rintro D cc pre Wz _ _ hh _
    exact hh.elim
end Go.Proofs.YtiabfngiibabcaaGreatDoor
