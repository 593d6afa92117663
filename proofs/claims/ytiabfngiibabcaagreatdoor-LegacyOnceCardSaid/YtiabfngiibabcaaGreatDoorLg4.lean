/-
  Walks of the closures of legacy.Open: a leaf is staged. Printed by genLg4.py.
-/
import Derived.Test.YtiabfngiibabcaaGreatDoorM15
import Derived.Test.YtiabfngiibabcaaGreatDoorLg3
import Derived.Test.YtiabfngiibabcaaGreatDoorM07
set_option linter.unusedVariables false
set_option linter.unusedSimpArgs false
set_option maxHeartbeats 6400000
set_option maxRecDepth 100000
namespace Go.Proofs.YtiabfngiibabcaaGreatDoor
open Go.RowKit

theorem wp_thenF {P : Program} {c : Code} {K : Act → World → Prop} {Q : Exit → Act → World → Prop} {a : Act} {w : World} (h : c.wp P (Exit.then K (fun _ _ _ => False)) a w) : c.wp P (Exit.then K Q) a w :=
  wp_mono h fun e a w hq => by cases e <;> first | exact hq | exact hq.elim
section
variable {W : World} {lx lb sb size cm base c : Nat} {A : Option Addr} {hd : Value} {m : KMapI} {P : List Lf}
theorem legacy_open2 (hX0 : Blk W lx 25 #[.pointer (some ⟨lb, 0, none⟩)]) (h : Blk W lb 49 (logCells sb size (.slice A P.length c) hd cm)) (hm : OwnI Tryz.prog 9 W cm m) (hr : W.ownsRow base 30 2 (.slice A P.length c) P.length (P.flatMap lCells)) (hbase : base ≤ W.heap.size) (hpl : P.length ≤ 1000) (x : Lf) (hok : okL x = true) (hml : m.length ≤ 100000000) (at_ : Int) :
    Calls Tryz.prog 34 #[.int .i64 at_, .string (S (leafB x)), .pointer (some ⟨lx, 0, none⟩)] W fun e w' => e = .returned (.bool true) ∧ ∃ A' c', Blk w' lb 49 (logCells sb size (.slice A' (P ++ [x]).length c') hd cm) ∧ w'.ownsRow base 30 2 (.slice A' (P ++ [x]).length c') (P ++ [x]).length ((P ++ [x]).flatMap lCells) ∧ OwnI Tryz.prog 9 w' cm (noteM m x) ∧
      Touch W w' (fun k => k = cm ∨ k = lb ∨ OwnBy (.slice A P.length c) k) (fun k => k = cm ∨ k = lb ∨ OwnBy (.slice A' (P ++ [x]).length c') k) := by
  have hx : W.cell? ⟨lx, 0, none⟩ = some (.pointer (some ⟨lb, 0, none⟩)) := hX0.cell 0
  have hlx : lx < W.heap.size := hX0.lt
  have hxm : lx ≠ cm := hm.not_blk hX0
  have hxl : lx ≠ lb := hX0.ne_ h (by decide)
  have hnl : lb ≠ cm := hm.not_blk h
  have hrow := hr
  have hrc : ∀ k, OwnBy (.slice A P.length c) k → k ≠ cm ∧ k ≠ lb ∧ k ≠ lx ∧ k < W.heap.size := fun k hk => by
    obtain ⟨cs, hcs⟩ := row_heap hr hk
    refine ⟨hm.not_blk (x := k) (tx := 30) (cs := cs) hcs, Blk.ne_ (w := W) (t := 30) (cs := cs) hcs h (by decide), Blk.ne_ (w := W) (t := 30) (cs := cs) hcs hX0 (by decide), (Array.getElem?_eq_some_iff.1 hcs).1⟩
  obtain ⟨W1, HW1⟩ : ∃ W1, Hid (W1 = Lib.bytesWorld W 5 (S (leafB x))) := ⟨_, rfl⟩
  have b1 : Below W.heap.size W W1 := by rw [HW1.out]; exact conv_below _ _
  have q1 := conv_run W (leafB x)
  have a1 : BytesAt W1 (some ⟨W.heap.size, 0, none⟩) (leafB x) := by rw [HW1.out]; exact conv_at _ _
  rw [← HW1.out] at q1
  have hcap : (leafB x).length ≤ grownCap W (leafB x).length 0 5 := grownCap_ge _ _ _ _
  have hcm : ((grownCap W (leafB x).length 0 5 : Nat) : Int) ≤ 9223372036854775807 := by
    have := grownCap_le_maxLen W (leafB x).length 0 5 (by rw [leafB_len]; unfold maxLen; have := (okL_of hok).2.2; omega)
    unfold maxLen at this
    omega
  obtain ⟨-, -, hcl⟩ := okL_of hok
  have PS := hid (tls_Parse x hok W1 W.heap.size 0 (grownCap W (leafB x).length 0 5) a1 hcap hcm)
  -- behind the leaf's note
  have NT := hid (fun (w2 : World) (hb : Below W1.heap.size W1 w2) => by
    have hb2 : Below W.heap.size W (w2.alloc (.cells #[.int .i64 x.time, .string (S x.cert)] 30)) := (bt b1 hb).alloc (bt b1 hb).size _
    exact And.intro ((hb2.cell (p := ⟨lx, 0, none⟩) hlx).trans hx) (And.intro hb2 (legacy_note (h.below hb2 h.lt) (hm.kept (hb2.block cm hm.lt)) x (by omega) hml)))
  have FIN := hid (show ∀ (w2 w3 : World), Below W.heap.size W (w2.alloc (.cells #[.int .i64 x.time, .string (S x.cert)] 30)) → Below W.heap.size W w2 → Touch (w2.alloc (.cells #[.int .i64 x.time, .string (S x.cert)] 30)) w3 (fun k => k = cm) (fun k => k = cm) → OwnI Tryz.prog 9 w3 cm (noteM m x) →
      w3.cell? ⟨lx, 0, none⟩ = some (.pointer (some ⟨lb, 0, none⟩)) ∧ Blk w3 lb 49 (logCells sb size (.slice A P.length c) hd cm) ∧ Blk w3 w2.heap.size 30 #[.int .i64 x.time, .string (S x.cert)] ∧ ∃ A' c' w4, (Builtin.append_ #[35, 35] 35 #[.slice A P.length c, .slice (some ⟨w3.heap.size, 0, none⟩) 1 1]).run Tryz.prog (w3.drew.alloc (.cells #[.int .i64 x.time, .string (S x.cert)] 30)) = .ok (.slice A' (P.length + 1) c') w4 ∧
        Blk w4 lb 49 (logCells sb size (.slice A P.length c) hd cm) ∧ w4.cell? ⟨lx, 0, none⟩ = some (.pointer (some ⟨lb, 0, none⟩)) ∧ Blk w4 w2.heap.size 30 #[.int .i64 x.time, .string (S x.cert)] ∧
        Blk (w4.setCell ⟨lb, 2, none⟩ (.slice A' (P.length + 1) c')) lb 49 (logCells sb size (.slice A' (P ++ [x]).length c') hd cm) ∧ (w4.setCell ⟨lb, 2, none⟩ (.slice A' (P.length + 1) c')).ownsRow base 30 2 (.slice A' (P ++ [x]).length c') (P ++ [x]).length ((P ++ [x]).flatMap lCells) ∧ OwnI Tryz.prog 9 (w4.setCell ⟨lb, 2, none⟩ (.slice A' (P.length + 1) c')) cm (noteM m x) ∧
        Touch W (w4.setCell ⟨lb, 2, none⟩ (.slice A' (P.length + 1) c')) (fun k => k = cm ∨ k = lb ∨ OwnBy (.slice A P.length c) k) (fun k => k = cm ∨ k = lb ∨ OwnBy (.slice A' (P ++ [x]).length c') k) from by
    intro w2 w3 hbA hb2 ht ho
    have hza : W.heap.size ≤ w2.heap.size := hb2.size
    have hz3 : w2.heap.size + 1 ≤ w3.heap.size := by have := ht.size; simpa using this
    have hcmW := hm.lt
    have hlbW := h.lt
    have blk3 : ∀ k, k < W.heap.size → k ≠ cm → w3.heap[k]? = W.heap[k]? := fun k hk hn => (ht.block k (by simp; omega) hn).trans (hbA.block k hk)
    have hB3 : Blk w3 lb 49 (logCells sb size (.slice A P.length c) hd cm) := (blk3 lb hlbW hnl).trans h
    have hX3 : Blk w3 lx 25 #[.pointer (some ⟨lb, 0, none⟩)] := (blk3 lx hlx hxm).trans hX0
    have hT3 : Blk w3 w2.heap.size 30 #[.int .i64 x.time, .string (S x.cert)] := (ht.block _ (by simp) (by omega)).trans (Blk.new w2 _ _)
    have hr3 := row_keep hr (w' := w3) fun k hk => blk3 k (hrc k hk).2.2.2 (hrc k hk).1
    obtain ⟨A4, c4, w4, hrun4, hr4, ht4⟩ := append_leaf w3.drew x (row_drew hr3 1) (by omega) (show base ≤ w3.heap.size by omega)
    have hz4 : w3.heap.size ≤ w4.heap.size := ht4.size
    have blk4 : ∀ k, k < w3.heap.size → ¬ OwnBy (.slice A P.length c) k → w4.heap[k]? = w3.heap[k]? := fun k hk hn => ht4.block k hk hn
    have hB4 : Blk w4 lb 49 (logCells sb size (.slice A P.length c) hd cm) := (blk4 lb (by omega) fun hk => (hrc lb hk).2.1 rfl).trans hB3
    have hX4 : Blk w4 lx 25 #[.pointer (some ⟨lb, 0, none⟩)] := (blk4 lx (by omega) fun hk => (hrc lx hk).2.2.1 rfl).trans hX3
    have hT4 : Blk w4 w2.heap.size 30 #[.int .i64 x.time, .string (S x.cert)] := (blk4 _ (by omega) fun hk => by have := (hrc _ hk).2.2.2; omega).trans hT3
    have hlen : (P ++ [x]).length = P.length + 1 := by simp
    have hnew : ∀ k, OwnBy (.slice A4 (P.length + 1) c4) k → k ≠ lb ∧ k ≠ cm := fun k hk => by
      rcases ht4.new k hk with h1 | h1
      · exact ⟨(hrc k h1).2.1, (hrc k h1).1⟩
      · have h2 : w3.heap.size ≤ k := h1
        exact ⟨by omega, by omega⟩
    have far : ∀ k, k ≠ lb → (w4.setCell ⟨lb, 2, none⟩ (.slice A4 (P.length + 1) c4)).heap[k]? = w4.heap[k]? := fun k hk => Below.heap_setCell _ _ _ _ hk
    have hq := (Below.refl lb w4).setCell (p := ⟨lb, 2, none⟩) (Nat.le_refl lb) (.slice A4 (P.length + 1) c4)
    refine ⟨hX3.cell 0, hB3, hT3, A4, c4, w4, hrun4, hB4, hX4.cell 0, hT4, ?_, ?_, ?_, ?_⟩
    · rw [hlen]
      exact hB4.set_ 2 (.slice A4 (P.length + 1) c4)
    · exact row_keep hr4 fun k hk => far k (hnew k (by rw [hlen] at hk; exact hk)).1
    · refine ho.kept ((far cm (Ne.symm hnl)).trans (blk4 cm (by omega) fun hk => (hrc cm hk).1 rfl))
    · refine ⟨hq.os.trans (ht4.os.trans (ht.os.trans hbA.os)), hq.tape.trans (ht4.tape.trans (ht.tape.trans hbA.tape)), hq.output.trans (ht4.output.trans (ht.output.trans hbA.output)), by have := hq.size; omega, fun k hk hn => ?_, fun k hk => ?_⟩
      · have n1 : k ≠ cm := fun e => hn (.inl e)
        have n2 : k ≠ lb := fun e => hn (.inr (.inl e))
        exact (far k n2).trans ((blk4 k (by omega) fun hk2 => hn (.inr (.inr hk2))).trans (blk3 k hk n1))
      · rcases hk with hk | hk | hk
        · exact .inl (.inl hk)
        · exact .inl (.inr (.inl hk))
        · rw [hlen] at hk
          rcases ht4.new k hk with h1 | h1
          · exact .inl (.inr (.inr h1))
          · have h2 : w3.heap.size ≤ k := h1
            exact .inr (by omega))
  generalize grownCap W (leafB x).length 0 5 = cp at *
  generalize leafB x = lf at *
  obtain ⟨t, ce⟩ := x
  simp only [leafV] at *
  have HBW := hid b1
  clear a1 hcap hcm h hm b1 hr hrow hrc
  go_enter Tryz.func34, Tryz.ntmps34
  go_wp2_with fail
  refine PS.out.mono ?_
  rintro e w2 ⟨rfl, hb2⟩
  obtain ⟨y0, hbb, nt⟩ := NT.out w2 hb2
  have NT2 := hid nt
  have HBB := hid (And.intro hbb (bt HBW.out hb2))
  clear nt hbb hb2 NT PS
  go_wp2_with fail
  refine NT2.out.mono ?_
  rintro e w3 ⟨rfl, ho3, ht3⟩
  obtain ⟨z0, hB3, hX3, A4, c4, w4, hrun4, hB4, z4, hX4, f1, f2, f3, f4⟩ := FIN.out w2 w3 HBB.out.1 HBB.out.2 ht3 ho3
  have HF := hid (And.intro f1 (And.intro f2 (And.intro f3 f4)))
  obtain ⟨-, -, l2, -, -⟩ := log5 hB3
  obtain ⟨-, -, p2, -, -⟩ := log5 hB4
  have g2 := hB4.frozen 2
  have u0 : w3.cell? ⟨w2.heap.size, 0, none⟩ = some (.int .i64 t) := hX3.cell 0
  have u1 : w3.cell? ⟨w2.heap.size, 1, none⟩ = some (.string (S ce)) := hX3.cell 1
  have v0 : w4.cell? ⟨w2.heap.size, 0, none⟩ = some (.int .i64 t) := hX4.cell 0
  have v1 : w4.cell? ⟨w2.heap.size, 1, none⟩ = some (.string (S ce)) := hX4.cell 1
  have hlX := hX3.lt
  have hlB := hB3.lt
  have hlx3 : lx < w3.heap.size := World.block_lt_of_cell? w3 _ z0
  clear ho3 ht3 NT2 f1 f2 f3 f4 FIN hB3 hX3 hB4 hX4 y0
  go_wp2
  refine wp_thenF ?_
  refine region_anyK (fun w' => w'.cell? ⟨lx, 0, none⟩ = some (.pointer (some ⟨lb, 0, none⟩)) ∧ w'.cell? ⟨lb, 2, none⟩ = some (.slice A P.length c) ∧ w'.cell? ⟨w2.heap.size, 0, none⟩ = some (.int .i64 t) ∧ w'.cell? ⟨w2.heap.size, 1, none⟩ = some (.string (S ce))) 10 (by kernel_rfl) (by ((try dsimp only); first | assumption | simp [*, go_sem, World.cell?_alloc_past])) (fun hSk => ?_)
  refine anyK_take 0 [0] (v := ?_) rfl (by kernel_rfl) (by kernel_rfl) (fun _ _ _ h => h) (Or.inl ⟨by rfl, ?_⟩) hSk ?_
  rotate_left
  · intro w' hSw; (try dsimp only at hSw); go_simp; try with_reducible rfl
  try simp only [List.getElem_toArray, List.getElem_cons_succ, List.getElem_cons_zero, Act.put, List.setIfInBounds_toArray, List.set_cons_zero, List.set_cons_succ]
  refine anyK_take 1 [1] (v := ?_) rfl (by kernel_rfl) (by kernel_rfl) (fun _ _ _ h => h) (Or.inl ⟨by rfl, ?_⟩) hSk ?_
  rotate_left
  · intro w' hSw; (try dsimp only at hSw); go_simp; try with_reducible rfl
  try simp only [List.getElem_toArray, List.getElem_cons_succ, List.getElem_cons_zero, Act.put, List.setIfInBounds_toArray, List.set_cons_zero, List.set_cons_succ]
  refine anyK_take 2 [2] (v := ?_) rfl (by kernel_rfl) (by kernel_rfl) (fun _ _ _ h => h) (Or.inl ⟨by rfl, ?_⟩) hSk ?_
  rotate_left
  · intro w' hSw; (try dsimp only at hSw); go_simp; try with_reducible rfl
  try simp only [List.getElem_toArray, List.getElem_cons_succ, List.getElem_cons_zero, Act.put, List.setIfInBounds_toArray, List.set_cons_zero, List.set_cons_succ]
  refine anyK_take 3 [3] (v := ?_) rfl (by kernel_rfl) (by kernel_rfl) (fun _ _ _ h => h) (Or.inl ⟨by rfl, ?_⟩) hSk ?_
  rotate_left
  · intro w' hSw; (try dsimp only at hSw); go_simp; try with_reducible rfl
  try simp only [List.getElem_toArray, List.getElem_cons_succ, List.getElem_cons_zero, Act.put, List.setIfInBounds_toArray, List.set_cons_zero, List.set_cons_succ]
  refine anyK_take 4 [4] (v := ?_) rfl (by kernel_rfl) (by kernel_rfl) (fun _ _ _ h => h) (Or.inl ⟨by rfl, ?_⟩) hSk ?_
  rotate_left
  · intro w' hSw; (try dsimp only at hSw); go_simp; try with_reducible rfl
  try simp only [List.getElem_toArray, List.getElem_cons_succ, List.getElem_cons_zero, Act.put, List.setIfInBounds_toArray, List.set_cons_zero, List.set_cons_succ]
  refine anyK_take 5 [5] (v := ?_) rfl (by kernel_rfl) (by kernel_rfl) (fun _ _ _ h => h) (Or.inl ⟨by rfl, ?_⟩) hSk ?_
  rotate_left
  · intro w' hSw; (try dsimp only at hSw); go_simp; try with_reducible rfl
  try simp only [List.getElem_toArray, List.getElem_cons_succ, List.getElem_cons_zero, Act.put, List.setIfInBounds_toArray, List.set_cons_zero, List.set_cons_succ]
  refine anyK_only 6 (by kernel_rfl) rfl (fun K hK => ?_)
  (first | ((refine step_append_run rfl _ _ _ (by rfl) _ _ _ _ (by rfl) (by rfl) hrun4 ?_)) | go_simp)
  clear hSk
  refine hK.out _ _ (by ((try dsimp only); first | assumption | simp [*, go_sem, World.cell?_alloc_past])) (fun hSk => ?_)
  clear hK K
  try simp only [List.getElem_toArray, List.getElem_cons_succ, List.getElem_cons_zero, Act.put, List.setIfInBounds_toArray, List.set_cons_zero, List.set_cons_succ]
  refine anyK_only 7 (by kernel_rfl) rfl (fun K hK => ?_)
  (first | ((refine step_append_run rfl _ _ _ (by rfl) _ _ _ _ (by rfl) (by rfl) hrun4 ?_)) | go_simp)
  clear hSk
  refine hK.out _ _ (by ((try dsimp only); first | assumption | simp [*, go_sem, World.cell?_alloc_past])) (fun hSk => ?_)
  clear hK K
  try simp only [List.getElem_toArray, List.getElem_cons_succ, List.getElem_cons_zero, Act.put, List.setIfInBounds_toArray, List.set_cons_zero, List.set_cons_succ]
  refine anyK_take 8 [9, 8] (v := ?_) rfl (by kernel_rfl) (by kernel_rfl) (fun _ _ _ h => h) (Or.inl ⟨by rfl, ?_⟩) hSk ?_
  rotate_left
  · intro w' hSw; (try dsimp only at hSw); go_simp; try with_reducible rfl
  try simp only [List.getElem_toArray, List.getElem_cons_succ, List.getElem_cons_zero, Act.put, List.setIfInBounds_toArray, List.set_cons_zero, List.set_cons_succ]
  refine anyK_take 9 [9] (v := ?_) rfl (by kernel_rfl) (by kernel_rfl) (fun _ _ _ h => h) (Or.inl ⟨by rfl, ?_⟩) hSk ?_
  rotate_left
  · intro w' hSw; (try dsimp only at hSw); go_simp; try with_reducible rfl
  try simp only [List.getElem_toArray, List.getElem_cons_succ, List.getElem_cons_zero, Act.put, List.setIfInBounds_toArray, List.set_cons_zero, List.set_cons_succ]
  refine anyK_last (by kernel_rfl) rfl (by kernel_rfl) (fun K hK => ?_)
  go_simp
  refine hK.out _ _ ?_
  clear hK K
  try simp only [List.getElem_toArray, List.getElem_cons_succ, List.getElem_cons_zero, Act.put, List.setIfInBounds_toArray, List.set_cons_zero, List.set_cons_succ]
  refine anyK_done (by kernel_rfl) ?_ _
  go_wp2
  go_ret
  exact ⟨rfl, A4, c4, HF.out.1, HF.out.2.1, HF.out.2.2.1, HF.out.2.2.2⟩
end
end Go.Proofs.YtiabfngiibabcaaGreatDoor
