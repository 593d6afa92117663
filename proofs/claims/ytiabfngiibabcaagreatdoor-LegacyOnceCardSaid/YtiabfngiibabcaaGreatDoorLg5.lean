/-
  Walks of the closures of legacy.Open: a head is put behind the others. Printed by genLg4.py.
-/
import Derived.Test.YtiabfngiibabcaaGreatDoorLg4
import Derived.Test.YtiabfngiibabcaaGreatDoorCh2
set_option linter.unusedVariables false
set_option linter.unusedSimpArgs false
set_option maxHeartbeats 6400000
set_option maxRecDepth 100000
namespace Go.Proofs.YtiabfngiibabcaaGreatDoor
open Go.RowKit

theorem numK_short {n : Nat} (h : n < 100000000000000000) : (numK n).length ≤ 17 := by
  unfold numK
  rw [padL_len]
  have := nDigits_le 16 n (by simpa using h)
  omega
theorem numK_no32 (n : Nat) : (32 : UInt8) ∉ numK n := fun hm => by
  unfold numK at hm
  rw [padL_dgs] at hm
  have := dgs_digits _ _ _ hm
  simp at this
section
variable {W : World} {lx lb sb size cm base c : Nat} {A : Option Addr} {st : Value} {H : List Hd}
theorem legacy_open3 (hX0 : Blk W lx 25 #[.pointer (some ⟨lb, 0, none⟩)]) (h : Blk W lb 49 (logCells sb size st (.slice A H.length c) cm)) (hr : W.ownsRow base 97 3 (.slice A H.length c) H.length (H.flatMap dCells)) (hbase : base ≤ W.heap.size) (hpl : H.length ≤ 100000) (x : Hd) (hxt : x.time < 100000000000000000) (hxl : x.root.length ≤ 10000) (hL : LibL W) :
    Calls Tryz.prog 35 #[.int .i64 x.size, .string (S (headV x)), .pointer (some ⟨lx, 0, none⟩)] W fun e w' => e = .returned (.bool true) ∧ ∃ A' c', Blk w' lb 49 (logCells sb size st (.slice A' (H ++ [x]).length c') cm) ∧ w'.ownsRow base 97 3 (.slice A' (H ++ [x]).length c') (H ++ [x]).length ((H ++ [x]).flatMap dCells) ∧
      Touch W w' (fun k => k = lb ∨ OwnBy (.slice A H.length c) k) (fun k => k = lb ∨ OwnBy (.slice A' (H ++ [x]).length c') k) := by
  have hxl2 : lx ≠ lb := hX0.ne_ h (by decide)
  have hrc : ∀ k, OwnBy (.slice A H.length c) k → k ≠ lb ∧ k ≠ lx ∧ k < W.heap.size := fun k hk => by
    obtain ⟨cs, hcs⟩ := row_heap hr hk
    refine ⟨Blk.ne_ (w := W) (t := 97) (cs := cs) hcs h (by decide), Blk.ne_ (w := W) (t := 97) (cs := cs) hcs hX0 (by decide), (Array.getElem?_eq_some_iff.1 hcs).1⟩
  have hlb := h.lt
  have hlx := hX0.lt
  have HCUT := hid (lg_Cut (numK x.time) 32 (hexB x.root) (numK_no32 x.time) (by rw [List.length_append, List.length_append, hexB_len]; have := numK_short hxt; simp; omega) W hL)
  have HAT := hid (fun w => lg_Atoi (numK x.time) x.time (atoi_numK hxt) (by have := numK_short hxt; omega) w)
  have HUN := hid (fun w => b64_Unhex w x.root hxl)
  have FIN := hid (show ∀ (w3 : World) (Ar : Option Addr) (nr cr br : Nat), Below W.heap.size W w3 → w3.ownsRow br 5 1 (.slice Ar nr cr) nr (x.root.map B8) →
      w3.cell? ⟨lx, 0, none⟩ = some (.pointer (some ⟨lb, 0, none⟩)) ∧ Blk w3 lb 49 (logCells sb size st (.slice A H.length c) cm) ∧ lx < w3.heap.size ∧ ∃ A' c' w4, (Builtin.append_ #[46, 46] 46 #[.slice A H.length c, .slice (some ⟨w3.heap.size, 0, none⟩) 1 1]).run Tryz.prog (w3.drew.alloc (.cells #[.int .i64 x.size, .int .i64 x.time, .string (S x.root)] 97)) = .ok (.slice A' (H.length + 1) c') w4 ∧
        (convert 85 9 (.slice Ar nr cr)).run Tryz.prog w3 = .ok (.string (S x.root)) w3 ∧ (convert 85 9 (.slice Ar nr cr)).run Tryz.prog w3.drew = .ok (.string (S x.root)) w3.drew ∧ (convert 85 9 (.slice Ar nr cr)).run Tryz.prog (w3.alloc (.cells #[.int .i64 x.size, .int .i64 x.time, .string (S x.root)] 97)).drew = .ok (.string (S x.root)) (w3.alloc (.cells #[.int .i64 x.size, .int .i64 x.time, .string (S x.root)] 97)).drew ∧ (convert 85 9 (.slice Ar nr cr)).run Tryz.prog w4 = .ok (.string (S x.root)) w4 ∧
        Blk w4 lb 49 (logCells sb size st (.slice A H.length c) cm) ∧ w4.cell? ⟨lx, 0, none⟩ = some (.pointer (some ⟨lb, 0, none⟩)) ∧
        Blk (w4.setCell ⟨lb, 3, none⟩ (.slice A' (H.length + 1) c')) lb 49 (logCells sb size st (.slice A' (H ++ [x]).length c') cm) ∧ (w4.setCell ⟨lb, 3, none⟩ (.slice A' (H.length + 1) c')).ownsRow base 97 3 (.slice A' (H ++ [x]).length c') (H ++ [x]).length ((H ++ [x]).flatMap dCells) ∧
        Touch W (w4.setCell ⟨lb, 3, none⟩ (.slice A' (H.length + 1) c')) (fun k => k = lb ∨ OwnBy (.slice A H.length c) k) (fun k => k = lb ∨ OwnBy (.slice A' (H ++ [x]).length c') k) from by
    intro w3 Ar nr cr br hb3 hrr
    have hz3 := hb3.size
    have hB3 := h.below hb3 hlb
    have hX3 := hX0.below hb3 hlx
    have hr3 := row_keep hr (w' := w3) fun k hk => hb3.block k (hrc k hk).2.2
    obtain ⟨A4, c4, w4, hrun4, hr4, ht4⟩ := append_head w3.drew x (row_drew hr3 1) (by omega) (show base ≤ w3.heap.size by omega)
    have hz4 : w3.heap.size ≤ w4.heap.size := ht4.size
    have blk4 : ∀ k, k < w3.heap.size → ¬ OwnBy (.slice A H.length c) k → w4.heap[k]? = w3.heap[k]? := fun k hk hn => ht4.block k hk hn
    have hB4 : Blk w4 lb 49 (logCells sb size st (.slice A H.length c) cm) := (blk4 lb (by omega) fun hk => (hrc lb hk).1 rfl).trans hB3
    have hX4 : Blk w4 lx 25 #[.pointer (some ⟨lb, 0, none⟩)] := (blk4 lx (by omega) fun hk => (hrc lx hk).2.1 rfl).trans hX3
    have hlen : (H ++ [x]).length = H.length + 1 := by simp
    have hnew : ∀ k, OwnBy (.slice A4 (H.length + 1) c4) k → k ≠ lb := fun k hk => by
      rcases ht4.new k hk with h1 | h1
      · exact (hrc k h1).1
      · have h2 : w3.heap.size ≤ k := h1
        omega
    have far : ∀ k, k ≠ lb → (w4.setCell ⟨lb, 3, none⟩ (.slice A4 (H.length + 1) c4)).heap[k]? = w4.heap[k]? := fun k hk => Below.heap_setCell _ _ _ _ hk
    have hq := (Below.refl lb w4).setCell (p := ⟨lb, 3, none⟩) (Nat.le_refl lb) (.slice A4 (H.length + 1) c4)
    have hrr4 : w4.ownsRow br 5 1 (.slice Ar nr cr) nr (x.root.map B8) := row_keep hrr fun k hk => blk4 k (by
        obtain ⟨cs, hcs⟩ := row_heap hrr hk
        exact (Array.getElem?_eq_some_iff.1 hcs).1) fun hk2 => by
      obtain ⟨cs, hcs⟩ := row_heap hrr hk
      obtain ⟨cs2, hcs2⟩ := row_heap hr3 hk2
      rw [hcs] at hcs2
      simp at hcs2
    refine ⟨hX3.cell 0, hB3, hX3.lt, A4, c4, w4, hrun4, conv_rowN hrr, conv_rowN (row_drew hrr 1), conv_rowN (row_drew (row_alloc hrr _) 1), conv_rowN hrr4, hB4, hX4.cell 0, ?_, ?_, ?_⟩
    · rw [hlen]
      exact hB4.set_ 3 (.slice A4 (H.length + 1) c4)
    · exact row_keep hr4 fun k hk => far k (hnew k (by rw [hlen] at hk; exact hk))
    · refine ⟨hq.os.trans (ht4.os.trans hb3.os), hq.tape.trans (ht4.tape.trans hb3.tape), hq.output.trans (ht4.output.trans hb3.output), by have := hq.size; omega, fun k hk hn => ?_, fun k hk => ?_⟩
      · have n2 : k ≠ lb := fun e => hn (.inl e)
        exact (far k n2).trans ((blk4 k (by omega) fun hk2 => hn (.inr hk2)).trans (hb3.block k hk))
      · rcases hk with hk | hk
        · exact .inl (.inl hk)
        · rw [hlen] at hk
          rcases ht4.new k hk with h1 | h1
          · exact .inl (.inr h1)
          · have h2 : w3.heap.size ≤ k := h1
            exact .inr (by omega))
  have hHV : headV x = numK x.time ++ ([32] ++ hexB x.root) := rfl
  rw [hHV]
  generalize hexB x.root = hx at *
  generalize numK x.time = nk at *
  obtain ⟨xs, xt, xr⟩ := x
  dsimp only at *
  clear h hr hrc hX0 hL
  go_enter Tryz.func35, Tryz.ntmps35
  go_wp2_with fail
  refine HCUT.out.mono ?_
  rintro e w1 ⟨rfl, hb1⟩
  have HB1 := hid (show Below W.heap.size W w1 by obtain ⟨n, rfl⟩ := hb1; exact below_drewN (Below.refl _ _) n)
  clear hb1 HCUT
  go_wp2_with fail
  refine (HAT.out _).mono ?_
  rintro e w2 ⟨rfl, hb2⟩
  have HB2 := hid (bt HB1.out hb2)
  clear hb2
  go_wp2_with fail
  refine (HUN.out _).mono ?_
  rintro e w3 ⟨Ar, cr, rfl, hr3, hb3⟩
  obtain ⟨z0, hB3, zl, A4, c4, w4, hrun4, cv1, cv2, cv3, cv4, hB4, z4, f1, f2, f3⟩ := FIN.out w3 Ar _ cr _ (bt HB2.out hb3) hr3
  have HF := hid (And.intro f1 (And.intro f2 f3))
  obtain ⟨-, -, -, l3, -⟩ := log5 hB3
  obtain ⟨-, -, -, p3, -⟩ := log5 hB4
  have g3 := hB4.frozen 3
  have hlB := hB3.lt
  clear f1 f2 f3 FIN hB3 hB4 hr3 hb3
  go_wp2
  refine wp_thenF ?_
  refine region_anyK (fun w' => w'.cell? ⟨lx, 0, none⟩ = some (.pointer (some ⟨lb, 0, none⟩)) ∧ w'.cell? ⟨lb, 3, none⟩ = some (.slice A H.length c) ∧ (convert 85 9 (.slice Ar xr.length cr)).run Tryz.prog w' = .ok (.string (S xr)) w') 14 (by kernel_rfl) (by ((try dsimp only); first | assumption | simp [*, go_sem, World.cell?_alloc_past])) (fun hSk => ?_)
  refine anyK_take 0 [0] (v := ?_) rfl (by kernel_rfl) (by kernel_rfl) (fun _ _ _ h => h) (Or.inl ⟨by rfl, ?_⟩) hSk ?_
  rotate_left
  · intro w' hSw; (try dsimp only at hSw); go_simp; try with_reducible rfl
  try simp only [List.getElem_toArray, List.getElem_cons_succ, List.getElem_cons_zero, Act.put, List.setIfInBounds_toArray, List.set_cons_zero, List.set_cons_succ]
  refine anyK_take 1 [1] (v := ?_) rfl (by kernel_rfl) (by kernel_rfl) (fun _ _ _ h => h) (Or.inl ⟨by rfl, ?_⟩) hSk ?_
  rotate_left
  · intro w' hSw; (try dsimp only at hSw); go_simp; try with_reducible rfl
  try simp only [List.getElem_toArray, List.getElem_cons_succ, List.getElem_cons_zero, Act.put, List.setIfInBounds_toArray, List.set_cons_zero, List.set_cons_succ]
  refine anyK_take 2 [2] (v := ?_) rfl (by kernel_rfl) (by kernel_rfl) (fun _ _ _ h => h) (Or.inl ⟨by rfl, ?_⟩) hSk ?_
  rotate_left
  · intro w' hSw; (try dsimp only at hSw); go_simp; try with_reducible rfl
  try simp only [List.getElem_toArray, List.getElem_cons_succ, List.getElem_cons_zero, Act.put, List.setIfInBounds_toArray, List.set_cons_zero, List.set_cons_succ]
  refine anyK_take 3 [3] (v := ?_) rfl (by kernel_rfl) (by kernel_rfl) (fun _ _ _ h => h) (Or.inl ⟨by rfl, ?_⟩) hSk ?_
  rotate_left
  · intro w' hSw; (try dsimp only at hSw); go_simp; try with_reducible rfl
  try simp only [List.getElem_toArray, List.getElem_cons_succ, List.getElem_cons_zero, Act.put, List.setIfInBounds_toArray, List.set_cons_zero, List.set_cons_succ]
  refine anyK_take 4 [4] (v := ?_) rfl (by kernel_rfl) (by kernel_rfl) (fun _ _ _ h => h) (Or.inl ⟨by rfl, ?_⟩) hSk ?_
  rotate_left
  · intro w' hSw; (try dsimp only at hSw); go_simp; try with_reducible rfl
  try simp only [List.getElem_toArray, List.getElem_cons_succ, List.getElem_cons_zero, Act.put, List.setIfInBounds_toArray, List.set_cons_zero, List.set_cons_succ]
  refine anyK_take 5 [5] (v := ?_) rfl (by kernel_rfl) (by kernel_rfl) (fun _ _ _ h => h) (Or.inl ⟨by rfl, ?_⟩) hSk ?_
  rotate_left
  · intro w' hSw; (try dsimp only at hSw); go_simp; try with_reducible rfl
  try simp only [List.getElem_toArray, List.getElem_cons_succ, List.getElem_cons_zero, Act.put, List.setIfInBounds_toArray, List.set_cons_zero, List.set_cons_succ]
  refine anyK_take 6 [6] (v := ?_) rfl (by kernel_rfl) (by kernel_rfl) (fun _ _ _ h => h) (Or.inl ⟨by rfl, ?_⟩) hSk ?_
  rotate_left
  · intro w' hSw; (try dsimp only at hSw); go_simp; try with_reducible rfl
  try simp only [List.getElem_toArray, List.getElem_cons_succ, List.getElem_cons_zero, Act.put, List.setIfInBounds_toArray, List.set_cons_zero, List.set_cons_succ]
  refine anyK_take 7 [7] (v := ?_) rfl (by kernel_rfl) (by kernel_rfl) (fun _ _ _ h => h) (Or.inl ⟨by rfl, ?_⟩) hSk ?_
  rotate_left
  · intro w' hSw; (try dsimp only at hSw); go_simp; try with_reducible rfl
  try simp only [List.getElem_toArray, List.getElem_cons_succ, List.getElem_cons_zero, Act.put, List.setIfInBounds_toArray, List.set_cons_zero, List.set_cons_succ]
  refine anyK_take 8 [8] (v := ?_) rfl (by kernel_rfl) (by kernel_rfl) (fun _ _ _ h => h) (Or.inl ⟨by rfl, ?_⟩) hSk ?_
  rotate_left
  · intro w' hSw; (try dsimp only at hSw); go_simp; try with_reducible rfl
  try simp only [List.getElem_toArray, List.getElem_cons_succ, List.getElem_cons_zero, Act.put, List.setIfInBounds_toArray, List.set_cons_zero, List.set_cons_succ]
  refine anyK_take 9 [9] (v := ?_) rfl (by kernel_rfl) (by kernel_rfl) (fun _ _ _ h => h) (Or.inl ⟨by rfl, ?_⟩) hSk ?_
  rotate_left
  · intro w' hSw; (try dsimp only at hSw); go_simp; try with_reducible rfl
  try simp only [List.getElem_toArray, List.getElem_cons_succ, List.getElem_cons_zero, Act.put, List.setIfInBounds_toArray, List.set_cons_zero, List.set_cons_succ]
  refine anyK_only 10 (by kernel_rfl) rfl (fun K hK => ?_)
  (first | ((refine step_append_run rfl _ _ _ (by rfl) _ _ _ _ (by rfl) (by rfl) hrun4 ?_)) | go_simp)
  clear hSk
  refine hK.out _ _ (by ((try dsimp only); first | assumption | simp [*, go_sem, World.cell?_alloc_past])) (fun hSk => ?_)
  clear hK K
  try simp only [List.getElem_toArray, List.getElem_cons_succ, List.getElem_cons_zero, Act.put, List.setIfInBounds_toArray, List.set_cons_zero, List.set_cons_succ]
  refine anyK_only 11 (by kernel_rfl) rfl (fun K hK => ?_)
  (first | ((refine step_append_run rfl _ _ _ (by rfl) _ _ _ _ (by rfl) (by rfl) hrun4 ?_)) | go_simp)
  clear hSk
  refine hK.out _ _ (by ((try dsimp only); first | assumption | simp [*, go_sem, World.cell?_alloc_past])) (fun hSk => ?_)
  clear hK K
  try simp only [List.getElem_toArray, List.getElem_cons_succ, List.getElem_cons_zero, Act.put, List.setIfInBounds_toArray, List.set_cons_zero, List.set_cons_succ]
  refine anyK_take 12 [13, 12] (v := ?_) rfl (by kernel_rfl) (by kernel_rfl) (fun _ _ _ h => h) (Or.inl ⟨by rfl, ?_⟩) hSk ?_
  rotate_left
  · intro w' hSw; (try dsimp only at hSw); go_simp; try with_reducible rfl
  try simp only [List.getElem_toArray, List.getElem_cons_succ, List.getElem_cons_zero, Act.put, List.setIfInBounds_toArray, List.set_cons_zero, List.set_cons_succ]
  refine anyK_take 13 [13] (v := ?_) rfl (by kernel_rfl) (by kernel_rfl) (fun _ _ _ h => h) (Or.inl ⟨by rfl, ?_⟩) hSk ?_
  rotate_left
  · intro w' hSw; (try dsimp only at hSw); go_simp; try with_reducible rfl
  try simp only [List.getElem_toArray, List.getElem_cons_succ, List.getElem_cons_zero, Act.put, List.setIfInBounds_toArray, List.set_cons_zero, List.set_cons_succ]
  refine anyK_last (by kernel_rfl) rfl (by kernel_rfl) (fun K hK => ?_)
  go_simp
  refine hK.out _ _ ?_
  clear hK K
  try simp only [List.getElem_toArray, List.getElem_cons_succ, List.getElem_cons_zero, Act.put, List.setIfInBounds_toArray, List.set_cons_zero, List.set_cons_succ]
  refine anyK_done (by kernel_rfl) ?_ _
  go_wp2
  go_ret
  exact ⟨rfl, A4, c4, HF.out.1, HF.out.2.1, HF.out.2.2⟩
end
end Go.Proofs.YtiabfngiibabcaaGreatDoor
