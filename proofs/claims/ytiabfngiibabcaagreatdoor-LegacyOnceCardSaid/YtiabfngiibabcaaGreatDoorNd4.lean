/-
  Walks of package nodes: a tree's Node and Peaks.
-/
import Derived.Test.YtiabfngiibabcaaGreatDoorLg6
import Derived.Test.YtiabfngiibabcaaGreatDoorLgPl
set_option linter.unusedVariables false
set_option linter.unusedSimpArgs false
set_option maxHeartbeats 6400000
set_option maxRecDepth 100000
namespace Go.Proofs.YtiabfngiibabcaaGreatDoor
open Go.RowKit

theorem bitLenAux_le : ∀ (f x : Nat), Lib.bitLenAux f x ≤ f
  | 0, _ => Nat.le_refl _
  | f + 1, x => by
    have := bitLenAux_le f (x / 2)
    unfold Lib.bitLenAux
    split <;> omega
theorem bitLen_le (x : Nat) : Lib.bitLen x ≤ 64 := bitLenAux_le 64 x
theorem nK_len (lv n : Nat) (h : lv ≤ 100000) (hn : n ≤ 100000000000000000) : (nK lv n).length ≤ 50 := by
  unfold nK numK
  have h1 := padL_le lv 2 (by omega)
  have h2 := padL_le n 7 hn
  simp
  omega
section
variable {W : World} {sb : Nat} {m : KM}
theorem tree_Node (hr : RdS W sb m) (lv n : Nat) (hlv : lv ≤ 100000) (hn : n ≤ 100000000000000000) (hL : LibL W) :
    Calls Tryz.prog 15 #[.agg #[.pointer (some ⟨sb, 0, none⟩)], .int .i64 lv, .int .i64 n] W fun e w' => e = .returned (.tuple #[.string (S ((kget m (nK lv n)).getD [])), .bool (kget m (nK lv n)).isSome]) ∧ Below W.heap.size W w' := by
  obtain ⟨W1, HW1⟩ : ∃ W1, Hid (W1 = W.alloc (.cells #[.pointer (some ⟨sb, 0, none⟩)] 45)) := ⟨_, rfl⟩
  have b1 : Below W.heap.size W W1 := by rw [HW1.out]; exact (Below.refl _ _).alloc (Nat.le_refl _) _
  have hX : Blk W1 W.heap.size 45 #[.pointer (some ⟨sb, 0, none⟩)] := by rw [HW1.out]; exact Blk.new _ _ _
  have x0 : W1.cell? ⟨W.heap.size, 0, none⟩ = some (.pointer (some ⟨sb, 0, none⟩)) := hX.cell 0
  have hlt := hX.lt
  have bd : Below W.heap.size W W1.drew := below_drewN b1 1
  have ND := hid (nodes_Node lv n hlv hn W1.drew (hL.below bd))
  have hkl := nK_len lv n hlv hn
  have GT := hid (fun (w2 : World) (hb : Below W1.drew.heap.size W1.drew w2) => And.intro ((hX.drew.below hb hX.drew.lt).cell 0) (And.intro (bt bd hb) ((hr.below (bt bd hb)).get (nK lv n) (by omega))))
  generalize nK lv n = kk at *
  clear b1 hX hr bd hkl
  go_enter Tryz.func15, Tryz.ntmps15
  go_wp2
  rw [← HW1.out]
  go_region_held3 (fun w' => w'.cell? ⟨W.heap.size, 0, none⟩ = some (.pointer (some ⟨sb, 0, none⟩))) (simp [*, go_sem, World.cell?_alloc_past]) (first
    | (go_at_call 51; refine ND.out.mono ?_; rintro e w2 ⟨rfl, hb2⟩; obtain ⟨y0, hb3, gt⟩ := GT.out w2 hb2; have HB3 := hid hb3; have GT2 := hid gt; clear hb2 hb3 gt; have y1 : w2.cell? ⟨W.heap.size, 0, none⟩ = some (.pointer (some ⟨sb, 0, none⟩)) := y0)
    | (go_at_call 49; refine GT2.out.mono ?_; rintro e w3 ⟨rfl, rfl⟩))
  all_goals
    go_wp2
    go_ret2
    exact ⟨rfl, HB3.out⟩
theorem peaks_odd (n j : Nat) (h : n / 2 ^ j % 2 = 1) : peaksP m n (j + 1) = (kget m (nK j (n / 2 ^ j - 1))).getD [] :: peaksP m n j := by rw [peaksP, if_pos h]
theorem peaks_even (n j : Nat) (h : ¬ n / 2 ^ j % 2 = 1) : peaksP m n (j + 1) = peaksP m n j := by rw [peaksP, if_neg h]
theorem peaksP_len (n : Nat) : ∀ k, (peaksP m n k).length ≤ k
  | 0 => Nat.le_refl _
  | k + 1 => by
    have := peaksP_len n k
    unfold peaksP
    split
    · simp; omega
    · omega
theorem tree_Peaks (hr : RdS W sb m) (n : Nat) (hn : n ≤ 100000000) (hL : LibL W) :
    Calls Tryz.prog 110 #[.agg #[.pointer (some ⟨sb, 0, none⟩)], .int .i64 n] W fun e w' => ∃ A c, e = .returned (.slice A (peaksP m n (Lib.bitLen n + 1)).length c) ∧ w'.ownsRow W.heap.size 9 1 (.slice A (peaksP m n (Lib.bitLen n + 1)).length c) (peaksP m n (Lib.bitLen n + 1)).length ((peaksP m n (Lib.bitLen n + 1)).map tV) ∧ Below W.heap.size W w' := by
  obtain ⟨W1, HW1⟩ : ∃ W1, Hid (W1 = W.alloc (.cells #[.pointer (some ⟨sb, 0, none⟩)] 45)) := ⟨_, rfl⟩
  have b1 : Below W.heap.size W W1 := by rw [HW1.out]; exact (Below.refl _ _).alloc (Nat.le_refl _) _
  have hX : Blk W1 W.heap.size 45 #[.pointer (some ⟨sb, 0, none⟩)] := by rw [HW1.out]; exact Blk.new _ _ _
  have hz1 : W1.heap.size = W.heap.size + 1 := by rw [HW1.out]; simp
  have LN := hid (fun w => lg_Len n (by omega) w)
  have hll := bitLen_le n
  have hmx : max (n : Int) 0 = n := by omega
  have hu : IntKind.u64.wrap (n : Int) = n := IntWalk.u64_in _ (by omega)
  have HR := hid hr
  have HL := hid hL
  have HX := hid hX
  have HB1 := hid b1
  have HZ := hid hz1
  clear hr hL hX b1 hz1
  obtain ⟨L, HLL⟩ : ∃ L, Hid (L = Lib.bitLen n) := ⟨_, rfl⟩
  rw [← HLL.out] at LN hll ⊢
  go_enter Tryz.func110, Tryz.ntmps110
  go_wp2_with (go_at_call 168; refine (LN.out _).mono ?_; rintro e w2 ⟨rfl, rfl⟩)
  rw [← HW1.out]
  go_loopw [5, 6, 7, 8] (fun o' lv' _ _ wr => ∃ (k : Nat) (os : List (List UInt8)) (A : Option Addr) (c : Nat), k ≤ L + 1 ∧ os.length + k ≤ L + 1 ∧ o' = .slice A os.length c ∧ lv' = .int .i64 ((k : Int) - 1) ∧ Hid (wr.ownsRow W1.heap.size 9 1 (.slice A os.length c) os.length (os.map tV)) ∧ Hid (Below W1.heap.size W1 wr) ∧ Hid (peaksP m n (L + 1) = os ++ peaksP m n k)) (fun _ lv' _ _ _ => (intOf lv' + 1).toNat)
  case atStart => exact ⟨L + 1, [], none, 0, Nat.le_refl _, by simp, rfl, by go_num, World.ownsRow_nil _ _ _ _, Below.refl _ _, rfl⟩
  case round =>
    obtain ⟨k, os, A, c, hk, hok, rfl, rfl, hown, hb, hpk⟩ := hrel
    cases k with
    | zero =>
      have HF := hid (show peaksP m n (L + 1) = os by rw [hpk.out, peaksP, List.append_nil])
      have HR2 := hid (row_base hown.out (show W.heap.size ≤ W1.heap.size by rw [HZ.out]; omega))
      have HBF := hid (bt HB1.out hb.out)
      clear hown hb hpk
      go_wp2
      go_ret
      rw [HF.out]
      exact ⟨A, c, rfl, HR2.out, HBF.out⟩
    | succ j =>
      have e1 : ((j + 1 : Nat) : Int) - 1 = j := by omega
      rw [e1]
      clear e1
      have hbit := and_one (n / 2 ^ j) (by have := Nat.div_le_self n (2 ^ j); omega)
      have hc1 : ((n / 2 ^ j : Nat) : Int) = (n : Int) / 2 ^ j := by simp
      by_cases hod : n / 2 ^ j % 2 = 1
      · rw [hc1, hod] at hbit
        have hle := Nat.div_le_self n (2 ^ j)
        obtain ⟨qq, hqq⟩ : ∃ qq, qq = n / 2 ^ j := ⟨_, rfl⟩
        have w1 : IntKind.i64.wrap ((n : Int) / 2 ^ j - 1) = ((n / 2 ^ j - 1 : Nat) : Int) := by
          rw [← hc1]
          rw [← hqq] at hle hod ⊢
          rw [IntWalk.i64_in _ (by omega)]; omega
        have bT := bt HB1.out hb.out
        have ND := hid (tree_Node (HR.out.below (below_drewN bT 1)) j (n / 2 ^ j - 1) (by omega) (by rw [← hqq] at hle ⊢; omega) (HL.out.below (below_drewN bT 1)) : Calls Tryz.prog 15 #[.agg #[.pointer (some ⟨sb, 0, none⟩)], .int .i64 j, .int .i64 ((n / 2 ^ j - 1 : Nat) : Int)] wr.drew _)
        have hpo := peaks_odd (m := m) n j hod
        have x0 : wr.cell? ⟨W.heap.size, 0, none⟩ = some (.pointer (some ⟨sb, 0, none⟩)) := (HX.out.below hb.out HX.out.lt).cell 0
        have hlx : W.heap.size < wr.heap.size := World.block_lt_of_cell? wr _ x0
        have AP := hid (fun (w2 : World) (hb2 : Below wr.heap.size wr.drew w2) => by
          have hb3 : Below wr.heap.size wr w2 := below_from (n := 1) hb2
          exact append_tx w2 ((kget m (nK j (n / 2 ^ j - 1))).getD []) (row_under hown.out hb3) (by omega) (Nat.le_trans hb.out.size hb3.size))
        have HO := hid hown.out
        have HBB := hid hb.out
        have HPK := hid (show peaksP m n (L + 1) = (os ++ [(kget m (nK j (n / 2 ^ j - 1))).getD []]) ++ peaksP m n j by rw [hpk.out, hpo]; simp)
        generalize (n / 2 ^ j - 1 : Nat) = nj at *
        generalize (kget m (nK j nj)).getD [] = v at *
        generalize (kget m (nK j nj)).isSome = vb at *
        clear hown hb hpk hpo bT hc1 hle
        go_wp2
        go_region_held3 (fun w' => w'.cell? ⟨W.heap.size, 0, none⟩ = some (.pointer (some ⟨sb, 0, none⟩))) (simp [*, go_sem, World.cell?_alloc_past]) (first
          | (go_at_call 15; refine ND.out.mono ?_; rintro e w2 ⟨rfl, hb2⟩; have HB2 := hid (below_from (n := 1) hb2); have y0 : w2.cell? ⟨W.heap.size, 0, none⟩ = some (.pointer (some ⟨sb, 0, none⟩)) := (HB2.out.cell hlx).trans x0; clear hb2))
        obtain ⟨A3, c3, w3, hrun3, hr3, ht3⟩ := AP.out w2 (below_from (n := 0) (by
          exact ⟨HB2.out.os, HB2.out.tape, HB2.out.output, HB2.out.size, HB2.out.block⟩))
        have HR3 := hid hr3
        have HB3 := hid (show Below W1.heap.size W1 w3 from below_touch HBB.out (wr := wr) ((Touch.of_below HB2.out (OwnBy (.slice A os.length c))).trans ht3) fun k hk => row_base_le HO.out hk)
        clear hr3 ht3
        go_wp2_with (at_builtin; refine wpList_append_run rfl _ _ _ (by rfl) _ _ _ _ (by rfl) (by rfl) hrun3 ?_)
        go_roundw
        case rel => exact ⟨j, os ++ [v], A3, c3, by omega, by simp; omega, by rw [List.length_append]; rfl, by go_num, HR3, HB3, HPK⟩
        case measure => simp [intOf]
      · have hod0 : n / 2 ^ j % 2 = 0 := by omega
        rw [hc1, hod0] at hbit
        have HPK := hid (show peaksP m n (L + 1) = os ++ peaksP m n j by rw [hpk.out, peaks_even (m := m) n j hod])
        have HO := hid hown.out
        have HBB := hid hb.out
        clear hown hb hpk hc1 hod hod0
        go_wp2
        go_roundw
        case rel => exact ⟨j, os, A, c, by omega, by omega, rfl, by go_num, HO, HBB, HPK⟩
        case measure => simp [intOf]
end
end Go.Proofs.YtiabfngiibabcaaGreatDoor
