/-
  Walks of package legacy: time, head, Last (of none), Staged.
-/
import Derived.Test.YtiabfngiibabcaaGreatDoorM15
import Derived.Test.YtiabfngiibabcaaGreatDoorNd2
import Derived.Test.YtiabfngiibabcaaGreatDoorLg2
import Derived.Test.YtiabfngiibabcaaGreatDoorM07
import Derived.Test.YtiabfngiibabcaaGreatDoorLg4
set_option linter.unusedVariables false
set_option linter.unusedSimpArgs false
set_option maxHeartbeats 6400000
set_option maxRecDepth 100000
namespace Go.Proofs.YtiabfngiibabcaaGreatDoor
open Go.RowKit

def hdV (h : Hd) : Value := .agg #[.int .i64 h.size, .int .i64 h.time, .string (S h.root)]
def wrV (y : Wr) : Value := .agg #[.string (S y.key), .string (S y.val), .bool y.gone]
theorem headV_len (h : Hd) (hn : h.time ≤ 1125899906842624) (hr : h.root.length ≤ 100) : (headV h).length ≤ 300 := by
  unfold headV numK
  have := padL_le h.time 7 (by omega)
  have h2 := hexB_len h.root
  simp
  omega
theorem legacy_head (h : Hd) (hs : h.size ≤ 100000000) (ht : h.time ≤ 1125899906842624) (hr : h.root.length ≤ 100) (w : World) (hL : LibL w) :
    Calls Tryz.prog 47 #[hdV h] w fun e w' => e = .returned (wrV ⟨hK h.size, headV h, false⟩) ∧ Below w.heap.size w w' := by
  obtain ⟨n, t, r⟩ := h
  simp only [hdV, wrV] at *
  obtain ⟨W2, HW2⟩ : ∃ W2, Hid (W2 = (w.alloc (.cells #[.int .i64 n, .int .i64 t, .string (S r)] 97)).alloc (.cells #[.string (S []), .string (S []), .bool false] 104)) := ⟨_, hid rfl⟩
  have b2 : Below w.heap.size w W2 := by rw [HW2.out]; exact ((Below.refl _ _).alloc (Nat.le_refl _) _).alloc (by simp) _
  have hX : Blk W2 w.heap.size 97 #[.int .i64 n, .int .i64 t, .string (S r)] := by rw [HW2.out]; exact (Blk.new _ _ _).alloc _
  have hY : Blk W2 (w.heap.size + 1) 104 #[.string (S []), .string (S []), .bool false] := by
    rw [HW2.out]; simpa using Blk.new (w.alloc (.cells #[.int .i64 n, .int .i64 t, .string (S r)] 97)) 104 #[.string (S []), .string (S []), .bool false]
  have HS := hid (show ∀ (w' : World), Below W2.heap.size W2 w' → w'.cell? ⟨w.heap.size, 0, none⟩ = some (.int .i64 n) ∧ w'.cell? ⟨w.heap.size, 1, none⟩ = some (.int .i64 t) ∧ w'.cell? ⟨w.heap.size, 2, none⟩ = some (.string (S r)) from fun w' hb => And.intro ((hX.below hb hX.lt).cell 0) (And.intro ((hX.below hb hX.lt).cell 1) ((hX.below hb hX.lt).cell 2)))
  have HYB := hid (fun (w' : World) (hb : Below W2.heap.size W2 w') => hY.below hb hY.lt)
  have LL := hid (fun (w' : World) (hb : Below W2.heap.size W2 w') => hL.below (bt b2 hb))
  have ND := hid (fun (w' : World) (hb : Below W2.heap.size W2 w') => nodes_Head n (by omega) w' (LL.out w' hb))
  have NN := hid (fun (w' : World) (hb : Below W2.heap.size W2 w') => nodes_Number t (by omega) w' (LL.out w' hb))
  obtain ⟨CW, CC, CD, hcv, CB, CA⟩ : ∃ (CW : World → World) (CC CD : World → Nat), (∀ w' : World, (convert 9 85 (.string (S r))).run Tryz.prog w' = .ok (.slice (some ⟨CD w', 0, none⟩) r.length (CC w')) (CW w')) ∧ Hid (∀ w', Below w'.heap.size w' (CW w')) ∧ Hid (∀ w', BytesAt (CW w') (some ⟨CD w', 0, none⟩) r) := ⟨fun w' => Lib.bytesWorld w' 5 (S r), fun w' => grownCap w' r.length 0 5, fun w' => w'.heap.size, fun w' => conv_run w' r, hid (fun w' => conv_below _ _), hid (fun w' => conv_at _ _)⟩
  have HX := hid (fun (w' w'' : World) (hb : Below (CW w').heap.size (CW w') w'') => b64_Hex w'' (some ⟨CD w', 0, none⟩) r (CC w') ((CA.out w').below hb) (by omega))
  have HB2 := hid b2
  have HD := hid (show headV ⟨n, t, r⟩ = numK t ++ ([32] ++ hexB r) from rfl)
  have hnl : (numK t).length ≤ 21 := by have := padL_le t 7 (by omega); unfold numK; omega
  have hxl : (hexB r).length ≤ 200 := by rw [hexB_len]; omega
  generalize hK n = hk at *
  generalize numK t = nt at *
  generalize hexB r = hx at *
  generalize headV ⟨n, t, r⟩ = hv at *
  have hs1 : nt.length ≤ 9223372036854775806 := by omega
  have hlt1 : ¬ 9223372036854775807 < nt.length + 1 := by omega
  have hlt2 : ¬ 9223372036854775807 < nt.length + 1 + hx.length := by omega
  have ha1 : ∀ w' : World, (Op.stringOp BinOp.add (S nt) { data := #[32] }).run Tryz.prog w' = .ok (.string (S (nt ++ [32]))) w' := fun w' => Go.run_string_add_sum (P := Tryz.prog) (w := w') (S nt) { data := #[32] } (by rw [S_size]; show nt.length + 1 ≤ _; omega)
  have ha3 : ∀ w' : World, (binOp BinOp.add 9 (.string (S nt)) (.string { data := #[32] })).run Tryz.prog w' = .ok (.string (S (nt ++ [32]))) w' := fun w' => by go_simp
  have ha2 : ∀ w' : World, (Op.stringOp BinOp.add (S (nt ++ [32])) (S hx)).run Tryz.prog w' = .ok (.string (S (nt ++ ([32] ++ hx)))) w' := fun w' => by
    go_simp
  have FINH := hid (show ∀ w5 : World, Below W2.heap.size W2 w5 → Blk w5 (w.heap.size + 1) 104 #[.string (S []), .string (S []), .bool false] → ∀ w6, w6 = (((w5.setCell ⟨w.heap.size + 1, 0, none⟩ (.string (S hk))).setCell ⟨w.heap.size + 1, 1, none⟩ (.string (S (nt ++ 32 :: hx)))).setCell ⟨w.heap.size + 1, 2, none⟩ (.bool false)) →
      w6.cell? ⟨w.heap.size + 1, 0, none⟩ = some (.string (S hk)) ∧ w6.cell? ⟨w.heap.size + 1, 1, none⟩ = some (.string (S (nt ++ 32 :: hx))) ∧ w6.cell? ⟨w.heap.size + 1, 2, none⟩ = some (.bool false) ∧ Below w.heap.size w w6 by
    rintro w5 hb hB w6 rfl
    have hF : Blk (((w5.setCell ⟨w.heap.size + 1, 0, none⟩ (.string (S hk))).setCell ⟨w.heap.size + 1, 1, none⟩ (.string (S (nt ++ 32 :: hx)))).setCell ⟨w.heap.size + 1, 2, none⟩ (.bool false)) (w.heap.size + 1) 104 #[.string (S hk), .string (S (nt ++ 32 :: hx)), .bool false] := by
      have := ((hB.set_ 0 (.string (S hk))).set_ 1 (.string (S (nt ++ 32 :: hx)))).set_ 2 (.bool false)
      simpa using this
    refine ⟨hF.cell 0, hF.cell 1, hF.cell 2, ?_⟩
    exact (((bt b2 hb).setCell (p := ⟨w.heap.size + 1, 0, none⟩) (by simp) _).setCell (p := ⟨w.heap.size + 1, 1, none⟩) (by simp) _).setCell (p := ⟨w.heap.size + 1, 2, none⟩) (by simp) _)
  have HDV := hid (show hv = nt ++ 32 :: hx by rw [HD.out]; rfl)
  clear hX hY b2 HD
  go_enter Tryz.func47, Tryz.ntmps47
  go_wp2
  rw [← HW2.out]
  refine region_anyK (fun w' => w'.cell? ⟨w.heap.size, 0, none⟩ = some (.int .i64 n) ∧ w'.cell? ⟨w.heap.size, 1, none⟩ = some (.int .i64 t) ∧ w'.cell? ⟨w.heap.size, 2, none⟩ = some (.string (S r))) 13 (by kernel_rfl) (by ((try dsimp only); first | (refine HS.out _ ?_; (repeat (first | exact Below.refl _ _ | assumption | exact below_drewN (Below.refl _ _) 1 | refine below_drewN ?_ 1 | refine bt ?_ (CB.out _) | refine bt ?_ (by assumption))); done) | simp [*, go_sem])) (fun hSk => ?_)
  refine anyK_take 0 [0] (v := ?_) rfl (by kernel_rfl) (by kernel_rfl) (fun _ _ _ h => h) (Or.inl ⟨by rfl, ?_⟩) hSk ?_
  rotate_left
  · intro w' hSw; (try dsimp only at hSw); go_simp; try with_reducible rfl
  try simp only [List.getElem_toArray, List.getElem_cons_succ, List.getElem_cons_zero, Act.put, List.setIfInBounds_toArray, List.set_cons_zero, List.set_cons_succ]
  refine anyK_take 1 [1] (v := ?_) rfl (by kernel_rfl) (by kernel_rfl) (fun _ _ _ h => h) (Or.inl ⟨by rfl, ?_⟩) hSk ?_
  rotate_left
  · intro w' hSw; (try dsimp only at hSw); go_simp; try with_reducible rfl
  try simp only [List.getElem_toArray, List.getElem_cons_succ, List.getElem_cons_zero, Act.put, List.setIfInBounds_toArray, List.set_cons_zero, List.set_cons_succ]
  refine anyK_take 3 [3] (v := ?_) rfl (by kernel_rfl) (by kernel_rfl) (fun _ _ _ h => h) (Or.inl ⟨by rfl, ?_⟩) hSk ?_
  rotate_left
  · intro w' hSw; (try dsimp only at hSw); go_simp; try with_reducible rfl
  try simp only [List.getElem_toArray, List.getElem_cons_succ, List.getElem_cons_zero, Act.put, List.setIfInBounds_toArray, List.set_cons_zero, List.set_cons_succ]
  refine anyK_take 4 [4] (v := ?_) rfl (by kernel_rfl) (by kernel_rfl) (fun _ _ _ h => h) (Or.inl ⟨by rfl, ?_⟩) hSk ?_
  rotate_left
  · intro w' hSw; (try dsimp only at hSw); go_simp; try with_reducible rfl
  try simp only [List.getElem_toArray, List.getElem_cons_succ, List.getElem_cons_zero, Act.put, List.setIfInBounds_toArray, List.set_cons_zero, List.set_cons_succ]
  refine anyK_take 7 [7] (v := ?_) rfl (by kernel_rfl) (by kernel_rfl) (fun _ _ _ h => h) (Or.inl ⟨by rfl, ?_⟩) hSk ?_
  rotate_left
  · intro w' hSw; (try dsimp only at hSw); go_simp; try with_reducible rfl
  try simp only [List.getElem_toArray, List.getElem_cons_succ, List.getElem_cons_zero, Act.put, List.setIfInBounds_toArray, List.set_cons_zero, List.set_cons_succ]
  refine anyK_take 8 [8] (v := ?_) rfl (by kernel_rfl) (by kernel_rfl) (fun _ _ _ h => h) (Or.inl ⟨by rfl, ?_⟩) hSk ?_
  rotate_left
  · intro w' hSw; (try dsimp only at hSw); go_simp; try with_reducible rfl
  try simp only [List.getElem_toArray, List.getElem_cons_succ, List.getElem_cons_zero, Act.put, List.setIfInBounds_toArray, List.set_cons_zero, List.set_cons_succ]
  refine anyK_two 2 9 (by kernel_rfl) rfl rfl (fun K hK => ?_) (fun K hK => ?_)
  · skip
    (first | (first | (rw [if_pos (by rfl)]; go_simp; go_at_call 112; refine (ND.out _ (by repeat (first | exact Below.refl _ _ | assumption | exact below_drewN (Below.refl _ _) 1 | refine below_drewN ?_ 1 | refine bt ?_ (CB.out _) | refine bt ?_ (by assumption)))).mono ?_; rintro e w3 ⟨rfl, hb3⟩; go_wp2_with fail) | (rw [if_pos (by rfl)]; go_simp; go_at_call 105; refine (NN.out _ (by repeat (first | exact Below.refl _ _ | assumption | exact below_drewN (Below.refl _ _) 1 | refine below_drewN ?_ 1 | refine bt ?_ (CB.out _) | refine bt ?_ (by assumption)))).mono ?_; rintro e w4 ⟨rfl, hb4⟩; go_wp2_with fail) | (rw [if_pos (by rfl)]; go_simp; go_at_call 113; refine (HX.out _ _ (by repeat (first | exact Below.refl _ _ | assumption | exact below_drewN (Below.refl _ _) 1 | refine below_drewN ?_ 1 | refine bt ?_ (CB.out _) | refine bt ?_ (by assumption)))).mono ?_; rintro e w5 ⟨rfl, hb5⟩; have HBY := HYB.out w5 (by repeat (first | exact Below.refl _ _ | assumption | exact below_drewN (Below.refl _ _) 1 | refine below_drewN ?_ 1 | refine bt ?_ (CB.out _) | refine bt ?_ (by assumption))); have f0 := HBY.frozen 0; have f1 := HBY.frozen 1; have f2 := HBY.frozen 2; have r0 := HBY.cell 0; have r1 := HBY.cell 1; have r2 := HBY.cell 2; simp at r0 r1 r2; obtain ⟨s0, s1, s2⟩ := HS.out w5 (by repeat (first | exact Below.refl _ _ | assumption | exact below_drewN (Below.refl _ _) 1 | refine below_drewN ?_ 1 | refine bt ?_ (CB.out _) | refine bt ?_ (by assumption))); have HB5 := hid (show Below W2.heap.size W2 w5 from (by repeat (first | exact Below.refl _ _ | assumption | exact below_drewN (Below.refl _ _) 1 | refine below_drewN ?_ 1 | refine bt ?_ (CB.out _) | refine bt ?_ (by assumption)))); have HBYH := hid HBY; clear HBY; go_wp2_with fail)) | go_simp)
    clear hSk
    refine hK.out _ _ (by ((try dsimp only); first | (refine HS.out _ ?_; (repeat (first | exact Below.refl _ _ | assumption | exact below_drewN (Below.refl _ _) 1 | refine below_drewN ?_ 1 | refine bt ?_ (CB.out _) | refine bt ?_ (by assumption))); done) | simp [*, go_sem])) (fun hSk => ?_)
    clear hK K
    try simp only [List.getElem_toArray, List.getElem_cons_succ, List.getElem_cons_zero, Act.put, List.setIfInBounds_toArray, List.set_cons_zero, List.set_cons_succ]
    refine anyK_two 5 9 (by kernel_rfl) rfl rfl (fun K hK => ?_) (fun K hK => ?_)
    · skip
      (first | (first | (rw [if_pos (by rfl)]; go_simp; go_at_call 112; refine (ND.out _ (by repeat (first | exact Below.refl _ _ | assumption | exact below_drewN (Below.refl _ _) 1 | refine below_drewN ?_ 1 | refine bt ?_ (CB.out _) | refine bt ?_ (by assumption)))).mono ?_; rintro e w3 ⟨rfl, hb3⟩; go_wp2_with fail) | (rw [if_pos (by rfl)]; go_simp; go_at_call 105; refine (NN.out _ (by repeat (first | exact Below.refl _ _ | assumption | exact below_drewN (Below.refl _ _) 1 | refine below_drewN ?_ 1 | refine bt ?_ (CB.out _) | refine bt ?_ (by assumption)))).mono ?_; rintro e w4 ⟨rfl, hb4⟩; go_wp2_with fail) | (rw [if_pos (by rfl)]; go_simp; go_at_call 113; refine (HX.out _ _ (by repeat (first | exact Below.refl _ _ | assumption | exact below_drewN (Below.refl _ _) 1 | refine below_drewN ?_ 1 | refine bt ?_ (CB.out _) | refine bt ?_ (by assumption)))).mono ?_; rintro e w5 ⟨rfl, hb5⟩; have HBY := HYB.out w5 (by repeat (first | exact Below.refl _ _ | assumption | exact below_drewN (Below.refl _ _) 1 | refine below_drewN ?_ 1 | refine bt ?_ (CB.out _) | refine bt ?_ (by assumption))); have f0 := HBY.frozen 0; have f1 := HBY.frozen 1; have f2 := HBY.frozen 2; have r0 := HBY.cell 0; have r1 := HBY.cell 1; have r2 := HBY.cell 2; simp at r0 r1 r2; obtain ⟨s0, s1, s2⟩ := HS.out w5 (by repeat (first | exact Below.refl _ _ | assumption | exact below_drewN (Below.refl _ _) 1 | refine below_drewN ?_ 1 | refine bt ?_ (CB.out _) | refine bt ?_ (by assumption))); have HB5 := hid (show Below W2.heap.size W2 w5 from (by repeat (first | exact Below.refl _ _ | assumption | exact below_drewN (Below.refl _ _) 1 | refine below_drewN ?_ 1 | refine bt ?_ (CB.out _) | refine bt ?_ (by assumption)))); have HBYH := hid HBY; clear HBY; go_wp2_with fail)) | go_simp)
      clear hSk
      refine hK.out _ _ (by ((try dsimp only); first | (refine HS.out _ ?_; (repeat (first | exact Below.refl _ _ | assumption | exact below_drewN (Below.refl _ _) 1 | refine below_drewN ?_ 1 | refine bt ?_ (CB.out _) | refine bt ?_ (by assumption))); done) | simp [*, go_sem])) (fun hSk => ?_)
      clear hK K
      try simp only [List.getElem_toArray, List.getElem_cons_succ, List.getElem_cons_zero, Act.put, List.setIfInBounds_toArray, List.set_cons_zero, List.set_cons_succ]
      refine anyK_take 6 [6] (v := ?_) rfl (by kernel_rfl) (by kernel_rfl) (fun _ _ _ h => h) (Or.inl ⟨by rfl, ?_⟩) hSk ?_
      rotate_left
      · intro w' hSw; (try dsimp only at hSw); go_simp; try with_reducible rfl
      try simp only [List.getElem_toArray, List.getElem_cons_succ, List.getElem_cons_zero, Act.put, List.setIfInBounds_toArray, List.set_cons_zero, List.set_cons_succ]
      refine anyK_only 9 (by kernel_rfl) rfl (fun K hK => ?_)
      (first | (first | (rw [if_pos (by rfl)]; go_simp; go_at_call 112; refine (ND.out _ (by repeat (first | exact Below.refl _ _ | assumption | exact below_drewN (Below.refl _ _) 1 | refine below_drewN ?_ 1 | refine bt ?_ (CB.out _) | refine bt ?_ (by assumption)))).mono ?_; rintro e w3 ⟨rfl, hb3⟩; go_wp2_with fail) | (rw [if_pos (by rfl)]; go_simp; go_at_call 105; refine (NN.out _ (by repeat (first | exact Below.refl _ _ | assumption | exact below_drewN (Below.refl _ _) 1 | refine below_drewN ?_ 1 | refine bt ?_ (CB.out _) | refine bt ?_ (by assumption)))).mono ?_; rintro e w4 ⟨rfl, hb4⟩; go_wp2_with fail) | (rw [if_pos (by rfl)]; go_simp; go_at_call 113; refine (HX.out _ _ (by repeat (first | exact Below.refl _ _ | assumption | exact below_drewN (Below.refl _ _) 1 | refine below_drewN ?_ 1 | refine bt ?_ (CB.out _) | refine bt ?_ (by assumption)))).mono ?_; rintro e w5 ⟨rfl, hb5⟩; have HBY := HYB.out w5 (by repeat (first | exact Below.refl _ _ | assumption | exact below_drewN (Below.refl _ _) 1 | refine below_drewN ?_ 1 | refine bt ?_ (CB.out _) | refine bt ?_ (by assumption))); have f0 := HBY.frozen 0; have f1 := HBY.frozen 1; have f2 := HBY.frozen 2; have r0 := HBY.cell 0; have r1 := HBY.cell 1; have r2 := HBY.cell 2; simp at r0 r1 r2; obtain ⟨s0, s1, s2⟩ := HS.out w5 (by repeat (first | exact Below.refl _ _ | assumption | exact below_drewN (Below.refl _ _) 1 | refine below_drewN ?_ 1 | refine bt ?_ (CB.out _) | refine bt ?_ (by assumption))); have HB5 := hid (show Below W2.heap.size W2 w5 from (by repeat (first | exact Below.refl _ _ | assumption | exact below_drewN (Below.refl _ _) 1 | refine below_drewN ?_ 1 | refine bt ?_ (CB.out _) | refine bt ?_ (by assumption)))); have HBYH := hid HBY; clear HBY; go_wp2_with fail)) | go_simp)
      clear hSk
      refine hK.out _ _ (by ((try dsimp only); first | (refine HS.out _ ?_; (repeat (first | exact Below.refl _ _ | assumption | exact below_drewN (Below.refl _ _) 1 | refine below_drewN ?_ 1 | refine bt ?_ (CB.out _) | refine bt ?_ (by assumption))); done) | simp [*, go_sem])) (fun hSk => ?_)
      clear hK K
      try simp only [List.getElem_toArray, List.getElem_cons_succ, List.getElem_cons_zero, Act.put, List.setIfInBounds_toArray, List.set_cons_zero, List.set_cons_succ]
      refine anyK_only 10 (by kernel_rfl) rfl (fun K hK => ?_)
      (first | (first | (rw [if_pos (by rfl)]; go_simp; go_at_call 112; refine (ND.out _ (by repeat (first | exact Below.refl _ _ | assumption | exact below_drewN (Below.refl _ _) 1 | refine below_drewN ?_ 1 | refine bt ?_ (CB.out _) | refine bt ?_ (by assumption)))).mono ?_; rintro e w3 ⟨rfl, hb3⟩; go_wp2_with fail) | (rw [if_pos (by rfl)]; go_simp; go_at_call 105; refine (NN.out _ (by repeat (first | exact Below.refl _ _ | assumption | exact below_drewN (Below.refl _ _) 1 | refine below_drewN ?_ 1 | refine bt ?_ (CB.out _) | refine bt ?_ (by assumption)))).mono ?_; rintro e w4 ⟨rfl, hb4⟩; go_wp2_with fail) | (rw [if_pos (by rfl)]; go_simp; go_at_call 113; refine (HX.out _ _ (by repeat (first | exact Below.refl _ _ | assumption | exact below_drewN (Below.refl _ _) 1 | refine below_drewN ?_ 1 | refine bt ?_ (CB.out _) | refine bt ?_ (by assumption)))).mono ?_; rintro e w5 ⟨rfl, hb5⟩; have HBY := HYB.out w5 (by repeat (first | exact Below.refl _ _ | assumption | exact below_drewN (Below.refl _ _) 1 | refine below_drewN ?_ 1 | refine bt ?_ (CB.out _) | refine bt ?_ (by assumption))); have f0 := HBY.frozen 0; have f1 := HBY.frozen 1; have f2 := HBY.frozen 2; have r0 := HBY.cell 0; have r1 := HBY.cell 1; have r2 := HBY.cell 2; simp at r0 r1 r2; obtain ⟨s0, s1, s2⟩ := HS.out w5 (by repeat (first | exact Below.refl _ _ | assumption | exact below_drewN (Below.refl _ _) 1 | refine below_drewN ?_ 1 | refine bt ?_ (CB.out _) | refine bt ?_ (by assumption))); have HB5 := hid (show Below W2.heap.size W2 w5 from (by repeat (first | exact Below.refl _ _ | assumption | exact below_drewN (Below.refl _ _) 1 | refine below_drewN ?_ 1 | refine bt ?_ (CB.out _) | refine bt ?_ (by assumption)))); have HBYH := hid HBY; clear HBY; go_wp2_with fail)) | go_simp)
      clear hSk
      refine hK.out _ _ (by ((try dsimp only); first | (refine HS.out _ ?_; (repeat (first | exact Below.refl _ _ | assumption | exact below_drewN (Below.refl _ _) 1 | refine below_drewN ?_ 1 | refine bt ?_ (CB.out _) | refine bt ?_ (by assumption))); done) | simp [*, go_sem])) (fun hSk => ?_)
      clear hK K
      try simp only [List.getElem_toArray, List.getElem_cons_succ, List.getElem_cons_zero, Act.put, List.setIfInBounds_toArray, List.set_cons_zero, List.set_cons_succ]
      refine anyK_take 11 [11] (v := ?_) rfl (by kernel_rfl) (by kernel_rfl) (fun _ _ _ h => h) (Or.inl ⟨by rfl, ?_⟩) hSk ?_
      rotate_left
      · intro w' hSw; (try dsimp only at hSw); go_simp; try with_reducible rfl
      try simp only [List.getElem_toArray, List.getElem_cons_succ, List.getElem_cons_zero, Act.put, List.setIfInBounds_toArray, List.set_cons_zero, List.set_cons_succ]
      refine anyK_take 12 [12] (v := ?_) rfl (by kernel_rfl) (by kernel_rfl) (fun _ _ _ h => h) (Or.inl ⟨by rfl, ?_⟩) hSk ?_
      rotate_left
      · intro w' hSw; (try dsimp only at hSw); go_simp; try with_reducible rfl
      try simp only [List.getElem_toArray, List.getElem_cons_succ, List.getElem_cons_zero, Act.put, List.setIfInBounds_toArray, List.set_cons_zero, List.set_cons_succ]
      refine anyK_last (by kernel_rfl) rfl (by kernel_rfl) (fun K hK => ?_)
      go_simp
      refine hK.out _ _ ?_
      clear hK K
      try simp only [List.getElem_toArray, List.getElem_cons_succ, List.getElem_cons_zero, Act.put, List.setIfInBounds_toArray, List.set_cons_zero, List.set_cons_succ]
      refine anyK_done (by kernel_rfl) ?_ _
      go_wp2
      obtain ⟨g0, g1, g2, gb⟩ := FINH.out w5 HB5.out HBYH.out _ rfl
      exact bodyPost_ret (v := .agg #[.string (S hk), .string (S (nt ++ 32 :: hx)), .bool false]) (by simp [results, Tryz.results47, go_sem, g0, g1, g2]) rfl ⟨by rw [HDV.out], gb⟩
    · skip
      (first | (first | (rw [if_pos (by rfl)]; go_simp; go_at_call 112; refine (ND.out _ (by repeat (first | exact Below.refl _ _ | assumption | exact below_drewN (Below.refl _ _) 1 | refine below_drewN ?_ 1 | refine bt ?_ (CB.out _) | refine bt ?_ (by assumption)))).mono ?_; rintro e w3 ⟨rfl, hb3⟩; go_wp2_with fail) | (rw [if_pos (by rfl)]; go_simp; go_at_call 105; refine (NN.out _ (by repeat (first | exact Below.refl _ _ | assumption | exact below_drewN (Below.refl _ _) 1 | refine below_drewN ?_ 1 | refine bt ?_ (CB.out _) | refine bt ?_ (by assumption)))).mono ?_; rintro e w4 ⟨rfl, hb4⟩; go_wp2_with fail) | (rw [if_pos (by rfl)]; go_simp; go_at_call 113; refine (HX.out _ _ (by repeat (first | exact Below.refl _ _ | assumption | exact below_drewN (Below.refl _ _) 1 | refine below_drewN ?_ 1 | refine bt ?_ (CB.out _) | refine bt ?_ (by assumption)))).mono ?_; rintro e w5 ⟨rfl, hb5⟩; have HBY := HYB.out w5 (by repeat (first | exact Below.refl _ _ | assumption | exact below_drewN (Below.refl _ _) 1 | refine below_drewN ?_ 1 | refine bt ?_ (CB.out _) | refine bt ?_ (by assumption))); have f0 := HBY.frozen 0; have f1 := HBY.frozen 1; have f2 := HBY.frozen 2; have r0 := HBY.cell 0; have r1 := HBY.cell 1; have r2 := HBY.cell 2; simp at r0 r1 r2; obtain ⟨s0, s1, s2⟩ := HS.out w5 (by repeat (first | exact Below.refl _ _ | assumption | exact below_drewN (Below.refl _ _) 1 | refine below_drewN ?_ 1 | refine bt ?_ (CB.out _) | refine bt ?_ (by assumption))); have HB5 := hid (show Below W2.heap.size W2 w5 from (by repeat (first | exact Below.refl _ _ | assumption | exact below_drewN (Below.refl _ _) 1 | refine below_drewN ?_ 1 | refine bt ?_ (CB.out _) | refine bt ?_ (by assumption)))); have HBYH := hid HBY; clear HBY; go_wp2_with fail)) | go_simp)
      clear hSk
      refine hK.out _ _ (by ((try dsimp only); first | (refine HS.out _ ?_; (repeat (first | exact Below.refl _ _ | assumption | exact below_drewN (Below.refl _ _) 1 | refine below_drewN ?_ 1 | refine bt ?_ (CB.out _) | refine bt ?_ (by assumption))); done) | simp [*, go_sem])) (fun hSk => ?_)
      clear hK K
      try simp only [List.getElem_toArray, List.getElem_cons_succ, List.getElem_cons_zero, Act.put, List.setIfInBounds_toArray, List.set_cons_zero, List.set_cons_succ]
      refine anyK_only 5 (by kernel_rfl) rfl (fun K hK => ?_)
      (first | (first | (rw [if_pos (by rfl)]; go_simp; go_at_call 112; refine (ND.out _ (by repeat (first | exact Below.refl _ _ | assumption | exact below_drewN (Below.refl _ _) 1 | refine below_drewN ?_ 1 | refine bt ?_ (CB.out _) | refine bt ?_ (by assumption)))).mono ?_; rintro e w3 ⟨rfl, hb3⟩; go_wp2_with fail) | (rw [if_pos (by rfl)]; go_simp; go_at_call 105; refine (NN.out _ (by repeat (first | exact Below.refl _ _ | assumption | exact below_drewN (Below.refl _ _) 1 | refine below_drewN ?_ 1 | refine bt ?_ (CB.out _) | refine bt ?_ (by assumption)))).mono ?_; rintro e w4 ⟨rfl, hb4⟩; go_wp2_with fail) | (rw [if_pos (by rfl)]; go_simp; go_at_call 113; refine (HX.out _ _ (by repeat (first | exact Below.refl _ _ | assumption | exact below_drewN (Below.refl _ _) 1 | refine below_drewN ?_ 1 | refine bt ?_ (CB.out _) | refine bt ?_ (by assumption)))).mono ?_; rintro e w5 ⟨rfl, hb5⟩; have HBY := HYB.out w5 (by repeat (first | exact Below.refl _ _ | assumption | exact below_drewN (Below.refl _ _) 1 | refine below_drewN ?_ 1 | refine bt ?_ (CB.out _) | refine bt ?_ (by assumption))); have f0 := HBY.frozen 0; have f1 := HBY.frozen 1; have f2 := HBY.frozen 2; have r0 := HBY.cell 0; have r1 := HBY.cell 1; have r2 := HBY.cell 2; simp at r0 r1 r2; obtain ⟨s0, s1, s2⟩ := HS.out w5 (by repeat (first | exact Below.refl _ _ | assumption | exact below_drewN (Below.refl _ _) 1 | refine below_drewN ?_ 1 | refine bt ?_ (CB.out _) | refine bt ?_ (by assumption))); have HB5 := hid (show Below W2.heap.size W2 w5 from (by repeat (first | exact Below.refl _ _ | assumption | exact below_drewN (Below.refl _ _) 1 | refine below_drewN ?_ 1 | refine bt ?_ (CB.out _) | refine bt ?_ (by assumption)))); have HBYH := hid HBY; clear HBY; go_wp2_with fail)) | go_simp)
      clear hSk
      refine hK.out _ _ (by ((try dsimp only); first | (refine HS.out _ ?_; (repeat (first | exact Below.refl _ _ | assumption | exact below_drewN (Below.refl _ _) 1 | refine below_drewN ?_ 1 | refine bt ?_ (CB.out _) | refine bt ?_ (by assumption))); done) | simp [*, go_sem])) (fun hSk => ?_)
      clear hK K
      try simp only [List.getElem_toArray, List.getElem_cons_succ, List.getElem_cons_zero, Act.put, List.setIfInBounds_toArray, List.set_cons_zero, List.set_cons_succ]
      refine anyK_take 6 [6] (v := ?_) rfl (by kernel_rfl) (by kernel_rfl) (fun _ _ _ h => h) (Or.inl ⟨by rfl, ?_⟩) hSk ?_
      rotate_left
      · intro w' hSw; (try dsimp only at hSw); go_simp; try with_reducible rfl
      try simp only [List.getElem_toArray, List.getElem_cons_succ, List.getElem_cons_zero, Act.put, List.setIfInBounds_toArray, List.set_cons_zero, List.set_cons_succ]
      refine anyK_only 10 (by kernel_rfl) rfl (fun K hK => ?_)
      (first | (first | (rw [if_pos (by rfl)]; go_simp; go_at_call 112; refine (ND.out _ (by repeat (first | exact Below.refl _ _ | assumption | exact below_drewN (Below.refl _ _) 1 | refine below_drewN ?_ 1 | refine bt ?_ (CB.out _) | refine bt ?_ (by assumption)))).mono ?_; rintro e w3 ⟨rfl, hb3⟩; go_wp2_with fail) | (rw [if_pos (by rfl)]; go_simp; go_at_call 105; refine (NN.out _ (by repeat (first | exact Below.refl _ _ | assumption | exact below_drewN (Below.refl _ _) 1 | refine below_drewN ?_ 1 | refine bt ?_ (CB.out _) | refine bt ?_ (by assumption)))).mono ?_; rintro e w4 ⟨rfl, hb4⟩; go_wp2_with fail) | (rw [if_pos (by rfl)]; go_simp; go_at_call 113; refine (HX.out _ _ (by repeat (first | exact Below.refl _ _ | assumption | exact below_drewN (Below.refl _ _) 1 | refine below_drewN ?_ 1 | refine bt ?_ (CB.out _) | refine bt ?_ (by assumption)))).mono ?_; rintro e w5 ⟨rfl, hb5⟩; have HBY := HYB.out w5 (by repeat (first | exact Below.refl _ _ | assumption | exact below_drewN (Below.refl _ _) 1 | refine below_drewN ?_ 1 | refine bt ?_ (CB.out _) | refine bt ?_ (by assumption))); have f0 := HBY.frozen 0; have f1 := HBY.frozen 1; have f2 := HBY.frozen 2; have r0 := HBY.cell 0; have r1 := HBY.cell 1; have r2 := HBY.cell 2; simp at r0 r1 r2; obtain ⟨s0, s1, s2⟩ := HS.out w5 (by repeat (first | exact Below.refl _ _ | assumption | exact below_drewN (Below.refl _ _) 1 | refine below_drewN ?_ 1 | refine bt ?_ (CB.out _) | refine bt ?_ (by assumption))); have HB5 := hid (show Below W2.heap.size W2 w5 from (by repeat (first | exact Below.refl _ _ | assumption | exact below_drewN (Below.refl _ _) 1 | refine below_drewN ?_ 1 | refine bt ?_ (CB.out _) | refine bt ?_ (by assumption)))); have HBYH := hid HBY; clear HBY; go_wp2_with fail)) | go_simp)
      clear hSk
      refine hK.out _ _ (by ((try dsimp only); first | (refine HS.out _ ?_; (repeat (first | exact Below.refl _ _ | assumption | exact below_drewN (Below.refl _ _) 1 | refine below_drewN ?_ 1 | refine bt ?_ (CB.out _) | refine bt ?_ (by assumption))); done) | simp [*, go_sem])) (fun hSk => ?_)
      clear hK K
      try simp only [List.getElem_toArray, List.getElem_cons_succ, List.getElem_cons_zero, Act.put, List.setIfInBounds_toArray, List.set_cons_zero, List.set_cons_succ]
      refine anyK_take 11 [11] (v := ?_) rfl (by kernel_rfl) (by kernel_rfl) (fun _ _ _ h => h) (Or.inl ⟨by rfl, ?_⟩) hSk ?_
      rotate_left
      · intro w' hSw; (try dsimp only at hSw); go_simp; try with_reducible rfl
      try simp only [List.getElem_toArray, List.getElem_cons_succ, List.getElem_cons_zero, Act.put, List.setIfInBounds_toArray, List.set_cons_zero, List.set_cons_succ]
      refine anyK_take 12 [12] (v := ?_) rfl (by kernel_rfl) (by kernel_rfl) (fun _ _ _ h => h) (Or.inl ⟨by rfl, ?_⟩) hSk ?_
      rotate_left
      · intro w' hSw; (try dsimp only at hSw); go_simp; try with_reducible rfl
      try simp only [List.getElem_toArray, List.getElem_cons_succ, List.getElem_cons_zero, Act.put, List.setIfInBounds_toArray, List.set_cons_zero, List.set_cons_succ]
      refine anyK_last (by kernel_rfl) rfl (by kernel_rfl) (fun K hK => ?_)
      go_simp
      refine hK.out _ _ ?_
      clear hK K
      try simp only [List.getElem_toArray, List.getElem_cons_succ, List.getElem_cons_zero, Act.put, List.setIfInBounds_toArray, List.set_cons_zero, List.set_cons_succ]
      refine anyK_done (by kernel_rfl) ?_ _
      go_wp2
      obtain ⟨g0, g1, g2, gb⟩ := FINH.out w5 HB5.out HBYH.out _ rfl
      exact bodyPost_ret (v := .agg #[.string (S hk), .string (S (nt ++ 32 :: hx)), .bool false]) (by simp [results, Tryz.results47, go_sem, g0, g1, g2]) rfl ⟨by rw [HDV.out], gb⟩
  · skip
    (first | (first | (rw [if_pos (by rfl)]; go_simp; go_at_call 112; refine (ND.out _ (by repeat (first | exact Below.refl _ _ | assumption | exact below_drewN (Below.refl _ _) 1 | refine below_drewN ?_ 1 | refine bt ?_ (CB.out _) | refine bt ?_ (by assumption)))).mono ?_; rintro e w3 ⟨rfl, hb3⟩; go_wp2_with fail) | (rw [if_pos (by rfl)]; go_simp; go_at_call 105; refine (NN.out _ (by repeat (first | exact Below.refl _ _ | assumption | exact below_drewN (Below.refl _ _) 1 | refine below_drewN ?_ 1 | refine bt ?_ (CB.out _) | refine bt ?_ (by assumption)))).mono ?_; rintro e w4 ⟨rfl, hb4⟩; go_wp2_with fail) | (rw [if_pos (by rfl)]; go_simp; go_at_call 113; refine (HX.out _ _ (by repeat (first | exact Below.refl _ _ | assumption | exact below_drewN (Below.refl _ _) 1 | refine below_drewN ?_ 1 | refine bt ?_ (CB.out _) | refine bt ?_ (by assumption)))).mono ?_; rintro e w5 ⟨rfl, hb5⟩; have HBY := HYB.out w5 (by repeat (first | exact Below.refl _ _ | assumption | exact below_drewN (Below.refl _ _) 1 | refine below_drewN ?_ 1 | refine bt ?_ (CB.out _) | refine bt ?_ (by assumption))); have f0 := HBY.frozen 0; have f1 := HBY.frozen 1; have f2 := HBY.frozen 2; have r0 := HBY.cell 0; have r1 := HBY.cell 1; have r2 := HBY.cell 2; simp at r0 r1 r2; obtain ⟨s0, s1, s2⟩ := HS.out w5 (by repeat (first | exact Below.refl _ _ | assumption | exact below_drewN (Below.refl _ _) 1 | refine below_drewN ?_ 1 | refine bt ?_ (CB.out _) | refine bt ?_ (by assumption))); have HB5 := hid (show Below W2.heap.size W2 w5 from (by repeat (first | exact Below.refl _ _ | assumption | exact below_drewN (Below.refl _ _) 1 | refine below_drewN ?_ 1 | refine bt ?_ (CB.out _) | refine bt ?_ (by assumption)))); have HBYH := hid HBY; clear HBY; go_wp2_with fail)) | go_simp)
    clear hSk
    refine hK.out _ _ (by ((try dsimp only); first | (refine HS.out _ ?_; (repeat (first | exact Below.refl _ _ | assumption | exact below_drewN (Below.refl _ _) 1 | refine below_drewN ?_ 1 | refine bt ?_ (CB.out _) | refine bt ?_ (by assumption))); done) | simp [*, go_sem])) (fun hSk => ?_)
    clear hK K
    try simp only [List.getElem_toArray, List.getElem_cons_succ, List.getElem_cons_zero, Act.put, List.setIfInBounds_toArray, List.set_cons_zero, List.set_cons_succ]
    refine anyK_only 2 (by kernel_rfl) rfl (fun K hK => ?_)
    (first | (first | (rw [if_pos (by rfl)]; go_simp; go_at_call 112; refine (ND.out _ (by repeat (first | exact Below.refl _ _ | assumption | exact below_drewN (Below.refl _ _) 1 | refine below_drewN ?_ 1 | refine bt ?_ (CB.out _) | refine bt ?_ (by assumption)))).mono ?_; rintro e w3 ⟨rfl, hb3⟩; go_wp2_with fail) | (rw [if_pos (by rfl)]; go_simp; go_at_call 105; refine (NN.out _ (by repeat (first | exact Below.refl _ _ | assumption | exact below_drewN (Below.refl _ _) 1 | refine below_drewN ?_ 1 | refine bt ?_ (CB.out _) | refine bt ?_ (by assumption)))).mono ?_; rintro e w4 ⟨rfl, hb4⟩; go_wp2_with fail) | (rw [if_pos (by rfl)]; go_simp; go_at_call 113; refine (HX.out _ _ (by repeat (first | exact Below.refl _ _ | assumption | exact below_drewN (Below.refl _ _) 1 | refine below_drewN ?_ 1 | refine bt ?_ (CB.out _) | refine bt ?_ (by assumption)))).mono ?_; rintro e w5 ⟨rfl, hb5⟩; have HBY := HYB.out w5 (by repeat (first | exact Below.refl _ _ | assumption | exact below_drewN (Below.refl _ _) 1 | refine below_drewN ?_ 1 | refine bt ?_ (CB.out _) | refine bt ?_ (by assumption))); have f0 := HBY.frozen 0; have f1 := HBY.frozen 1; have f2 := HBY.frozen 2; have r0 := HBY.cell 0; have r1 := HBY.cell 1; have r2 := HBY.cell 2; simp at r0 r1 r2; obtain ⟨s0, s1, s2⟩ := HS.out w5 (by repeat (first | exact Below.refl _ _ | assumption | exact below_drewN (Below.refl _ _) 1 | refine below_drewN ?_ 1 | refine bt ?_ (CB.out _) | refine bt ?_ (by assumption))); have HB5 := hid (show Below W2.heap.size W2 w5 from (by repeat (first | exact Below.refl _ _ | assumption | exact below_drewN (Below.refl _ _) 1 | refine below_drewN ?_ 1 | refine bt ?_ (CB.out _) | refine bt ?_ (by assumption)))); have HBYH := hid HBY; clear HBY; go_wp2_with fail)) | go_simp)
    clear hSk
    refine hK.out _ _ (by ((try dsimp only); first | (refine HS.out _ ?_; (repeat (first | exact Below.refl _ _ | assumption | exact below_drewN (Below.refl _ _) 1 | refine below_drewN ?_ 1 | refine bt ?_ (CB.out _) | refine bt ?_ (by assumption))); done) | simp [*, go_sem])) (fun hSk => ?_)
    clear hK K
    try simp only [List.getElem_toArray, List.getElem_cons_succ, List.getElem_cons_zero, Act.put, List.setIfInBounds_toArray, List.set_cons_zero, List.set_cons_succ]
    refine anyK_only 5 (by kernel_rfl) rfl (fun K hK => ?_)
    (first | (first | (rw [if_pos (by rfl)]; go_simp; go_at_call 112; refine (ND.out _ (by repeat (first | exact Below.refl _ _ | assumption | exact below_drewN (Below.refl _ _) 1 | refine below_drewN ?_ 1 | refine bt ?_ (CB.out _) | refine bt ?_ (by assumption)))).mono ?_; rintro e w3 ⟨rfl, hb3⟩; go_wp2_with fail) | (rw [if_pos (by rfl)]; go_simp; go_at_call 105; refine (NN.out _ (by repeat (first | exact Below.refl _ _ | assumption | exact below_drewN (Below.refl _ _) 1 | refine below_drewN ?_ 1 | refine bt ?_ (CB.out _) | refine bt ?_ (by assumption)))).mono ?_; rintro e w4 ⟨rfl, hb4⟩; go_wp2_with fail) | (rw [if_pos (by rfl)]; go_simp; go_at_call 113; refine (HX.out _ _ (by repeat (first | exact Below.refl _ _ | assumption | exact below_drewN (Below.refl _ _) 1 | refine below_drewN ?_ 1 | refine bt ?_ (CB.out _) | refine bt ?_ (by assumption)))).mono ?_; rintro e w5 ⟨rfl, hb5⟩; have HBY := HYB.out w5 (by repeat (first | exact Below.refl _ _ | assumption | exact below_drewN (Below.refl _ _) 1 | refine below_drewN ?_ 1 | refine bt ?_ (CB.out _) | refine bt ?_ (by assumption))); have f0 := HBY.frozen 0; have f1 := HBY.frozen 1; have f2 := HBY.frozen 2; have r0 := HBY.cell 0; have r1 := HBY.cell 1; have r2 := HBY.cell 2; simp at r0 r1 r2; obtain ⟨s0, s1, s2⟩ := HS.out w5 (by repeat (first | exact Below.refl _ _ | assumption | exact below_drewN (Below.refl _ _) 1 | refine below_drewN ?_ 1 | refine bt ?_ (CB.out _) | refine bt ?_ (by assumption))); have HB5 := hid (show Below W2.heap.size W2 w5 from (by repeat (first | exact Below.refl _ _ | assumption | exact below_drewN (Below.refl _ _) 1 | refine below_drewN ?_ 1 | refine bt ?_ (CB.out _) | refine bt ?_ (by assumption)))); have HBYH := hid HBY; clear HBY; go_wp2_with fail)) | go_simp)
    clear hSk
    refine hK.out _ _ (by ((try dsimp only); first | (refine HS.out _ ?_; (repeat (first | exact Below.refl _ _ | assumption | exact below_drewN (Below.refl _ _) 1 | refine below_drewN ?_ 1 | refine bt ?_ (CB.out _) | refine bt ?_ (by assumption))); done) | simp [*, go_sem])) (fun hSk => ?_)
    clear hK K
    try simp only [List.getElem_toArray, List.getElem_cons_succ, List.getElem_cons_zero, Act.put, List.setIfInBounds_toArray, List.set_cons_zero, List.set_cons_succ]
    refine anyK_take 6 [6] (v := ?_) rfl (by kernel_rfl) (by kernel_rfl) (fun _ _ _ h => h) (Or.inl ⟨by rfl, ?_⟩) hSk ?_
    rotate_left
    · intro w' hSw; (try dsimp only at hSw); go_simp; try with_reducible rfl
    try simp only [List.getElem_toArray, List.getElem_cons_succ, List.getElem_cons_zero, Act.put, List.setIfInBounds_toArray, List.set_cons_zero, List.set_cons_succ]
    refine anyK_only 10 (by kernel_rfl) rfl (fun K hK => ?_)
    (first | (first | (rw [if_pos (by rfl)]; go_simp; go_at_call 112; refine (ND.out _ (by repeat (first | exact Below.refl _ _ | assumption | exact below_drewN (Below.refl _ _) 1 | refine below_drewN ?_ 1 | refine bt ?_ (CB.out _) | refine bt ?_ (by assumption)))).mono ?_; rintro e w3 ⟨rfl, hb3⟩; go_wp2_with fail) | (rw [if_pos (by rfl)]; go_simp; go_at_call 105; refine (NN.out _ (by repeat (first | exact Below.refl _ _ | assumption | exact below_drewN (Below.refl _ _) 1 | refine below_drewN ?_ 1 | refine bt ?_ (CB.out _) | refine bt ?_ (by assumption)))).mono ?_; rintro e w4 ⟨rfl, hb4⟩; go_wp2_with fail) | (rw [if_pos (by rfl)]; go_simp; go_at_call 113; refine (HX.out _ _ (by repeat (first | exact Below.refl _ _ | assumption | exact below_drewN (Below.refl _ _) 1 | refine below_drewN ?_ 1 | refine bt ?_ (CB.out _) | refine bt ?_ (by assumption)))).mono ?_; rintro e w5 ⟨rfl, hb5⟩; have HBY := HYB.out w5 (by repeat (first | exact Below.refl _ _ | assumption | exact below_drewN (Below.refl _ _) 1 | refine below_drewN ?_ 1 | refine bt ?_ (CB.out _) | refine bt ?_ (by assumption))); have f0 := HBY.frozen 0; have f1 := HBY.frozen 1; have f2 := HBY.frozen 2; have r0 := HBY.cell 0; have r1 := HBY.cell 1; have r2 := HBY.cell 2; simp at r0 r1 r2; obtain ⟨s0, s1, s2⟩ := HS.out w5 (by repeat (first | exact Below.refl _ _ | assumption | exact below_drewN (Below.refl _ _) 1 | refine below_drewN ?_ 1 | refine bt ?_ (CB.out _) | refine bt ?_ (by assumption))); have HB5 := hid (show Below W2.heap.size W2 w5 from (by repeat (first | exact Below.refl _ _ | assumption | exact below_drewN (Below.refl _ _) 1 | refine below_drewN ?_ 1 | refine bt ?_ (CB.out _) | refine bt ?_ (by assumption)))); have HBYH := hid HBY; clear HBY; go_wp2_with fail)) | go_simp)
    clear hSk
    refine hK.out _ _ (by ((try dsimp only); first | (refine HS.out _ ?_; (repeat (first | exact Below.refl _ _ | assumption | exact below_drewN (Below.refl _ _) 1 | refine below_drewN ?_ 1 | refine bt ?_ (CB.out _) | refine bt ?_ (by assumption))); done) | simp [*, go_sem])) (fun hSk => ?_)
    clear hK K
    try simp only [List.getElem_toArray, List.getElem_cons_succ, List.getElem_cons_zero, Act.put, List.setIfInBounds_toArray, List.set_cons_zero, List.set_cons_succ]
    refine anyK_take 11 [11] (v := ?_) rfl (by kernel_rfl) (by kernel_rfl) (fun _ _ _ h => h) (Or.inl ⟨by rfl, ?_⟩) hSk ?_
    rotate_left
    · intro w' hSw; (try dsimp only at hSw); go_simp; try with_reducible rfl
    try simp only [List.getElem_toArray, List.getElem_cons_succ, List.getElem_cons_zero, Act.put, List.setIfInBounds_toArray, List.set_cons_zero, List.set_cons_succ]
    refine anyK_take 12 [12] (v := ?_) rfl (by kernel_rfl) (by kernel_rfl) (fun _ _ _ h => h) (Or.inl ⟨by rfl, ?_⟩) hSk ?_
    rotate_left
    · intro w' hSw; (try dsimp only at hSw); go_simp; try with_reducible rfl
    try simp only [List.getElem_toArray, List.getElem_cons_succ, List.getElem_cons_zero, Act.put, List.setIfInBounds_toArray, List.set_cons_zero, List.set_cons_succ]
    refine anyK_last (by kernel_rfl) rfl (by kernel_rfl) (fun K hK => ?_)
    go_simp
    refine hK.out _ _ ?_
    clear hK K
    try simp only [List.getElem_toArray, List.getElem_cons_succ, List.getElem_cons_zero, Act.put, List.setIfInBounds_toArray, List.set_cons_zero, List.set_cons_succ]
    refine anyK_done (by kernel_rfl) ?_ _
    go_wp2
    obtain ⟨g0, g1, g2, gb⟩ := FINH.out w5 HB5.out HBYH.out _ rfl
    exact bodyPost_ret (v := .agg #[.string (S hk), .string (S (nt ++ 32 :: hx)), .bool false]) (by simp [results, Tryz.results47, go_sem, g0, g1, g2]) rfl ⟨by rw [HDV.out], gb⟩
end Go.Proofs.YtiabfngiibabcaaGreatDoor
