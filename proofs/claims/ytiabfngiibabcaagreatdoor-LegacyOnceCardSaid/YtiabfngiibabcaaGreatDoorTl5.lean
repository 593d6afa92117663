/-
  Walk of tls.Parse at a leaf's bytes.
-/
import Derived.Test.YtiabfngiibabcaaGreatDoorTl4
import Derived.Test.YtiabfngiibabcaaGreatDoorM14
set_option linter.unusedVariables false
set_option linter.unusedSimpArgs false
set_option maxHeartbeats 12800000
set_option maxRecDepth 100000
namespace Go.Proofs.YtiabfngiibabcaaGreatDoor
open Go.RowKit

theorem leafB_parts (x : Lf) : ((leafB x).drop 2).take 8 = hiB x.time.toNat 8 ∧ ((leafB x).drop 12).take 3 = hiB x.cert.length 3 ∧ ((leafB x).drop 15).take x.cert.length = x.cert := by
  refine ⟨?_, ?_, ?_⟩
  · exact mid' (a := [0, 0]) (r := hiB 0 2 ++ (hiB x.cert.length 3 ++ (x.cert ++ hiB 0 2))) (by simp [leafB]) rfl (by rw [hiB_len])
  · exact mid' (a := [0, 0] ++ (hiB x.time.toNat 8 ++ hiB 0 2)) (r := x.cert ++ hiB 0 2) (by simp [leafB]) (by simp [hiB_len]) (by rw [hiB_len])
  · exact mid' (a := [0, 0] ++ (hiB x.time.toNat 8 ++ (hiB 0 2 ++ hiB x.cert.length 3))) (r := hiB 0 2) (by simp [leafB]) (by simp [hiB_len]) rfl
theorem tls_Parse (x : Lf) (hok : okL x = true) (w : World) (bk off c : Nat) (hB : BytesAt w (some ⟨bk, off, none⟩) (leafB x)) (hc : (leafB x).length ≤ c) (hcm : (c : Int) ≤ 9223372036854775807) :
    Calls Tryz.prog 32 #[.slice (some ⟨bk, off, none⟩) (leafB x).length c] w fun e w' => e = .returned (.tuple #[leafV x, .int .i64 0]) ∧ Below w.heap.size w w' := by
  obtain ⟨⟨t1, t2⟩, -, c1⟩ := okL_of hok
  obtain ⟨p2, p12, p15⟩ := leafB_parts x
  have hL := leafB_len x
  obtain ⟨t, ce⟩ := x
  simp only [] at *
  obtain ⟨tn, rfl⟩ : ∃ tn : Nat, t = tn := ⟨t.toNat, by omega⟩
  rw [Int.toNat_natCast] at p2
  have N12 := hid (fun (W : World) (h : BytesAt W (some ⟨bk, off, none⟩) (leafB ⟨tn, ce⟩)) => by
    have := tls_number W (some ⟨bk, off + 12, none⟩) (hiB ce.length 3) (c - 12) (h.part p12) (by rw [hiB_len]; omega) (by rw [numH_hiB _ _ (by omega)]; omega)
    rw [numH_hiB _ _ (by omega), hiB_len] at this
    exact this)
  have N2 := hid (fun (W : World) (h : BytesAt W (some ⟨bk, off, none⟩) (leafB ⟨tn, ce⟩)) => by
    have := tls_number W (some ⟨bk, off + 2, none⟩) (hiB tn 8) (c - 2) (h.part p2) (by rw [hiB_len]; omega) (by rw [numH_hiB _ _ (by omega)]; omega)
    rw [numH_hiB _ _ (by omega), hiB_len] at this
    exact this)
  have CV := hid (fun (W : World) (h : BytesAt W (some ⟨bk, off, none⟩) (leafB ⟨tn, ce⟩)) => conv_string_at W (n := ce.length) (c := c - 15) (l := ce) rfl (h.part p15))
  have hlb : BytesAt (w.alloc (.cells #[.int .i64 0, .string (S [])] 30)) (some ⟨bk, off, none⟩) (leafB ⟨tn, ce⟩) := hB.below ((Below.refl _ _).alloc (Nat.le_refl _) _)
  have s12 : ∀ W, (Instr.slice 85 (.slice (some ⟨bk, off, none⟩) (17 + ce.length) c) (some (.int .i64 12)) (some (.int .i64 15)) none).run Tryz.prog W = .ok (.slice (some ⟨bk, off + 12, none⟩) 3 (c - 12)) W := fun W => slice_u8_lh W bk off (17 + ce.length) c 12 3 15 (by omega) (by omega) (by omega)
  have s2 : ∀ W, (Instr.slice 85 (.slice (some ⟨bk, off, none⟩) (17 + ce.length) c) (some (.int .i64 2)) (some (.int .i64 10)) none).run Tryz.prog W = .ok (.slice (some ⟨bk, off + 2, none⟩) 8 (c - 2)) W := fun W => slice_u8_lh W bk off (17 + ce.length) c 2 8 10 (by omega) (by omega) (by omega)
  have s15 : ∀ W, (Instr.slice 85 (.slice (some ⟨bk, off, none⟩) (17 + ce.length) c) (some (.int .i64 15)) (some (.int .i64 (15 + (ce.length : Int)))) none).run Tryz.prog W = .ok (.slice (some ⟨bk, off + 15, none⟩) ce.length (c - 15)) W := fun W => slice_u8_lh W bk off (17 + ce.length) c 15 ce.length (15 + (ce.length : Int)) (by omega) (by omega) (by omega)
  have LF := hid (fun (W : World) => tls_Leaf ⟨tn, ce⟩ W (by simp only []; omega))
  have HB0 := hid hlb
  have HOK := hid hok
  rw [hL] at hc ⊢
  have HL := hid hL
  obtain ⟨lb, HLB⟩ : ∃ lb, Hid (leafB ⟨tn, ce⟩ = lb) := ⟨_, rfl⟩
  rw [HLB.out] at N12 N2 CV HB0 HL hB
  have hq1 : (15 : Int) ≤ c := by omega
  have hq2 : (15 : Int) + (ce.length : Int) ≤ c := by omega
  have hq3 : (10 : Int) ≤ c := by omega
  have hc12 : ¬ c = 12 := by omega
  have hc2 : ¬ c = 2 := by omega
  have hc15 : ¬ c = 15 := by omega
  clear p2 p12 p15 hL hlb hok
  obtain ⟨W1, HW1⟩ : ∃ W1, Hid (W1 = w.alloc (.cells #[.int .i64 0, .string (S [])] 30)) := ⟨_, rfl⟩
  have b1 : Below w.heap.size w W1 := by rw [HW1.out]; exact (Below.refl _ _).alloc (Nat.le_refl _) _
  have HBk := hid (show Blk W1 w.heap.size 30 #[.int .i64 0, .string (S [])] by rw [HW1.out]; exact Blk.new _ _ _)
  have hb1 : BytesAt W1.drew (some ⟨bk, off, none⟩) lb := hB.below (below_drewN b1 1)
  have hb1a : BytesAt (W1.alloc (.cells #[.int .i64 0, .string (S [])] 30)).drew (some ⟨bk, off, none⟩) lb := (hB.below b1).below (below_drewN ((Below.refl _ _).alloc (Nat.le_refl _) _) 1)
  have cv1 := CV.out _ hb1
  have cv2 := CV.out _ hb1a
  have B1 := hid b1
  have hbL : BytesAt (W1.alloc (.cells #[.int .i64 tn, .string (S ce)] 30)) (some ⟨bk, off, none⟩) lb := (hB.below b1).below ((Below.refl _ _).alloc (Nat.le_refl _) _)
  have HBL := hid hbL
  have cv3 := CV.out _ (hbL.below (below_drewN (Below.refl _ _) 1))
  clear hbL b1
  go_enter Tryz.func32, Tryz.ntmps32
  go_wp2_with (go_at_call 88; refine (N12.out _ HB0.out).mono ?_; rintro e w2 ⟨rfl, rfl⟩)
  rw [← HW1.out]
  go_region_held3 (fun w' => (convert 85 9 (.slice (some ⟨bk, off + 15, none⟩) ce.length (c - 15))).run Tryz.prog w' = .ok (.string (S ce)) w') (first | assumption | simp [*, go_sem, World.cell?_alloc_past]) (first
    | (go_at_call 88; refine (N2.out _ (by assumption)).mono ?_; rintro e w2 ⟨rfl, rfl⟩))
  all_goals
    obtain ⟨W2, HW2⟩ : ∃ W2, Hid (W2 = (W1.alloc (.cells #[.int .i64 tn, .string (S ce)] 30)).drew) := ⟨_, rfl⟩
    have b2 : Below W1.heap.size W1 W2 := by rw [HW2.out]; exact below_drewN ((Below.refl _ _).alloc (Nat.le_refl _) _) 1
    have kT : Blk W2 W1.heap.size 30 #[.int .i64 tn, .string (S ce)] := by rw [HW2.out]; exact (Blk.new _ _ _).drew
    have kR : Blk W2 w.heap.size 30 #[.int .i64 0, .string (S [])] := HBk.out.below b2 HBk.out.lt
    have hB2 : BytesAt W2 (some ⟨bk, off, none⟩) lb := by rw [HW2.out]; exact HBL.out.below (below_drewN (Below.refl _ _) 1)
    have bw2 := bt B1.out b2
    have l0 : W2.cell? ⟨W1.heap.size, 0, none⟩ = some (.int .i64 tn) := kT.cell 0
    have l1 : W2.cell? ⟨W1.heap.size, 1, none⟩ = some (.string (S ce)) := kT.cell 1
    have hltR := kR.lt
    have hltT := kT.lt
    have HK2 := hid (And.intro kT (And.intro kR (And.intro hB2 bw2)))
    clear b2 kT kR hB2 bw2 hb1 hb1a cv1 cv2 cv3
    rw [← HW2.out]
    have LF2 := LF.out W2
    unfold leafV at LF2
    simp only [] at LF2
    have LF3 := hid LF2
    clear LF2
    go_wp2_with fail
    refine LF3.out.mono ?_
    rintro e w3 hp
    rcases hp with ⟨-, A3, c3, rfl, hr3, hb3⟩ | ⟨hf, -⟩
    rotate_left
    · rw [HOK.out] at hf
      cases hf
    rw [HLB.out] at hr3 ⊢
    obtain ⟨-, -, ha3⟩ := row_addr' hr3
    have hpos : 0 < lb.length := by have := HL.out; omega
    obtain ⟨g3, rfl⟩ : ∃ g3, A3 = some ⟨g3, 0, none⟩ := by
      rcases ha3 with ⟨-, h0⟩ | ⟨b, -, h1⟩
      · omega
      · exact ⟨b, h1⟩
    have EQ := lg_EqualB w3 bk off c g3 0 c3 lb (HK2.out.2.2.1.below hb3) (bytesAt_row hr3).2 (by have := HL.out; omega)
    have HL1 := HL.out
    rw [HL1] at EQ ⊢
    have EQH := hid EQ
    have kT3 := HK2.out.1.below hb3 hltT
    have kR3 := HK2.out.2.1.below hb3 hltR
    have HB3 := hid (bt HK2.out.2.2.2 hb3)
    have HK3 := hid (And.intro kT3 kR3)
    clear hr3 hb3 EQ kT3 kR3 HL1 hpos l0 l1
    go_wp2_with (go_at_call 89; refine EQH.out.mono ?_; rintro e w4 ⟨rfl, q, hw4⟩; have kT4 : Blk w4 W1.heap.size 30 #[.int .i64 tn, .string (S ce)] := (by cases hw4; exact HK3.out.1.drewN q); have kR4 : Blk w4 w.heap.size 30 #[.int .i64 0, .string (S [])] := (by cases hw4; exact HK3.out.2.drewN q); have HB4 := hid (show Below w.heap.size w w4 from (by cases hw4; exact below_drewN HB3.out q)); have l0 := kT4.cell 0; have l1 := kT4.cell 1; have r0 := kR4.cell 0; have r1 := kR4.cell 1; have f0 := kR4.frozen 0; have f1 := kR4.frozen 1; simp at l0 l1 r0 r1; have HR4 := hid kR4; clear hw4 kT4 kR4)
    have HF : Blk ((w4.setCell ⟨w.heap.size, 0, none⟩ (.int .i64 tn)).setCell ⟨w.heap.size, 1, none⟩ (.string (S ce))) w.heap.size 30 #[.int .i64 tn, .string (S ce)] := by
      have := (HR4.out.set_ 0 (.int .i64 tn)).set_ 1 (.string (S ce))
      simpa using this
    have HBF := hid ((HB4.out.setCell (p := ⟨w.heap.size, 0, none⟩) (Nat.le_refl _) (.int .i64 tn)).setCell (p := ⟨w.heap.size, 1, none⟩) (Nat.le_refl _) (.string (S ce)))
    have g0 := HF.cell 0
    have g1 := HF.cell 1
    simp at g0 g1
    refine bodyPost_ret (v := .tuple #[.agg #[.int .i64 tn, .string (S ce)], .int .i64 0]) (by simp [results, Tryz.results32, go_sem, g0, g1]) rfl ⟨rfl, HBF.out⟩
end Go.Proofs.YtiabfngiibabcaaGreatDoor
