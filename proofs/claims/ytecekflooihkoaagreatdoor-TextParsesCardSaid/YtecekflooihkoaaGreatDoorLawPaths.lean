/- Walks of pantilelaw07.TextPaths and TextParses. -/
import Derived.Test.YtecekflooihkoaaGreatDoorLaw07
import Derived.Test.YtecekflooihkoaaGreatDoorTileArg
import Derived.Test.YtecekflooihkoaaGreatDoorRefParse
set_option linter.unusedVariables false
set_option linter.unusedSimpArgs false
set_option maxHeartbeats 100000000
set_option maxRecDepth 100000
namespace Go.Proofs.YtecekflooihkoaaGreatDoor
open Go.RowKit

theorem decI_len4 {a : Int} (h0 : 0 ≤ a) (h1 : a ≤ 256) : (decI a).length ≤ 20 := decI_len a (by omega) (by omega)
theorem pathT_len {a b c : Int} (h : isTile a b c = true) : (pathT a b c).length ≤ 1000 := by
  obtain ⟨h1, h2, h3, h4, h5, h6⟩ := isTile_iff.1 h
  have e1 := threesS_len b.toNat (by omega)
  have e2 : (levelS a).length ≤ 20 := by
    unfold levelS
    split
    · decide
    · exact decI_len a (by omega) (by omega)
  have e3 : (widthS c).length ≤ 23 := by
    unfold widthS
    split
    · have := decI_len c (by omega) (by omega)
      simp; omega
    · simp
  unfold pathT
  simp at *
  omega
theorem law_TextParses (l : List UInt8) (w : World) (hm : HasMax w) :
    Calls Tryz.prog 4 #[.string (S l)] w fun e w' => e = .returned (.bool true) ∧ Below w.heap.size w w' := by
  have FE := hid (law07_few l w)
  have hl : (l.take 200).length ≤ 1000 := by simp; omega
  generalize l.take 200 = s at *
  have TP := hid (text_Parse s hl w hm)
  have RP := hid (fun W => ref_Parse s hl W)
  unfold ParsePost at TP
  unfold RParsePost at RP
  have n1 : (lvlT s == lvlT s) = true := by simp
  have n2 : (idxT s == idxT s) = true := by simp
  have n3 : (widT s == widT s) = true := by simp
  cases ho : okT s with
  | false =>
    simp only [ho] at TP RP
    clear n1 n2 n3 ho
    go_enter Tryz.func4, Tryz.ntmps4
    go_wp2_with fail
    refine FE.out.mono ?_
    rintro e w' ⟨rfl, rfl⟩
    go_wp2_with fail
    refine TP.out.mono ?_
    rintro e w1 ⟨rfl, hb1⟩
    have T1 := Blk.new w1 23 #[.int .i64 (0), .int .i64 (0), .int .i64 (0)]
    have B1 := hid (hb1.alloc hb1.size (.cells #[.int .i64 (0), .int .i64 (0), .int .i64 (0)] 23))
    have HT1 := hid T1
    clear T1 hb1
    go_wp2_with fail
    refine (RP.out _).mono ?_
    rintro e w2 ⟨rfl, hb2⟩
    have T2 := HT1.out.below hb2 (by simp)
    have T2' := T2.alloc (.cells #[.int .i64 (0), .int .i64 (0), .int .i64 (0)] 23)
    obtain ⟨p0', p1', p2'⟩ : (w2.alloc (.cells #[.int .i64 (0), .int .i64 (0), .int .i64 (0)] 23)).cell? ⟨w1.heap.size, 0, none⟩ = some (.int .i64 (0)) ∧ (w2.alloc (.cells #[.int .i64 (0), .int .i64 (0), .int .i64 (0)] 23)).cell? ⟨w1.heap.size, 1, none⟩ = some (.int .i64 (0)) ∧ (w2.alloc (.cells #[.int .i64 (0), .int .i64 (0), .int .i64 (0)] 23)).cell? ⟨w1.heap.size, 2, none⟩ = some (.int .i64 (0)) := ⟨T2'.cell 0, T2'.cell 1, T2'.cell 2⟩
    clear T2'
    obtain ⟨p0, p1, p2⟩ : w2.cell? ⟨w1.heap.size, 0, none⟩ = some (.int .i64 (0)) ∧ w2.cell? ⟨w1.heap.size, 1, none⟩ = some (.int .i64 (0)) ∧ w2.cell? ⟨w1.heap.size, 2, none⟩ = some (.int .i64 (0)) := ⟨T2.cell 0, T2.cell 1, T2.cell 2⟩
    have B2 := hid (bt B1.out hb2)
    have B3 := hid (B2.out.alloc B2.out.size (.cells #[.int .i64 (0), .int .i64 (0), .int .i64 (0)] 23))
    clear T2 hb2
    go_wp2_with fail
    refine (law07_lives _).mono ?_
    rintro e w3 ⟨rfl, hb3⟩
    go_wp2
    go_ret
    exact ⟨rfl, bt B3.out hb3⟩
  | true =>
    simp only [ho] at TP RP
    generalize lvlT s = lv at *
    generalize idxT s = ix at *
    generalize widT s = wd at *
    clear ho
    go_enter Tryz.func4, Tryz.ntmps4
    go_wp2_with fail
    refine FE.out.mono ?_
    rintro e w' ⟨rfl, rfl⟩
    go_wp2_with fail
    refine TP.out.mono ?_
    rintro e w1 ⟨rfl, hb1⟩
    have T1 := Blk.new w1 23 #[.int .i64 (lv), .int .i64 (ix), .int .i64 (wd)]
    have B1 := hid (hb1.alloc hb1.size (.cells #[.int .i64 (lv), .int .i64 (ix), .int .i64 (wd)] 23))
    have HT1 := hid T1
    clear T1 hb1
    go_wp2_with fail
    refine (RP.out _).mono ?_
    rintro e w2 ⟨rfl, hb2⟩
    have T2 := HT1.out.below hb2 (by simp)
    have T2' := T2.alloc (.cells #[.int .i64 (lv), .int .i64 (ix), .int .i64 (wd)] 23)
    obtain ⟨p0', p1', p2'⟩ : (w2.alloc (.cells #[.int .i64 (lv), .int .i64 (ix), .int .i64 (wd)] 23)).cell? ⟨w1.heap.size, 0, none⟩ = some (.int .i64 (lv)) ∧ (w2.alloc (.cells #[.int .i64 (lv), .int .i64 (ix), .int .i64 (wd)] 23)).cell? ⟨w1.heap.size, 1, none⟩ = some (.int .i64 (ix)) ∧ (w2.alloc (.cells #[.int .i64 (lv), .int .i64 (ix), .int .i64 (wd)] 23)).cell? ⟨w1.heap.size, 2, none⟩ = some (.int .i64 (wd)) := ⟨T2'.cell 0, T2'.cell 1, T2'.cell 2⟩
    clear T2'
    obtain ⟨p0, p1, p2⟩ : w2.cell? ⟨w1.heap.size, 0, none⟩ = some (.int .i64 (lv)) ∧ w2.cell? ⟨w1.heap.size, 1, none⟩ = some (.int .i64 (ix)) ∧ w2.cell? ⟨w1.heap.size, 2, none⟩ = some (.int .i64 (wd)) := ⟨T2.cell 0, T2.cell 1, T2.cell 2⟩
    have B2 := hid (bt B1.out hb2)
    have B3 := hid (B2.out.alloc B2.out.size (.cells #[.int .i64 (lv), .int .i64 (ix), .int .i64 (wd)] 23))
    clear T2 hb2
    go_wp2_with fail
    refine (law07_lives _).mono ?_
    rintro e w3 ⟨rfl, hb3⟩
    go_wp2
    go_ret
    exact ⟨rfl, bt B3.out hb3⟩
theorem law_TextPaths (a b c : Int) (w : World) (ha : -9223372036854775808 ≤ a ∧ a ≤ 9223372036854775807) (hb : -9223372036854775808 ≤ b ∧ b ≤ 9223372036854775807) (hc : -9223372036854775808 ≤ c ∧ c ≤ 9223372036854775807) (hm : HasMax w) :
    Calls Tryz.prog 3 #[.agg #[.int .i64 a, .int .i64 b, .int .i64 c]] w fun e w' => e = .returned (.bool true) ∧ Below w.heap.size w w' := by
  have PT := hid (fun W => text_Path a b c W ha hb hc)
  unfold PathPost at PT
  have IS := hid (fun W => ref_Is a b c W)
  have B0 := hid (show Below w.heap.size w (w.alloc (.cells #[.int .i64 a, .int .i64 b, .int .i64 c] 23)) from (Below.refl _ _).alloc (Nat.le_refl _) _)
  have T0 := hid (Blk.new w 23 #[.int .i64 a, .int .i64 b, .int .i64 c])
  cases hti : isTile a b c with
  | false =>
    rw [show pathS a b c = [] by unfold pathS; rw [hti]; rfl, show pathE a b c = 1 by unfold pathE; rw [hti]; rfl] at PT
    simp only [hti] at IS
    clear hti
    go_enter Tryz.func3, Tryz.ntmps3
    go_wp2_with fail
    refine (PT.out _).mono ?_
    rintro e w1 ⟨rfl, hb1⟩
    have T1 := hid (T0.out.below hb1 (by simp))
    have B1 := hid (bt B0.out hb1)
    clear hb1
    obtain ⟨p0, p1, p2⟩ : w1.cell? ⟨w.heap.size, 0, none⟩ = some (.int .i64 a) ∧ w1.cell? ⟨w.heap.size, 1, none⟩ = some (.int .i64 b) ∧ w1.cell? ⟨w.heap.size, 2, none⟩ = some (.int .i64 c) := ⟨T1.out.cell 0, T1.out.cell 1, T1.out.cell 2⟩
    go_wp2_with fail
    refine (IS.out _).mono ?_
    rintro e w2 ⟨rfl, hb2⟩
    go_wp2_with fail
    refine (law07_lives _).mono ?_
    rintro e w3 ⟨rfl, hb3⟩
    go_wp2
    go_ret
    exact ⟨rfl, bt (bt B1.out hb2) hb3⟩
  | true =>
    rw [show pathS a b c = pathT a b c by unfold pathS; rw [hti]; rfl, show pathE a b c = 0 by unfold pathE; rw [hti]; rfl] at PT
    simp only [hti] at IS
    have hlen := pathT_len hti
    have hb := isTile_iff.1 hti
    obtain ⟨n, rfl⟩ := Int.eq_ofNat_of_zero_le hb.2.2.1
    have RQ := hid (fun W => ref_Path a n c W (by omega) (by omega) (by omega) (by omega) (by omega))
    obtain ⟨o1, o2, o3, o4⟩ := okT_path (l := pathT a n c) ⟨hti, rfl⟩
    have TP := hid (fun W (h : HasMax W) => text_Parse (pathT a n c) hlen W h)
    unfold ParsePost at TP
    simp only [o1, o2, o3, o4] at TP
    have n1 : (a == a) = true := by simp
    have n2 : ((n : Int) == n) = true := by simp
    have n3 : (c == c) = true := by simp
    have n4 : (pathT a n c == pathT a n c) = true := by simp
    clear hti hb o1 o2 o3 o4
    generalize pathT a n c = pt at *
    have HM := hid hm
    go_enter Tryz.func3, Tryz.ntmps3
    go_wp2_with fail
    refine (PT.out _).mono ?_
    rintro e w1 ⟨rfl, hb1⟩
    have T1 := hid (T0.out.below hb1 (by simp))
    have B1 := hid (bt B0.out hb1)
    clear hb1
    obtain ⟨p0, p1, p2⟩ : w1.cell? ⟨w.heap.size, 0, none⟩ = some (.int .i64 a) ∧ w1.cell? ⟨w.heap.size, 1, none⟩ = some (.int .i64 n) ∧ w1.cell? ⟨w.heap.size, 2, none⟩ = some (.int .i64 c) := ⟨T1.out.cell 0, T1.out.cell 1, T1.out.cell 2⟩
    go_wp2_with fail
    refine (IS.out _).mono ?_
    rintro e w2 ⟨rfl, hb2⟩
    have T2 := hid (T1.out.below hb2 T1.out.lt)
    have B2 := hid (bt B1.out hb2)
    clear hb2 p0 p1 p2
    go_wp2_with fail
    refine (TP.out _ (HM.out.below B2.out)).mono ?_
    rintro e w3 ⟨rfl, hb3⟩
    have T3 := hid (T2.out.below hb3 T2.out.lt)
    have B3 := hid (bt B2.out hb3)
    clear hb3
    have X3 := hid (Blk.new w3 23 #[.int .i64 a, .int .i64 n, .int .i64 c])
    have B3' := hid (B3.out.alloc B3.out.size (.cells #[.int .i64 a, .int .i64 n, .int .i64 c] 23))
    obtain ⟨p0, p1, p2⟩ : w3.cell? ⟨w.heap.size, 0, none⟩ = some (.int .i64 a) ∧ w3.cell? ⟨w.heap.size, 1, none⟩ = some (.int .i64 n) ∧ w3.cell? ⟨w.heap.size, 2, none⟩ = some (.int .i64 c) := ⟨T3.out.cell 0, T3.out.cell 1, T3.out.cell 2⟩
    have T3' := hid (T3.out.alloc (.cells #[.int .i64 a, .int .i64 n, .int .i64 c] 23))
    obtain ⟨p0', p1', p2'⟩ : (w3.alloc (.cells #[.int .i64 a, .int .i64 n, .int .i64 c] 23)).cell? ⟨w.heap.size, 0, none⟩ = some (.int .i64 a) ∧ (w3.alloc (.cells #[.int .i64 a, .int .i64 n, .int .i64 c] 23)).cell? ⟨w.heap.size, 1, none⟩ = some (.int .i64 n) ∧ (w3.alloc (.cells #[.int .i64 a, .int .i64 n, .int .i64 c] 23)).cell? ⟨w.heap.size, 2, none⟩ = some (.int .i64 c) := ⟨T3'.out.cell 0, T3'.out.cell 1, T3'.out.cell 2⟩
    go_wp2_with fail
    refine (RQ.out _).mono ?_
    rintro e w4 ⟨rfl, hb4⟩
    have T4 := hid (T3'.out.below hb4 T3'.out.lt)
    have X4 := hid (X3.out.below hb4 (by simp))
    have B4 := hid (bt B3'.out hb4)
    clear hb4
    obtain ⟨t0, t1, t2⟩ : w4.cell? ⟨w.heap.size, 0, none⟩ = some (.int .i64 a) ∧ w4.cell? ⟨w.heap.size, 1, none⟩ = some (.int .i64 n) ∧ w4.cell? ⟨w.heap.size, 2, none⟩ = some (.int .i64 c) := ⟨T4.out.cell 0, T4.out.cell 1, T4.out.cell 2⟩
    obtain ⟨x0, x1, x2⟩ : w4.cell? ⟨w3.heap.size, 0, none⟩ = some (.int .i64 a) ∧ w4.cell? ⟨w3.heap.size, 1, none⟩ = some (.int .i64 n) ∧ w4.cell? ⟨w3.heap.size, 2, none⟩ = some (.int .i64 c) := ⟨X4.out.cell 0, X4.out.cell 1, X4.out.cell 2⟩
    go_wp2_with fail
    refine (law07_lives _).mono ?_
    rintro e w5 ⟨rfl, hb5⟩
    go_wp2
    go_ret
    exact ⟨rfl, bt B4.out hb5⟩
theorem row_TextPaths (a b c : Int) (w : World) (h : In64 a ∧ In64 b ∧ In64 c) (hm : HasMax w) :
    Calls Tryz.prog 3 #[.agg #[.int .i64 a, .int .i64 b, .int .i64 c]] w fun e w' => e = .returned (.bool true) ∧ Below w.heap.size w w' :=
  law_TextPaths a b c w h.1 h.2.1 h.2.2 hm
theorem row_TextParses (s : ByteArray) (w : World) (h1 : s.size ≤ maxLen) (hm : HasMax w) :
    Calls Tryz.prog 4 #[.string s] w fun e w' => e = .returned (.bool true) ∧ Below w.heap.size w w' := by
  rw [← S_of s]
  exact law_TextParses s.data.toList w hm
end Go.Proofs.YtecekflooihkoaaGreatDoor
