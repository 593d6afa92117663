/- The law StagesFile. -/
import Derived.Test.YtjmcnhpffpcboaaLawMay
import Derived.Test.YtjmcnhpffpcboaaRefFile
set_option linter.unusedVariables false
set_option linter.unusedSimpArgs false
set_option maxHeartbeats 1600000
set_option maxRecDepth 100000
namespace Go.Proofs.Ytjmcnhpffpcboaa
open Go.RowKit

def fileD (l : List UInt8) : Dr := (((Dr.new 1000).create stageK).1.append stageK l).1
theorem fileD_eq (l : List UInt8) (hl : l.length ≤ 20) : ∃ dd, fileD l = ⟨[(stageK, ⟨[], [l]⟩)], 1000, dd, false, -1⟩ := by
  have e1 : ((Dr.new 1000).create stageK).1 = ⟨[(stageK, ⟨[], []⟩)], 1000, wrap1 0, false, -1⟩ := rfl
  unfold fileD
  rw [e1]
  have e2 : (⟨[(stageK, ⟨[], []⟩)], 1000, wrap1 0, false, -1⟩ : Dr).appendE stageK l.length = 0 := by
    unfold Dr.appendE
    rw [if_neg]
    · rfl
    · rintro ⟨-, h⟩
      have : (⟨[(stageK, ⟨[], []⟩)], 1000, wrap1 0, false, -1⟩ : Dr).used = 0 := rfl
      rw [this] at h
      simp at h
      omega
  unfold Dr.append
  rw [e2]
  exact ⟨_, rfl⟩
theorem fileD_open (l : List UInt8) (hl : l.length ≤ 20) : openR (fileD l) = if fileN l = 0 then (0, 14) else (fileN l, 0) := by
  obtain ⟨dd, h⟩ := fileD_eq l hl
  rw [h]
  have e : (⟨[(stageK, ⟨[], [l]⟩)], 1000, dd, false, -1⟩ : Dr).read stageK = l := by
    show ([] : List UInt8) ++ [l].flatten = l
    simp
  have r0 : (⟨[(stageK, ⟨[], [l]⟩)], 1000, dd, false, -1⟩ : Dr).readE stageK = 0 := rfl
  unfold openR
  rw [r0, e]
  simp

theorem law_file_walk (l : List UInt8) (w : World) (hl : l.length ≤ 20) (big : Bool) (l0 : List UInt8) (hbig : if big then 20 < l0.length ∧ l0.take 20 = l else l0 = l) (hm : l0.length ≤ 9223372036854775807) :
    Calls Try.prog 7 #[.string (S l0)] w fun e w' => e = .returned (.bool true) ∧ Below w.heap.size w w' := by
  have Nw := hid (drive_New 1000 rfl w)
  have hok : (Dr.new 1000).Ok 0 := Dr.Ok.new 1000 rfl
  have R := hid (fun W => ref19_File l W)
  have Lv := hid law19_lives
  have hO := fileD_open l hl
  have hOK2 := hid ((hok.create stageK).append stageK l)
  have HOK := hid hok
  have rest : ∀ w1 g fp, IsDrive w1 g (Dr.new 1000) fp → Below w.heap.size w w1 → (∀ k, fp k → w.heap.size ≤ k) →
      Calls Try.prog 30 #[.pointer (some ⟨g, 0, none⟩), .string (S stageK)] w1 fun x w2 => ∃ e fp2, x = .returned (.int .i64 e) ∧ IsDrive w2 g ((Dr.new 1000).create stageK).1 fp2 ∧ Below w.heap.size w w2 ∧ ∀ k, fp2 k → w.heap.size ≤ k := by
    intro w1 g fp h1 h2 h3
    refine (drive_Create h1 HOK.out stageK (by decide)).mono ?_
    rintro x w2 ⟨rfl, fp2, h4, h5⟩
    refine ⟨_, fp2, rfl, h4, h2.trans (h5.below h3 h2.size), fun k hk => ?_⟩
    rcases h5.new k hk with h6 | h6
    · exact h3 k h6
    · exact Nat.le_trans h2.size h6
  have app : ∀ w1 g fp, IsDrive w1 g ((Dr.new 1000).create stageK).1 fp → Below w.heap.size w w1 → (∀ k, fp k → w.heap.size ≤ k) →
      Calls Try.prog 31 #[.pointer (some ⟨g, 0, none⟩), .string (S stageK), .slice (some ⟨w1.heap.size, 0, none⟩) l.length (grownCap w1 l.length 0 5)] (Lib.bytesWorld w1 5 (S l)) fun x w2 => ∃ e fp2, x = .returned (.int .i64 e) ∧ IsDrive w2 g (fileD l) fp2 ∧ Below w.heap.size w w2 ∧ ∀ k, fp2 k → w.heap.size ≤ k := by
    intro w1 g fp h1 h2 h3
    have hc := conv_below w1 l
    have h2' := bt h2 hc
    refine (drive_Append (h1.below hc) (HOK.out.create stageK) (by omega) stageK (by decide) _ l _ (conv_at w1 l) (fun p hp hk => ?_) (by omega)).mono ?_
    · injection hp with hp
      subst hp
      have := h1.lt _ hk
      exact absurd this (by simp)
    · rintro x w2 ⟨rfl, fp2, h4, h5⟩
      refine ⟨_, fp2, rfl, h4, h2'.trans (h5.below h3 h2'.size), fun k hk => ?_⟩
      rcases h5.new k hk with h6 | h6
      · exact h3 k h6
      · exact Nat.le_trans h2'.size h6
  have Cr := hid rest
  have Ap := hid app
  clear rest app hok
  have cv := fun W => conv_run W l
  cases big with
  | true =>
    simp at hbig
    obtain ⟨hb20, ht⟩ := hbig
    by_cases hf : fileN l = 0
    · rw [if_pos hf] at hO
      rw [hf] at R
      have HO := hid hO
      clear hf hO HOK
      go_enter Try.func7, Try.ntmps7
      go_wp2_with fail
      refine Nw.out.mono ?_
      rintro e w1 ⟨g, fp, rfl, h1, h2, h3⟩
      have Cr1 := hid (Cr.out _ _ _ h1 h2 h3)
      clear h1 h2 h3
      go_wp2_with fail
      refine Cr1.out.mono ?_
      rintro e w2 ⟨e1, fp2, rfl, h1, h2, h3⟩
      have Ap1 := hid (Ap.out _ _ _ h1 h2 h3)
      clear h1 h2 h3 Cr1
      go_wp2_with fail
      refine Ap1.out.mono ?_
      rintro e w3 ⟨e2, fp3, rfl, h1, h2, h3⟩
      have Op := hid (stages_Open h1 hOK2.out (by omega))
      have B3 := hid h2
      clear h1 h2 h3 Ap1
      go_wp2_with fail
      refine Op.out.mono ?_
      rintro e w4 ⟨v, rfl, hb4, hj, hno⟩
      rw [HO.out] at hno
      rw [HO.out]
      obtain rfl := hno (by simp)
      have B4 := hid (bt B3.out hb4)
      clear hb4 hj hno Op
      go_wp2_with fail
      refine (R.out _).mono ?_
      rintro e w5 ⟨rfl, hw⟩
      have hw' := hw.symm
      subst hw'
      go_wp2_with fail
      refine (Lv.out _).mono ?_
      rintro e w6 ⟨rfl, hb6⟩
      have B6 := hid (bt B4.out hb6)
      clear hb6
      go_wp2
      go_ret
      exact ⟨rfl, B6.out⟩
    · rw [if_neg hf] at hO
      have HO := hid hO
      have hne : (fileN l == 0) = false := by rw [beq_eq_false_iff_ne]; exact hf
      clear hO HOK
      generalize fileN l = fn at *
      go_enter Try.func7, Try.ntmps7
      go_wp2_with fail
      refine Nw.out.mono ?_
      rintro e w1 ⟨g, fp, rfl, h1, h2, h3⟩
      have Cr1 := hid (Cr.out _ _ _ h1 h2 h3)
      clear h1 h2 h3
      go_wp2_with fail
      refine Cr1.out.mono ?_
      rintro e w2 ⟨e1, fp2, rfl, h1, h2, h3⟩
      have Ap1 := hid (Ap.out _ _ _ h1 h2 h3)
      clear h1 h2 h3 Cr1
      go_wp2_with fail
      refine Ap1.out.mono ?_
      rintro e w3 ⟨e2, fp3, rfl, h1, h2, h3⟩
      have Op := hid (stages_Open h1 hOK2.out (by omega))
      have B3 := hid h2
      clear h1 h2 h3 Ap1
      go_wp2_with fail
      refine Op.out.mono ?_
      rintro e w4 ⟨v, rfl, hb4, hj, hno⟩
      rw [HO.out] at hj
      rw [HO.out]
      obtain ⟨j, rfl, hjl, hJ⟩ := hj rfl
      have Sg := hid (journal_Stage hJ)
      have B4 := hid (bt B3.out hb4)
      clear hb4 hj hno Op hJ hjl
      go_wp2_with fail
      refine (R.out _).mono ?_
      rintro e w5 ⟨rfl, hw⟩
      have hw' := hw.symm
      subst hw'
      go_wp2_with fail
      refine Sg.out.mono ?_
      rintro e w5 ⟨rfl, hw⟩
      have hw' := hw.symm
      subst hw'
      go_wp2_with fail
      refine (Lv.out _).mono ?_
      rintro e w6 ⟨rfl, hb6⟩
      have B6 := hid (bt B4.out hb6)
      clear hb6
      go_wp2
      go_ret
      exact ⟨rfl, B6.out⟩
  | false =>
    simp at hbig
    obtain rfl := hbig.symm
    by_cases hf : fileN l = 0
    · rw [if_pos hf] at hO
      rw [hf] at R
      have HO := hid hO
      clear hf hO HOK
      go_enter Try.func7, Try.ntmps7
      go_wp2_with fail
      refine Nw.out.mono ?_
      rintro e w1 ⟨g, fp, rfl, h1, h2, h3⟩
      have Cr1 := hid (Cr.out _ _ _ h1 h2 h3)
      clear h1 h2 h3
      go_wp2_with fail
      refine Cr1.out.mono ?_
      rintro e w2 ⟨e1, fp2, rfl, h1, h2, h3⟩
      have Ap1 := hid (Ap.out _ _ _ h1 h2 h3)
      clear h1 h2 h3 Cr1
      go_wp2_with fail
      refine Ap1.out.mono ?_
      rintro e w3 ⟨e2, fp3, rfl, h1, h2, h3⟩
      have Op := hid (stages_Open h1 hOK2.out (by omega))
      have B3 := hid h2
      clear h1 h2 h3 Ap1
      go_wp2_with fail
      refine Op.out.mono ?_
      rintro e w4 ⟨v, rfl, hb4, hj, hno⟩
      rw [HO.out] at hno
      rw [HO.out]
      obtain rfl := hno (by simp)
      have B4 := hid (bt B3.out hb4)
      clear hb4 hj hno Op
      go_wp2_with fail
      refine (R.out _).mono ?_
      rintro e w5 ⟨rfl, hw⟩
      have hw' := hw.symm
      subst hw'
      go_wp2_with fail
      refine (Lv.out _).mono ?_
      rintro e w6 ⟨rfl, hb6⟩
      have B6 := hid (bt B4.out hb6)
      clear hb6
      go_wp2
      go_ret
      exact ⟨rfl, B6.out⟩
    · rw [if_neg hf] at hO
      have HO := hid hO
      have hne : (fileN l == 0) = false := by rw [beq_eq_false_iff_ne]; exact hf
      clear hO HOK
      generalize fileN l = fn at *
      go_enter Try.func7, Try.ntmps7
      go_wp2_with fail
      refine Nw.out.mono ?_
      rintro e w1 ⟨g, fp, rfl, h1, h2, h3⟩
      have Cr1 := hid (Cr.out _ _ _ h1 h2 h3)
      clear h1 h2 h3
      go_wp2_with fail
      refine Cr1.out.mono ?_
      rintro e w2 ⟨e1, fp2, rfl, h1, h2, h3⟩
      have Ap1 := hid (Ap.out _ _ _ h1 h2 h3)
      clear h1 h2 h3 Cr1
      go_wp2_with fail
      refine Ap1.out.mono ?_
      rintro e w3 ⟨e2, fp3, rfl, h1, h2, h3⟩
      have Op := hid (stages_Open h1 hOK2.out (by omega))
      have B3 := hid h2
      clear h1 h2 h3 Ap1
      go_wp2_with fail
      refine Op.out.mono ?_
      rintro e w4 ⟨v, rfl, hb4, hj, hno⟩
      rw [HO.out] at hj
      rw [HO.out]
      obtain ⟨j, rfl, hjl, hJ⟩ := hj rfl
      have Sg := hid (journal_Stage hJ)
      have B4 := hid (bt B3.out hb4)
      clear hb4 hj hno Op hJ hjl
      go_wp2_with fail
      refine (R.out _).mono ?_
      rintro e w5 ⟨rfl, hw⟩
      have hw' := hw.symm
      subst hw'
      go_wp2_with fail
      refine Sg.out.mono ?_
      rintro e w5 ⟨rfl, hw⟩
      have hw' := hw.symm
      subst hw'
      go_wp2_with fail
      refine (Lv.out _).mono ?_
      rintro e w6 ⟨rfl, hb6⟩
      have B6 := hid (bt B4.out hb6)
      clear hb6
      go_wp2
      go_ret
      exact ⟨rfl, B6.out⟩

theorem row_StagesFile (s : ByteArray) (w : World) (hs : s.size ≤ maxLen) : Calls Try.prog 7 #[.string s] w fun e w' => e = .returned (.bool true) ∧ Below w.heap.size w w' := by
  rw [← S_of s]
  have hl : s.data.toList.length ≤ 9223372036854775807 := by
    have e : s.data.toList.length = s.size := by
      show s.data.toList.length = s.data.size
      simp
    rw [e]; exact hs
  by_cases h : 20 < s.data.toList.length
  · exact law_file_walk (s.data.toList.take 20) w (by simp; omega) true s.data.toList (by simp; simpa using h) hl
  · exact law_file_walk s.data.toList w (by omega) false s.data.toList (by simp) hl
end Go.Proofs.Ytjmcnhpffpcboaa
