/- Walks of package pantilelaw07: lives, few. -/
import Derived.Test.YtecekflooihkoaaGreatDoorPath
import Derived.Test.YtecekflooihkoaaGreatDoorNum
set_option linter.unusedVariables false
set_option linter.unusedSimpArgs false
set_option maxHeartbeats 800000
set_option maxRecDepth 100000
namespace Go.Proofs.YtecekflooihkoaaGreatDoor
open Go.RowKit

theorem ex_a : pathS (-1) 1234067 256 = [116, 105, 108, 101, 47, 101, 110, 116, 114, 105, 101, 115, 47, 120, 48, 48, 49, 47, 120, 50, 51, 52, 47, 48, 54, 55] := by
  simp [pathS, isTile, pathT, levelS, widthS, threesS, pad3, thrI, decN, dig]
theorem ex_b : pathS 0 5 3 = [116, 105, 108, 101, 47, 48, 47, 48, 48, 53, 46, 112, 47, 51] := by
  simp [pathS, isTile, pathT, levelS, widthS, threesS, pad3, thrI, decN, decI, dig]
theorem ex_c : isNum [48, 48, 55] = false := isNum_zero rfl (by decide)
theorem ex_d : pathE (-1) 1234067 256 = 0 := by simp [pathE, isTile]
theorem ex_e : pathE 0 5 3 = 0 := by simp [pathE, isTile]

theorem law07_lives (w : World) : Calls Tryz.prog 10 #[] w fun e w' => e = .returned (.bool true) ∧ Below w.heap.size w w' := by
  have ha := text_Path (-1) 1234067 256
  have hb := text_Path 0 5 3
  have hn := text_Number [48, 48, 55]
  unfold PathPost at ha hb
  rw [ex_a, ex_d] at ha
  rw [ex_b, ex_e] at hb
  simp only [numI, numE, ex_c] at hn
  have HA := hid ha
  have HB := hid hb
  have HN := hid hn
  clear ha hb hn
  go_enter Tryz.func10, Tryz.ntmps10
  go_wp2_with fail
  refine (HA.out _ (by omega) (by omega) (by omega)).mono ?_
  rintro e w1 ⟨rfl, hb1⟩
  go_wp2_with fail
  refine (HB.out _ (by omega) (by omega) (by omega)).mono ?_
  rintro e w2 ⟨rfl, hb2⟩
  go_wp2_with fail
  refine (HN.out _).mono ?_
  rintro e w3 ⟨rfl, hb3⟩
  go_wp2
  go_ret
  exact ⟨rfl, (hb1.trans (hb2.mono hb1.size)).trans (hb3.mono (Nat.le_trans hb1.size hb2.size))⟩

theorem law07_few (l : List UInt8) (w : World) : Calls Tryz.prog 13 #[.string (S l)] w fun e w' => e = .returned (.string (S (l.take 200))) ∧ w' = w := by
  by_cases h : 200 < l.length
  · go_enter Tryz.func13, Tryz.ntmps13
    go_wp2
    go_ret
    exact ⟨rfl, rfl⟩
  · have H := hid (List.take_of_length_le (show l.length ≤ 200 by omega))
    go_enter Tryz.func13, Tryz.ntmps13
    go_wp2
    go_ret
    exact ⟨by rw [H.out]; rfl, rfl⟩
end Go.Proofs.YtecekflooihkoaaGreatDoor
