/- Walks of package text: threes, Path. -/
import Derived.Test.YtecekflooihkoaaGreatDoorText
import Derived.Test.YtecekflooihkoaaGreatDoorPlain
set_option linter.unusedVariables false
set_option linter.unusedSimpArgs false
set_option maxHeartbeats 800000
set_option maxRecDepth 100000
namespace Go.Proofs.YtecekflooihkoaaGreatDoor
open Go.RowKit

theorem repeat0_0 (w : World) : Calls Tryz.prog 64 #[.string (S [48]), .int .i64 0] w fun e w' => e = .returned (.string (S [])) ∧ w' = w := by
  go_enter Tryz.func64, Tryz.ntmps64
  go_wp2
  go_ret
  exact ⟨rfl, rfl⟩
theorem repeat0_1 (w : World) : Calls Tryz.prog 64 #[.string (S [48]), .int .i64 1] w fun e w' => e = .returned (.string (S [48])) ∧ w' = w := by
  go_enter Tryz.func64, Tryz.ntmps64
  go_wp2
  go_ret
  exact ⟨rfl, rfl⟩
theorem repeat0_2 (w : World) : Calls Tryz.prog 64 #[.string (S [48]), .int .i64 2] w fun e w' => e = .returned (.string (S [48, 48])) ∧ w' = w := by
  go_enter Tryz.func64, Tryz.ntmps64
  go_wp2
  go_ret
  exact ⟨rfl, rfl⟩

theorem repeat0 (k : Int) (h0 : 0 ≤ k) (h2 : k ≤ 2) (w : World) : Calls Tryz.prog 64 #[.string (S [48]), .int .i64 k] w fun e w' => e = .returned (.string (S (List.replicate k.toNat 48))) ∧ w' = w := by
  obtain rfl | rfl | rfl : k = 0 ∨ k = 1 ∨ k = 2 := by omega
  · exact repeat0_0 w
  · exact repeat0_1 w
  · exact repeat0_2 w

/-- Decimal at a number below 1000. -/
theorem decimal3 (m : Nat) (h : m < 1000) (w : World) : Calls Tryz.prog 26 #[.int .i64 m] w fun e w' => e = .returned (.string (S (decN m))) ∧ Below w.heap.size w w' := by
  have := text_Decimal m w (by omega) (by omega)
  rwa [show decI (m : Int) = decN m by rw [decI, if_neg (by omega)]; rfl] at this

theorem text_threes (n : Nat) (hn : n ≤ 9007199254740992) (w : World) : Calls Tryz.prog 27 #[.int .i64 n] w fun e w' => e = .returned (.string (S (threesS n))) ∧ Below w.heap.size w w' := by
  have hd := decN_len3 (n % 1000) (by omega)
  have hp := decN_pos (n % 1000)
  have D := hid (decimal3 (n % 1000) (by omega))
  go_enter Tryz.func27, Tryz.ntmps27
  go_wp2_with fail
  refine (D.out _).mono ?_
  rintro e w1 ⟨rfl, hb⟩
  go_wp2_with fail
  refine (repeat0 _ (by omega) (by omega) _).mono ?_
  rintro e w2 ⟨rfl, rfl⟩
  go_wp2
  go_loopw [0, 3] (fun a s wr => ∃ (m : Nat) (l : List UInt8), a = .int .i64 m ∧ s = .string (S l) ∧ m ≤ 9007199254740992 ∧ l.length + 5 * m ≤ 50000000000000000 ∧ Hid (thrI m l = threesS n) ∧ Below w.heap.size w wr) (fun a _ _ => (intOf a).toNat)
  case atStart => exact ⟨n / 1000, _, by congr 1, rfl, by omega, by simp; omega, rfl, hb⟩
  case round =>
    obtain ⟨m, l, rfl, rfl, hm, hl, he, hbr⟩ := hrel
    by_cases h0 : 0 < m
    · have hd := decN_len3 (m % 1000) (by omega)
      have hp := decN_pos (m % 1000)
      have D := hid (decimal3 (m % 1000) (by omega))
      have hs := hid (show thrI m l = thrI (m / 1000) (120 :: (pad3 (m % 1000) ++ 47 :: l)) by rw [thrI, if_neg (by omega)])
      go_wp2_with fail
      refine (D.out _).mono ?_
      rintro e w1 ⟨rfl, hb1⟩
      go_wp2_with fail
      refine (repeat0 _ (by omega) (by omega) _).mono ?_
      rintro e w2 ⟨rfl, rfl⟩
      go_wp2
      go_roundw
      case rel => exact ⟨m / 1000, _, by congr 1, rfl, by omega, by simp; omega, by unfold Hid; rw [← he.out, hs.out]; simp [pad3], hbr.trans (hb1.mono hbr.size)⟩
      case measure => simp [intOf]; omega
    · have hz : m = 0 := by omega
      subst hz
      go_wp2
      go_ret
      exact ⟨by rw [← he.out, thrI, if_pos rfl]; rfl, hbr⟩
end Go.Proofs.YtecekflooihkoaaGreatDoor
