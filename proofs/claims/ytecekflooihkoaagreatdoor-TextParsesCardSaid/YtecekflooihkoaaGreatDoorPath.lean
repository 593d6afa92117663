/- Walks of package text: Path. -/
import Derived.Test.YtecekflooihkoaaGreatDoorThrees
set_option linter.unusedVariables false
set_option linter.unusedSimpArgs false
set_option maxHeartbeats 800000
set_option maxRecDepth 100000
namespace Go.Proofs.YtecekflooihkoaaGreatDoor
open Go.RowKit

def PathPost (a b c : Int) (w : World) (e : Ending) (w' : World) : Prop := e = .returned (.tuple #[.string (S (pathS a b c)), .int .i64 (pathE a b c)]) ∧ Below w.heap.size w w'
theorem path_no {a b c : Int} {w w' : World} (h : isTile a b c = false) (hb : Below w.heap.size w w') : PathPost a b c w (.returned (.tuple #[.string (S []), .int .i64 1])) w' := by
  unfold PathPost; simp [pathS, pathE, h]; exact hb
theorem path_yes {a b c : Int} {w w' : World} (h : isTile a b c = true) (hb : Below w.heap.size w w') {l : List UInt8} (hl : l = pathT a b c) : PathPost a b c w (.returned (.tuple #[.string (S l), .int .i64 0])) w' := by
  unfold PathPost; simp [pathS, pathE, h, hl]; exact hb

theorem text_Path_yes (a b c : Int) (w : World) (h1 : -1 ≤ a) (h2 : a ≤ 63) (h3 : 0 ≤ b) (h4 : b ≤ 9007199254740992) (h5 : 1 ≤ c) (h6 : c ≤ 256) :
    Calls Tryz.prog 8 #[.agg #[.int .i64 a, .int .i64 b, .int .i64 c]] w (PathPost a b c w) := by
  have hT : isTile a b c = true := by unfold isTile; simp; omega
  obtain ⟨n, rfl⟩ := Int.eq_ofNat_of_zero_le h3
  have hl := threesS_len n (by omega)
  have HT := hid hT
  clear hT
  have b0 : Below w.heap.size w (w.alloc (.cells #[.int .i64 a, .int .i64 n, .int .i64 c] 23)) := (Below.refl _ _).alloc (Nat.le_refl _) _
  have hcell : (w.alloc (.cells #[.int .i64 a, .int .i64 n, .int .i64 c] 23)).cell? ⟨w.heap.size, 2, none⟩ = some (.int .i64 c) := (Blk.new _ _ _).cell 2
  have hcell1 : (w.alloc (.cells #[.int .i64 a, .int .i64 n, .int .i64 c] 23)).cell? ⟨w.heap.size, 1, none⟩ = some (.int .i64 n) := (Blk.new _ _ _).cell 1
  have dl := decI_len a (by omega) (by omega)
  have dc := decI_len c (by omega) (by omega)
  by_cases ha : a < 0
  · have hL : Hid (levelS a = [101, 110, 116, 114, 105, 101, 115]) := by unfold Hid; rw [levelS, if_pos ha]
    by_cases hc : c < 256
    · have hW := hid (show widthS c = [46, 112, 47] ++ decI c by rw [widthS, if_pos hc])
      go_enter Tryz.func8, Tryz.ntmps8
      go_wp2_with fail
      refine (text_threes n (by omega) _).mono ?_
      rintro e w1 ⟨rfl, hb1⟩
      have hc2 := (hb1.cell (p := ⟨w.heap.size, 2, none⟩) (by simp)).trans hcell
      have b2 := b0.trans (hb1.mono (by simp))
      go_wp2_with fail
      refine (text_Decimal c _ (by omega) (by omega)).mono ?_
      rintro e w3 ⟨rfl, hb3⟩
      have b3 := b2.trans (hb3.mono b2.size)
      go_wp2
      go_ret2
      exact path_yes HT.out b3 (by rw [pathT, hL.out, hW.out]; simp)
    · have hW := hid (show widthS c = [] by rw [widthS, if_neg hc])
      go_enter Tryz.func8, Tryz.ntmps8
      go_wp2_with fail
      refine (text_threes n (by omega) _).mono ?_
      rintro e w1 ⟨rfl, hb1⟩
      have hc2 := (hb1.cell (p := ⟨w.heap.size, 2, none⟩) (by simp)).trans hcell
      have b2 := b0.trans (hb1.mono (by simp))
      go_wp2
      go_ret2
      exact path_yes HT.out b2 (by rw [pathT, hL.out, hW.out]; simp)
  · have hL : Hid (levelS a = decI a) := by unfold Hid; rw [levelS, if_neg ha]
    have dn : (decI a).length ≤ 20 := dl
    by_cases hc : c < 256
    · have hW := hid (show widthS c = [46, 112, 47] ++ decI c by rw [widthS, if_pos hc])
      go_enter Tryz.func8, Tryz.ntmps8
      go_wp2_with fail
      refine (text_Decimal a _ (by omega) (by omega)).mono ?_
      rintro e w0 ⟨rfl, hb0⟩
      have hc1 := (hb0.cell (p := ⟨w.heap.size, 1, none⟩) (by simp)).trans hcell1
      have hc0 := (hb0.cell (p := ⟨w.heap.size, 2, none⟩) (by simp)).trans hcell
      have hz0 : w.heap.size + 1 ≤ w0.heap.size := by have := hb0.size; simp at this; omega
      have b1 := b0.trans (hb0.mono (by simp))
      go_wp2_with fail
      refine (text_threes n (by omega) _).mono ?_
      rintro e w1 ⟨rfl, hb1⟩
      have hc2 := (hb1.cell (p := ⟨w.heap.size, 2, none⟩) (by simp; omega)).trans hc0
      have b2 := b1.trans (hb1.mono (by omega))
      go_wp2_with fail
      refine (text_Decimal c _ (by omega) (by omega)).mono ?_
      rintro e w3 ⟨rfl, hb3⟩
      have b3 := b2.trans (hb3.mono b2.size)
      go_wp2
      go_ret2
      exact path_yes HT.out b3 (by rw [pathT, hL.out, hW.out]; simp)
    · have hW := hid (show widthS c = [] by rw [widthS, if_neg hc])
      go_enter Tryz.func8, Tryz.ntmps8
      go_wp2_with fail
      refine (text_Decimal a _ (by omega) (by omega)).mono ?_
      rintro e w0 ⟨rfl, hb0⟩
      have hc1 := (hb0.cell (p := ⟨w.heap.size, 1, none⟩) (by simp)).trans hcell1
      have hc0 := (hb0.cell (p := ⟨w.heap.size, 2, none⟩) (by simp)).trans hcell
      have hz0 : w.heap.size + 1 ≤ w0.heap.size := by have := hb0.size; simp at this; omega
      have b1 := b0.trans (hb0.mono (by simp))
      go_wp2_with fail
      refine (text_threes n (by omega) _).mono ?_
      rintro e w1 ⟨rfl, hb1⟩
      have hc2 := (hb1.cell (p := ⟨w.heap.size, 2, none⟩) (by simp; omega)).trans hc0
      have b2 := b1.trans (hb1.mono (by omega))
      go_wp2
      go_ret2
      exact path_yes HT.out b2 (by rw [pathT, hL.out, hW.out]; simp)

theorem text_Path (a b c : Int) (w : World) (ha : -9223372036854775808 ≤ a ∧ a ≤ 9223372036854775807) (hb : -9223372036854775808 ≤ b ∧ b ≤ 9223372036854775807) (hc : -9223372036854775808 ≤ c ∧ c ≤ 9223372036854775807) :
    Calls Tryz.prog 8 #[.agg #[.int .i64 a, .int .i64 b, .int .i64 c]] w (PathPost a b c w) := by
  by_cases h1 : a < -1
  · have H := hid (path_no (a := a) (b := b) (c := c) (w := w) (by unfold isTile; simp; omega) ((Below.refl _ _).alloc (Nat.le_refl _) (.cells #[.int .i64 a, .int .i64 b, .int .i64 c] 23)))
    go_enter Tryz.func8, Tryz.ntmps8
    go_wp2
    go_ret2
    exact H.out
  by_cases h2 : 63 < a
  · have H := hid (path_no (a := a) (b := b) (c := c) (w := w) (by unfold isTile; simp; omega) ((Below.refl _ _).alloc (Nat.le_refl _) (.cells #[.int .i64 a, .int .i64 b, .int .i64 c] 23)))
    go_enter Tryz.func8, Tryz.ntmps8
    go_wp2
    go_ret2
    exact H.out
  by_cases h3 : b < 0
  · have H := hid (path_no (a := a) (b := b) (c := c) (w := w) (by unfold isTile; simp; omega) ((Below.refl _ _).alloc (Nat.le_refl _) (.cells #[.int .i64 a, .int .i64 b, .int .i64 c] 23)))
    go_enter Tryz.func8, Tryz.ntmps8
    go_wp2
    go_ret2
    exact H.out
  by_cases h4 : 9007199254740992 < b
  · have H := hid (path_no (a := a) (b := b) (c := c) (w := w) (by unfold isTile; simp; omega) ((Below.refl _ _).alloc (Nat.le_refl _) (.cells #[.int .i64 a, .int .i64 b, .int .i64 c] 23)))
    go_enter Tryz.func8, Tryz.ntmps8
    go_wp2
    go_ret2
    exact H.out
  by_cases h5 : c < 1
  · have H := hid (path_no (a := a) (b := b) (c := c) (w := w) (by unfold isTile; simp; omega) ((Below.refl _ _).alloc (Nat.le_refl _) (.cells #[.int .i64 a, .int .i64 b, .int .i64 c] 23)))
    go_enter Tryz.func8, Tryz.ntmps8
    go_wp2
    go_ret2
    exact H.out
  by_cases h6 : 256 < c
  · have H := hid (path_no (a := a) (b := b) (c := c) (w := w) (by unfold isTile; simp; omega) ((Below.refl _ _).alloc (Nat.le_refl _) (.cells #[.int .i64 a, .int .i64 b, .int .i64 c] 23)))
    go_enter Tryz.func8, Tryz.ntmps8
    go_wp2
    go_ret2
    exact H.out
  exact text_Path_yes a b c w (by omega) (by omega) (by omega) (by omega) (by omega) (by omega)
end Go.Proofs.YtecekflooihkoaaGreatDoor
