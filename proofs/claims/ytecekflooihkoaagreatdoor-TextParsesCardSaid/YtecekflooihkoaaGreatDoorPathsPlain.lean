/- A tile's path by its digits in threes, plainly: the same. No program is named here. -/
import Derived.Test.YtecekflooihkoaaGreatDoorTiles
set_option linter.unusedVariables false
set_option linter.unusedSimpArgs false
namespace Go.Proofs.YtecekflooihkoaaGreatDoor
open Go.RowKit

/-- Zeros ahead, till the length goes by three. -/
def padM (l : List UInt8) : List UInt8 := List.replicate ((3 - l.length % 3) % 3) 48 ++ l
theorem padM_len (l : List UInt8) : (padM l).length % 3 = 0 := by
  unfold padM
  rw [List.length_append, List.length_replicate]
  omega
theorem padM_self {l : List UInt8} (h : l.length % 3 = 0) : padM l = l := by
  unfold padM
  rw [h]
  rfl
theorem padM_zero {l : List UInt8} (h : l.length % 3 ≠ 0) : padM (48 :: l) = padM l := by
  unfold padM
  rw [List.length_cons]
  have : (3 - l.length % 3) % 3 = (3 - (l.length + 1) % 3) % 3 + 1 := by omega
  rw [this, List.replicate_succ']
  simp
/-- The groups but the last, and the last. -/
def grpX (l : List UInt8) : List UInt8 := if l = [] then [] else 47 :: 120 :: (l.take 3 ++ grpX (l.drop 3))
termination_by l.length
decreasing_by
  rename_i h
  have := List.length_pos_iff.2 h
  simp; omega
theorem grpX_nil : grpX [] = [] := by rw [grpX, if_pos rfl]
theorem grpX_pos {l : List UInt8} (h : l ≠ []) : grpX l = 47 :: 120 :: (l.take 3 ++ grpX (l.drop 3)) := by
  conv => lhs; unfold grpX
  rw [if_neg h]
theorem grpX_app (k : Nat) : ∀ u v : List UInt8, u.length = 3 * k → grpX (u ++ v) = grpX u ++ grpX v := by
  induction k with
  | zero =>
    intro u v h
    obtain rfl : u = [] := List.eq_nil_of_length_eq_zero (by omega)
    rw [grpX_nil]; rfl
  | succ k ih =>
    intro u v h
    have hu : u ≠ [] := by rintro rfl; simp at h
    have huv : u ++ v ≠ [] := by simp [hu]
    rw [grpX_pos huv, grpX_pos hu]
    have e1 : (u ++ v).take 3 = u.take 3 := List.take_append_of_le_length (by omega)
    have e2 : (u ++ v).drop 3 = u.drop 3 ++ v := List.drop_append_of_le_length (by omega)
    rw [e1, e2, ih _ _ (by simp; omega)]
    simp
theorem pad3_digs (r : Nat) (h : r < 1000) : pad3 r = [dig (r / 100), dig (r / 10 % 10), dig (r % 10)] := by
  unfold pad3
  by_cases h1 : r < 10
  · rw [decN_small h1]
    have e1 : r / 100 = 0 := by omega
    have e2 : r / 10 % 10 = 0 := by omega
    have e3 : r % 10 = r := by omega
    rw [e1, e2, e3]
    rfl
  · by_cases h2 : r < 100
    · rw [decN_big (by omega), decN_small (by omega)]
      have e1 : r / 100 = 0 := by omega
      have e2 : r / 10 % 10 = r / 10 := by omega
      rw [e1, e2]
      rfl
    · rw [decN_big (by omega), decN_big (by omega), decN_small (by omega)]
      have e1 : r / 10 / 10 = r / 100 := by omega
      rw [e1]
      rfl
theorem decN_thousand {n : Nat} (h : 1000 ≤ n) : decN n = decN (n / 1000) ++ pad3 (n % 1000) := by
  rw [pad3_digs _ (by omega), decN_big (by omega), decN_big (n := n / 10) (by omega), decN_big (n := n / 10 / 10) (by omega)]
  have e1 : n / 10 / 10 / 10 = n / 1000 := by omega
  have e2 : n / 10 / 10 % 10 = n % 1000 / 100 := by omega
  have e3 : n / 10 % 10 = n % 1000 / 10 % 10 := by omega
  have e4 : n % 10 = n % 1000 % 10 := by omega
  rw [e1, e2, e3, e4]
  simp
theorem padM_small {n : Nat} (h : n < 1000) : padM (decN n) = pad3 n := by
  have h1 := decN_len3 n h
  have h2 := decN_pos n
  unfold padM pad3
  have : (3 - (decN n).length % 3) % 3 = 3 - (decN n).length := by omega
  rw [this]
theorem padM_big {n : Nat} (h : 1000 ≤ n) : padM (decN n) = padM (decN (n / 1000)) ++ pad3 (n % 1000) := by
  have hl := pad3_len (n % 1000) (by omega)
  rw [decN_thousand h]
  unfold padM
  rw [List.length_append, hl]
  have : (3 - ((decN (n / 1000)).length + 3) % 3) % 3 = (3 - (decN (n / 1000)).length % 3) % 3 := by omega
  rw [this, List.append_assoc]
theorem thr_grp (m : Nat) : ∀ s : List UInt8, m ≠ 0 → 47 :: thrI m s = grpX (padM (decN m)) ++ 47 :: s := by
  induction m using Nat.strongRecOn with
  | _ m ih =>
    intro s h0
    rw [thrI, if_neg h0]
    have hg : ∀ r, r < 1000 → grpX (pad3 r) = 47 :: 120 :: pad3 r := by
      intro r hr
      have hl := pad3_len r hr
      have hne : pad3 r ≠ [] := by intro e; rw [e] at hl; simp at hl
      rw [grpX_pos hne, List.take_of_length_le (by omega), List.drop_of_length_le (by omega), grpX_nil, List.append_nil]
    by_cases h : m < 1000
    · have e1 : m / 1000 = 0 := by omega
      have e2 : m % 1000 = m := by omega
      rw [e1, e2, thrI, if_pos rfl, padM_small h, hg m h]
      simp
    · rw [ih (m / 1000) (by omega) _ (by omega), padM_big (n := m) (by omega)]
      have hk := padM_len (decN (m / 1000))
      rw [grpX_app ((padM (decN (m / 1000))).length / 3) _ _ (by omega), hg _ (by omega)]
      simp
/-- What stands behind the level: all groups but the last bear an x. -/
def grpS (l : List UInt8) : List UInt8 := grpX (l.take (l.length - 3)) ++ 47 :: l.drop (l.length - 3)
theorem grpS_threes (n : Nat) : grpS (padM (decN n)) = 47 :: threesS n := by
  have hr := pad3_len (n % 1000) (by omega)
  unfold grpS threesS
  by_cases h : n < 1000
  · have e1 : n / 1000 = 0 := by omega
    have e2 : n % 1000 = n := by omega
    rw [e2] at hr
    rw [padM_small h, e1, thrI, if_pos rfl, e2, hr, Nat.sub_self, List.take_zero, grpX_nil]
    rfl
  · rw [padM_big (n := n) (by omega), thr_grp _ _ (by omega)]
    have hl : (padM (decN (n / 1000)) ++ pad3 (n % 1000)).length - 3 = (padM (decN (n / 1000))).length := by
      rw [List.length_append, hr]; omega
    rw [hl, List.take_left, List.drop_left]
end Go.Proofs.YtecekflooihkoaaGreatDoor
