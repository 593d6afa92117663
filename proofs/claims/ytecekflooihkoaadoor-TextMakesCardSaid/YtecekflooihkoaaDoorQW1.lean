/- Walks of package text: named, nibble; of pantileref07: digit. -/
import Derived.Test.YtecekflooihkoaaDoorQLib
set_option linter.unusedVariables false
set_option linter.unusedSimpArgs false
set_option maxHeartbeats 1600000
set_option maxRecDepth 100000
namespace Go.Proofs.YtecekflooihkoaaDoor
open Go.RowKit

theorem nameB_not {l : List UInt8} {k : Nat} (h : k < l.length) (hs : nameC l[k] = false) : nameB l = false := by
  unfold nameB
  have : l.all nameC = false := by
    rw [List.all_eq_false]
    exact ⟨l[k], List.getElem_mem h, by simp [hs]⟩
  rw [this]; rfl
theorem text_named (l : List UInt8) (hl : l.length ≤ 1000000) (w : World) : Calls Tryd.prog 38 #[.string (S l)] w fun e w' => e = .returned (.bool (nameB l)) ∧ w' = w := by
  go_enter Tryd.func38, Tryd.ntmps38
  go_wp2
  go_loopw [7, 3, 4] (fun i _ _ wr => ∃ k : Nat, k ≤ l.length ∧ i = .int .i64 k ∧ Hid (∀ j, (h : j < l.length) → j < k → nameC l[j] = true) ∧ wr = w) (fun i _ _ _ => l.length - (intOf i).toNat)
  case atStart => exact ⟨0, Nat.zero_le _, rfl, fun j _ h => absurd h (by omega), rfl⟩
  case round =>
    obtain ⟨k, hk, rfl, hlow, rfl⟩ := hrel
    by_cases h : k < l.length
    · have hc := l[k].toNat_lt
      have hc' : (l[k].toNat : Int) < 256 := by omega
      cases hs : nameC l[k] with
      | true =>
        have hlow' := hid (show ∀ j, (h : j < l.length) → j < k + 1 → nameC l[j] = true from fun j hj hjk => by
          rcases Nat.lt_or_ge j k with h1 | h1
          · exact hlow.out j hj h1
          · obtain rfl : j = k := by omega
            exact hs)
        have hx : (97 ≤ l[k].toNat ∧ l[k].toNat ≤ 122) ∨ l[k].toNat = 95 := by
          simp [nameC] at hs
          omega
        clear hs hlow
        rcases hx with ⟨a1, a2⟩ | hx
        · have b1 : (97 : Int) ≤ l[k].toNat := by omega
          have b2 : (l[k].toNat : Int) ≤ 122 := by omega
          go_wp2
          go_roundw
          case rel => exact ⟨k + 1, by omega, by go_num, hlow', by first | rfl | trivial⟩
          case measure => simp [intOf]; omega
        · have y : ((l[k].toNat : Int) != 95) = false := by simp; omega
          have y2 : (l[k].toNat : Int) < 97 := by omega
          clear hx
          go_wp2
          go_roundw
          case rel => exact ⟨k + 1, by omega, by go_num, hlow', by first | rfl | trivial⟩
          case measure => simp [intOf]; omega
      | false =>
        have H := hid (nameB_not h hs)
        have hx : ¬ (97 ≤ l[k].toNat ∧ l[k].toNat ≤ 122) ∧ l[k].toNat ≠ 95 := by
          simp [nameC] at hs
          omega
        clear hs hlow
        obtain ⟨x1, x6⟩ := hx
        have y6 : ((l[k].toNat : Int) != 95) = true := by simp; omega
        by_cases z2 : (l[k].toNat : Int) < 97
        · clear x1 x6
          go_wp2
          go_ret
          exact ⟨by rw [H.out]; rfl, rfl⟩
        · have z3 : (122 : Int) < l[k].toNat := by omega
          clear x1 x6
          go_wp2
          go_ret
          exact ⟨by rw [H.out]; rfl, rfl⟩
    · have hk' : k = l.length := by omega
      subst hk'
      have hall : l.all nameC = true := by
        rw [List.all_eq_true]
        intro x hx
        obtain ⟨j, hj, rfl⟩ := List.mem_iff_getElem.1 hx
        exact hlow.out j hj hj
      by_cases h1 : 1 ≤ l.length
      · have H := hid (show nameB l = decide ((l.length : Int) ≤ 20) by
          unfold nameB; rw [hall, show decide (1 ≤ l.length) = true from decide_eq_true h1]; rw [Bool.true_and, Bool.true_and, Bool.eq_iff_iff, decide_eq_true_eq, decide_eq_true_eq]; omega)
        have hne1 : l.isEmpty = false := by cases l with | nil => simp at h1 | cons => rfl
        have hne2 : (!l.isEmpty) = true := by rw [hne1]; rfl
        clear hall hlow
        go_wp2
        go_ret
        exact ⟨by rw [H.out]; rfl, rfl⟩
      · have H := hid (show nameB l = false by unfold nameB; simp [h1])
        have hnil : l = [] := List.eq_nil_of_length_eq_zero (by omega)
        clear hall hlow
        subst hnil
        go_wp2
        go_ret
        exact ⟨by rw [H.out]; rfl, rfl⟩

def hexL : List UInt8 := [48, 49, 50, 51, 52, 53, 54, 55, 56, 57, 97, 98, 99, 100, 101, 102]
theorem hex_all : ∀ n : Nat, n < 256 → Lib.indexByte hexL (if 65 ≤ n ∧ n ≤ 70 then n + 32 else n).toUInt8 = nibI n.toUInt8 := by decide +kernel
theorem hex_low (c : UInt8) (h : ¬ (65 ≤ c.toNat ∧ c.toNat ≤ 70)) : Lib.indexByte hexL ((c.toNat : Int)).toNat.toUInt8 = nibI c := by
  have := hex_all c.toNat c.toNat_lt
  rw [if_neg h] at this
  rw [Int.toNat_natCast, this]
  congr 1
  simp
theorem hex_up (c : UInt8) (h : 65 ≤ c.toNat ∧ c.toNat ≤ 70) : Lib.indexByte hexL ((c.toNat : Int) + 32).toNat.toUInt8 = nibI c := by
  have := hex_all c.toNat c.toNat_lt
  rw [if_pos h] at this
  rw [show ((c.toNat : Int) + 32).toNat = c.toNat + 32 by omega, this]
  congr 1
  simp
theorem text_nibble (c : UInt8) (w : World) : Calls Tryd.prog 80 #[.int .u8 c.toNat] w fun e w' => e = .returned (.int .i64 (nibI c)) ∧ w' = w := by
  have hc := c.toNat_lt
  have hc' : (c.toNat : Int) < 256 := by omega
  by_cases h : 65 ≤ c.toNat ∧ c.toNat ≤ 70
  · have H := hid (hex_up c h)
    have b1 : (65 : Int) ≤ c.toNat := by omega
    have b2 : (c.toNat : Int) ≤ 70 := by omega
    clear h
    go_enter Tryd.func80, Tryd.ntmps80
    go_wp2_with fail
    refine (str_IndexByte hexL _ _).mono ?_
    rintro e w' ⟨rfl, rfl⟩
    rw [H.out]
    go_wp2
    go_ret
    exact ⟨rfl, rfl⟩
  · have H := hid (hex_low c h)
    by_cases h1 : (c.toNat : Int) < 65
    · clear h
      go_enter Tryd.func80, Tryd.ntmps80
      go_wp2_with fail
      refine (str_IndexByte hexL _ _).mono ?_
      rintro e w' ⟨rfl, rfl⟩
      rw [H.out]
      go_wp2
      go_ret
      exact ⟨rfl, rfl⟩
    · have h2 : (70 : Int) < c.toNat := by omega
      clear h
      go_enter Tryd.func80, Tryd.ntmps80
      go_wp2_with fail
      refine (str_IndexByte hexL _ _).mono ?_
      rintro e w' ⟨rfl, rfl⟩
      rw [H.out]
      go_wp2
      go_ret
      exact ⟨rfl, rfl⟩

theorem ref_digit (c : UInt8) (w : World) : Calls Tryd.prog 83 #[.int .u8 c.toNat] w fun e w' => e = .returned (.int .i64 (nibI c)) ∧ w' = w := by
  have hc := c.toNat_lt
  have hc' : (c.toNat : Int) < 256 := by omega
  by_cases h1 : 48 ≤ c.toNat ∧ c.toNat ≤ 57
  · have H := hid (show nibI c = (c.toNat : Int) - 48 by unfold nibI; rw [if_pos h1])
    have b1 : (48 : Int) ≤ c.toNat := by omega
    have b2 : (c.toNat : Int) ≤ 57 := by omega
    clear h1
    go_enter Tryd.func83, Tryd.ntmps83
    go_wp2
    go_ret
    exact ⟨by rw [H.out]; rfl, rfl⟩
  · by_cases h2 : 97 ≤ c.toNat ∧ c.toNat ≤ 102
    · have H := hid (show nibI c = (c.toNat : Int) - 97 + 10 by unfold nibI; rw [if_neg h1, if_pos h2]; omega)
      have b1 : (97 : Int) ≤ c.toNat := by omega
      have b2 : (c.toNat : Int) ≤ 102 := by omega
      clear h1 h2
      go_enter Tryd.func83, Tryd.ntmps83
      go_wp2
      go_ret
      exact ⟨by rw [H.out]; first | rfl | go_num, rfl⟩
    · by_cases h3 : 65 ≤ c.toNat ∧ c.toNat ≤ 70
      · have H := hid (show nibI c = (c.toNat : Int) - 65 + 10 by unfold nibI; rw [if_neg h1, if_neg h2, if_pos h3]; omega)
        have b1 : (65 : Int) ≤ c.toNat := by omega
        have b2 : (c.toNat : Int) ≤ 70 := by omega
        clear h1 h2 h3
        go_enter Tryd.func83, Tryd.ntmps83
        go_wp2
        go_ret
        exact ⟨by rw [H.out]; first | rfl | go_num, rfl⟩
      · have H := hid (show nibI c = -1 by unfold nibI; rw [if_neg h1, if_neg h2, if_neg h3])
        have g1 : decide ((48 : Int) ≤ c.toNat) = true ∧ decide ((c.toNat : Int) ≤ 57) = false ∨ decide ((48 : Int) ≤ c.toNat) = false := by simp; omega
        by_cases k1 : (c.toNat : Int) < 48
        · clear h1 h2 h3 g1
          go_enter Tryd.func83, Tryd.ntmps83
          go_wp2
          go_ret
          exact ⟨by rw [H.out]; rfl, rfl⟩
        · have k2 : (57 : Int) < c.toNat := by omega
          by_cases k3 : (c.toNat : Int) < 65
          · clear h1 h2 h3 g1
            go_enter Tryd.func83, Tryd.ntmps83
            go_wp2
            go_ret
            exact ⟨by rw [H.out]; rfl, rfl⟩
          · have k4 : (70 : Int) < c.toNat := by omega
            by_cases k5 : (c.toNat : Int) < 97
            · clear h1 h2 h3 g1
              go_enter Tryd.func83, Tryd.ntmps83
              go_wp2
              go_ret
              exact ⟨by rw [H.out]; rfl, rfl⟩
            · have k6 : (102 : Int) < c.toNat := by omega
              clear h1 h2 h3 g1
              go_enter Tryd.func83, Tryd.ntmps83
              go_wp2
              go_ret
              exact ⟨by rw [H.out]; rfl, rfl⟩
end Go.Proofs.YtecekflooihkoaaDoor
