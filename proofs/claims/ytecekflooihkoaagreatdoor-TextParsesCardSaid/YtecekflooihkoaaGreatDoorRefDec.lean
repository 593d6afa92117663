/- Walks of package pantileref07: Decimal, Number. -/
import Derived.Test.YtecekflooihkoaaGreatDoorText
import Derived.Test.YtecekflooihkoaaGreatDoorPlain
set_option linter.unusedVariables false
set_option linter.unusedSimpArgs false
set_option maxHeartbeats 800000
set_option maxRecDepth 100000
namespace Go.Proofs.YtecekflooihkoaaGreatDoor
open Go.RowKit

theorem ref07_Decimal_nat (d : Nat) : ∀ (n : Nat) (w : World), n ≤ d → n ≤ 9223372036854775807 → Calls Tryz.prog 34 #[.int .i64 n] w fun e w' => e = .returned (.string (S (decN n))) ∧ Below w.heap.size w w' := by
  induction d with
  | zero =>
    intro n w hd hn
    have kc := run_string_one (P := Tryz.prog) w 81 5 9 5 (by kernel_rfl) (by kernel_rfl) (by kernel_rfl) (48 + (n : Int) % 10) (by omega) (by omega)
    have H := hid (decN_small (n := n) (by omega))
    have h9 : n ≤ 9 := by omega
    rw [decN_digit] at kc
    have H1 := hid (show n % 10 = n by omega)
    go_enter Tryz.func34, Tryz.ntmps34
    go_wp2
    go_ret
    exact ⟨by rw [H.out, H1.out]; rfl, (Below.refl _ _).alloc (Nat.le_refl _) _⟩
  | succ d ih =>
    intro n w hd hn
    have kc := run_string_one (P := Tryz.prog) w 81 5 9 5 (by kernel_rfl) (by kernel_rfl) (by kernel_rfl) (48 + (n : Int) % 10) (by omega) (by omega)
    rw [decN_digit] at kc
    by_cases h9 : 9 < n
    · have H := hid (decN_big (n := n) (by omega))
      have hl := decN_len19 (n / 10) (by omega)
      have hl' : ((decN (n / 10)).length : Int) ≤ 19 := by omega
      have IH := hid (ih (n / 10))
      clear ih
      go_enter Tryz.func34, Tryz.ntmps34
      go_wp2_with fail
      refine (IH.out _ (by omega) (by omega)).mono ?_
      rintro e w1 ⟨rfl, hb⟩
      go_wp2
      go_ret
      exact ⟨by rw [H.out]; rfl, ((Below.refl _ _).alloc (Nat.le_refl _) _).trans (hb.mono (by simp))⟩
    · have H := hid (decN_small (n := n) (by omega))
      have H1 := hid (show n % 10 = n by omega)
      clear ih
      go_enter Tryz.func34, Tryz.ntmps34
      go_wp2
      go_ret
      exact ⟨by rw [H.out, H1.out]; rfl, (Below.refl _ _).alloc (Nat.le_refl _) _⟩

theorem dec_min : decN 9223372036854775808 = [57, 50, 50, 51, 51, 55, 50, 48, 51, 54, 56, 53, 52, 55, 55, 53, 56, 48, 56] := by
  simp [decN, dig]

theorem ref07_Decimal (n : Int) (w : World) (h0 : -9223372036854775808 ≤ n) (h1 : n ≤ 9223372036854775807) : Calls Tryz.prog 34 #[.int .i64 n] w fun e w' => e = .returned (.string (S (decI n))) ∧ Below w.heap.size w w' := by
  by_cases hn : n < 0
  · by_cases hm : n = -9223372036854775808
    · have H := hid (show decI n = 45 :: decN 9223372036854775808 by rw [hm]; rfl)
      have hm' : (n == -9223372036854775808) = true := by simpa using hm
      clear hm
      go_enter Tryz.func34, Tryz.ntmps34
      go_wp2
      go_ret
      exact ⟨by rw [H.out, dec_min]; rfl, Below.refl _ _⟩
    · have hm' : (n == -9223372036854775808) = false := by simpa using hm
      have hl := decN_len19 (-n).toNat (by omega)
      have H := hid (show decI n = 45 :: decN (-n).toNat by rw [decI, if_pos hn]; congr 2; omega)
      have e1 := hid (show ((-n).toNat : Int) = -n by omega)
      have hc := hid (ref07_Decimal_nat (-n).toNat (-n).toNat)
      rw [e1.out] at hc
      have hb0 : -9223372036854775807 ≤ n := by omega
      clear hm
      go_enter Tryz.func34, Tryz.ntmps34
      go_wp2_with fail
      refine (hc.out _ (Nat.le_refl _) (by omega)).mono ?_
      rintro e w1 ⟨rfl, hb⟩
      go_wp2
      go_ret
      exact ⟨by rw [H.out]; rfl, hb⟩
  · obtain ⟨u, rfl⟩ := Int.eq_ofNat_of_zero_le (show 0 ≤ n by omega)
    have H : decI (u : Int) = decN u := by rw [decI, if_neg hn]; rfl
    rw [H]
    exact ref07_Decimal_nat u u w (Nat.le_refl _) (by omega)
end Go.Proofs.YtecekflooihkoaaGreatDoor
