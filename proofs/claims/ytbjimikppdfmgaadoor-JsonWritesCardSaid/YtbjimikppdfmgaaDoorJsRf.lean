/- Walks of package pantileref06: few, text, Digits, Quote. -/
import Derived.Test.YtbjimikppdfmgaaDoorJsL
set_option linter.unusedVariables false
set_option linter.unusedSimpArgs false
set_option maxHeartbeats 8000000
set_option maxRecDepth 100000
namespace Go.Proofs.YtbjimikppdfmgaaDoor
open Go.RowKit

theorem ref06_few (s : List UInt8) (hs : (s.length : Int) ≤ 9223372036854775807) (W : World) : Calls Tryd.prog 52 #[.string (S s)] W fun e w' => e = .returned (.string (S (s.take 50))) ∧ w' = W := by
  by_cases h : s.length ≤ 50
  · have h1 : ¬ (50 : Int) < s.length := by omega
    have H := hid (show s.take 50 = s from List.take_of_length_le h)
    go_enter Tryd.func52, Tryd.ntmps52
    go_wp2
    go_ret
    exact ⟨by rw [H.out]; rfl, rfl⟩
  · have h1 : (50 : Int) < s.length := by omega
    have h2 : (50 : Int) ≤ s.length := by omega
    have h3 : (s.drop 0).take (50 - 0) = s.take 50 := by simp
    go_enter Tryd.func52, Tryd.ntmps52
    go_wp2
    go_ret
    exact ⟨by simp, rfl⟩
theorem ref06_text (s : List UInt8) (hl : s.length ≤ 1000000) (W : World) : Calls Tryd.prog 55 #[.string (S s)] W fun e w' => e = .returned (.bool (!oddP s)) ∧ w' = W := by
  go_enter Tryd.func55, Tryd.ntmps55
  go_wp2
  go_loop [3] (fun i => ∃ k : Nat, k ≤ s.length ∧ i = .int .i64 k ∧ Hid (∀ j, (hj : j < s.length) → j < k → ¬ (s[j].toNat < 32 ∨ 126 < s[j].toNat))) (fun i => s.length - (intOf i).toNat)
  case atStart => exact ⟨0, Nat.zero_le _, rfl, fun j _ h => absurd h (by omega)⟩
  case round =>
    obtain ⟨k, hk, rfl, hd⟩ := hrel
    by_cases hlt : k < s.length
    · have ODD := hid (show (s[k].toNat < 32 ∨ 126 < s[k].toNat) → oddP s = true from fun h => List.any_eq_true.2 ⟨s[k], List.getElem_mem hlt, by simpa using h⟩)
      by_cases h1 : s[k].toNat < 32
      · have h1' : (s[k].toNat : Int) < 32 := by omega
        have O := hid (ODD.out (.inl h1))
        clear ODD hd
        go_wp2
        go_ret
        exact ⟨by rw [O.out]; rfl, rfl⟩
      · by_cases h2 : 126 < s[k].toNat
        · have h1' : ¬ (s[k].toNat : Int) < 32 := by omega
          have h2' : (126 : Int) < s[k].toNat := by omega
          have O := hid (ODD.out (.inr h2))
          clear ODD hd
          go_wp2
          go_ret
          exact ⟨by rw [O.out]; rfl, rfl⟩
        · have h1' : ¬ (s[k].toNat : Int) < 32 := by omega
          have h2' : ¬ (126 : Int) < s[k].toNat := by omega
          have hdd := hid (show ∀ j, (hj : j < s.length) → j < k + 1 → ¬ (s[j].toNat < 32 ∨ 126 < s[j].toNat) from fun j hj hjk => by
            rcases Nat.lt_or_ge j k with h3 | h3
            · exact hd.out j hj h3
            · obtain rfl : j = k := by omega
              omega)
          clear ODD hd
          go_wp2
          go_round
          case rel => exact ⟨k + 1, by omega, by go_num, hdd⟩
          case measure => simp [intOf]; omega
    · obtain rfl : k = s.length := by omega
      have O := hid (show oddP s = false from List.any_eq_false.2 fun x hx => by
        obtain ⟨i, hi, rfl⟩ := List.mem_iff_getElem.1 hx
        have := hd.out i hi hi
        simpa using this)
      clear hd
      go_wp2
      go_ret
      exact ⟨by rw [O.out]; rfl, rfl⟩
theorem decN_itoa : ∀ (d n : Nat), n ≤ d → decN n = Lib.decDigits n
  | 0, n, h => by
    obtain rfl : n = 0 := by omega
    rw [decN_small (by decide), Lib.decDigits_one (by decide)]; rfl
  | d + 1, n, h => by
    by_cases h10 : n < 10
    · rw [decN_small h10, Lib.decDigits_one h10]; rfl
    · rw [decN_big (by omega), Lib.decDigits, dif_neg h10, decN_itoa d (n / 10) (by omega)]; rfl
theorem ref06_Digits_nat (d : Nat) : ∀ (n : Nat) (w : World), n ≤ d → n ≤ 9223372036854775807 → Calls Tryd.prog 57 #[.int .i64 n] w fun e w' => e = .returned (.string (S (decN n))) ∧ Below w.heap.size w w' := by
  induction d with
  | zero =>
    intro n w hd hn
    have kc := run_string_one (P := Tryd.prog) w 47 5 9 5 (by kernel_rfl) (by kernel_rfl) (by kernel_rfl) (48 + (n : Int) % 10) (by omega) (by omega)
    have H := hid (decN_small (n := n) (by omega))
    have h9 : n ≤ 9 := by omega
    rw [decN_digit] at kc
    have H1 := hid (show n % 10 = n by omega)
    go_enter Tryd.func57, Tryd.ntmps57
    go_wp2
    go_ret
    exact ⟨by rw [H.out, H1.out]; rfl, (Below.refl _ _).alloc (Nat.le_refl _) _⟩
  | succ d ih =>
    intro n w hd hn
    have kc := run_string_one (P := Tryd.prog) w 47 5 9 5 (by kernel_rfl) (by kernel_rfl) (by kernel_rfl) (48 + (n : Int) % 10) (by omega) (by omega)
    rw [decN_digit] at kc
    by_cases h9 : 9 < n
    · have H := hid (decN_big (n := n) (by omega))
      have hl := decN_len19 (n / 10) (by omega)
      have hl' : ((decN (n / 10)).length : Int) ≤ 19 := by omega
      have IH := hid (ih (n / 10))
      clear ih
      go_enter Tryd.func57, Tryd.ntmps57
      go_wp2_with fail
      refine (IH.out _ (by omega) (by omega)).mono ?_
      rintro e w1 ⟨rfl, hb⟩
      go_wp2
      go_ret
      exact ⟨by rw [H.out]; rfl, ((Below.refl _ _).alloc (Nat.le_refl _) _).trans (hb.mono (by simp))⟩
    · have H := hid (decN_small (n := n) (by omega))
      have H1 := hid (show n % 10 = n by omega)
      clear ih
      go_enter Tryd.func57, Tryd.ntmps57
      go_wp2
      go_ret
      exact ⟨by rw [H.out, H1.out]; rfl, (Below.refl _ _).alloc (Nat.le_refl _) _⟩
theorem ref06_Digits (u : Int) (h0 : 0 ≤ u) (h1 : u ≤ 9007199254740992) (w : World) : Calls Tryd.prog 57 #[.int .i64 u] w fun e w' => e = .returned (.string (S (Lib.itoa u))) ∧ Below w.heap.size w w' := by
  obtain ⟨n, rfl⟩ : ∃ n : Nat, u = n := ⟨u.toNat, by omega⟩
  have e : Lib.itoa (n : Int) = decN n := by
    unfold Lib.itoa
    rw [if_neg (by omega), decN_itoa n n (Nat.le_refl _)]
    rfl
  rw [e]
  exact ref06_Digits_nat n n w (Nat.le_refl _) (by omega)
def escQ (x : UInt8) : List UInt8 := if x = 34 ∨ x = 92 then [92, x] else [x]
theorem quoteP_esc (s : List UInt8) : quoteP s = 34 :: s.flatMap escQ ++ [34] := rfl
theorem ref06_Quote (l : List UInt8) (hl : l.length ≤ 1000) (W : World) : Calls Tryd.prog 56 #[.string (S l)] W fun e w' => e = .returned (.string (S (quoteP l))) ∧ Below W.heap.size W w' := by
  obtain ⟨A1, c1, w1, hrun1, hrow1, hb1⟩ := append_byte W 34 (base := W.heap.size) (A := none) (c := 0) (os := []) (World.ownsRow_nil _ _ _ _) (by simp) (Nat.le_refl _)
  rw [show (((34 : UInt8).toNat : Nat) : Int) = 34 from rfl] at hrun1
  simp only [List.length_nil, Nat.zero_add, List.nil_append] at hrun1
  have HR1 := hid hrow1
  have HB1 := hid hb1
  clear hrow1 hb1
  go_enter Tryd.func56, Tryd.ntmps56
  go_wp2_with (first | (at_builtin; refine wpList_append_run rfl _ _ _ (by rfl) _ _ _ _ (by rfl) (by rfl) hrun1 ?_))
  go_loopw [3, 4] (fun o i wr => ∃ (k : Nat) (os : List UInt8) (A : Option Addr) (c : Nat), k ≤ l.length ∧ i = .int .i64 k ∧ o = .slice A os.length c ∧ os.length ≤ 2 * k + 1 ∧ Hid (os = 34 :: (l.take k).flatMap escQ) ∧ Hid (wr.ownsRow W.heap.size 5 1 (.slice A os.length c) os.length (os.map B8)) ∧ Hid (Below W.heap.size W wr)) (fun _ i _ => l.length + 1 - (intOf i).toNat)
  case atStart => exact ⟨0, [34], A1, c1, Nat.zero_le _, rfl, rfl, by simp, by simp [Hid], HR1, HB1⟩
  case round =>
    clear hrun1 HR1 HB1
    obtain ⟨k, os, A, c, hk, rfl, rfl, hol, hos, hrow, hb⟩ := hrel
    by_cases hlt : k < l.length
    · have TS := hid (show (l.take (k + 1)).flatMap escQ = (l.take k).flatMap escQ ++ escQ l[k] by rw [take_snoc l hlt, List.flatMap_append, List.flatMap_cons, List.flatMap_nil, List.append_nil])
      have hk64 : (k : Int) < l.length := by omega
      by_cases hsp : l[k] = 34 ∨ l[k] = 92
      · have ES := hid (show escQ l[k] = [92, l[k]] by unfold escQ; rw [if_pos hsp])
        obtain ⟨A2, c2', w', hrun0, hrow2, hb2⟩ := append_byte wr 92 (A := A) (c := c) (os := os) hrow.out (by omega) hb.out.size
        rw [show (((92 : UInt8).toNat : Nat) : Int) = 92 from rfl] at hrun0
        have hbw := hb.out.trans hb2
        obtain ⟨A3, c3', w'', hrun2, hrow3, hb3⟩ := append_byte w' l[k] hrow2 (by simp; omega) hbw.size
        have HRW := hid hrow3
        have HBW := hid (hbw.trans hb3)
        have HOS := hid (show os ++ [92] ++ [l[k]] = 34 :: (l.take (k + 1)).flatMap escQ by rw [TS.out, ES.out, hos.out]; simp)
        have e1 : (os ++ [92]).length = os.length + 1 := by simp
        rw [e1] at hrun2
        clear hrow2 hb2 hbw hrow3 hb3 hrow hb hos TS ES e1
        rcases hsp with h34 | h92
        · have g1 : ((l[k].toNat : Int) == 34) = true := by rw [h34]; rfl
          clear h34
          go_wp2_with (first | (at_builtin; refine wpList_append_run rfl _ _ _ (by rfl) _ _ _ _ (by rfl) (by rfl) (by assumption) ?_))
          go_roundw
          case rel => exact ⟨k + 1, os ++ [92] ++ [l[k]], A3, c3', by omega, by go_num, by simp, by simp; omega, HOS, HRW, HBW⟩
          case measure => simp [intOf]; omega
        · have g1 : ((l[k].toNat : Int) == 34) = false := by rw [h92]; rfl
          have g2 : ((l[k].toNat : Int) == 92) = true := by rw [h92]; rfl
          clear h92
          go_wp2_with (first | (at_builtin; refine wpList_append_run rfl _ _ _ (by rfl) _ _ _ _ (by rfl) (by rfl) (by assumption) ?_))
          go_roundw
          case rel => exact ⟨k + 1, os ++ [92] ++ [l[k]], A3, c3', by omega, by go_num, by simp, by simp; omega, HOS, HRW, HBW⟩
          case measure => simp [intOf]; omega
      · have ES := hid (show escQ l[k] = [l[k]] by unfold escQ; rw [if_neg hsp])
        have n1 : ¬ l[k] = 34 := fun h => hsp (.inl h)
        have n2 : ¬ l[k] = 92 := fun h => hsp (.inr h)
        have g1 : ((l[k].toNat : Int) == 34) = false := nat_ne (n := 34) (by omega) n1
        have g2 : ((l[k].toNat : Int) == 92) = false := nat_ne (n := 92) (by omega) n2
        obtain ⟨A2, c2', w', hrun0, hrow2, hb2⟩ := append_byte wr l[k] (A := A) (c := c) (os := os) hrow.out (by omega) hb.out.size
        have HRW := hid hrow2
        have HBW := hid (hb.out.trans hb2)
        have HOS := hid (show os ++ [l[k]] = 34 :: (l.take (k + 1)).flatMap escQ by rw [TS.out, ES.out, hos.out]; simp)
        clear hrow2 hb2 hrow hb hos TS ES hsp n1 n2
        go_wp2_with (first | (at_builtin; refine wpList_append_run rfl _ _ _ (by rfl) _ _ _ _ (by rfl) (by rfl) hrun0 ?_))
        go_roundw
        case rel => exact ⟨k + 1, os ++ [l[k]], A2, c2', by omega, by go_num, by simp, by simp; omega, HOS, HRW, HBW⟩
        case measure => simp [intOf]; omega
    · obtain rfl : k = l.length := by omega
      obtain ⟨A2, c2', w', hrun0, hrow2, hb2⟩ := append_byte wr 34 (A := A) (c := c) (os := os) hrow.out (by omega) hb.out.size
      rw [show (((34 : UInt8).toNat : Nat) : Int) = 34 from rfl] at hrun0
      have hcv := run_string_row _ hrow2
      have HBW := hid (hb.out.trans hb2)
      have HQ := hid (show os ++ [34] = quoteP l by rw [hos.out, List.take_length, quoteP_esc])
      have e1 : (os ++ [34]).length = os.length + 1 := by simp
      rw [e1] at hcv
      clear hrow2 hb2 hrow hb hos e1
      go_wp2_with (first | (at_builtin; refine wpList_append_run rfl _ _ _ (by rfl) _ _ _ _ (by rfl) (by rfl) hrun0 ?_))
      go_ret
      exact ⟨by rw [← HQ.out]; rfl, HBW.out⟩
end Go.Proofs.YtbjimikppdfmgaaDoor
