/- Walk of pantilelaw07.TextNumbers. -/
import Derived.Test.YtjmcnhpffpcboaaLaw07
import Derived.Test.YtjmcnhpffpcboaaRefNum
import Derived.Test.YtjmcnhpffpcboaaRefDec
set_option linter.unusedVariables false
set_option linter.unusedSimpArgs false
set_option maxHeartbeats 800000
set_option maxRecDepth 100000
namespace Go.Proofs.Ytjmcnhpffpcboaa
open Go.RowKit

theorem refNumber_eq {l : List UInt8} {k : Int} {b : Bool} (hk : numI l = k) (hb : isNum l = b) (w : World) : Calls Try.prog 20 #[.string (S l)] w fun e w' => e = .returned (.tuple #[.int .i64 k, .bool b]) ∧ w' = w := by
  rw [← hk, ← hb]; exact ref07_Number l w
theorem number_eq {l : List UInt8} {k x : Int} (hk : numI l = k) (hx : numE l = x) (w : World) : Calls Try.prog 19 #[.string (S l)] w fun e w' => e = .returned (.tuple #[.int .i64 k, .int .i64 x]) ∧ Below w.heap.size w w' := by
  rw [← hk, ← hx]; exact text_Number l w

theorem law_TextNumbers (n : Int) (l : List UInt8) (w : World) (h0 : -9223372036854775808 ≤ n) (h1 : n ≤ 9223372036854775807) :
    Calls Try.prog 3 #[.int .i64 n, .string (S l)] w fun e w' => e = .returned (.bool true) ∧ Below w.heap.size w w' := by
  obtain ⟨b, k, x, hb, hk, hx, hbx⟩ : ∃ (b : Bool) (k x : Int), isNum (l.take 200) = b ∧ numI (l.take 200) = k ∧ numE (l.take 200) = x ∧ (b = true ∧ x = 0 ∨ b = false ∧ x = 2) := by
    refine ⟨_, _, _, rfl, rfl, rfl, ?_⟩
    cases h : isNum (l.take 200) with
    | true => exact .inl ⟨rfl, by simp [numE, h]⟩
    | false => exact .inr ⟨rfl, by simp [numE, h]⟩
  have R := hid (refNumber_eq hk hb)
  have N := hid (number_eq hk hx)
  clear hk hb hx
  have sn : ((n == n) = true) := by simp
  rcases hbx with ⟨rfl, rfl⟩ | ⟨rfl, rfl⟩
  · by_cases m1 : n < 0
    · have hd := isNum_dec_no (.inl m1)
      have N2 := hid (number_eq (num_no hd).1 (num_no hd).2)
      clear hd
      go_enter Try.func3, Try.ntmps3
      go_wp2_with fail
      refine (law07_few l _).mono ?_
      rintro e w1 ⟨rfl, rfl⟩
      go_wp2_with fail
      refine (N.out _).mono ?_
      rintro e w2 ⟨rfl, hb2⟩
      go_wp2_with fail
      refine (R.out _).mono ?_
      rintro e w3 ⟨rfl, rfl⟩
      go_wp2_with fail
      refine (text_Decimal n _ h0 h1).mono ?_
      rintro e w4 ⟨rfl, hb4⟩
      go_wp2_with fail
      refine (ref07_Decimal n _ h0 h1).mono ?_
      rintro e w5 ⟨rfl, hb5⟩
      go_wp2_with fail
      refine (text_Decimal n _ h0 h1).mono ?_
      rintro e w6 ⟨rfl, hb6⟩
      go_wp2_with fail
      refine (N2.out _).mono ?_
      rintro e w7 ⟨rfl, hb7⟩
      go_wp2_with fail
      refine (law07_lives _).mono ?_
      rintro e w8 ⟨rfl, hb8⟩
      go_wp2
      go_ret
      exact ⟨rfl, bt (bt (bt (bt (bt hb2 hb4) hb5) hb6) hb7) hb8⟩
    · by_cases m2 : 9007199254740992 < n
      · have hd := isNum_dec_no (.inr m2)
        have N2 := hid (number_eq (num_no hd).1 (num_no hd).2)
        clear hd
        go_enter Try.func3, Try.ntmps3
        go_wp2_with fail
        refine (law07_few l _).mono ?_
        rintro e w1 ⟨rfl, rfl⟩
        go_wp2_with fail
        refine (N.out _).mono ?_
        rintro e w2 ⟨rfl, hb2⟩
        go_wp2_with fail
        refine (R.out _).mono ?_
        rintro e w3 ⟨rfl, rfl⟩
        go_wp2_with fail
        refine (text_Decimal n _ h0 h1).mono ?_
        rintro e w4 ⟨rfl, hb4⟩
        go_wp2_with fail
        refine (ref07_Decimal n _ h0 h1).mono ?_
        rintro e w5 ⟨rfl, hb5⟩
        go_wp2_with fail
        refine (text_Decimal n _ h0 h1).mono ?_
        rintro e w6 ⟨rfl, hb6⟩
        go_wp2_with fail
        refine (N2.out _).mono ?_
        rintro e w7 ⟨rfl, hb7⟩
        go_wp2_with fail
        refine (law07_lives _).mono ?_
        rintro e w8 ⟨rfl, hb8⟩
        go_wp2
        go_ret
        exact ⟨rfl, bt (bt (bt (bt (bt hb2 hb4) hb5) hb6) hb7) hb8⟩
      · have hd := isNum_dec (show 0 ≤ n by omega) (show n ≤ 9007199254740992 by omega)
        have N2 := hid (number_eq hd.2.1 hd.2.2)
        clear hd
        go_enter Try.func3, Try.ntmps3
        go_wp2_with fail
        refine (law07_few l _).mono ?_
        rintro e w1 ⟨rfl, rfl⟩
        go_wp2_with fail
        refine (N.out _).mono ?_
        rintro e w2 ⟨rfl, hb2⟩
        go_wp2_with fail
        refine (R.out _).mono ?_
        rintro e w3 ⟨rfl, rfl⟩
        go_wp2_with fail
        refine (text_Decimal n _ h0 h1).mono ?_
        rintro e w4 ⟨rfl, hb4⟩
        go_wp2_with fail
        refine (ref07_Decimal n _ h0 h1).mono ?_
        rintro e w5 ⟨rfl, hb5⟩
        go_wp2_with fail
        refine (text_Decimal n _ h0 h1).mono ?_
        rintro e w6 ⟨rfl, hb6⟩
        go_wp2_with fail
        refine (N2.out _).mono ?_
        rintro e w7 ⟨rfl, hb7⟩
        go_wp2_with fail
        refine (law07_lives _).mono ?_
        rintro e w8 ⟨rfl, hb8⟩
        go_wp2
        go_ret
        exact ⟨rfl, bt (bt (bt (bt (bt hb2 hb4) hb5) hb6) hb7) hb8⟩
  · by_cases m1 : n < 0
    · have hd := isNum_dec_no (.inl m1)
      have N2 := hid (number_eq (num_no hd).1 (num_no hd).2)
      clear hd
      go_enter Try.func3, Try.ntmps3
      go_wp2_with fail
      refine (law07_few l _).mono ?_
      rintro e w1 ⟨rfl, rfl⟩
      go_wp2_with fail
      refine (N.out _).mono ?_
      rintro e w2 ⟨rfl, hb2⟩
      go_wp2_with fail
      refine (R.out _).mono ?_
      rintro e w3 ⟨rfl, rfl⟩
      go_wp2_with fail
      refine (text_Decimal n _ h0 h1).mono ?_
      rintro e w4 ⟨rfl, hb4⟩
      go_wp2_with fail
      refine (ref07_Decimal n _ h0 h1).mono ?_
      rintro e w5 ⟨rfl, hb5⟩
      go_wp2_with fail
      refine (text_Decimal n _ h0 h1).mono ?_
      rintro e w6 ⟨rfl, hb6⟩
      go_wp2_with fail
      refine (N2.out _).mono ?_
      rintro e w7 ⟨rfl, hb7⟩
      go_wp2_with fail
      refine (law07_lives _).mono ?_
      rintro e w8 ⟨rfl, hb8⟩
      go_wp2
      go_ret
      exact ⟨rfl, bt (bt (bt (bt (bt hb2 hb4) hb5) hb6) hb7) hb8⟩
    · by_cases m2 : 9007199254740992 < n
      · have hd := isNum_dec_no (.inr m2)
        have N2 := hid (number_eq (num_no hd).1 (num_no hd).2)
        clear hd
        go_enter Try.func3, Try.ntmps3
        go_wp2_with fail
        refine (law07_few l _).mono ?_
        rintro e w1 ⟨rfl, rfl⟩
        go_wp2_with fail
        refine (N.out _).mono ?_
        rintro e w2 ⟨rfl, hb2⟩
        go_wp2_with fail
        refine (R.out _).mono ?_
        rintro e w3 ⟨rfl, rfl⟩
        go_wp2_with fail
        refine (text_Decimal n _ h0 h1).mono ?_
        rintro e w4 ⟨rfl, hb4⟩
        go_wp2_with fail
        refine (ref07_Decimal n _ h0 h1).mono ?_
        rintro e w5 ⟨rfl, hb5⟩
        go_wp2_with fail
        refine (text_Decimal n _ h0 h1).mono ?_
        rintro e w6 ⟨rfl, hb6⟩
        go_wp2_with fail
        refine (N2.out _).mono ?_
        rintro e w7 ⟨rfl, hb7⟩
        go_wp2_with fail
        refine (law07_lives _).mono ?_
        rintro e w8 ⟨rfl, hb8⟩
        go_wp2
        go_ret
        exact ⟨rfl, bt (bt (bt (bt (bt hb2 hb4) hb5) hb6) hb7) hb8⟩
      · have hd := isNum_dec (show 0 ≤ n by omega) (show n ≤ 9007199254740992 by omega)
        have N2 := hid (number_eq hd.2.1 hd.2.2)
        clear hd
        go_enter Try.func3, Try.ntmps3
        go_wp2_with fail
        refine (law07_few l _).mono ?_
        rintro e w1 ⟨rfl, rfl⟩
        go_wp2_with fail
        refine (N.out _).mono ?_
        rintro e w2 ⟨rfl, hb2⟩
        go_wp2_with fail
        refine (R.out _).mono ?_
        rintro e w3 ⟨rfl, rfl⟩
        go_wp2_with fail
        refine (text_Decimal n _ h0 h1).mono ?_
        rintro e w4 ⟨rfl, hb4⟩
        go_wp2_with fail
        refine (ref07_Decimal n _ h0 h1).mono ?_
        rintro e w5 ⟨rfl, hb5⟩
        go_wp2_with fail
        refine (text_Decimal n _ h0 h1).mono ?_
        rintro e w6 ⟨rfl, hb6⟩
        go_wp2_with fail
        refine (N2.out _).mono ?_
        rintro e w7 ⟨rfl, hb7⟩
        go_wp2_with fail
        refine (law07_lives _).mono ?_
        rintro e w8 ⟨rfl, hb8⟩
        go_wp2
        go_ret
        exact ⟨rfl, bt (bt (bt (bt (bt hb2 hb4) hb5) hb6) hb7) hb8⟩

theorem row_TextNumbers (n : Int) (s : ByteArray) (w : World) (hn : (Lit.int .i64 n).wf = true) (hs : s.size ≤ maxLen) :
    Calls Try.prog 3 #[.int .i64 n, .string s] w fun e w' => e = .returned (.bool true) ∧ Below w.heap.size w w' := by
  rw [← S_of s]
  exact law_TextNumbers n s.data.toList w (wf64 hn).1 (wf64 hn).2
end Go.Proofs.Ytjmcnhpffpcboaa
