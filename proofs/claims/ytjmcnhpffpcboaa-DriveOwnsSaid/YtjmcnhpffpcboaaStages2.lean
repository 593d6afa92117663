/- Walks of strings.CutSuffix with one sign, pantileref19.File, (*Journal).Stage. -/
import Derived.Test.YtjmcnhpffpcboaaStages1
import Derived.Test.YtjmcnhpffpcboaaBytes
set_option linter.unusedVariables false
set_option linter.unusedSimpArgs false
set_option maxHeartbeats 1600000
set_option maxRecDepth 100000
namespace Go.Proofs.Ytjmcnhpffpcboaa
open Go.RowKit

def cutS (l : List UInt8) : List UInt8 × Bool := if l.getLast? = some 10 then (l.dropLast, true) else (l, false)
def hasL (l : List UInt8) : Bool := l.getLast? == some 10

theorem S_ne {a b : List UInt8} (h : a ≠ b) : (S a == S b) = false := by
  show (a.toArray == b.toArray) = false
  rw [beq_eq_false_iff_ne]
  exact fun e => h (by simpa using e)

theorem lite_HasSuffix (l : List UInt8) (hl : l.length ≤ 1000000000000) (w : World) : Calls Try.prog 105 #[.string (S l), .string (S [10])] w fun e w' => e = .returned (.bool (hasL l)) ∧ w' = w := by
  rcases List.eq_nil_or_concat l with rfl | ⟨m, c, rfl⟩
  · go_enter Try.func105, Try.ntmps105
    go_wp2
    go_ret
    exact ⟨rfl, rfl⟩
  · have hlen : (m ++ [c]).length = m.length + 1 := by simp
    rw [List.concat_eq_append] at *
    have hd : (m ++ [c]).drop m.length = [c] := by simp
    have hh : hasL (m ++ [c]) = (c == 10) := by unfold hasL; simp
    have H := hid hh
    rw [hlen] at hl
    generalize m ++ [c] = l at *
    clear hh
    have ht : (l.drop m.length).take (l.length - m.length) = [c] := by rw [hd, hlen]; simp
    by_cases hc : c = 10
    · subst hc
      go_enter Try.func105, Try.ntmps105
      go_wp2
      go_ret
      exact ⟨by rw [H.out]; rfl, rfl⟩
    · have hq : (S [c] == S [10]) = false := S_ne (by simpa using hc)
      go_enter Try.func105, Try.ntmps105
      go_wp2
      go_ret
      exact ⟨by rw [H.out, show (c == 10) = false from by simpa using hc]; first | rfl | exact congrArg (fun b => Ending.returned (.bool b)) hq, rfl⟩

theorem lite_CutSuffix (l : List UInt8) (hl : l.length ≤ 1000000000000) (w : World) : Calls Try.prog 87 #[.string (S l), .string (S [10])] w fun e w' => e = .returned (.tuple #[.string (S (cutS l).1), .bool (cutS l).2]) ∧ w' = w := by
  have T := hid (lite_HasSuffix l hl w)
  by_cases h : l.getLast? = some 10
  · have h1 : hasL l = true := by unfold hasL; rw [h]; rfl
    rw [h1] at T
    have hlen : 1 ≤ l.length := by
      cases l with
      | nil => simp at h
      | cons => simp
    have H := hid (show cutS l = (l.take (l.length - 1), true) by unfold cutS; rw [if_pos h, List.dropLast_eq_take])
    clear h h1
    go_enter Try.func87, Try.ntmps87
    go_wp2_with fail
    refine T.out.mono ?_
    rintro e w1 ⟨rfl, rfl⟩
    go_wp2
    go_ret2
    exact ⟨by rw [H.out]; rfl, rfl⟩
  · have h1 : hasL l = false := by unfold hasL; rw [beq_eq_false_iff_ne]; exact h
    rw [h1] at T
    have H := hid (show cutS l = (l, false) by unfold cutS; rw [if_neg h])
    clear h h1
    go_enter Try.func87, Try.ntmps87
    go_wp2_with fail
    refine T.out.mono ?_
    rintro e w1 ⟨rfl, rfl⟩
    go_wp2
    go_ret2
    exact ⟨by rw [H.out]; rfl, rfl⟩
theorem strings_CutSuffix (l : List UInt8) (hl : l.length ≤ 1000000000000) (w : World) : Calls Try.prog 61 #[.string (S l), .string (S [10])] w fun e w' => e = .returned (.tuple #[.string (S (cutS l).1), .bool (cutS l).2]) ∧ w' = w := by
  have T := hid (lite_CutSuffix l hl w)
  go_enter Try.func61, Try.ntmps61
  go_wp2_with fail
  refine T.out.mono ?_
  rintro e w1 ⟨rfl, rfl⟩
  go_wp2
  go_ret2
  exact ⟨rfl, rfl⟩

/-- What a journal's file tells; 0: it is none's. -/
def fileN (l : List UInt8) : Int := if (cutS l).2 = true ∧ numE (cutS l).1 = 0 ∧ 1 ≤ numI (cutS l).1 ∧ numI (cutS l).1 ≤ 5 then numI (cutS l).1 else 0

def IsJ (w : World) (j g : Nat) (n : Int) : Prop := Blk w j 97 #[.pointer (some ⟨g, 0, none⟩), .int .i64 n]
theorem journal_Stage {w : World} {j g : Nat} {n : Int} (h : IsJ w j g n) : Calls Try.prog 34 #[.pointer (some ⟨j, 0, none⟩)] w fun e w' => e = .returned (.int .i64 n) ∧ w' = w := by
  have c1 := Blk.cell h 1
  simp at c1
  clear h
  go_enter Try.func34, Try.ntmps34
  go_wp2
  go_ret
  exact ⟨rfl, rfl⟩
end Go.Proofs.Ytjmcnhpffpcboaa
