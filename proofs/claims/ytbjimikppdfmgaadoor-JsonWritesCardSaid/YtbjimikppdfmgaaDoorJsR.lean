/- Walks of json.alone and json.right. -/
import Derived.Test.YtbjimikppdfmgaaDoorJsQ
set_option linter.unusedVariables false
set_option linter.unusedSimpArgs false
set_option maxHeartbeats 16000000
set_option maxRecDepth 100000
namespace Go.Proofs.YtbjimikppdfmgaaDoor
open Go.RowKit Go.Shelf

def aloneX (k : Int) (t : List UInt8) (u : Int) (nn kn : Nat) : Bool :=
  (decide (t = []) || decide (k = 1)) && (decide (u = 0) || decide (k = 2)) && (decide (nn = 0) || decide (k = 4)) && (decide (kn = 0) || decide (k = 3) || decide (k = 4))
theorem js_alone (k : Int) (t : List UInt8) (u : Int) (A : Option Addr) (nn nc : Nat) (B : Option Addr) (kn kc : Nat) (W : World) :
    Calls Tryd.prog 85 #[.agg #[.int .i64 k, .string (S t), .int .i64 u, .slice A nn nc, .slice B kn kc]] W fun e w' => e = .returned (.bool (aloneX k t u nn kn)) ∧ Below W.heap.size W w' := by
  have HB := hid ((Below.refl W.heap.size W).alloc (Nat.le_refl _) (.cells #[.int .i64 k, .string (S t), .int .i64 u, .slice A nn nc, .slice B kn kc] 40))
  have K : k = 1 ∨ k = 2 ∨ k = 3 ∨ k = 4 ∨ (¬ k = 1 ∧ ¬ k = 2 ∧ ¬ k = 3 ∧ ¬ k = 4) := by omega
  have T : t = [] ∨ ((t == []) = false ∧ ¬ t = []) := by cases t <;> simp
  have U : u = 0 ∨ ((u == 0) = false ∧ ¬ u = 0) := by by_cases h : u = 0 <;> simp [h]
  have N : nn = 0 ∨ (((nn : Int) == 0) = false ∧ ¬ nn = 0) := by by_cases h : nn = 0 <;> simp [h]
  have M : kn = 0 ∨ (((kn : Int) == 0) = false ∧ ¬ kn = 0) := by by_cases h : kn = 0 <;> simp [h]
  have FIN : ∀ b : Bool, b = aloneX k t u nn kn → (Ending.returned (.bool b) = Ending.returned (.bool (aloneX k t u nn kn)) ∧ Below W.heap.size W (W.alloc (.cells #[.int .i64 k, .string (S t), .int .i64 u, .slice A nn nc, .slice B kn kc] 40))) := fun b hb => ⟨by rw [hb], HB.out⟩
  rcases K with rfl | rfl | rfl | rfl | ⟨k1, k2, k3, k4⟩
  · rcases T with rfl | ⟨t1, t2⟩
    · rcases U with rfl | ⟨u1, u2⟩
      · rcases N with rfl | ⟨n1, n2⟩
        · rcases M with rfl | ⟨m1, m2⟩
          · have F2 := hid FIN
            clear FIN HB
            go_enter Tryd.func85, Tryd.ntmps85
            go_wp2
            go_ret
            exact F2.out _ (by simp [aloneX, *])
          · have F2 := hid FIN
            clear FIN HB
            go_enter Tryd.func85, Tryd.ntmps85
            go_wp2
            go_ret
            exact F2.out _ (by simp [aloneX, *])
        · have F2 := hid FIN
          clear FIN HB
          go_enter Tryd.func85, Tryd.ntmps85
          go_wp2
          go_ret
          exact F2.out _ (by simp [aloneX, *])
      · have F2 := hid FIN
        clear FIN HB
        go_enter Tryd.func85, Tryd.ntmps85
        go_wp2
        go_ret
        exact F2.out _ (by simp [aloneX, *])
    · rcases U with rfl | ⟨u1, u2⟩
      · rcases N with rfl | ⟨n1, n2⟩
        · rcases M with rfl | ⟨m1, m2⟩
          · have F2 := hid FIN
            clear FIN HB
            go_enter Tryd.func85, Tryd.ntmps85
            go_wp2
            go_ret
            exact F2.out _ (by simp [aloneX, *])
          · have F2 := hid FIN
            clear FIN HB
            go_enter Tryd.func85, Tryd.ntmps85
            go_wp2
            go_ret
            exact F2.out _ (by simp [aloneX, *])
        · have F2 := hid FIN
          clear FIN HB
          go_enter Tryd.func85, Tryd.ntmps85
          go_wp2
          go_ret
          exact F2.out _ (by simp [aloneX, *])
      · have F2 := hid FIN
        clear FIN HB
        go_enter Tryd.func85, Tryd.ntmps85
        go_wp2
        go_ret
        exact F2.out _ (by simp [aloneX, *])
  · rcases T with rfl | ⟨t1, t2⟩
    · rcases U with rfl | ⟨u1, u2⟩
      · rcases N with rfl | ⟨n1, n2⟩
        · rcases M with rfl | ⟨m1, m2⟩
          · have F2 := hid FIN
            clear FIN HB
            go_enter Tryd.func85, Tryd.ntmps85
            go_wp2
            go_ret
            exact F2.out _ (by simp [aloneX, *])
          · have F2 := hid FIN
            clear FIN HB
            go_enter Tryd.func85, Tryd.ntmps85
            go_wp2
            go_ret
            exact F2.out _ (by simp [aloneX, *])
        · have F2 := hid FIN
          clear FIN HB
          go_enter Tryd.func85, Tryd.ntmps85
          go_wp2
          go_ret
          exact F2.out _ (by simp [aloneX, *])
      · rcases N with rfl | ⟨n1, n2⟩
        · rcases M with rfl | ⟨m1, m2⟩
          · have F2 := hid FIN
            clear FIN HB
            go_enter Tryd.func85, Tryd.ntmps85
            go_wp2
            go_ret
            exact F2.out _ (by simp [aloneX, *])
          · have F2 := hid FIN
            clear FIN HB
            go_enter Tryd.func85, Tryd.ntmps85
            go_wp2
            go_ret
            exact F2.out _ (by simp [aloneX, *])
        · have F2 := hid FIN
          clear FIN HB
          go_enter Tryd.func85, Tryd.ntmps85
          go_wp2
          go_ret
          exact F2.out _ (by simp [aloneX, *])
    · have F2 := hid FIN
      clear FIN HB
      go_enter Tryd.func85, Tryd.ntmps85
      go_wp2
      go_ret
      exact F2.out _ (by simp [aloneX, *])
  · rcases T with rfl | ⟨t1, t2⟩
    · rcases U with rfl | ⟨u1, u2⟩
      · rcases N with rfl | ⟨n1, n2⟩
        · rcases M with rfl | ⟨m1, m2⟩
          · have F2 := hid FIN
            clear FIN HB
            go_enter Tryd.func85, Tryd.ntmps85
            go_wp2
            go_ret
            exact F2.out _ (by simp [aloneX, *])
          · have F2 := hid FIN
            clear FIN HB
            go_enter Tryd.func85, Tryd.ntmps85
            go_wp2
            go_ret
            exact F2.out _ (by simp [aloneX, *])
        · have F2 := hid FIN
          clear FIN HB
          go_enter Tryd.func85, Tryd.ntmps85
          go_wp2
          go_ret
          exact F2.out _ (by simp [aloneX, *])
      · have F2 := hid FIN
        clear FIN HB
        go_enter Tryd.func85, Tryd.ntmps85
        go_wp2
        go_ret
        exact F2.out _ (by simp [aloneX, *])
    · have F2 := hid FIN
      clear FIN HB
      go_enter Tryd.func85, Tryd.ntmps85
      go_wp2
      go_ret
      exact F2.out _ (by simp [aloneX, *])
  · rcases T with rfl | ⟨t1, t2⟩
    · rcases U with rfl | ⟨u1, u2⟩
      · rcases N with rfl | ⟨n1, n2⟩
        · rcases M with rfl | ⟨m1, m2⟩
          · have F2 := hid FIN
            clear FIN HB
            go_enter Tryd.func85, Tryd.ntmps85
            go_wp2
            go_ret
            exact F2.out _ (by simp [aloneX, *])
          · have F2 := hid FIN
            clear FIN HB
            go_enter Tryd.func85, Tryd.ntmps85
            go_wp2
            go_ret
            exact F2.out _ (by simp [aloneX, *])
        · rcases M with rfl | ⟨m1, m2⟩
          · have F2 := hid FIN
            clear FIN HB
            go_enter Tryd.func85, Tryd.ntmps85
            go_wp2
            go_ret
            exact F2.out _ (by simp [aloneX, *])
          · have F2 := hid FIN
            clear FIN HB
            go_enter Tryd.func85, Tryd.ntmps85
            go_wp2
            go_ret
            exact F2.out _ (by simp [aloneX, *])
      · have F2 := hid FIN
        clear FIN HB
        go_enter Tryd.func85, Tryd.ntmps85
        go_wp2
        go_ret
        exact F2.out _ (by simp [aloneX, *])
    · have F2 := hid FIN
      clear FIN HB
      go_enter Tryd.func85, Tryd.ntmps85
      go_wp2
      go_ret
      exact F2.out _ (by simp [aloneX, *])
  · have k1' : (k == 1) = false := by simpa using k1
    have k2' : (k == 2) = false := by simpa using k2
    have k3' : (k == 3) = false := by simpa using k3
    have k4' : (k == 4) = false := by simpa using k4
    rcases T with rfl | ⟨t1, t2⟩
    · rcases U with rfl | ⟨u1, u2⟩
      · rcases N with rfl | ⟨n1, n2⟩
        · rcases M with rfl | ⟨m1, m2⟩
          · have F2 := hid FIN
            clear FIN HB
            go_enter Tryd.func85, Tryd.ntmps85
            go_wp2
            go_ret
            exact F2.out _ (by simp [aloneX, *])
          · have F2 := hid FIN
            clear FIN HB
            go_enter Tryd.func85, Tryd.ntmps85
            go_wp2
            go_ret
            exact F2.out _ (by simp [aloneX, *])
        · have F2 := hid FIN
          clear FIN HB
          go_enter Tryd.func85, Tryd.ntmps85
          go_wp2
          go_ret
          exact F2.out _ (by simp [aloneX, *])
      · have F2 := hid FIN
        clear FIN HB
        go_enter Tryd.func85, Tryd.ntmps85
        go_wp2
        go_ret
        exact F2.out _ (by simp [aloneX, *])
    · have F2 := hid FIN
      clear FIN HB
      go_enter Tryd.func85, Tryd.ntmps85
      go_wp2
      go_ret
      exact F2.out _ (by simp [aloneX, *])
end Go.Proofs.YtbjimikppdfmgaaDoor
