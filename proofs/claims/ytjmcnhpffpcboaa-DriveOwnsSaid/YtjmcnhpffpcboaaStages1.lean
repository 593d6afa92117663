/- Walks of package stages: May, Stage; of strings.CutSuffix; of pantileref19. -/
import Derived.Test.YtjmcnhpffpcboaaNexts
import Derived.Test.YtjmcnhpffpcboaaNum
set_option linter.unusedVariables false
set_option linter.unusedSimpArgs false
set_option maxHeartbeats 1600000
set_option maxRecDepth 100000
namespace Go.Proofs.Ytjmcnhpffpcboaa
open Go.RowKit

def mayB (a b : Int) : Bool := (a == 1 && b == 2) || (a == 2 && b == 3) || (a == 3 && b == 2) || (a == 3 && b == 4) || (a == 4 && b == 5)
theorem mem_U5 (a b : Int) (ha : In64 a) (hb : In64 b) : kb a b ∈ U5 ↔ mayB a b = true := by
  have i64 : ∀ n : Int, 0 ≤ n → n ≤ 9 → In64 n := fun n h1 h2 => ⟨by omega, by omega⟩
  have h : ∀ x y : Int, 0 ≤ x → x ≤ 9 → 0 ≤ y → y ≤ 9 → (kb a b = kb x y ↔ a = x ∧ b = y) := fun x y h1 h2 h3 h4 => ⟨fun e => kb_inj ha hb (i64 x h1 h2) (i64 y h3 h4) e, by rintro ⟨rfl, rfl⟩; rfl⟩
  unfold U5 mayB
  simp [h]
  omega

theorem stages_May (a b : Int) (ha : In64 a) (hb : In64 b) (w : World) : Calls Try.prog 26 #[.int .i64 a, .int .i64 b] w fun e w' => e = .returned (.bool (mayB a b)) ∧ Below w.heap.size w w' := by
  have Nxt := hid (nexts_walk w)
  have hm := mem_U5 a b ha hb
  cases hv : mayB a b with
  | true =>
    rw [hv] at hm
    have Lk := hid (fun (bk : Nat) (W : World) (h : ∃ S, Mp w bk S W ∧ ∀ k, k ∈ S ↔ k ∈ U5) => show (Instr.lookup 83 (.map (some bk)) (.agg #[.int .i64 a, .int .i64 b]) false).run Try.prog W = .ok (.int .i64 1) W from by
      obtain ⟨S, h1, h2⟩ := h
      have := h1.look a b ha hb
      rw [if_pos ((h2 _).2 (hm.2 rfl))] at this
      exact this)
    clear hm hv ha hb
    go_enter Try.func26, Try.ntmps26
    go_wp2_with fail
    refine Nxt.out.mono ?_
    rintro e w1 ⟨bk, rfl, S, h1, h2⟩
    have hL := Lk.out bk w1 ⟨S, h1, h2⟩
    have hbel := hid h1.below
    clear h1 h2
    go_wp2
    go_ret
    exact ⟨rfl, hbel.out⟩
  | false =>
    rw [hv] at hm
    have Lk := hid (fun (bk : Nat) (W : World) (h : ∃ S, Mp w bk S W ∧ ∀ k, k ∈ S ↔ k ∈ U5) => show (Instr.lookup 83 (.map (some bk)) (.agg #[.int .i64 a, .int .i64 b]) false).run Try.prog W = .ok (.int .i64 0) W from by
      obtain ⟨S, h1, h2⟩ := h
      have := h1.look a b ha hb
      rw [if_neg (fun h => by have := hm.1 ((h2 _).1 h); cases this)] at this
      exact this)
    clear hm hv ha hb
    go_enter Try.func26, Try.ntmps26
    go_wp2_with fail
    refine Nxt.out.mono ?_
    rintro e w1 ⟨bk, rfl, S, h1, h2⟩
    have hL := Lk.out bk w1 ⟨S, h1, h2⟩
    have hbel := hid h1.below
    clear h1 h2
    go_wp2
    go_ret
    exact ⟨rfl, hbel.out⟩

theorem ref19_May (a b : Int) (w : World) : Calls Try.prog 27 #[.int .i64 a, .int .i64 b] w fun e w' => e = .returned (.bool (mayB a b)) ∧ w' = w := by
  have H := hid (show mayB a b = (if a = 1 then (b == 2) else if a = 2 then (b == 3) else if a = 3 then (b == 2 || b == 4) else (a == 4 && b == 5)) from by
    unfold mayB
    by_cases h1 : a = 1
    · subst h1; simp
    · by_cases h2 : a = 2
      · subst h2; simp
      · by_cases h3 : a = 3
        · subst h3; simp
        · simp [h1, h2, h3])
  generalize mayB a b = r at H ⊢
  by_cases h1 : a = 1
  · have H2 := hid (show r = (b == 2) from by rw [H.out, if_pos h1])
    clear H
    subst h1
    go_enter Try.func27, Try.ntmps27
    go_wp2
    go_ret
    exact ⟨by rw [H2.out]; rfl, rfl⟩
  · by_cases h2 : a = 2
    · have H2 := hid (show r = (b == 3) from by rw [H.out, if_neg h1, if_pos h2])
      clear H h1
      subst h2
      go_enter Try.func27, Try.ntmps27
      go_wp2
      go_ret
      exact ⟨by rw [H2.out]; rfl, rfl⟩
    · by_cases h3 : a = 3
      · have H2 := hid (show r = (b == 2 || b == 4) from by rw [H.out, if_neg h1, if_neg h2, if_pos h3])
        clear H h1 h2
        subst h3
        by_cases hb2 : b = 2
        · subst hb2
          go_enter Try.func27, Try.ntmps27
          go_wp2
          go_ret
          exact ⟨by rw [H2.out]; rfl, rfl⟩
        · have q : (b == 2) = false := by simpa using hb2
          rw [q, Bool.false_or] at H2
          go_enter Try.func27, Try.ntmps27
          go_wp2
          go_ret
          exact ⟨by rw [H2.out]; rfl, rfl⟩
      · have H2 := hid (show r = (a == 4 && b == 5) from by rw [H.out, if_neg h1, if_neg h2, if_neg h3])
        have q1 : (a == 1) = false := by simpa using h1
        have q2 : (a == 2) = false := by simpa using h2
        have q3 : (a == 3) = false := by simpa using h3
        clear H h1 h2 h3
        by_cases h4 : a = 4
        · subst h4
          go_enter Try.func27, Try.ntmps27
          go_wp2
          go_ret
          exact ⟨by rw [H2.out]; rfl, rfl⟩
        · have q4 : (a == 4) = false := by simpa using h4
          rw [q4] at H2
          clear h4
          go_enter Try.func27, Try.ntmps27
          go_wp2
          go_ret
          exact ⟨by rw [H2.out]; rfl, rfl⟩
end Go.Proofs.Ytjmcnhpffpcboaa
