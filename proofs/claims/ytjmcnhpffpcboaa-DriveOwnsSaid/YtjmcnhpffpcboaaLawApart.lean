/- Walk of pantilelaw07.TextApart. -/
import Derived.Test.YtjmcnhpffpcboaaLaw07
import Derived.Test.YtjmcnhpffpcboaaTiles
import Derived.Lib.SmallJoins
import Derived.ProofKit
set_option linter.unusedVariables false
set_option linter.unusedSimpArgs false
set_option maxHeartbeats 800000
set_option maxRecDepth 100000
namespace Go.Proofs.Ytjmcnhpffpcboaa
open Go.RowKit

def In64 (a : Int) : Prop := -9223372036854775808 ≤ a ∧ a ≤ 9223372036854775807

theorem path_eq {a b c x : Int} {l : List UInt8} (hl : pathS a b c = l) (hx : pathE a b c = x) (ha : In64 a) (hb : In64 b) (hc : In64 c) (w : World) :
    Calls Try.prog 24 #[.agg #[.int .i64 a, .int .i64 b, .int .i64 c]] w fun e w' => e = .returned (.tuple #[.string (S l), .int .i64 x]) ∧ Below w.heap.size w w' := by
  rw [← hl, ← hx]; exact text_Path a b c w ha hb hc
theorem path_cases (a b c : Int) : isTile a b c = true ∧ pathE a b c = 0 ∨ isTile a b c = false ∧ pathS a b c = [] ∧ pathE a b c = 1 := by
  cases h : isTile a b c with
  | true => exact .inl ⟨rfl, by simp [pathE, h]⟩
  | false => exact .inr ⟨rfl, by simp [pathS, h], by simp [pathE, h]⟩

theorem law_TextApart (a b c a' b' c' : Int) (w : World) (ha : In64 a) (hb : In64 b) (hc : In64 c) (ha' : In64 a') (hb' : In64 b') (hc' : In64 c') :
    Calls Try.prog 4 #[.agg #[.int .i64 a, .int .i64 b, .int .i64 c], .agg #[.int .i64 a', .int .i64 b', .int .i64 c']] w fun e w' => e = .returned (.bool true) ∧ Below w.heap.size w w' := by
  have b0 : Below w.heap.size w ((w.alloc (.cells #[.int .i64 a, .int .i64 b, .int .i64 c] 32)).alloc (.cells #[.int .i64 a', .int .i64 b', .int .i64 c'] 32)) := ((Below.refl _ _).alloc (Nat.le_refl _) _).alloc (by simp) _
  rcases path_cases a b c with ⟨hT, hE⟩ | ⟨hT, hS, hE⟩
  · rcases path_cases a' b' c' with ⟨hT', hE'⟩ | ⟨hT', hS', hE'⟩
    · have HB := pathS_beq hT hT'
      have P1 := hid (path_eq (l := pathS a b c) rfl hE ha hb hc)
      have P2 := hid (path_eq (l := pathS a' b' c') rfl hE' ha' hb' hc')
      clear hT hE hT' hE'
      go_enter Try.func4, Try.ntmps4
      go_wp2_with fail
      refine (P1.out _).mono ?_
      rintro e w1 ⟨rfl, hb1⟩
      obtain ⟨hc1, hf1⟩ := bcell hb1
      go_wp2_with fail
      refine (P2.out _).mono ?_
      rintro e w2 ⟨rfl, hb2⟩
      obtain ⟨hc2, hf2⟩ := bcell hb2
      have hz : w.heap.size + 2 ≤ w1.heap.size := by have := hb1.size; simp at this; omega
      have hl0 : w.heap.size < w1.heap.size := by omega
      have hl1 : w.heap.size + 1 < w1.heap.size := by omega
      have b2 := bt (b0.trans (hb1.mono (by simp; omega))) hb2
      go_wp2_with fail
      all_goals
        refine (law07_lives _).mono ?_
        rintro e w3 ⟨rfl, hb3⟩
        go_wp2
        go_ret
        exact ⟨by first | rfl | simp [*], bt b2 hb3⟩
    · have P1 := hid (path_eq (l := pathS a b c) rfl hE ha hb hc)
      have P2 := hid (path_eq hS' hE' ha' hb' hc')
      clear hT hE hT' hE' hS'
      go_enter Try.func4, Try.ntmps4
      go_wp2_with fail
      refine (P1.out _).mono ?_
      rintro e w1 ⟨rfl, hb1⟩
      obtain ⟨hc1, hf1⟩ := bcell hb1
      go_wp2_with fail
      refine (P2.out _).mono ?_
      rintro e w2 ⟨rfl, hb2⟩
      obtain ⟨hc2, hf2⟩ := bcell hb2
      have hz : w.heap.size + 2 ≤ w1.heap.size := by have := hb1.size; simp at this; omega
      have hl0 : w.heap.size < w1.heap.size := by omega
      have hl1 : w.heap.size + 1 < w1.heap.size := by omega
      have b2 := bt (b0.trans (hb1.mono (by simp; omega))) hb2
      go_wp2_with fail
      refine (law07_lives _).mono ?_
      rintro e w3 ⟨rfl, hb3⟩
      go_wp2
      go_ret
      exact ⟨rfl, bt b2 hb3⟩
  · have P1 := hid (path_eq hS hE ha hb hc)
    have P2 := hid (path_eq (l := pathS a' b' c') rfl (x := pathE a' b' c') rfl ha' hb' hc')
    clear hT hE hS
    go_enter Try.func4, Try.ntmps4
    go_wp2_with fail
    refine (P1.out _).mono ?_
    rintro e w1 ⟨rfl, hb1⟩
    obtain ⟨hc1, hf1⟩ := bcell hb1
    go_wp2_with fail
    refine (P2.out _).mono ?_
    rintro e w2 ⟨rfl, hb2⟩
    obtain ⟨hc2, hf2⟩ := bcell hb2
    have hz : w.heap.size + 2 ≤ w1.heap.size := by have := hb1.size; simp at this; omega
    have hl0 : w.heap.size < w1.heap.size := by omega
    have hl1 : w.heap.size + 1 < w1.heap.size := by omega
    have b2 := bt (b0.trans (hb1.mono (by simp; omega))) hb2
    go_wp2_with fail
    refine (law07_lives _).mono ?_
    rintro e w3 ⟨rfl, hb3⟩
    go_wp2
    go_ret
    exact ⟨rfl, bt b2 hb3⟩

/-- A tile's datum is three integers. -/
theorem open_tile {H : Type} {enc : TypeId × Value → H} {w : World} {base : Nat} {spare : Nat → Bool} {held : Bool} {r : Reach} {b0 : Nat} {v : Value} {d : DataW H} {p : List MemPlace}
    (hv : Value.okWide Try.prog w r b0 32 v) (h : DataW.Trod enc Try.prog w base spare held 32 v d p) : ∃ a b c : Int, v = .agg #[.int .i64 a, .int .i64 b, .int .i64 c] ∧ (In64 a ∧ In64 b ∧ In64 c) := by
  obtain ⟨v0, v1, v2, y0, y1, y2, n, rfl, -, -, h0, h1, h2⟩ := Joins.open_agg3 Try.underlying32 (by kernel_rfl) (by kernel_rfl) hv h
  obtain ⟨a, e0, -, wa⟩ := DataW.trod_int Try.underlying3 h0
  obtain ⟨b, e1, -, wb⟩ := DataW.trod_int Try.underlying3 h1
  obtain ⟨c, e2, -, wc⟩ := DataW.trod_int Try.underlying3 h2
  simp only [List.cons.injEq, and_true] at e0 e1 e2
  subst e0 e1 e2
  exact ⟨a, b, c, rfl, wf64 wa, wf64 wb, wf64 wc⟩

theorem row_TextApart (a b c a' b' c' : Int) (w : World) (h : In64 a ∧ In64 b ∧ In64 c) (h' : In64 a' ∧ In64 b' ∧ In64 c') :
    Calls Try.prog 4 #[.agg #[.int .i64 a, .int .i64 b, .int .i64 c], .agg #[.int .i64 a', .int .i64 b', .int .i64 c']] w fun e w' => e = .returned (.bool true) ∧ Below w.heap.size w w' :=
  law_TextApart a b c a' b' c' w h.1 h.2.1 h.2.2 h'.1 h'.2.1 h'.2.2
end Go.Proofs.Ytjmcnhpffpcboaa
