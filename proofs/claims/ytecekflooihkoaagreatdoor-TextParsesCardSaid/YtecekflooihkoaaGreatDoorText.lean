/- Walks of package text: Decimal. -/
import Derived.Test.YtecekflooihkoaaGreatDoorChecked
import Derived.Test.YtecekflooihkoaaGreatDoorBase
set_option linter.unusedVariables false
set_option linter.unusedSimpArgs false
set_option maxHeartbeats 800000
set_option maxRecDepth 100000
namespace Go.Proofs.YtecekflooihkoaaGreatDoor
open Go.RowKit

/-- the array of 20 bytes, the last of which are l -/
def Tail20 (cs : Array Value) (l : List UInt8) : Prop := cs.size = 20 ∧ l.length ≤ 20 ∧ ∀ i, (h : i < l.length) → cs[20 - l.length + i]? = some (B8 l[i])

theorem Tail20.cons {cs : Array Value} {l : List UInt8} (h : Tail20 cs l) {k : Nat} (hk : k + l.length = 20) (h1 : 1 ≤ k) (d : UInt8) : Tail20 (cs.setIfInBounds (k - 1) (B8 d)) (d :: l) := by
  obtain ⟨hs, hl, hc⟩ := h
  refine ⟨by simpa using hs, by simp; omega, ?_⟩
  intro i hi
  simp only [List.length_cons] at hi ⊢
  rcases i with _ | i
  · rw [Array.getElem?_setIfInBounds]
    simp only [List.getElem_cons_zero]
    rw [if_pos (by omega), if_pos (by omega)]
  · rw [Array.getElem?_setIfInBounds, if_neg (by omega)]
    have := hc i (by omega)
    simp only [List.getElem_cons_succ]
    rw [← this]
    congr 1
    omega

/-- What the loop over digits has: at, what is left of the number, the array, the digits so far. -/
def DecRel (w : World) (u0 : Nat) (a u : Value) (wr : World) : Prop := ∃ (k m : Nat) (cs : Array Value) (l : List UInt8), a = .int .i64 k ∧ u = .int .u64 m ∧ k + l.length = 20 ∧ (decN m).length + l.length ≤ 19 ∧ m ≤ 9223372036854775808 ∧ decN m ++ l = decN u0 ∧ Below w.heap.size w wr ∧ Blk wr w.heap.size 87 cs ∧ Tail20 cs l

theorem decRel_start {w : World} {u0 : Nat} (h : u0 ≤ 9223372036854775808) {k m : Value} (hk : k = .int .i64 20) (hm : m = .int .u64 u0) :
    DecRel w u0 k m (w.alloc (.cells #[.int .u8 0, .int .u8 0, .int .u8 0, .int .u8 0, .int .u8 0, .int .u8 0, .int .u8 0, .int .u8 0, .int .u8 0, .int .u8 0, .int .u8 0, .int .u8 0, .int .u8 0, .int .u8 0, .int .u8 0, .int .u8 0, .int .u8 0, .int .u8 0, .int .u8 0, .int .u8 0] 87)) := by
  refine ⟨20, u0, _, [], hk, hm, by simp, ?_, h, by simp, (Below.refl _ _).alloc (Nat.le_refl _) _, Blk.new _ _ _, ⟨by simp, by simp, by simp⟩⟩
  have := decN_len u0 18 (by omega)
  simpa using this

/-- The bytes from k on, read as a string. -/
theorem tail20_string {wr : World} {g k : Nat} {cs : Array Value} {l : List UInt8} (hB : Blk wr g 87 cs) (h : Tail20 cs l) (hk : k + l.length = 20) :
    ∀ c, (convert 81 9 (.slice (some ⟨g, k, none⟩) (20 - k) c)).run Tryz.prog wr = .ok (.string (S l)) wr := by
  intro c
  refine run_string_of wr _ 5 (by kernel_rfl) (by kernel_rfl) g k (20 - k) c l (by omega) ?_ _ (by kernel_rfl)
  intro i hi
  rw [hB.cell]
  have := h.2.2 i hi
  rw [← this]
  congr 1
  omega

theorem decRel_step {w wr : World} {u0 k m : Nat} {cs : Array Value} {l : List UInt8} (hk : k + l.length = 20) (hl : (decN m).length + l.length ≤ 19) (hm : m ≤ 9223372036854775808) (he : decN m ++ l = decN u0)
    (hb : Below w.heap.size w wr) (hB : Blk wr w.heap.size 87 cs) (ht : Tail20 cs l) (hz : 10 ≤ m) :
    DecRel w u0 (.int .i64 ((k : Int) - 1)) (.int .u64 ((m : Int) / 10)) (wr.setCell ⟨w.heap.size, k - 1, none⟩ (.int .u8 (48 + (m : Int) % 10))) := by
  have hp := decN_pos m
  have e : (48 + (m : Int) % 10) = 48 + ((m % 10 : Nat) : Int) := by omega
  rw [decN_big hz] at hl he
  simp at hl
  refine ⟨k - 1, m / 10, cs.setIfInBounds (k - 1) (B8 (dig (m % 10))), dig (m % 10) :: l, by congr 1; omega, by congr 1, by simp; omega, by simp; omega, by omega, by rw [← he]; simp, hb.setCell (Nat.le_refl _) _, ?_, ht.cons hk (by omega) _⟩
  rw [e, B8_digit _ (by omega)]
  exact hB.set_ _ _

theorem dec_last {w wr : World} {u0 k m : Nat} {cs : Array Value} {l : List UInt8} (hk : k + l.length = 20) (hl : (decN m).length + l.length ≤ 19) (he : decN m ++ l = decN u0)
    (hb : Below w.heap.size w wr) (hB : Blk wr w.heap.size 87 cs) (ht : Tail20 cs l) (hz : m < 10) :
    ∃ cs', Blk (wr.setCell ⟨w.heap.size, k - 1, none⟩ (.int .u8 (48 + (m : Int) % 10))) w.heap.size 87 cs' ∧ Tail20 cs' (decN u0) ∧ k - 1 + (decN u0).length = 20 ∧ (decN u0).length ≤ 19 := by
  have e : (48 + (m : Int) % 10) = 48 + ((m % 10 : Nat) : Int) := by omega
  have e2 : m % 10 = m := by omega
  rw [decN_small hz] at he hl
  simp only [List.length_singleton] at hl
  rw [List.singleton_append] at he
  refine ⟨cs.setIfInBounds (k - 1) (B8 (dig m)), ?_, by rw [← he]; exact ht.cons hk (by omega) _, by rw [← he]; simp; omega, by rw [← he]; simp; omega⟩
  rw [e, B8_digit _ (by omega), e2]
  exact hB.set_ _ _

theorem text_Decimal_pos (n : Int) (w : World) (hn : ¬ n < 0) (h1 : n ≤ 9223372036854775807) : Calls Tryz.prog 26 #[.int .i64 n] w fun e w' => e = .returned (.string (S (decI n))) ∧ Below w.heap.size w w' := by
  obtain ⟨u0, rfl⟩ := Int.eq_ofNat_of_zero_le (show 0 ≤ n by omega)
  go_enter Tryz.func26, Tryz.ntmps26
  go_wp2
  go_loopw [4, 5] (fun a u wr => DecRel w u0 a u wr) (fun _ u _ => (intOf u).toNat)
  case atStart => exact decRel_start (by omega) rfl rfl
  case round =>
    obtain ⟨k, m, cs, l, rfl, rfl, hk, hl, hm, he, hb, hB, ht⟩ := hrel
    have hp := decN_pos m
    have hk1 : 1 ≤ k := by omega
    obtain ⟨v, hc⟩ : ∃ v, wr.cell? ⟨w.heap.size, k - 1, none⟩ = some v := ⟨_, by rw [hB.cell]; exact Array.getElem?_eq_getElem (by have := ht.1; omega)⟩
    have hf := hB.frozen (k - 1)
    have e1 : ((k : Int) - 1).toNat = k - 1 := by omega
    have i1 : (1 : Int) ≤ k := by omega
    have i2 : (k : Int) - 1 ≤ 20 := by omega
    have i3 : (k : Int) ≤ 21 := by omega
    have i4 : ¬ (20 = k - 1) := by omega
    by_cases hz : m < 10
    · obtain ⟨cs', hB', ht', hk', hl'⟩ := dec_last hk hl he hb hB ht hz
      have hs := tail20_string hB' ht' hk'
      have hb' := hb.setCell (p := ⟨w.heap.size, k - 1, none⟩) (Nat.le_refl _) (.int .u8 (48 + (m : Int) % 10))
      clear he hB' ht' hk'
      go_wp2
      go_ret
      exact ⟨by rw [decI, if_neg (by omega)]; rfl, hb'⟩
    · have hz' : 10 ≤ m := by omega
      have hr := decRel_step hk hl hm he hb hB ht hz'
      clear he
      go_wp2
      go_roundw
      case rel => exact hr
      case measure => simp [intOf]; omega

theorem text_Decimal_neg (n : Int) (w : World) (hn : n < 0) (h0 : -9223372036854775808 ≤ n) : Calls Tryz.prog 26 #[.int .i64 n] w fun e w' => e = .returned (.string (S (decI n))) ∧ Below w.heap.size w w' := by
  obtain ⟨u0, hu⟩ : ∃ u0 : Nat, u0 = n.natAbs := ⟨_, rfl⟩
  have hw1 : IntKind.u64.wrap (-IntKind.u64.wrap n) = (u0 : Int) := by
    unfold IntKind.wrap
    simp [IntKind.bits, IntKind.signed]
    omega
  have hD : decI n = 45 :: decN u0 := by rw [decI, if_pos hn, hu]
  have hle : u0 ≤ 9223372036854775808 := by omega
  clear hu
  go_enter Tryz.func26, Tryz.ntmps26
  go_wp2
  go_loopw [4, 5] (fun a u wr => DecRel w u0 a u wr) (fun _ u _ => (intOf u).toNat)
  case atStart => exact decRel_start hle rfl (by rw [← hw1])
  case round =>
    obtain ⟨k, m, cs, l, rfl, rfl, hk, hl, hm, he, hb, hB, ht⟩ := hrel
    have hp := decN_pos m
    have hk1 : 1 ≤ k := by omega
    obtain ⟨v, hc⟩ : ∃ v, wr.cell? ⟨w.heap.size, k - 1, none⟩ = some v := ⟨_, by rw [hB.cell]; exact Array.getElem?_eq_getElem (by have := ht.1; omega)⟩
    have hf := hB.frozen (k - 1)
    have e1 : ((k : Int) - 1).toNat = k - 1 := by omega
    have i1 : (1 : Int) ≤ k := by omega
    have i2 : (k : Int) - 1 ≤ 20 := by omega
    have i3 : (k : Int) ≤ 21 := by omega
    have i4 : ¬ (20 = k - 1) := by omega
    by_cases hz : m < 10
    · obtain ⟨cs', hB', ht', hk', hl'⟩ := dec_last hk hl he hb hB ht hz
      have hb' := hb.setCell (p := ⟨w.heap.size, k - 1, none⟩) (Nat.le_refl _) (.int .u8 (48 + (m : Int) % 10))
      obtain ⟨v2, hc2⟩ : ∃ v, wr.cell? ⟨w.heap.size, k - 1 - 1, none⟩ = some v := ⟨_, by rw [hB.cell]; exact Array.getElem?_eq_getElem (by have := ht.1; omega)⟩
      have hf2 := hB.frozen (k - 1 - 1)
      have e2 : ((k : Int) - 1 - 1).toNat = k - 1 - 1 := by omega
      have i5 : (2 : Int) ≤ k := by omega
      have i6 : (k : Int) - 1 - 1 ≤ 20 := by omega
      have i7 : ¬ (20 = k - 1 - 1) := by omega
      have i8 : (1 : Int) ≤ (k : Int) - 1 := by omega
      have hs := tail20_string (k := k - 1 - 1) (l := 45 :: decN u0) (hB'.set_ (k - 1 - 1) (.int .u8 45)) (ht'.cons hk' (by omega) 45) (by simp; omega)
      have hb2 := hb'.setCell (p := ⟨w.heap.size, k - 1 - 1, none⟩) (Nat.le_refl _) (.int .u8 45)
      clear he hB' ht' hk'
      go_wp2
      go_ret
      exact ⟨by rw [hD]; rfl, hb2⟩
    · have hz' : 10 ≤ m := by omega
      have hr := decRel_step hk hl hm he hb hB ht hz'
      clear he
      go_wp2
      go_roundw
      case rel => exact hr
      case measure => simp [intOf]; omega

theorem text_Decimal (n : Int) (w : World) (h0 : -9223372036854775808 ≤ n) (h1 : n ≤ 9223372036854775807) : Calls Tryz.prog 26 #[.int .i64 n] w fun e w' => e = .returned (.string (S (decI n))) ∧ Below w.heap.size w w' := by
  by_cases hn : n < 0
  · exact text_Decimal_neg n w hn h0
  · exact text_Decimal_pos n w hn h1

end Go.Proofs.YtecekflooihkoaaGreatDoor
