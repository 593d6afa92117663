/- Plain laws on lists of bytes and numbers: what package text computes. No program is named here. -/
import Derived.Test.YtecekflooihkoaaGreatDoorBase
set_option linter.unusedVariables false
set_option linter.unusedSimpArgs false
namespace Go.Proofs.YtecekflooihkoaaGreatDoor
open Go.RowKit

/-- What text.Number's loop computes. -/
def valI (l : List UInt8) : Int := l.foldl (fun n c => 10 * n + (c.toNat : Int) - 48) 0
theorem valI_snoc (l : List UInt8) (c : UInt8) : valI (l ++ [c]) = 10 * valI l + (c.toNat : Int) - 48 := by
  simp [valI]
theorem valI_take (l : List UInt8) (k : Nat) (h : k < l.length) : valI (l.take (k + 1)) = 10 * valI (l.take k) + (l[k].toNat : Int) - 48 := by
  rw [List.take_succ_eq_append_getElem h, valI_snoc]
theorem valI_rev (r : List UInt8) : 3 * valI r.reverse ≥ -16 * ((10 ^ r.length : Nat) - 1) ∧ valI r.reverse ≤ 23 * ((10 ^ r.length : Nat) - 1) := by
  induction r with
  | nil => simp [valI]
  | cons c r ih =>
    have h1 := c.toNat_lt
    rw [List.reverse_cons, valI_snoc, List.length_cons, Nat.pow_succ]
    obtain ⟨h2, h3⟩ := ih
    generalize 10 ^ r.length = p at *
    constructor <;> omega
theorem valI_bound (l : List UInt8) (h : l.length ≤ 16) : -60000000000000000 ≤ valI l ∧ valI l ≤ 230000000000000000 := by
  have h1 := valI_rev l.reverse
  rw [List.reverse_reverse, List.length_reverse] at h1
  have h2 : 10 ^ l.length ≤ 10 ^ 16 := Nat.pow_le_pow_right (by omega) h
  have h3 : (10 : Nat) ^ 16 = 10000000000000000 := by decide
  rw [h3] at h2
  generalize 10 ^ l.length = p at *
  omega
theorem valI_bound' (l : List UInt8) (h : l.length ≤ 15) : -6000000000000000 ≤ valI l ∧ valI l ≤ 23000000000000000 := by
  have h1 := valI_rev l.reverse
  rw [List.reverse_reverse, List.length_reverse] at h1
  have h2 : 10 ^ l.length ≤ 10 ^ 15 := Nat.pow_le_pow_right (by omega) h
  have h3 : (10 : Nat) ^ 15 = 1000000000000000 := by decide
  rw [h3] at h2
  generalize 10 ^ l.length = p at *
  omega

/-- A text is a number's decimal. -/
def isNum (l : List UInt8) : Bool := decide (l.length ≤ 16) && decide (0 ≤ valI l) && decide (valI l ≤ 9007199254740992) && (decI (valI l) == l)
/-- The number of a text; 0, where it is none's. -/
def numI (l : List UInt8) : Int := if isNum l then valI l else 0
/-- What text.Number tells beside it: 0 or ErrForm. -/
def numE (l : List UInt8) : Int := if isNum l then 0 else 2

def IsDig (c : UInt8) : Prop := 48 ≤ c.toNat ∧ c.toNat ≤ 57
theorem isDig_dig (n : Nat) (h : n < 10) : IsDig (dig n) := by
  unfold IsDig dig
  simp [UInt8.toNat_ofNat']
  omega
theorem dig_toNat (n : Nat) (h : n < 10) : (dig n).toNat = 48 + n := by
  unfold dig
  simp [UInt8.toNat_ofNat']
  omega
theorem decN_digits (n : Nat) : ∀ c ∈ decN n, IsDig c := by
  induction n using Nat.strongRecOn with
  | _ n ih =>
    by_cases h : n < 10
    · rw [decN_small h]; intro c hc; simp at hc; subst hc; exact isDig_dig n h
    · rw [decN_big (by omega)]
      intro c hc
      rcases List.mem_append.1 hc with h1 | h1
      · exact ih (n / 10) (by omega) c h1
      · simp at h1; subst h1; exact isDig_dig _ (by omega)
theorem decN_head (n : Nat) : 1 < (decN n).length → (decN n)[0]? ≠ some 48 := by
  induction n using Nat.strongRecOn with
  | _ n ih =>
    by_cases h : n < 10
    · rw [decN_small h]; simp
    · rw [decN_big (by omega)]
      intro _
      have hp := decN_pos (n / 10)
      rw [List.getElem?_append_left (by omega)]
      by_cases h1 : n / 10 < 10
      · rw [decN_small h1]
        have := dig_toNat (n / 10) h1
        simp
        intro h2
        rw [h2] at this
        simp at this
        omega
      · refine ih (n / 10) (by omega) ?_
        rw [decN_big (by omega)]
        have := decN_pos (n / 10 / 10)
        simp; omega
theorem valI_nonneg (r : List UInt8) (h : ∀ c ∈ r, IsDig c) : 0 ≤ valI r.reverse := by
  induction r with
  | nil => simp [valI]
  | cons c r ih =>
    rw [List.reverse_cons, valI_snoc]
    have h1 := ih (fun c hc => h c (by simp [hc]))
    have h2 := h c (by simp)
    unfold IsDig at h2
    omega
theorem valI_dec (r : List UInt8) (h : ∀ c ∈ r, IsDig c) (hne : r ≠ []) (hz : r.reverse[0]? = some 48 → r.length = 1) : decN (valI r.reverse).toNat = r.reverse := by
  induction r with
  | nil => exact absurd rfl hne
  | cons c r ih =>
    have h2 := h c (by simp)
    have hd : dig (c.toNat - 48) = c := by
      unfold IsDig at h2
      apply UInt8.toNat_inj.1
      rw [dig_toNat _ (by omega)]; omega
    have hr : ∀ c ∈ r, IsDig c := fun c hc => h c (by simp [hc])
    have hn := valI_nonneg r hr
    unfold IsDig at h2
    rw [List.reverse_cons, valI_snoc]
    by_cases hr0 : r = []
    · subst hr0
      simp [valI]
      rw [show ((c.toNat : Int) - 48).toNat = c.toNat - 48 by omega, decN_small (by omega), hd]
    · have hne' : r.reverse ≠ [] := by simpa using hr0
      have hlen : 0 < r.reverse.length := List.length_pos_iff.2 hne'
      have hz' : r.reverse[0]? ≠ some 48 := by
        intro h3
        have : (c :: r).length = 1 := hz (by rw [List.reverse_cons, List.getElem?_append_left hlen]; exact h3)
        simp at this; exact hr0 this
      have ih' := ih hr hr0 (fun h3 => absurd h3 hz')
      have hv : 1 ≤ valI r.reverse := by
        rcases Int.lt_or_le (valI r.reverse) 1 with h4 | h4
        · have h5 : (valI r.reverse).toNat = 0 := by omega
          rw [h5, decN_small (by omega)] at ih'
          rw [← ih'] at hz'
          simp [dig] at hz'
        · exact h4
      rw [show (10 * valI r.reverse + (c.toNat : Int) - 48).toNat = 10 * (valI r.reverse).toNat + (c.toNat - 48) by omega, decN_big (by omega),
        show (10 * (valI r.reverse).toNat + (c.toNat - 48)) / 10 = (valI r.reverse).toNat by omega, show (10 * (valI r.reverse).toNat + (c.toNat - 48)) % 10 = c.toNat - 48 by omega, ih', hd]

theorem isNum_mk {l : List UInt8} (hl : l.length ≤ 16) (hne : l ≠ []) (hd : ∀ c ∈ l, IsDig c) (hz : l[0]? = some 48 → l.length = 1) (hv : valI l ≤ 9007199254740992) : isNum l = true := by
  have h1 := valI_nonneg l.reverse (by simpa using hd)
  have h2 := valI_dec l.reverse (by simpa using hd) (by simpa using hne) (by simpa using hz)
  rw [List.reverse_reverse] at h1 h2
  unfold isNum
  rw [decI, if_neg (by omega), show (valI l).natAbs = (valI l).toNat by omega, h2]
  simp; omega
theorem isNum_true {l : List UInt8} (h : isNum l = true) : l.length ≤ 16 ∧ 0 ≤ valI l ∧ valI l ≤ 9007199254740992 ∧ decN (valI l).toNat = l := by
  unfold isNum at h
  simp only [Bool.and_eq_true, decide_eq_true_eq, beq_iff_eq] at h
  obtain ⟨⟨⟨h1, h2⟩, h3⟩, h4⟩ := h
  rw [decI, if_neg (by omega), show (valI l).natAbs = (valI l).toNat by omega] at h4
  exact ⟨h1, h2, h3, h4⟩
theorem isNum_not {l : List UInt8} (h : ¬ (l.length ≤ 16 ∧ 0 ≤ valI l ∧ valI l ≤ 9007199254740992 ∧ decN (valI l).toNat = l)) : isNum l = false := by
  cases hb : isNum l with
  | false => rfl
  | true => exact absurd (isNum_true hb) h
theorem isNum_nil : isNum [] = false := isNum_not fun h => by
  have := decN_pos (valI []).toNat
  rw [h.2.2.2] at this; simp at this
theorem isNum_long {l : List UInt8} (h : 16 < l.length) : isNum l = false := isNum_not fun k => by omega
theorem isNum_zero {l : List UInt8} (h : l[0]? = some 48) (h1 : 1 < l.length) : isNum l = false := isNum_not fun k => by
  have := decN_head (valI l).toNat
  rw [k.2.2.2] at this
  exact this h1 h
theorem isNum_odd {l : List UInt8} {i : Nat} (hi : i < l.length) (h : ¬ IsDig l[i]) : isNum l = false := isNum_not fun k => by
  have := decN_digits (valI l).toNat
  rw [k.2.2.2] at this
  exact h (this _ (List.getElem_mem hi))
theorem isNum_big {l : List UInt8} (h : 9007199254740992 < valI l) : isNum l = false := isNum_not fun k => by omega

theorem valI_decN (n : Nat) : valI (decN n) = n := by
  induction n using Nat.strongRecOn with
  | _ n ih =>
    by_cases h : n < 10
    · rw [decN_small h]
      have := dig_toNat n h
      simp [valI, this]
      omega
    · rw [decN_big (by omega), valI_snoc, ih (n / 10) (by omega), dig_toNat _ (by omega)]
      omega
theorem isNum_dec {n : Int} (h0 : 0 ≤ n) (h1 : n ≤ 9007199254740992) : isNum (decI n) = true ∧ numI (decI n) = n ∧ numE (decI n) = 0 := by
  have e : decI n = decN n.toNat := by rw [decI, if_neg (by omega)]; congr 1; omega
  have hv : valI (decI n) = n := by rw [e, valI_decN]; omega
  have hn : isNum (decI n) = true := by
    unfold isNum
    rw [hv, e]
    have := decN_len n.toNat 15 (by omega)
    simp
    omega
  exact ⟨hn, by simp [numI, hn, hv], by simp [numE, hn]⟩
theorem isNum_dec_no {n : Int} (h : n < 0 ∨ 9007199254740992 < n) : isNum (decI n) = false := by
  rcases h with h | h
  · have e : decI n = 45 :: decN n.natAbs := by rw [decI, if_pos h]
    rw [e]
    exact isNum_odd (i := 0) (by simp) (by simp [IsDig])
  · have e : decI n = decN n.toNat := by rw [decI, if_neg (by omega)]; congr 1; omega
    exact isNum_big (by rw [e, valI_decN]; omega)
theorem num_no {l : List UInt8} (h : isNum l = false) : numI l = 0 ∧ numE l = 2 := by simp [numI, numE, h]
theorem num_yes {l : List UInt8} (h : isNum l = true) : numE l = 0 ∧ -9223372036854775808 ≤ numI l ∧ numI l ≤ 9223372036854775807 := by
  have := isNum_true h
  simp [numI, numE, h]; omega

/-! ### the path of a number -/
def pad3 (m : Nat) : List UInt8 := List.replicate (3 - (decN m).length) 48 ++ decN m
def thrI (n : Nat) (s : List UInt8) : List UInt8 := if n = 0 then s else thrI (n / 1000) (120 :: (pad3 (n % 1000) ++ 47 :: s))
termination_by n
def threesS (n : Nat) : List UInt8 := thrI (n / 1000) (pad3 (n % 1000))
theorem decN_len3 (n : Nat) (h : n < 1000) : (decN n).length ≤ 3 := decN_len n 2 (by omega)
theorem pad3_len (n : Nat) (h : n < 1000) : (pad3 n).length = 3 := by
  have := decN_len3 n h
  simp [pad3]; omega

theorem thrI_len (k : Nat) : ∀ (n : Nat) (s : List UInt8), n < 1000 ^ k → (thrI n s).length ≤ s.length + 5 * k := by
  induction k with
  | zero => intro n s h; rw [thrI, if_pos (by simpa using h)]; omega
  | succ k ih =>
    intro n s h
    by_cases h0 : n = 0
    · rw [thrI, if_pos h0]; omega
    · rw [thrI, if_neg h0]
      have h1 := ih (n / 1000) (120 :: (pad3 (n % 1000) ++ 47 :: s)) (by rw [Nat.div_lt_iff_lt_mul (by omega), ← Nat.pow_succ]; exact h)
      have h2 := pad3_len (n % 1000) (by omega)
      simp [h2] at h1
      omega
theorem threesS_len (n : Nat) (h : n ≤ 9007199254740992) : (threesS n).length ≤ 28 := by
  have h1 := thrI_len 5 (n / 1000) (pad3 (n % 1000)) (by omega)
  rw [pad3_len _ (by omega)] at h1
  exact h1

/-! ### tiles' paths -/
def isTile (a b c : Int) : Bool := decide (-1 ≤ a) && decide (a ≤ 63) && decide (0 ≤ b) && decide (b ≤ 9007199254740992) && decide (1 ≤ c) && decide (c ≤ 256)
def levelS (a : Int) : List UInt8 := if a < 0 then [101, 110, 116, 114, 105, 101, 115] else decI a
def widthS (c : Int) : List UInt8 := if c < 256 then [46, 112, 47] ++ decI c else []
def pathT (a b c : Int) : List UInt8 := [116, 105, 108, 101, 47] ++ (levelS a ++ (47 :: (threesS b.toNat ++ widthS c)))
def pathS (a b c : Int) : List UInt8 := if isTile a b c then pathT a b c else []
def pathE (a b c : Int) : Int := if isTile a b c then 0 else 1
end Go.Proofs.YtecekflooihkoaaGreatDoor
