/- Plain laws: two tiles have one path just if they are the same. No program is named here. -/
import Derived.Test.YtecekflooihkoaaGreatDoorPlain
set_option linter.unusedVariables false
set_option linter.unusedSimpArgs false
namespace Go.Proofs.YtecekflooihkoaaGreatDoor
open Go.RowKit

theorem val_lin (l : List UInt8) : ∀ a : Int, l.foldl (fun n c => 10 * n + (c.toNat : Int) - 48) a = a * (10 ^ l.length : Nat) + valI l := by
  induction l with
  | nil => intro a; simp [valI]
  | cons c l ih =>
    intro a
    unfold valI
    simp only [List.foldl_cons, List.length_cons]
    rw [ih (10 * a + (c.toNat : Int) - 48), ih (10 * 0 + (c.toNat : Int) - 48), Nat.pow_succ, Int.natCast_mul]
    generalize ((10 ^ l.length : Nat) : Int) = p
    generalize valI l = v
    rw [show ((10 : Nat) : Int) = 10 from rfl, show 10 * a + (c.toNat : Int) - 48 = 10 * a + ((c.toNat : Int) - 48) by omega, show 10 * 0 + (c.toNat : Int) - 48 = (c.toNat : Int) - 48 by omega, Int.add_mul]
    have : a * (p * 10) = 10 * a * p := by rw [Int.mul_comm p 10, ← Int.mul_assoc, Int.mul_comm a 10]
    rw [this]
    omega
theorem valI_app (a b : List UInt8) : valI (a ++ b) = valI a * (10 ^ b.length : Nat) + valI b := by
  have h := val_lin b (valI a)
  unfold valI at h ⊢
  rw [List.foldl_append]
  exact h
theorem valI_zeros (k : Nat) (l : List UInt8) : valI (List.replicate k 48 ++ l) = valI l := by
  induction k with
  | zero => simp
  | succ k ih =>
    rw [← ih, List.replicate_succ, List.cons_append, show (48 :: (List.replicate k 48 ++ l)) = [48] ++ (List.replicate k 48 ++ l) from rfl, valI_app]
    simp [valI]

/-- The digits of a text. -/
def digs (l : List UInt8) : List UInt8 := l.filter fun c => decide (48 ≤ c.toNat) && decide (c.toNat ≤ 57)
theorem digs_all {l : List UInt8} (h : ∀ c ∈ l, IsDig c) : digs l = l := by
  unfold digs
  rw [List.filter_eq_self]
  intro c hc
  have := h c hc
  unfold IsDig at this
  simp; omega
theorem pad3_digits (m : Nat) : ∀ c ∈ pad3 m, IsDig c := by
  intro c hc
  rcases List.mem_append.1 hc with h | h
  · have := List.eq_of_mem_replicate h
    subst this
    simp [IsDig]
  · exact decN_digits m c h
theorem valI_pad3 (m : Nat) : valI (pad3 m) = m := by
  unfold pad3; rw [valI_zeros, valI_decN]

theorem thrI_val (m : Nat) : ∀ s : List UInt8, valI (digs (thrI m s)) = (m : Int) * (10 ^ (digs s).length : Nat) + valI (digs s) := by
  induction m using Nat.strongRecOn with
  | _ m ih =>
    intro s
    by_cases h : m = 0
    · subst h
      rw [thrI, if_pos rfl]; simp
    · rw [thrI, if_neg h, ih (m / 1000) (by omega)]
      have e : digs (120 :: (pad3 (m % 1000) ++ 47 :: s)) = pad3 (m % 1000) ++ digs s := by
        have h1 := digs_all (pad3_digits (m % 1000))
        unfold digs at *
        simp [h1]
      rw [e, valI_app, valI_pad3, List.length_append, pad3_len _ (by omega), Nat.pow_add]
      generalize (10 ^ (digs s).length : Nat) = p
      generalize valI (digs s) = v
      rw [Int.natCast_mul, show ((10 ^ 3 : Nat) : Int) = 1000 from rfl]
      have h3 : (m : Int) = 1000 * ((m / 1000 : Nat) : Int) + ((m % 1000 : Nat) : Int) := by omega
      generalize ((m / 1000 : Nat) : Int) = q at *
      generalize ((m % 1000 : Nat) : Int) = r at *
      rw [h3, Int.add_mul, ← Int.mul_assoc, Int.mul_comm q 1000, Int.add_assoc]
theorem threesS_val (n : Nat) : valI (digs (threesS n)) = n := by
  unfold threesS
  rw [thrI_val, digs_all (pad3_digits _), valI_pad3, pad3_len _ (by omega)]
  rw [show ((10 ^ 3 : Nat) : Int) = 1000 from rfl]
  omega
theorem thrI_sign (m : Nat) : ∀ s : List UInt8, (∀ c ∈ s, c ≠ 46) → ∀ c ∈ thrI m s, c ≠ 46 := by
  induction m using Nat.strongRecOn with
  | _ m ih =>
    intro s hs
    by_cases h : m = 0
    · subst h
      rw [thrI, if_pos rfl]; exact hs
    · rw [thrI, if_neg h]
      refine ih (m / 1000) (by omega) _ ?_
      intro c hc
      simp only [List.mem_cons, List.mem_append] at hc
      rcases hc with rfl | hc | rfl | hc
      · decide
      · have := pad3_digits _ c hc
        rintro rfl
        simp [IsDig] at this
      · decide
      · exact hs c hc
theorem threesS_sign (n : Nat) : ∀ c ∈ threesS n, c ≠ 46 := thrI_sign _ _ fun c hc => by
  have := pad3_digits _ c hc
  rintro rfl
  simp [IsDig] at this

/-- Parted at the first sign. -/
theorem part_at (x : UInt8) : ∀ {a a' b b' : List UInt8}, (∀ c ∈ a, c ≠ x) → (∀ c ∈ a', c ≠ x) → a ++ x :: b = a' ++ x :: b' → a = a' ∧ b = b'
  | [], [], b, b', _, _, h => by simpa using h
  | [], c' :: a', b, b', _, h2, h => by
    simp only [List.nil_append, List.cons_append, List.cons.injEq] at h
    exact absurd h.1.symm (h2 c' (by simp))
  | c :: a, [], b, b', h1, _, h => by
    simp only [List.nil_append, List.cons_append, List.cons.injEq] at h
    exact absurd h.1 (h1 c (by simp))
  | c :: a, c' :: a', b, b', h1, h2, h => by
    simp only [List.cons_append, List.cons.injEq] at h
    obtain ⟨h3, h4⟩ := part_at x (fun c hc => h1 c (by simp [hc])) (fun c hc => h2 c (by simp [hc])) h.2
    exact ⟨by rw [h.1, h3], h4⟩
theorem part_end (x : UInt8) : ∀ {a a' w w' : List UInt8}, (∀ c ∈ a, c ≠ x) → (∀ c ∈ a', c ≠ x) → (w = [] ∨ ∃ t, w = x :: t) → (w' = [] ∨ ∃ t, w' = x :: t) → a ++ w = a' ++ w' → a = a' ∧ w = w'
  | [], [], w, w', _, _, _, _, h => ⟨rfl, by simpa using h⟩
  | [], c' :: a', w, w', _, h2, hw, _, h => by
    rcases hw with rfl | ⟨t, rfl⟩
    · simp at h
    · simp only [List.nil_append, List.cons_append, List.cons.injEq] at h
      exact absurd h.1.symm (h2 c' (by simp))
  | c :: a, [], w, w', h1, _, _, hw, h => by
    rcases hw with rfl | ⟨t, rfl⟩
    · simp at h
    · simp only [List.nil_append, List.cons_append, List.cons.injEq] at h
      exact absurd h.1 (h1 c (by simp))
  | c :: a, c' :: a', w, w', h1, h2, hw, hw', h => by
    simp only [List.cons_append, List.cons.injEq] at h
    obtain ⟨h3, h4⟩ := part_end x (fun c hc => h1 c (by simp [hc])) (fun c hc => h2 c (by simp [hc])) hw hw' h.2
    exact ⟨by rw [h.1, h3], h4⟩

theorem decI_inj {a b : Int} (ha : 0 ≤ a) (hb : 0 ≤ b) (h : decI a = decI b) : a = b := by
  rw [decI, if_neg (by omega), decI, if_neg (by omega)] at h
  have := congrArg valI h
  rw [valI_decN, valI_decN] at this
  omega
theorem decI_digits {a : Int} (ha : 0 ≤ a) : ∀ c ∈ decI a, IsDig c := by
  rw [decI, if_neg (by omega)]; exact decN_digits _
theorem levelS_sign {a : Int} : ∀ c ∈ levelS a, c ≠ 47 := by
  unfold levelS
  split
  · decide
  · intro c hc
    have := decI_digits (by omega) c hc
    rintro rfl
    simp [IsDig] at this
theorem levelS_inj {a b : Int} (ha : -1 ≤ a) (hb : -1 ≤ b) (h : levelS a = levelS b) : a = b := by
  unfold levelS at h
  split at h <;> split at h
  · omega
  · have := decI_digits (a := b) (by omega) 101 (by rw [← h]; simp)
    simp [IsDig] at this
  · have := decI_digits (a := a) (by omega) 101 (by rw [h]; simp)
    simp [IsDig] at this
  · exact decI_inj (by omega) (by omega) h
theorem widthS_form (c : Int) : widthS c = [] ∨ ∃ t, widthS c = 46 :: t := by
  unfold widthS
  split
  · exact .inr ⟨_, rfl⟩
  · exact .inl rfl
theorem widthS_inj {a b : Int} (ha : 1 ≤ a) (hb : 1 ≤ b) (ha' : a ≤ 256) (hb' : b ≤ 256) (h : widthS a = widthS b) : a = b := by
  unfold widthS at h
  split at h <;> split at h
  · simp only [List.append_cancel_left_eq] at h
    exact decI_inj (by omega) (by omega) h
  · simp at h
  · simp at h
  · omega
theorem isTile_iff {a b c : Int} : isTile a b c = true ↔ -1 ≤ a ∧ a ≤ 63 ∧ 0 ≤ b ∧ b ≤ 9007199254740992 ∧ 1 ≤ c ∧ c ≤ 256 := by
  unfold isTile; simp; omega
theorem pathS_inj {a b c a' b' c' : Int} (h : isTile a b c = true) (h' : isTile a' b' c' = true) (he : pathS a b c = pathS a' b' c') : a = a' ∧ b = b' ∧ c = c' := by
  rw [pathS, if_pos h, pathS, if_pos h', pathT, pathT, List.append_cancel_left_eq] at he
  obtain ⟨h1, h2, h3, h4, h5, h6⟩ := isTile_iff.1 h
  obtain ⟨k1, k2, k3, k4, k5, k6⟩ := isTile_iff.1 h'
  obtain ⟨e1, e2⟩ := part_at 47 levelS_sign levelS_sign he
  obtain ⟨e3, e4⟩ := part_end 46 (threesS_sign _) (threesS_sign _) (widthS_form c) (widthS_form c') e2
  have e5 := congrArg (fun l => valI (digs l)) e3
  simp only [threesS_val] at e5
  exact ⟨levelS_inj h1 k1 e1, by omega, widthS_inj h5 k5 h6 k6 e4⟩
theorem pathS_beq {a b c a' b' c' : Int} (h : isTile a b c = true) (h' : isTile a' b' c' = true) : (pathS a b c == pathS a' b' c') = (a == a' && b == b' && c == c') := by
  rw [Bool.eq_iff_iff]
  simp only [beq_iff_eq, Bool.and_eq_true]
  constructor
  · intro he
    obtain ⟨x, y, z⟩ := pathS_inj h h' he
    exact ⟨⟨x, y⟩, z⟩
  · rintro ⟨⟨rfl, rfl⟩, rfl⟩; rfl
end Go.Proofs.YtecekflooihkoaaGreatDoor
