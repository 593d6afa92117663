/- JSON, plainly: values, and a reader. No program in it. -/
import Derived.Test.YtbjimikppdfmgaaDoorBase
import Derived.Lib.AtoiAll
import Derived.Lib.ItoaNum
set_option linter.unusedVariables false
set_option linter.unusedSimpArgs false
namespace Go.Proofs.YtbjimikppdfmgaaDoor
open Go.RowKit

inductive Jv where
  | mk (kind : Int) (text : List UInt8) (num : Int) (names : List (List UInt8)) (kids : List Jv)

def blankB (c : UInt8) : Bool := [32, 9, 10, 13].contains c
def skipP (s : List UInt8) : List UInt8 := s.dropWhile fun c => blankB c
def signP (c : UInt8) (s : List UInt8) : List UInt8 × Bool :=
  match skipP s with
  | [] => ([], false)
  | x :: r => if x = c then (skipP r, true) else (x :: r, false)

/-- The bytes of a text, behind its first sign: what it says, and what follows. -/
def scanP : List UInt8 → List UInt8 → Option (List UInt8 × List UInt8)
  | [], _ => none
  | c :: r, out =>
    if c = 34 then some (out, r)
    else if c.toNat < 32 ∨ 126 < c.toNat then none
    else if c = 92 then
      match r with
      | [] => none
      | d :: r' => if d = 34 ∨ d = 92 ∨ d = 47 then scanP r' (out ++ [d]) else none
    else scanP r (out ++ [c])
def textP (s : List UInt8) : Option (List UInt8 × List UInt8) :=
  match skipP s with
  | [] => none
  | x :: r => if x = 34 then scanP r [] else none

def digB (c : UInt8) : Bool := decide (48 ≤ c.toNat) && decide (c.toNat ≤ 57)
def numP (s : List UInt8) : Option (Int × List UInt8) :=
  match Lib.atoiAll (s.takeWhile digB) with
  | .ok k => if k ≤ 9007199254740992 ∧ Lib.itoa k = s.takeWhile digB then some (k, s.dropWhile digB) else none
  | _ => none

/-- What stands between two signs; σ: what the taker keeps. -/
def loopP {σ : Type} (tk : σ → List UInt8 → Option (Jv × σ × List UInt8)) (fin : UInt8) : Nat → σ → List UInt8 → Option (List Jv × σ × List UInt8)
  | 0, _, _ => none
  | f + 1, a, s =>
    match tk a s with
    | none => none
    | some (j, a1, s1) =>
      if (signP fin s1).2 then some ([j], a1, (signP fin s1).1)
      else if (signP 44 (signP fin s1).1).2 then
        match loopP tk fin f a1 (signP 44 (signP fin s1).1).1 with
        | none => none
        | some (js, a2, s2) => some (j :: js, a2, s2)
      else none
def itemsP {σ : Type} (tk : σ → List UInt8 → Option (Jv × σ × List UInt8)) (fin : UInt8) (N : Nat) (a : σ) (s : List UInt8) : Option (List Jv × σ × List UInt8) :=
  if (signP fin s).2 then some ([], a, (signP fin s).1) else loopP tk fin N a (signP fin s).1

def kidL (v : List UInt8 → Option (Jv × List UInt8)) (_ : Unit) (s : List UInt8) : Option (Jv × Unit × List UInt8) := (v s).map fun p => (p.1, (), p.2)
def kidM (v : List UInt8 → Option (Jv × List UInt8)) (ns : List (List UInt8)) (s : List UInt8) : Option (Jv × List (List UInt8) × List UInt8) :=
  match textP s with
  | none => none
  | some (n, s1) => if ns.contains n then none else if (signP 58 s1).2 then (v (signP 58 s1).1).map fun p => (p.1, ns ++ [n], p.2) else none

/-- A value, with so many more in one another. -/
def valP (N : Nat) : Nat → List UInt8 → Option (Jv × List UInt8)
  | n, s =>
    if (skipP s).head? = some 34 then (textP (skipP s)).map fun p => (.mk 1 p.1 0 [] [], skipP p.2)
    else if (signP 91 (skipP s)).2 then
      match n with
      | 0 => none
      | n + 1 => (itemsP (kidL (valP N n)) 93 N () (signP 91 (skipP s)).1).map fun p => (.mk 3 [] 0 [] p.1, skipP p.2.2)
    else if (signP 123 (signP 91 (skipP s)).1).2 then
      match n with
      | 0 => none
      | n + 1 => (itemsP (kidM (valP N n)) 125 N [] (signP 123 (signP 91 (skipP s)).1).1).map fun p => (.mk 4 [] 0 p.2.1 p.1, skipP p.2.2)
    else (numP (signP 123 (signP 91 (skipP s)).1).1).map fun p => (.mk 2 [] p.1 [] [], skipP p.2)
  termination_by structural n => n
/-- A whole text. -/
def readP (s : List UInt8) : Option Jv :=
  match valP 70000 5 s with
  | some (j, []) => some j
  | _ => none

/-! ### lengths -/
theorem skip_len (s : List UInt8) : (skipP s).length ≤ s.length := (List.dropWhile_sublist _).length_le
theorem sign_len (c : UInt8) (s : List UInt8) : (signP c s).1.length ≤ s.length ∧ ((signP c s).2 = true → (signP c s).1.length < s.length) := by
  have h := skip_len s
  unfold signP
  split
  · simp
  · rename_i x r e
    rw [e] at h
    simp at h
    split
    · have := skip_len r
      simp; omega
    · simp; omega
theorem scan_len : ∀ (n : Nat) (s out : List UInt8) (p), s.length ≤ n → scanP s out = some p → p.2.length < s.length
  | 0, s, out, p, hn, h => by
    obtain rfl : s = [] := List.eq_nil_of_length_eq_zero (by omega)
    simp [scanP] at h
  | n + 1, [], out, p, hn, h => by simp [scanP] at h
  | n + 1, c :: r, out, p, hn, h => by
    rw [scanP.eq_def] at h
    simp only [] at h
    simp only [List.length_cons] at hn ⊢
    split at h
    · simp at h; subst h; simp
    · split at h
      · simp at h
      · split at h
        · split at h
          · simp at h
          · rename_i d r'
            split at h
            · have := scan_len n r' _ p (by simp at hn; omega) h
              simp; omega
            · simp at h
        · have := scan_len n r _ p (by omega) h
          omega
theorem text_len {s : List UInt8} {p} (h : textP s = some p) : p.2.length < s.length := by
  have hs := skip_len s
  unfold textP at h
  split at h
  · simp at h
  · rename_i x r e
    rw [e] at hs
    simp at hs
    split at h
    · have := scan_len _ r [] p (Nat.le_refl _) h
      omega
    · simp at h
theorem num_len {s : List UInt8} {p} (h : numP s = some p) : p.2.length ≤ s.length := by
  unfold numP at h
  split at h
  · split at h
    · simp at h; subst h
      exact (List.dropWhile_sublist _).length_le
    · simp at h
  · simp at h
theorem loop_len {σ : Type} {tk : σ → List UInt8 → Option (Jv × σ × List UInt8)} {fin : UInt8} (ht : ∀ a s p, tk a s = some p → p.2.2.length ≤ s.length) :
    ∀ (f : Nat) (a : σ) (s : List UInt8) (p), loopP tk fin f a s = some p → p.2.2.length ≤ s.length
  | 0, a, s, p, h => by simp [loopP] at h
  | f + 1, a, s, p, h => by
    rw [loopP] at h
    split at h
    · simp at h
    · rename_i j a1 s1 e
      have h1 := ht a s _ e
      have h2 := (sign_len fin s1).1
      have h3 := (sign_len 44 (signP fin s1).1).1
      simp only [] at h1
      split at h
      · simp at h; subst h; simp; omega
      · split at h
        · split at h
          · simp at h
          · rename_i js a2 s2 e2
            have h4 := loop_len ht f _ _ _ e2
            simp only [] at h4
            simp at h; subst h; simp; omega
        · simp at h
theorem items_len {σ : Type} {tk : σ → List UInt8 → Option (Jv × σ × List UInt8)} {fin : UInt8} (ht : ∀ a s p, tk a s = some p → p.2.2.length ≤ s.length) (N : Nat) (a : σ) (s : List UInt8) (p) (h : itemsP tk fin N a s = some p) : p.2.2.length ≤ s.length := by
  have h2 := (sign_len fin s).1
  unfold itemsP at h
  split at h
  · simp at h; subst h; exact h2
  · exact Nat.le_trans (loop_len ht N _ _ _ h) h2
theorem kidM_len {v : List UInt8 → Option (Jv × List UInt8)} (hv : ∀ s p, v s = some p → p.2.length ≤ s.length) (ns : List (List UInt8)) (s : List UInt8) (p) (h : kidM v ns s = some p) : p.2.2.length ≤ s.length := by
  unfold kidM at h
  split at h
  · simp at h
  · rename_i n s1 e
    have h1 := text_len e
    have h2 := (sign_len 58 s1).1
    simp only [] at h1
    split at h
    · simp at h
    · split at h
      · simp at h
        obtain ⟨j, s2, e2, rfl⟩ := h
        have := hv _ _ e2
        simp only [] at this ⊢
        omega
      · simp at h
theorem kidL_len {v : List UInt8 → Option (Jv × List UInt8)} (hv : ∀ s p, v s = some p → p.2.length ≤ s.length) (a : Unit) (s : List UInt8) (p) (h : kidL v a s = some p) : p.2.2.length ≤ s.length := by
  unfold kidL at h
  simp at h
  obtain ⟨j, s2, e2, rfl⟩ := h
  exact hv _ _ e2
theorem val_len (N : Nat) : ∀ (n : Nat) (s : List UInt8) (p), valP N n s = some p → p.2.length ≤ s.length := by
  intro n
  induction n with
  | zero =>
    intro s p h
    have h1 := skip_len s
    have h2 := (sign_len 91 (skipP s)).1
    have h3 := (sign_len 123 (signP 91 (skipP s)).1).1
    rw [valP] at h
    split at h
    · simp at h
      obtain ⟨t, r, e, rfl⟩ := h
      have := text_len e
      have := skip_len r
      simp only [] at *
      omega
    · split at h
      · simp at h
      · split at h
        · simp at h
        · simp at h
          obtain ⟨t, r, e, rfl⟩ := h
          have := num_len e
          have := skip_len r
          simp only [] at *
          omega
  | succ n ih =>
    intro s p h
    have h1 := skip_len s
    have h2 := (sign_len 91 (skipP s)).1
    have h3 := (sign_len 123 (signP 91 (skipP s)).1).1
    rw [valP] at h
    split at h
    · simp at h
      obtain ⟨t, r, e, rfl⟩ := h
      have := text_len e
      have := skip_len r
      simp only [] at *
      omega
    · split at h
      · simp at h
        obtain ⟨js, a, r, e, rfl⟩ := h
        have := items_len (kidL_len ih) _ _ _ _ e
        have := skip_len r
        simp only [] at *
        omega
      · split at h
        · simp at h
          obtain ⟨js, a, r, e, rfl⟩ := h
          have := items_len (kidM_len ih) _ _ _ _ e
          have := skip_len r
          simp only [] at *
          omega
        · simp at h
          obtain ⟨t, r, e, rfl⟩ := h
          have := num_len e
          have := skip_len r
          simp only [] at *
          omega
end Go.Proofs.YtbjimikppdfmgaaDoor
