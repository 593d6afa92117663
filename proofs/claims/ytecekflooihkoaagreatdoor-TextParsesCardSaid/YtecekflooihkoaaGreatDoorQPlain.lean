/- Queries, plainly: words between bytes, names, values. No program is named here. -/
import Derived.Test.YtecekflooihkoaaGreatDoorBase
import Derived.Lib.Split
import Derived.Lib.Bytealg
set_option linter.unusedVariables false
set_option linter.unusedSimpArgs false
namespace Go.Proofs.YtecekflooihkoaaGreatDoor
open Go.RowKit

/-! ### words between bytes -/
/-- What stands ahead of the first c, and what stands at and behind it. -/
def ahead (c : UInt8) (l : List UInt8) : List UInt8 := l.takeWhile (· != c)
def behind (c : UInt8) (l : List UInt8) : List UInt8 := l.dropWhile (· != c)
theorem ahead_behind (c : UInt8) (l : List UInt8) : ahead c l ++ behind c l = l := List.takeWhile_append_dropWhile
theorem behind_head (c : UInt8) (l : List UInt8) : behind c l = [] ∨ ∃ r, behind c l = c :: r := by
  induction l with
  | nil => exact .inl rfl
  | cons b l ih =>
    unfold behind
    rw [List.dropWhile_cons]
    by_cases h : b = c
    · subst h
      simp
    · simp [h]
      exact ih
theorem index_ahead (c : UInt8) (l : List UInt8) : Lib.index l [c] = if behind c l = [] then -1 else ((ahead c l).length : Int) := by
  induction l with
  | nil => rfl
  | cons b l ih =>
    unfold Lib.index
    unfold behind ahead
    rw [List.dropWhile_cons, List.takeWhile_cons]
    by_cases h : b = c
    · subst h
      simp [List.isPrefixOf]
    · have h1 : (b != c) = true := by simpa using h
      have h2 : List.isPrefixOf [c] (b :: l) = false := by simp [List.isPrefixOf]; exact fun e => h e.symm
      rw [h1, h2]
      simp only [Bool.false_eq_true, if_false, if_true, if_pos]
      rw [ih]
      unfold behind ahead
      split
      · rfl
      · have : (((List.takeWhile (fun x => x != c) l).length : Int) == -1) = false := by rw [beq_eq_false_iff_ne]; omega
        simp [this]
theorem cut_ahead (c : UInt8) (l : List UInt8) : Lib.cut l [c] = (ahead c l, (behind c l).tail, !(behind c l).isEmpty) := by
  have hl := ahead_behind c l
  unfold Lib.cut
  rw [index_ahead]
  rcases behind_head c l with h | ⟨r, h⟩
  · rw [h] at hl ⊢
    simp at hl
    simp [hl]
  · rw [h] at hl ⊢
    have e1 : l.take (ahead c l).length = ahead c l := by
      have := List.take_left (l₁ := ahead c l) (l₂ := c :: r)
      rwa [hl] at this
    have e2 : l.drop ((ahead c l).length + 1) = r := by
      have := List.drop_left (l₁ := ahead c l ++ [c]) (l₂ := r)
      rw [List.append_assoc, List.singleton_append, hl, List.length_append] at this
      exact this
    simp [e1, e2]
theorem ahead_len (c : UInt8) (l : List UInt8) : (ahead c l).length ≤ l.length := by
  have := congrArg List.length (ahead_behind c l)
  simp at this
  omega
theorem behind_len (c : UInt8) (l : List UInt8) : (behind c l).length ≤ l.length := by
  have := congrArg List.length (ahead_behind c l)
  simp at this
  omega

theorem ahead_eq (c : UInt8) (l : List UInt8) : ahead c (c :: l) = [] := by simp [ahead]
theorem behind_eq (c : UInt8) (l : List UInt8) : behind c (c :: l) = c :: l := by simp [behind]
theorem ahead_ne {c b : UInt8} (h : b ≠ c) (l : List UInt8) : ahead c (b :: l) = b :: ahead c l := by simp [ahead, h]
theorem behind_ne {c b : UInt8} (h : b ≠ c) (l : List UInt8) : behind c (b :: l) = behind c l := by simp [behind, h]
/-- A text's words between bytes c. -/
def wordsC (c : UInt8) : List UInt8 → List (List UInt8)
  | [] => [[]]
  | b :: l => if b = c then [] :: wordsC c l else (b :: (wordsC c l).headD []) :: (wordsC c l).tail
theorem wordsC_eq (c : UInt8) (l : List UInt8) : wordsC c (c :: l) = [] :: wordsC c l := by
  conv => lhs; unfold wordsC
  rw [if_pos rfl]
theorem wordsC_ne {c b : UInt8} (h : b ≠ c) (l : List UInt8) : wordsC c (b :: l) = (b :: (wordsC c l).headD []) :: (wordsC c l).tail := by
  conv => lhs; unfold wordsC
  rw [if_neg h]
theorem wordsC_form (c : UInt8) (l : List UInt8) : (behind c l = [] ∧ wordsC c l = [ahead c l]) ∨ ∃ r, behind c l = c :: r ∧ wordsC c l = ahead c l :: wordsC c r := by
  induction l with
  | nil => exact .inl ⟨rfl, rfl⟩
  | cons b l ih =>
    by_cases h : b = c
    · subst h
      exact .inr ⟨l, behind_eq b l, by rw [wordsC_eq, ahead_eq]⟩
    · rw [wordsC_ne h, ahead_ne h, behind_ne h]
      rcases ih with ⟨h1, h2⟩ | ⟨r, h1, h2⟩
      · exact .inl ⟨h1, by rw [h2]; rfl⟩
      · exact .inr ⟨r, h1, by rw [h2]; rfl⟩
theorem wordsC_last {c : UInt8} {l : List UInt8} (h : behind c l = []) : wordsC c l = [ahead c l] := by
  rcases wordsC_form c l with ⟨h1, h2⟩ | ⟨r, h1, h2⟩
  · exact h2
  · rw [h] at h1; cases h1
theorem wordsC_step {c : UInt8} {l r : List UInt8} (h : behind c l = c :: r) : wordsC c l = ahead c l :: wordsC c r := by
  rcases wordsC_form c l with ⟨h1, h2⟩ | ⟨r', h1, h2⟩
  · rw [h] at h1; cases h1
  · rw [h] at h1
    injection h1 with _ h1
    subst h1
    exact h2
theorem wordsC_pos (c : UInt8) (l : List UInt8) : 1 ≤ (wordsC c l).length := by
  rcases wordsC_form c l with ⟨_, h⟩ | ⟨r, _, h⟩ <;> rw [h] <;> simp
theorem wordsC_len (c : UInt8) (l : List UInt8) : (wordsC c l).length ≤ l.length + 1 := by
  induction l with
  | nil => simp [wordsC]
  | cons b l ih =>
    by_cases h : b = c
    · subst h
      rw [wordsC_eq]
      simp; omega
    · rw [wordsC_ne h]
      simp; omega
theorem wordsC_mem (c : UInt8) (l : List UInt8) : ∀ w ∈ wordsC c l, w.length ≤ l.length := by
  induction l with
  | nil => simp [wordsC]
  | cons b l ih =>
    by_cases h : b = c
    · subst h
      rw [wordsC_eq]
      intro w hw
      rcases List.mem_cons.1 hw with rfl | hw
      · simp
      · have := ih w hw; simp; omega
    · rw [wordsC_ne h]
      have hp := wordsC_pos c l
      cases hw : wordsC c l with
      | nil => rw [hw] at hp; simp at hp
      | cons x xs =>
        rw [hw] at ih
        intro w hm
        simp at hm
        rcases hm with rfl | hm
        · have := ih x (by simp); simp; omega
        · have := ih w (by simp [hm]); simp; omega
/-- No c in the first i bytes, and c then. -/
theorem behind_at {c : UInt8} {l : List UInt8} {i : Nat} (hn : ∀ j, (h : j < l.length) → j < i → l[j] ≠ c) (hi : i < l.length) (hc : l[i] = c) : ahead c l = l.take i ∧ behind c l = c :: l.drop (i + 1) := by
  induction l generalizing i with
  | nil => simp at hi
  | cons b l ih =>
    unfold ahead behind
    rw [List.dropWhile_cons, List.takeWhile_cons]
    rcases i with _ | i
    · simp at hc
      subst hc
      simp
    · have h0 : b ≠ c := hn 0 (by simp) (by omega)
      have h1 : (b != c) = true := by simpa using h0
      rw [h1]
      have := ih (i := i) (fun j h hji => hn (j + 1) (by simp; omega) (by omega)) (by simpa using hi) (by simpa using hc)
      unfold ahead behind at this
      simp [this]
theorem behind_none {c : UInt8} {l : List UInt8} (hn : ∀ j, (h : j < l.length) → l[j] ≠ c) : ahead c l = l ∧ behind c l = [] := by
  have hb : behind c l = [] := by
    rcases behind_head c l with h | ⟨r, h⟩
    · exact h
    · exfalso
      have he := ahead_behind c l
      rw [h] at he
      have hlt : (ahead c l).length < l.length := by
        have := congrArg List.length he
        simp at this; omega
      refine hn (ahead c l).length hlt ?_
      have : l[(ahead c l).length]? = some c := by
        conv => lhs; arg 1; rw [← he]
        simp
      rw [List.getElem?_eq_getElem hlt] at this
      simpa using this
  have := ahead_behind c l
  rw [hb, List.append_nil] at this
  exact ⟨this, hb⟩

theorem splitK_words (c : UInt8) : ∀ (k : Nat) (s : List UInt8), k = Lib.count s [c] → Lib.splitK [c] 0 k s = wordsC c s
  | 0, s, h => by
    have hi := index_ahead c s
    rcases behind_head c s with hb | ⟨r, hb⟩
    · rw [wordsC_last hb]
      have := ahead_behind c s
      rw [hb, List.append_nil] at this
      rw [this]
      rfl
    · rw [hb] at hi
      simp at hi
      have := Lib.count_hit (s := s) (sub := [c]) (by simp) hi
      omega
  | k + 1, s, h => by
    have hi := index_ahead c s
    have hs := ahead_behind c s
    unfold Lib.splitK
    rcases behind_head c s with hb | ⟨r, hb⟩
    · rw [hb] at hi hs
      rw [if_pos rfl] at hi
      simp at hs
      rw [hi, wordsC_last hb, hs]
      rfl
    · rw [hb] at hi hs
      rw [if_neg (by simp)] at hi
      have hc := Lib.count_hit (s := s) (sub := [c]) (by simp) hi
      have e2 : s.drop ((ahead c s).length + 1) = r := by
        have := List.drop_left (l₁ := ahead c s ++ [c]) (l₂ := r)
        rw [List.append_assoc, List.singleton_append, hs, List.length_append] at this
        exact this
      have e1 : s.take (ahead c s).length = ahead c s := by
        have := List.take_left (l₁ := ahead c s) (l₂ := c :: r)
        rwa [hs] at this
      simp only [List.length_singleton] at hc
      rw [e2] at hc
      rw [hi, wordsC_step hb]
      have hne : (((ahead c s).length : Int) == -1) = false := by rw [beq_eq_false_iff_ne]; omega
      rw [hne]
      simp only [Bool.false_eq_true, if_false, Int.toNat_natCast, Nat.add_zero, List.length_singleton]
      rw [e1, e2, splitK_words c k r (by omega)]

/-! ### names, digits of sixteen, values -/
def nameC (c : UInt8) : Bool := (decide (97 ≤ c.toNat) && decide (c.toNat ≤ 122)) || c.toNat == 95
def nameB (l : List UInt8) : Bool := l.all nameC && decide (1 ≤ l.length) && decide (l.length ≤ 20)
def nibI (c : UInt8) : Int := if 48 ≤ c.toNat ∧ c.toNat ≤ 57 then (c.toNat : Int) - 48 else if 97 ≤ c.toNat ∧ c.toNat ≤ 102 then (c.toNat : Int) - 87 else if 65 ≤ c.toNat ∧ c.toNat ≤ 70 then (c.toNat : Int) - 55 else -1
theorem nibI_le (c : UInt8) : -1 ≤ nibI c ∧ nibI c ≤ 15 := by
  unfold nibI
  split
  · omega
  · split
    · omega
    · split <;> omega
def plainO : List UInt8 → Option (List UInt8)
  | [] => some []
  | [c] => if c == 37 then none else some [c]
  | [c, d] => if c == 37 then none else (plainO [d]).map (c :: ·)
  | c :: x :: y :: q => if c == 37 then (if nibI x < 0 ∨ nibI y < 0 then none else (plainO q).map (UInt8.ofNat (16 * nibI x + nibI y).toNat :: ·)) else (plainO (x :: y :: q)).map (c :: ·)
theorem plainO_cons {c : UInt8} {r : List UInt8} (h : (c == 37) = false) : plainO (c :: r) = (plainO r).map (c :: ·) := by
  match r with
  | [] => simp [plainO, h]
  | [d] =>
    conv => lhs; unfold plainO
    simp [h]
  | x :: y :: q =>
    conv => lhs; unfold plainO
    simp [h]
theorem plainO_short {r : List UInt8} (h : r.length < 2) : plainO (37 :: r) = none := by
  match r with
  | [] => rfl
  | [d] => rfl
  | x :: y :: q => simp at h; omega
theorem plainO_bad {x y : UInt8} {q : List UInt8} (h : nibI x < 0 ∨ nibI y < 0) : plainO (37 :: x :: y :: q) = none := by
  conv => lhs; unfold plainO
  rw [if_pos (by rfl), if_pos h]
theorem plainO_sign {x y : UInt8} {q : List UInt8} (h1 : 0 ≤ nibI x) (h2 : 0 ≤ nibI y) : plainO (37 :: x :: y :: q) = (plainO q).map (UInt8.ofNat (16 * nibI x + nibI y).toNat :: ·) := by
  conv => lhs; unfold plainO
  rw [if_pos (by rfl), if_neg (by omega)]
theorem plainO_len : ∀ (r o : List UInt8), plainO r = some o → o.length ≤ r.length
  | [], o, h => by
    simp [plainO] at h; subst h; simp
  | c :: r, o, h => by
    by_cases hc : (c == 37) = false
    · rw [plainO_cons hc] at h
      simp only [Option.map_eq_some_iff] at h
      obtain ⟨o', h', rfl⟩ := h
      have := plainO_len r o' h'
      simp; omega
    · have : c = 37 := by simpa using hc
      subst this
      match r with
      | [] => rw [plainO_short (by simp)] at h; cases h
      | [d] => rw [plainO_short (by simp)] at h; cases h
      | x :: y :: q =>
        by_cases hx : nibI x < 0 ∨ nibI y < 0
        · rw [plainO_bad hx] at h; cases h
        · rw [plainO_sign (by omega) (by omega)] at h
          simp only [Option.map_eq_some_iff] at h
          obtain ⟨o', h', rfl⟩ := h
          have := plainO_len q o' h'
          simp; omega

/-! ### pairs, queries -/
abbrev SPair := List UInt8 × List UInt8
def pairO (w : List UInt8) : Option SPair := if behind 61 w = [] ∨ nameB (ahead 61 w) = false ∨ 100 < (behind 61 w).tail.length then none else (plainO (behind 61 w).tail).map fun v => (ahead 61 w, v)
def queryO (out : List SPair) : List (List UInt8) → Option (List SPair)
  | [] => some out
  | w :: ws => match pairO w with
    | none => none
    | some p => if out.any (fun x => x.1 == p.1) then none else queryO (out ++ [p]) ws
def queryR (l : List UInt8) : Option (List SPair) := if l = [] then some [] else queryO [] (wordsC 38 l)
def queryV (l : List UInt8) : List SPair := (queryR l).getD []
def queryB (l : List UInt8) : Bool := (queryR l).isSome
theorem pairO_len {w : List UInt8} {p : SPair} (h : pairO w = some p) : p.1.length ≤ 20 ∧ p.2.length ≤ 100 := by
  unfold pairO at h
  split at h
  · cases h
  · rename_i hn
    simp only [Option.map_eq_some_iff] at h
    obtain ⟨v, hv, rfl⟩ := h
    have := plainO_len _ _ hv
    have hn2 : nameB (ahead 61 w) = true := by
      cases h : nameB (ahead 61 w) with
      | true => rfl
      | false => exact absurd (.inr (.inl h)) hn
    unfold nameB at hn2
    simp only [Bool.and_eq_true, decide_eq_true_eq] at hn2
    refine ⟨hn2.2, ?_⟩
    have : ¬ 100 < (behind 61 w).tail.length := fun h => hn (.inr (.inr h))
    show v.length ≤ 100
    omega
theorem queryO_len (ws : List (List UInt8)) : ∀ out r, queryO out ws = some r → r.length = out.length + ws.length := by
  induction ws with
  | nil => intro out r h; simp [queryO] at h; subst h; simp
  | cons w ws ih =>
    intro out r h
    unfold queryO at h
    split at h
    · cases h
    · split at h
      · cases h
      · have := ih _ _ h
        simp at this ⊢
        omega
end Go.Proofs.YtecekflooihkoaaGreatDoor
