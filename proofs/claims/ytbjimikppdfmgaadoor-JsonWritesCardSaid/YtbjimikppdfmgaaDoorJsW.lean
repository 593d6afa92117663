/- JSON's writer, plainly. No program in it. -/
import Derived.Test.YtbjimikppdfmgaaDoorJsP
import Derived.Lib.Join
import Derived.Lib.Replace
import Derived.Lib.ReplaceLaws
set_option linter.unusedVariables false
set_option linter.unusedSimpArgs false
namespace Go.Proofs.YtbjimikppdfmgaaDoor
open Go.RowKit

def oddP (s : List UInt8) : Bool := s.any fun c => decide (c.toNat < 32) || decide (126 < c.toNat)
def quoteP (s : List UInt8) : List UInt8 := 34 :: (s.flatMap fun x => if x = 34 ∨ x = 92 then [92, x] else [x]) ++ [34]

theorem repK_one (c : UInt8) (new : List UInt8) : ∀ l : List UInt8, Lib.replaceK [c] new (Lib.count l [c]) l = l.flatMap fun x => if x = c then new else [x]
  | [] => by rw [Lib.count_miss (by simp [Lib.index])]; rfl
  | b :: l => by
    have ih := repK_one c new l
    rw [List.flatMap_cons, ← ih]
    by_cases h : b = c
    · subst h
      have hix : Lib.index (b :: l) [b] = ((0 : Nat) : Int) := by rw [Lib.index]; simp [List.isPrefixOf]
      rw [Lib.count_cons_eq, Nat.add_comm, Lib.replaceK_hit _ _ _ _ 0 hix]
      simp
    · rw [Lib.count_cons_ne b c l h]
      have hp : ([c] : List UInt8).isPrefixOf (b :: l) = false := by simp [List.isPrefixOf, Ne.symm h]
      have hix : Lib.index (b :: l) [c] = if Lib.index l [c] == -1 then -1 else Lib.index l [c] + 1 := by rw [Lib.index, hp]; simp
      cases hk : Lib.count l [c] with
      | zero => simp [Lib.replaceK, h]
      | succ k =>
        obtain ⟨j, hj⟩ := Lib.index_of_count (s := l) (old := [c]) (by omega)
        have hix' : Lib.index (b :: l) [c] = ((j + 1 : Nat) : Int) := by
          rw [hix, hj, if_neg (by simp)]; omega
        rw [Lib.replaceK_hit _ _ _ _ _ hix', Lib.replaceK_hit _ _ _ _ _ hj]
        simp [h]
theorem repAll_one (c : UInt8) (new : List UInt8) (hn : new ≠ [c]) (l : List UInt8) : Lib.replaceAll l [c] new = l.flatMap fun x => if x = c then new else [x] := by
  unfold Lib.replaceAll Lib.replace
  rw [if_neg (by simpa using Ne.symm hn), show Lib.replaceNum l [c] (-1) = Lib.count l [c] by simp [Lib.replaceNum]]
  exact repK_one c new l
theorem quote_rep (s : List UInt8) : 34 :: Lib.replaceAll (Lib.replaceAll s [92] [92, 92]) [34] [92, 34] ++ [34] = quoteP s := by
  rw [repAll_one 92 _ (by decide), repAll_one 34 _ (by decide), List.flatMap_assoc]
  unfold quoteP
  congr 3
  funext x
  by_cases h1 : x = 92
  · subst h1; decide
  · by_cases h2 : x = 34
    · subst h2; decide
    · simp [h1, h2]
theorem flat_len (f : UInt8 → List UInt8) (hf : ∀ x, (f x).length ≤ 2) (s : List UInt8) : (s.flatMap f).length ≤ 2 * s.length := by
  induction s with
  | nil => simp
  | cons x r ih => have := hf x; simp at ih ⊢; omega
theorem quote_len (s : List UInt8) : (quoteP s).length ≤ 2 * s.length + 2 := by
  have := flat_len (fun x => if x = 34 ∨ x = 92 then [92, x] else [x]) (fun x => by split <;> simp) s
  unfold quoteP
  simp only [List.length_append, List.length_cons, List.length_nil]
  omega
theorem rep_len (c : UInt8) (s : List UInt8) (d : UInt8) (hd : d ≠ c ∨ True) : (Lib.replaceAll s [c] [d, c]).length ≤ 2 * s.length := by
  rw [repAll_one c _ (by simp)]
  exact flat_len _ (fun x => by split <;> simp) s

def Jv.kind : Jv → Int | .mk k _ _ _ _ => k
def Jv.kids : Jv → List Jv | .mk _ _ _ _ ks => ks
def Jv.names : Jv → List (List UInt8) | .mk _ _ _ ns _ => ns
/-- Is each name no other's? -/
def apartP : List (List UInt8) → Bool
  | [] => true
  | x :: r => !r.contains x && apartP r
def aloneP (k : Int) (t : List UInt8) (u : Int) (ns : List (List UInt8)) (ks : List Jv) : Bool :=
  (decide (t = []) || decide (k = 1)) && (decide (u = 0) || decide (k = 2)) && (decide (ns = []) || decide (k = 4)) && (decide (ks.length = 0) || decide (k = 3) || decide (k = 4))
def namesP (ns : List (List UInt8)) (m : Nat) : Bool := decide (ns.length = m) && !ns.any oddP && decide ns.Nodup
/-- Is it a value, with so many more in one another? -/
def rightP : Nat → Jv → Bool
  | n, .mk k t u ns ks => aloneP k t u ns ks &&
    if k = 1 then !oddP t
    else if k = 2 then decide (0 ≤ u) && decide (u ≤ 9007199254740992)
    else if k = 4 ∨ k = 3 then (decide (k = 3) || namesP ns ks.length) && match n with
      | 0 => false
      | n + 1 => ks.all (rightP n)
    else false
  termination_by structural n => n
/-- What stands of a kid. -/
def kidT (k : Int) (name : List UInt8) (t : List UInt8) : List UInt8 := if k = 4 then quoteP name ++ 58 :: t else t
/-- A value's text; n: as in rightP. -/
def textJ : Nat → Jv → List UInt8
  | n, .mk k t u ns ks =>
    if k = 1 then quoteP t
    else if k = 2 then Lib.itoa u
    else match n with
      | 0 => []
      | n + 1 => if k = 3 then 91 :: Lib.join (ks.map (textJ n)) [44] ++ [93] else 123 :: Lib.join ((ns.zip (ks.map (textJ n))).map fun p => quoteP p.1 ++ 58 :: p.2) [44] ++ [125]
  termination_by structural n => n
/-- A value with few kids. -/
def cutJ : Nat → Jv → Jv
  | n, .mk k t u ns ks => .mk k (t.take 50) u ((ns.take 5).map (·.take 50)) (match n with | 0 => [] | n + 1 => (ks.take 5).map (cutJ n))
  termination_by structural n => n
/-- Texts and rows are short. -/
def fewJ : Nat → Jv → Prop
  | n, .mk k t u ns ks => t.length ≤ 50 ∧ ns.length ≤ 5 ∧ ks.length ≤ 5 ∧ (∀ s ∈ ns, s.length ≤ 50) ∧ match n with | 0 => True | n + 1 => ∀ j ∈ ks, fewJ n j
  termination_by structural n => n
theorem cut_few : ∀ (m n : Nat) (j : Jv), fewJ m (cutJ n j)
  | m, n, .mk k t u ns ks => by
    rw [cutJ.eq_def]
    simp only []
    rw [fewJ.eq_def]
    simp only []
    refine ⟨by simp; omega, by simp; omega, ?_, ?_, ?_⟩
    · cases n <;> simp <;> omega
    · intro s hs
      obtain ⟨a, -, rfl⟩ := List.mem_map.1 hs
      simp; omega
    · cases m with
      | zero => trivial
      | succ m =>
        intro j hj
        cases n with
        | zero => simp at hj
        | succ n =>
          obtain ⟨a, -, rfl⟩ := List.mem_map.1 hj
          exact cut_few m n a
theorem few_less : ∀ {m n : Nat} {j : Jv}, fewJ m j → n ≤ m → fewJ n j
  | m, n, .mk k t u ns ks, h, hl => by
    rw [fewJ.eq_def] at h ⊢
    simp only [] at h ⊢
    refine ⟨h.1, h.2.1, h.2.2.1, h.2.2.2.1, ?_⟩
    cases n with
    | zero => trivial
    | succ n =>
      obtain ⟨m, rfl⟩ : ∃ m', m = m' + 1 := ⟨m - 1, by omega⟩
      exact fun j hj => few_less (h.2.2.2.2 j hj) (by omega)
theorem join_len (sep : List UInt8) (B : Nat) : ∀ xs : List (List UInt8), (∀ x ∈ xs, x.length ≤ B) → (Lib.join xs sep).length ≤ xs.length * (B + sep.length)
  | [], _ => by simp [Lib.join, List.intercalate]
  | [x], h => by have := h x (by simp); simp [Lib.join, List.intercalate]; omega
  | x :: y :: r, h => by
    have ih := join_len sep B (y :: r) (fun z hz => h z (List.mem_cons_of_mem _ hz))
    have hx := h x (by simp)
    have e : Lib.join (x :: y :: r) sep = x ++ sep ++ Lib.join (y :: r) sep := by simp [Lib.join, List.intercalate, List.intersperse]
    rw [e]
    simp only [List.length_append, List.length_cons] at ih ⊢
    rw [Nat.add_mul, Nat.one_mul]
    omega
end Go.Proofs.YtbjimikppdfmgaaDoor
