/- The tile of a path, plainly: as the document's answer reads it: the same. No program is named here. -/
import Derived.Test.YtecekflooihkoaaGreatDoorParsePlain
set_option linter.unusedVariables false
set_option linter.unusedSimpArgs false
namespace Go.Proofs.YtecekflooihkoaaGreatDoor
open Go.RowKit

def tileT : List UInt8 := [116, 105, 108, 101]
def digB (c : UInt8) : Bool := decide (48 ≤ c.toNat) && decide (c.toNat ≤ 57)
/-- The number of groups of three digits, all but the last of which begin with x. -/
def grpO : List (List UInt8) → Int → Option Int
  | [], acc => some acc
  | [g], acc => if g.length = 3 ∧ g.all digB = true then some (1000 * acc + valI g) else none
  | g :: h :: r, acc => if g.length = 4 ∧ g.head? = some 120 ∧ g.tail.all digB = true then grpO (h :: r) (1000 * acc + valI g.tail) else none
def lvlR (w : List UInt8) : Option Int := if w = entT then some (-1) else if isNum w = true then some (numI w) else none
def hasW (b : List UInt8) : Bool := decide (2 < b.length) && (b.drop (b.length - 2) == [46, 112])
/-- The width, and the groups. -/
def widR (ws : List (List UInt8)) : Option (Int × List (List UInt8)) :=
  let b := ws.getD (ws.length - 2) []
  if hasW b then (if isNum (ws.getD (ws.length - 1) []) = true ∧ numI (ws.getD (ws.length - 1) []) ≤ 255 then some (numI (ws.getD (ws.length - 1) []), ((ws.take (ws.length - 1)).set (ws.length - 2) (b.take (b.length - 2))).drop 2) else none)
  else some (256, ws.drop 2)
def refW (l : List UInt8) (ws : List (List UInt8)) : Option (Int × Int × Int) :=
  if ws.length < 3 ∨ ws.getD 0 [] ≠ tileT then none else
  match lvlR (ws.getD 1 []) with
  | none => none
  | some a => match widR ws with
    | none => none
    | some (c, gs) => if 6 < gs.length then none else match grpO gs 0 with
      | none => none
      | some b => if isTile a b c = true ∧ pathT a b c = l then some (a, b, c) else none
def refP (l : List UInt8) : Option (Int × Int × Int) := refW l (wordsC 47 l)

theorem digB_iff {c : UInt8} : digB c = true ↔ IsDig c := by
  unfold digB IsDig; simp
theorem pad3_all (m : Nat) : (pad3 m).all digB = true := by
  rw [List.all_eq_true]
  intro c hc
  exact digB_iff.2 (pad3_digits m c hc)
def xgr (m : Nat) : List (List UInt8) := if m = 0 then [] else xgr (m / 1000) ++ [120 :: pad3 (m % 1000)]
termination_by m
theorem xgr_zero : xgr 0 = [] := by rw [xgr, if_pos rfl]
theorem xgr_pos {m : Nat} (h : m ≠ 0) : xgr m = xgr (m / 1000) ++ [120 :: pad3 (m % 1000)] := by
  conv => lhs; unfold xgr
  rw [if_neg h]
theorem wordsC_cut {c : UInt8} {u r : List UInt8} (h : ∀ x ∈ u, x ≠ c) : wordsC c (u ++ c :: r) = u :: wordsC c r := by
  obtain ⟨e1, e2⟩ := split_at (r := r) h
  rw [wordsC_step e2, e1]
theorem wordsC_one {c : UInt8} {u : List UInt8} (h : ∀ x ∈ u, x ≠ c) : wordsC c u = [u] := by
  obtain ⟨e1, e2⟩ := split_none h
  rw [wordsC_last e2, e1]
theorem pad3_ne (m : Nat) {x : UInt8} (hx : ¬ IsDig x) : ∀ c ∈ pad3 m, c ≠ x := by
  intro c hc
  rintro rfl
  exact hx (pad3_digits m _ hc)
theorem words_thr (m : Nat) : ∀ s : List UInt8, wordsC 47 (thrI m s) = xgr m ++ wordsC 47 s := by
  induction m using Nat.strongRecOn with
  | _ m ih =>
    intro s
    by_cases h : m = 0
    · subst h
      rw [thrI, if_pos rfl, xgr_zero]; rfl
    · rw [thrI, if_neg h, ih (m / 1000) (by omega), xgr_pos h, List.append_assoc]
      congr 1
      rw [← List.cons_append]
      exact wordsC_cut (by
        intro c hc
        rcases List.mem_cons.1 hc with rfl | hc
        · decide
        · exact pad3_ne _ (by simp [IsDig]) c hc)
theorem xgr_len (k : Nat) : ∀ m, m < 1000 ^ k → (xgr m).length ≤ k := by
  induction k with
  | zero => intro m h; obtain rfl : m = 0 := by omega
            rw [xgr_zero]; simp
  | succ k ih =>
    intro m h
    by_cases h0 : m = 0
    · subst h0; rw [xgr_zero]; simp
    · rw [xgr_pos h0]
      have := ih (m / 1000) (by rw [Nat.div_lt_iff_lt_mul (by omega), ← Nat.pow_succ]; exact h)
      simp; omega
theorem grp_x (m : Nat) : ∀ (g : List UInt8) (r : List (List UInt8)), grpO (xgr m ++ g :: r) 0 = grpO (g :: r) m := by
  induction m using Nat.strongRecOn with
  | _ m ih =>
    intro g r
    by_cases h : m = 0
    · subst h
      rw [xgr_zero]; rfl
    · rw [xgr_pos h, List.append_assoc, List.singleton_append, ih (m / 1000) (by omega)]
      have hl := pad3_len (m % 1000) (by omega)
      conv => lhs; unfold grpO
      rw [if_pos ⟨by simp [hl], rfl, pad3_all _⟩, List.tail_cons, valI_pad3]
      congr 1
      omega
theorem grp_all (n : Nat) : grpO (xgr (n / 1000) ++ [pad3 (n % 1000)]) 0 = some (n : Int) := by
  rw [grp_x]
  have hl := pad3_len (n % 1000) (by omega)
  unfold grpO
  rw [if_pos ⟨hl, pad3_all _⟩, valI_pad3]
  congr 1
  omega
theorem levelR {a : Int} (h0 : -1 ≤ a) (h1 : a ≤ 63) : lvlR (levelS a) = some a := by
  unfold lvlR levelS
  split
  · rw [if_pos (show ([101, 110, 116, 114, 105, 101, 115] : List UInt8) = entT from rfl)]
    congr 1; omega
  · rw [if_neg (levelS_ne (by omega))]
    obtain ⟨e1, e2, -⟩ := isNum_dec (n := a) (by omega) (by omega)
    rw [if_pos e1, e2]
theorem words_path (a : Int) (n : Nat) (c : Int) (hc : 0 ≤ c) : wordsC 47 (pathT a n c) = tileT :: levelS a :: (xgr (n / 1000) ++ (if c < 256 then [pad3 (n % 1000) ++ [46, 112], decI c] else [pad3 (n % 1000)])) := by
  have h0 : pathT a n c = tileT ++ 47 :: (levelS a ++ 47 :: (threesS n ++ widthS c)) := by
    unfold pathT tileT
    simp
  rw [h0, wordsC_cut (by decide), wordsC_cut levelS_sign]
  congr 2
  have h1 : ∀ (m : Nat) (s t : List UInt8), thrI m s ++ t = thrI m (s ++ t) := by
    intro m
    induction m using Nat.strongRecOn with
    | _ m ih =>
      intro s t
      by_cases h : m = 0
      · subst h
        rw [thrI, if_pos rfl, thrI, if_pos rfl]
      · rw [thrI, if_neg h, ih (m / 1000) (by omega)]
        conv => rhs; rw [thrI, if_neg h]
        simp
  unfold threesS
  rw [h1, words_thr]
  congr 1
  unfold widthS
  split
  · have : pad3 (n % 1000) ++ ([46, 112, 47] ++ decI c) = (pad3 (n % 1000) ++ [46, 112]) ++ 47 :: decI c := by simp
    rw [this, wordsC_cut (by
      intro x hx
      rcases List.mem_append.1 hx with hx | hx
      · exact pad3_ne _ (by simp [IsDig]) x hx
      · simp at hx
        rcases hx with rfl | rfl <;> decide), wordsC_one (by
      intro x hx
      have := decI_digits hc x hx
      rintro rfl
      simp [IsDig] at this)]
  · rw [List.append_nil, wordsC_one (pad3_ne _ (by simp [IsDig]))]
theorem hasW_not {b : List UInt8} (h : ¬ (112 : UInt8) ∈ b) : hasW b = false := by
  cases hb : hasW b with
  | false => rfl
  | true =>
    exfalso
    unfold hasW at hb
    simp only [Bool.and_eq_true, beq_iff_eq] at hb
    exact h (List.mem_of_mem_drop (by rw [hb.2]; simp))
theorem levelS_p (a : Int) : ¬ (112 : UInt8) ∈ levelS a := by
  unfold levelS
  split
  · decide
  · intro h
    have := decI_digits (by omega) _ h
    simp [IsDig] at this
theorem xgr_p (m : Nat) : ∀ g ∈ xgr m, ¬ (112 : UInt8) ∈ g := by
  induction m using Nat.strongRecOn with
  | _ m ih =>
    by_cases h : m = 0
    · subst h
      rw [xgr_zero]
      intro g hg
      simp at hg
    · rw [xgr_pos h]
      intro g hg
      rcases List.mem_append.1 hg with hg | hg
      · exact ih (m / 1000) (by omega) g hg
      · simp at hg
        subst hg
        intro hm
        rcases List.mem_cons.1 hm with hm | hm
        · exact absurd hm (by decide)
        · have := pad3_digits _ _ hm
          simp [IsDig] at this
theorem refP_path {a b c : Int} (h : isTile a b c = true) : refP (pathT a b c) = some (a, b, c) := by
  obtain ⟨h1, h2, h3, h4, h5, h6⟩ := isTile_iff.1 h
  obtain ⟨n, rfl⟩ := Int.eq_ofNat_of_zero_le h3
  have hw := words_path a n c (by omega)
  have hx := xgr_len 5 (n / 1000) (by omega)
  have hg := grp_all n
  have hp3 := pad3_len (n % 1000) (by omega)
  have hpd := pad3_digits (n % 1000)
  unfold refP refW
  rw [hw]
  generalize hX : xgr (n / 1000) = X at *
  generalize hP : pad3 (n % 1000) = p at *
  have hfin : (if isTile a n c = true ∧ pathT a n c = pathT a n c then some (a, (n : Int), c) else none) = some (a, (n : Int), c) := by rw [if_pos ⟨h, rfl⟩]
  by_cases hc : c < 256
  · rw [if_pos hc] at *
    obtain ⟨e1, e2, -⟩ := isNum_dec (n := c) (by omega) (by omega)
    generalize hd : decI c = d at *
    have hws : ∀ (u v : List UInt8) (X : List (List UInt8)) (p q d : List UInt8), (u :: v :: (X ++ [q, d])).length = X.length + 4 ∧ (u :: v :: (X ++ [q, d])).getD (X.length + 2) [] = q ∧ (u :: v :: (X ++ [q, d])).getD (X.length + 3) [] = d ∧ (((u :: v :: (X ++ [q, d])).take (X.length + 3)).set (X.length + 2) p).drop 2 = X ++ [p] := by
      intro u v X p q d
      refine ⟨by simp, by simp, ?_, ?_⟩
      · simp only [List.getD_cons_succ]
        rw [List.getD_eq_getElem?_getD, List.getElem?_append_right (by omega)]
        simp
      · have : (X ++ [q, d]).take (X.length + 1) = X ++ [q] := by
          have e : X ++ [q, d] = (X ++ [q]) ++ [d] := by simp
          rw [e]
          have := List.take_left (l₁ := X ++ [q]) (l₂ := [d])
          rwa [List.length_append] at this
        simp only [List.take_succ_cons, List.set_cons_succ, List.drop_succ_cons, List.drop_zero]
        rw [this, List.set_append_right _ _ (by omega)]
        simp
    obtain ⟨l1, l2, l3, l4⟩ := hws tileT (levelS a) X p (p ++ [46, 112]) d
    have hw2 : widR (tileT :: levelS a :: (X ++ [p ++ [46, 112], d])) = some (c, X ++ [p]) := by
      have hh : hasW (p ++ [46, 112]) = true := by
        unfold hasW
        rw [List.length_append, hp3]
        have : (p ++ [46, 112]).drop 3 = [46, 112] := by rw [← hp3]; exact List.drop_left
        simp [this]
      have ht : (p ++ [46, 112]).take ((p ++ [46, 112]).length - 2) = p := by
        have := List.take_left (l₁ := p) (l₂ := [46, 112])
        rw [List.length_append]
        exact this
      unfold widR
      simp only [l1, Nat.add_sub_cancel]
      rw [show X.length + 4 - 2 = X.length + 2 by omega, show X.length + 4 - 1 = X.length + 3 by omega, l2, l3, hh, if_pos rfl, if_pos ⟨e1, by rw [e2]; omega⟩, e2, ht, l4]
    rw [if_neg (by rw [l1]; simp), hw2]
    simp only [List.getD_cons_succ, List.getD_cons_zero]
    rw [levelR h1 h2]
    simp only []
    rw [if_neg (by simp; omega), hg]
    exact hfin
  · rw [if_neg hc] at *
    have hc' : c = 256 := by omega
    subst hc'
    have hws : ∀ (u v : List UInt8) (X : List (List UInt8)) (p : List UInt8), (u :: v :: (X ++ [p])).length = X.length + 3 := by intro u v X p; simp
    have l1 := hws tileT (levelS a) X p
    have hw2 : widR (tileT :: levelS a :: (X ++ [p])) = some (256, X ++ [p]) := by
      have hh : hasW ((tileT :: levelS a :: (X ++ [p])).getD (X.length + 1) []) = false := by
        have hm : (tileT :: levelS a :: (X ++ [p])).getD (X.length + 1) [] ∈ levelS a :: X := by
          rw [List.getD_cons_succ, ← List.cons_append, List.getD_eq_getElem?_getD, List.getElem?_append_left (by simp), List.getElem?_eq_getElem (by simp)]
          exact List.getElem_mem _
        refine hasW_not fun h112 => ?_
        rcases List.mem_cons.1 hm with he | he
        · rw [he] at h112
          exact levelS_p _ h112
        · have hxp := xgr_p (n / 1000)
          rw [hX] at hxp
          exact hxp _ he h112
      unfold widR
      simp only [l1]
      rw [show X.length + 3 - 2 = X.length + 1 by omega, hh]
      rfl
    rw [if_neg (by rw [l1]; simp), hw2]
    simp only [List.getD_cons_succ, List.getD_cons_zero]
    rw [levelR h1 h2]
    simp only []
    rw [if_neg (by simp; omega), hg]
    exact hfin
theorem refP_eq (l : List UInt8) : refP l = if okT l then some (lvlT l, idxT l, widT l) else none := by
  cases ho : okT l with
  | true =>
    obtain ⟨h1, h2⟩ := okT_yes ho
    have := refP_path h1
    rw [h2] at this
    rw [this]; rfl
  | false =>
    have hn := okT_not ho
    simp only [Bool.false_eq_true, if_false]
    unfold refP refW
    split
    · rfl
    · split
      · rfl
      · split
        · rfl
        · split
          · rfl
          · split
            · rfl
            · split
              · rename_i h
                exact absurd h (hn _ _ _)
              · rfl
end Go.Proofs.YtecekflooihkoaaGreatDoor
