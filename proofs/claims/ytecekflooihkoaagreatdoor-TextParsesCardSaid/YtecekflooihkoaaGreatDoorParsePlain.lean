/- The tile of a path, plainly: as the program reads it. No program is named here. -/
import Derived.Test.YtecekflooihkoaaGreatDoorTiles
import Derived.Test.YtecekflooihkoaaGreatDoorQPlain
set_option linter.unusedVariables false
set_option linter.unusedSimpArgs false
namespace Go.Proofs.YtecekflooihkoaaGreatDoor
open Go.RowKit

theorem split_at {c : UInt8} {u r : List UInt8} (h : ∀ x ∈ u, x ≠ c) : ahead c (u ++ c :: r) = u ∧ behind c (u ++ c :: r) = c :: r := by
  induction u with
  | nil => exact ⟨ahead_eq c r, behind_eq c r⟩
  | cons b u ih =>
    have hb := h b (by simp)
    have := ih (fun x hx => h x (by simp [hx]))
    rw [List.cons_append, ahead_ne hb, behind_ne hb]
    exact ⟨by rw [this.1], this.2⟩
theorem split_none {c : UInt8} {u : List UInt8} (h : ∀ x ∈ u, x ≠ c) : ahead c u = u ∧ behind c u = [] := behind_none fun j hj => h _ (List.getElem_mem hj)

/-! ### the first place of a text that begins with a sign -/
theorem index_skip {x : UInt8} {sep u v : List UInt8} (h : ∀ c ∈ u, c ≠ x) : Lib.index (u ++ x :: sep ++ v) (x :: sep) = u.length := by
  induction u with
  | nil =>
    unfold Lib.index
    simp [List.isPrefixOf]
  | cons b u ih =>
    have hb := h b (by simp)
    have := ih (fun c hc => h c (by simp [hc]))
    rw [List.cons_append, List.cons_append]
    unfold Lib.index
    rw [this]
    have h2 : List.isPrefixOf (x :: sep) (b :: (u ++ x :: sep ++ v)) = false := by simp [List.isPrefixOf]; exact fun e => absurd e.symm hb
    rw [h2]
    have h3 : ((u.length : Int) == -1) = false := by rw [beq_eq_false_iff_ne]; omega
    simp [h3]
theorem index_no {x : UInt8} {sep u : List UInt8} (h : ∀ c ∈ u, c ≠ x) : Lib.index u (x :: sep) = -1 := by
  induction u with
  | nil => rfl
  | cons b u ih =>
    have hb := h b (by simp)
    unfold Lib.index
    rw [ih (fun c hc => h c (by simp [hc]))]
    have h2 : List.isPrefixOf (x :: sep) (b :: u) = false := by simp [List.isPrefixOf]; exact fun e => absurd e.symm hb
    rw [h2]
    rfl

/-! ### as the program reads it -/
def preT : List UInt8 := [116, 105, 108, 101, 47]
def entT : List UInt8 := [101, 110, 116, 114, 105, 101, 115]
def dotP : List UInt8 := [46, 112, 47]
def restT (l : List UInt8) : List UInt8 := if preT.isPrefixOf l then l.drop 5 else l
def lvlT (l : List UInt8) : Int := if ahead 47 (restT l) = entT then -1 else numI (ahead 47 (restT l))
def tailT (l : List UInt8) : List UInt8 := (behind 47 (restT l)).tail
def cutT (l : List UInt8) : List UInt8 × List UInt8 × Bool := Lib.cut (tailT l) dotP
def widT (l : List UInt8) : Int := if (cutT l).2.2 then numI (cutT l).2.1 else 256
def keepT (l : List UInt8) : List UInt8 := l.filter fun c => !(c == 120 || c == 47)
def nulT (l : List UInt8) : List UInt8 := (keepT l).dropWhile (· == 48)
def idxT (l : List UInt8) : Int := if nulT (cutT l).1 = [] then 0 else numI (nulT (cutT l).1)
/-- The tile that is told of a text, if it is one's path. -/
def okT (l : List UInt8) : Bool := isTile (lvlT l) (idxT l) (widT l) && (pathT (lvlT l) (idxT l) (widT l) == l)
def isPath (l : List UInt8) (a b c : Int) : Prop := isTile a b c = true ∧ pathT a b c = l

theorem keep_digs {l : List UInt8} (h : ∀ c ∈ l, IsDig c ∨ c = 120 ∨ c = 47) : keepT l = digs l := by
  unfold keepT digs
  apply List.filter_congr
  intro c hc
  rcases h c hc with h | rfl | rfl
  · unfold IsDig at h
    have h1 : (c == 120) = false := by rw [beq_eq_false_iff_ne]; rintro rfl; simp at h
    have h2 : (c == 47) = false := by rw [beq_eq_false_iff_ne]; rintro rfl; simp at h
    rw [h1, h2]
    simp; omega
  · decide
  · decide
theorem thrI_signs (m : Nat) : ∀ s : List UInt8, (∀ c ∈ s, IsDig c ∨ c = 120 ∨ c = 47) → ∀ c ∈ thrI m s, IsDig c ∨ c = 120 ∨ c = 47 := by
  induction m using Nat.strongRecOn with
  | _ m ih =>
    intro s hs
    by_cases h : m = 0
    · subst h
      rw [thrI, if_pos rfl]; exact hs
    · rw [thrI, if_neg h]
      refine ih (m / 1000) (by omega) _ ?_
      intro c hc
      simp only [List.mem_cons, List.mem_append] at hc
      rcases hc with rfl | hc | rfl | hc
      · exact .inr (.inl rfl)
      · exact .inl (pad3_digits _ c hc)
      · exact .inr (.inr rfl)
      · exact hs c hc
theorem threesS_signs (n : Nat) : ∀ c ∈ threesS n, IsDig c ∨ c = 120 ∨ c = 47 := thrI_signs _ _ fun c hc => .inl (pad3_digits _ c hc)
theorem digs_dig (l : List UInt8) : ∀ c ∈ digs l, IsDig c := by
  intro c hc
  unfold digs at hc
  rw [List.mem_filter] at hc
  simp at hc
  exact hc.2
theorem drop_zeros (l : List UInt8) (h : ∀ c ∈ l, IsDig c) : valI (l.dropWhile (· == 48)) = valI l ∧ (∀ c ∈ l.dropWhile (· == 48), IsDig c) ∧ (l.dropWhile (· == 48))[0]? ≠ some 48 := by
  induction l with
  | nil => simp
  | cons b l ih =>
    rw [List.dropWhile_cons]
    by_cases hb : b = 48
    · subst hb
      simp only [beq_self_eq_true, if_true]
      obtain ⟨h1, h2, h3⟩ := ih (fun c hc => h c (by simp [hc]))
      refine ⟨?_, h2, h3⟩
      rw [h1]
      have := valI_zeros 1 l
      simpa using this.symm
    · have : (b == 48) = false := by simpa using hb
      rw [this]
      simp only [Bool.false_eq_true, if_false]
      exact ⟨trivial, h, by simpa using hb⟩
theorem idx_threes (n : Nat) (hn : n ≤ 9007199254740992) : (if nulT (threesS n) = [] then 0 else numI (nulT (threesS n))) = (n : Int) := by
  have hk := keep_digs (threesS_signs n)
  have hv := threesS_val n
  obtain ⟨h1, h2, h3⟩ := drop_zeros (digs (threesS n)) (digs_dig _)
  unfold nulT
  rw [hk]
  generalize hm : (digs (threesS n)).dropWhile (· == 48) = m at *
  rw [hv] at h1
  by_cases h0 : m = []
  · rw [if_pos h0]
    subst h0
    simpa [valI] using h1
  · rw [if_neg h0]
    have e := valI_dec m.reverse (by simpa using h2) (by simpa using h0) (by rw [List.reverse_reverse]; exact fun e => absurd e h3)
    rw [List.reverse_reverse, h1] at e
    have e' : decI (n : Int) = m := by
      rw [decI, if_neg (by omega)]
      exact e
    rw [← e']
    exact (isNum_dec (by omega) (by omega)).2.1
theorem levelS_ne {a : Int} (h : 0 ≤ a) : decI a ≠ entT := by
  intro e
  have := decI_digits h 101 (by rw [e]; decide)
  simp [IsDig] at this
/-- A tile's path is read as the tile. -/
theorem read_path {a b c : Int} (h : isTile a b c = true) : lvlT (pathT a b c) = a ∧ idxT (pathT a b c) = b ∧ widT (pathT a b c) = c := by
  obtain ⟨h1, h2, h3, h4, h5, h6⟩ := isTile_iff.1 h
  obtain ⟨n, rfl⟩ := Int.eq_ofNat_of_zero_le h3
  have hr : restT (pathT a n c) = levelS a ++ 47 :: (threesS n ++ widthS c) := by
    unfold restT pathT
    rw [if_pos (by simp [preT, List.isPrefixOf])]
    rfl
  obtain ⟨e1, e2⟩ := split_at (u := levelS a) (r := threesS n ++ widthS c) levelS_sign
  have ht : tailT (pathT a n c) = threesS n ++ widthS c := by
    unfold tailT
    rw [hr, e2]
    rfl
  have hl : lvlT (pathT a n c) = a := by
    unfold lvlT
    rw [hr, e1]
    unfold levelS
    split
    · rw [if_pos (show ([101, 110, 116, 114, 105, 101, 115] : List UInt8) = entT from rfl)]; omega
    · rw [if_neg (levelS_ne (by omega))]
      exact (isNum_dec (by omega) (by omega)).2.1
  have hc : cutT (pathT a n c) = if c < 256 then (threesS n, decI c, true) else (threesS n, [], false) := by
    unfold cutT
    rw [ht]
    unfold widthS Lib.cut dotP
    split
    · have := index_skip (x := 46) (sep := [112, 47]) (u := threesS n) (v := decI c) (threesS_sign n)
      have e : threesS n ++ ([46, 112, 47] ++ decI c) = threesS n ++ 46 :: [112, 47] ++ decI c := by simp
      rw [e, this, if_pos (by omega)]
      have d1 : (threesS n ++ 46 :: [112, 47] ++ decI c).take (threesS n).length = threesS n := by
        rw [List.append_assoc, List.take_left]
      have d2 : (threesS n ++ 46 :: [112, 47] ++ decI c).drop ((threesS n).length + 3) = decI c := by
        have := List.drop_left (l₁ := threesS n ++ 46 :: [112, 47]) (l₂ := decI c)
        rwa [List.length_append] at this
      simp only [Int.toNat_natCast, d1]
      exact Prod.ext rfl (Prod.ext d2 rfl)
    · rw [List.append_nil, index_no (threesS_sign n), if_neg (by omega)]
  refine ⟨hl, ?_, ?_⟩
  · have := idx_threes n (by omega)
    unfold idxT
    rw [hc]
    split <;> exact this
  · unfold widT
    rw [hc]
    split
    · simp only [if_true]
      exact (isNum_dec (by omega) (by omega)).2.1
    · simp
      omega
theorem okT_path {l : List UInt8} {a b c : Int} (h : isPath l a b c) : okT l = true ∧ lvlT l = a ∧ idxT l = b ∧ widT l = c := by
  obtain ⟨h1, rfl⟩ := h
  obtain ⟨e1, e2, e3⟩ := read_path h1
  refine ⟨?_, e1, e2, e3⟩
  unfold okT
  rw [e1, e2, e3, h1]
  simp
theorem okT_not {l : List UInt8} (h : okT l = false) : ∀ a b c, ¬ isPath l a b c := fun a b c hp => by
  have := (okT_path hp).1
  rw [h] at this
  cases this
theorem okT_yes {l : List UInt8} (h : okT l = true) : isPath l (lvlT l) (idxT l) (widT l) := by
  unfold okT at h
  simp only [Bool.and_eq_true, beq_iff_eq] at h
  exact h
end Go.Proofs.YtecekflooihkoaaGreatDoor
