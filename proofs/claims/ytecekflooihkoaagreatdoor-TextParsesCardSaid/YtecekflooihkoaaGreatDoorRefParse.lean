/- Walk of the document's Parse. -/
import Derived.Test.YtecekflooihkoaaGreatDoorWords
import Derived.Test.YtecekflooihkoaaGreatDoorRefPath
import Derived.Test.YtecekflooihkoaaGreatDoorRefNum
import Derived.Test.YtecekflooihkoaaGreatDoorRefParsePlain
import Derived.Test.YtecekflooihkoaaGreatDoorParse
import Derived.RegionTactic
import Derived.ChangeAlike
set_option linter.unusedVariables false
set_option linter.unusedSimpArgs false
set_option maxHeartbeats 100000000
set_option maxRecDepth 100000
namespace Go.Proofs.YtecekflooihkoaaGreatDoor
open Go.RowKit

/-- The words in memory. -/
def WsIn (W : World) (kb : Nat) (ws : List (List UInt8)) : Prop := ∃ cs, Blk W kb 9 cs ∧ ∀ j, (h : j < ws.length) → cs[j]? = some (sV ws[j])
structure RS (w W : World) (g kb : Nat) (a b c : Int) (ws : List (List UInt8)) : Prop where
  res : Blk W w.heap.size 23 (tileC 0 0 0)
  til : Blk W g 23 (tileC a b c)
  hg : w.heap.size < g
  row : WsIn W kb ws
  hk : w.heap.size ≤ kb
  bel : Below w.heap.size w W
theorem WsIn.below {W W' : World} {kb : Nat} {ws : List (List UInt8)} (h : WsIn W kb ws) (hb : Below W.heap.size W W') : WsIn W' kb ws := by
  obtain ⟨cs, h1, h2⟩ := h
  exact ⟨cs, h1.below hb h1.lt, h2⟩
theorem WsIn.far {W : World} {kb g : Nat} {ws : List (List UInt8)} {cs : Array Value} (h : WsIn W kb ws) (hB : Blk W g 23 cs) (i : Nat) (v : Value) : WsIn (W.setCell ⟨g, i, none⟩ v) kb ws := by
  obtain ⟨cs', h1, h2⟩ := h
  exact ⟨cs', h1.far (hB.ne_ h1 (by decide)).symm v, h2⟩
section
variable {w W W' : World} {g kb : Nat} {a b c : Int} {ws : List (List UInt8)}
theorem RS.below (h : RS w W g kb a b c ws) (hb : Below W.heap.size W W') : RS w W' g kb a b c ws := ⟨h.res.below hb h.res.lt, h.til.below hb h.til.lt, h.hg, h.row.below hb, h.hk, bt h.bel hb⟩
theorem RS.drew (h : RS w W g kb a b c ws) : RS w W.drew g kb a b c ws := h.below (below_drewN (Below.refl _ _) 1)
theorem RS.set0 (h : RS w W g kb a b c ws) (x : Int) : RS w (W.setCell ⟨g, 0, none⟩ (.int .i64 x)) g kb x b c ws :=
  ⟨h.res.far (by have := h.hg; simp; omega) _, by simpa using h.til.set_ 0 (.int .i64 x), h.hg, h.row.far h.til _ _, h.hk, h.bel.setCell (Nat.le_of_lt h.hg) _⟩
theorem RS.set1 (h : RS w W g kb a b c ws) (x : Int) : RS w (W.setCell ⟨g, 1, none⟩ (.int .i64 x)) g kb a x c ws :=
  ⟨h.res.far (by have := h.hg; simp; omega) _, by simpa using h.til.set_ 1 (.int .i64 x), h.hg, h.row.far h.til _ _, h.hk, h.bel.setCell (Nat.le_of_lt h.hg) _⟩
theorem RS.set2 (h : RS w W g kb a b c ws) (x : Int) : RS w (W.setCell ⟨g, 2, none⟩ (.int .i64 x)) g kb a b x ws :=
  ⟨h.res.far (by have := h.hg; simp; omega) _, by simpa using h.til.set_ 2 (.int .i64 x), h.hg, h.row.far h.til _ _, h.hk, h.bel.setCell (Nat.le_of_lt h.hg) _⟩
theorem RS.setW (h : RS w W g kb a b c ws) (j : Nat) (x : List UInt8) : RS w (W.setCell ⟨kb, j, none⟩ (.string (S x))) g kb a b c (ws.set j x) := by
  obtain ⟨cs, h1, h2⟩ := h.row
  refine ⟨h.res.far (h.res.ne_ h1 (by decide)) _, h.til.far (h.til.ne_ h1 (by decide)) _, h.hg, ⟨cs.setIfInBounds j (sV x), h1.set_ j _, fun i hi => ?_⟩, h.hk, h.bel.setCell h.hk _⟩
  simp at hi
  rw [Array.getElem?_setIfInBounds]
  have := h2 i hi
  have hsz : i < cs.size := (Array.getElem?_eq_some_iff.1 this).1
  by_cases e : j = i
  · subst e
    rw [if_pos rfl, if_pos hsz]
    simp
  · rw [if_neg e, this, List.getElem_set_ne (by omega)]
theorem RS.word (h : RS w W g kb a b c ws) {j : Nat} (hj : j < ws.length) : W.cell? ⟨kb, j, none⟩ = some (.string (S ws[j])) ∧ W.frozen? ⟨kb, j, none⟩ = false := by
  obtain ⟨cs, h1, h2⟩ := h.row
  exact ⟨by rw [h1.cell]; exact h2 j hj, h1.frozen j⟩
theorem RS.cells (h : RS w W g kb a b c ws) : W.cell? ⟨g, 0, none⟩ = some (.int .i64 a) ∧ W.cell? ⟨g, 1, none⟩ = some (.int .i64 b) ∧ W.cell? ⟨g, 2, none⟩ = some (.int .i64 c) ∧
    W.frozen? ⟨g, 0, none⟩ = false ∧ W.frozen? ⟨g, 1, none⟩ = false ∧ W.frozen? ⟨g, 2, none⟩ = false :=
  ⟨h.til.cell 0, h.til.cell 1, h.til.cell 2, h.til.frozen 0, h.til.frozen 1, h.til.frozen 2⟩
end
/-- The result's tile. -/
structure RT (w W : World) : Prop where
  res : Blk W w.heap.size 23 (tileC 0 0 0)
  bel : Below w.heap.size w W
theorem RT.cells {w W : World} (h : RT w W) : W.cell? ⟨w.heap.size, 0, none⟩ = some (.int .i64 0) ∧ W.cell? ⟨w.heap.size, 1, none⟩ = some (.int .i64 0) ∧ W.cell? ⟨w.heap.size, 2, none⟩ = some (.int .i64 0) ∧
    W.frozen? ⟨w.heap.size, 0, none⟩ = false ∧ W.frozen? ⟨w.heap.size, 1, none⟩ = false ∧ W.frozen? ⟨w.heap.size, 2, none⟩ = false :=
  ⟨h.res.cell 0, h.res.cell 1, h.res.cell 2, h.res.frozen 0, h.res.frozen 1, h.res.frozen 2⟩
theorem RT.out {w W : World} (h : RT w W) (x y z : Int) : Blk (((W.setCell ⟨w.heap.size, 0, none⟩ (.int .i64 x)).setCell ⟨w.heap.size, 1, none⟩ (.int .i64 y)).setCell ⟨w.heap.size, 2, none⟩ (.int .i64 z)) w.heap.size 23 (tileC x y z) ∧
    Below w.heap.size w (((W.setCell ⟨w.heap.size, 0, none⟩ (.int .i64 x)).setCell ⟨w.heap.size, 1, none⟩ (.int .i64 y)).setCell ⟨w.heap.size, 2, none⟩ (.int .i64 z)) :=
  ⟨by simpa using ((h.res.set_ 0 (.int .i64 x)).set_ 1 (.int .i64 y)).set_ 2 (.int .i64 z), ((h.bel.setCell (p := ⟨w.heap.size, 0, none⟩) (Nat.le_refl _) _).setCell (p := ⟨w.heap.size, 1, none⟩) (Nat.le_refl _) _).setCell (p := ⟨w.heap.size, 2, none⟩) (Nat.le_refl _) _⟩
theorem RS.rt {w W : World} {g kb : Nat} {a b c : Int} {ws : List (List UInt8)} (h : RS w W g kb a b c ws) : RT w W := ⟨h.res, h.bel⟩
def RParsePost (l : List UInt8) (w : World) (e : Ending) (w' : World) : Prop :=
  e = .returned (.tuple #[.agg (if okT l then tileC (lvlT l) (idxT l) (widT l) else tileC 0 0 0), .bool (okT l)]) ∧ Below w.heap.size w w'
theorem rparse_no {l : List UInt8} {w w' : World} (h : refP l = none) (hb : Below w.heap.size w w') : RParsePost l w (.returned (.tuple #[.agg #[.int .i64 0, .int .i64 0, .int .i64 0], .bool false])) w' := by
  rw [refP_eq] at h
  unfold RParsePost
  cases ho : okT l with
  | false => exact ⟨rfl, hb⟩
  | true => rw [ho] at h; simp at h
theorem rparse_yes {l : List UInt8} {w w' : World} {a b c : Int} (h : refP l = some (a, b, c)) (hb : Below w.heap.size w w') : RParsePost l w (.returned (.tuple #[.agg #[.int .i64 a, .int .i64 b, .int .i64 c], .bool true])) w' := by
  rw [refP_eq] at h
  unfold RParsePost
  cases ho : okT l with
  | false => rw [ho] at h; simp at h
  | true =>
    rw [ho] at h
    simp only [if_true, Option.some.injEq, Prod.mk.injEq] at h
    obtain ⟨rfl, rfl, rfl⟩ := h
    exact ⟨rfl, hb⟩
theorem refW_short {l : List UInt8} {ws : List (List UInt8)} (h : ws.length < 3 ∨ ws.getD 0 [] ≠ tileT) : refW l ws = none := by
  unfold refW
  rw [if_pos h]
theorem refW_lvl {l : List UInt8} {ws : List (List UInt8)} (h : lvlR (ws.getD 1 []) = none) : refW l ws = none := by
  unfold refW
  split
  · rfl
  · rw [h]
theorem refW_wid {l : List UInt8} {ws : List (List UInt8)} (h : widR ws = none) : refW l ws = none := by
  unfold refW
  split
  · rfl
  · split
    · rfl
    · rw [h]
theorem refW_on {l : List UInt8} {ws : List (List UInt8)} (h : ¬ (ws.length < 3 ∨ ws.getD 0 [] ≠ tileT)) {a c : Int} {gs : List (List UInt8)} (ha : lvlR (ws.getD 1 []) = some a) (hw : widR ws = some (c, gs)) :
    refW l ws = if 6 < gs.length then none else match grpO gs 0 with
      | none => none
      | some b => if isTile a b c = true ∧ pathT a b c = l then some (a, b, c) else none := by
  unfold refW
  rw [if_neg h, ha, hw]
  rfl
theorem lvlR_in {x : List UInt8} {a : Int} (h : lvlR x = some a) : -9223372036854775808 ≤ a ∧ a ≤ 9223372036854775807 := by
  unfold lvlR at h
  split at h
  · injection h with h; omega
  · split at h
    · injection h with h
      rw [← h]
      exact num_in _
    · cases h
theorem refW_grp {l : List UInt8} {ws : List (List UInt8)} {a c : Int} {gs : List (List UInt8)} (hr : refP l = refW l ws) (h : ¬ (ws.length < 3 ∨ ws.getD 0 [] ≠ tileT)) (ha : lvlR (ws.getD 1 []) = some a) (hw : widR ws = some (c, gs))
    (h6 : ¬ 6 < gs.length) (hg : grpO gs 0 = none) : refP l = none := by
  rw [hr, refW_on h ha hw, if_neg h6, hg]
theorem refW_end {l : List UInt8} {ws : List (List UInt8)} {a c b : Int} {gs : List (List UInt8)} (hr : refP l = refW l ws) (h : ¬ (ws.length < 3 ∨ ws.getD 0 [] ≠ tileT)) (ha : lvlR (ws.getD 1 []) = some a) (hw : widR ws = some (c, gs))
    (h6 : ¬ 6 < gs.length) (hg : grpO gs 0 = some b) : refP l = if isTile a b c = true ∧ pathT a b c = l then some (a, b, c) else none := by
  rw [hr, refW_on h ha hw, if_neg h6, hg]
theorem grp_mid_no {x : List UInt8} {r : List (List UInt8)} {acc : Int} (hr : r ≠ []) (h : ¬ (x.length = 4 ∧ x.head? = some 120 ∧ x.tail.all digB = true)) : grpO (x :: r) acc = none := by
  cases r with
  | nil => exact absurd rfl hr
  | cons g r => unfold grpO; rw [if_neg h]
theorem grp_mid_yes {x : List UInt8} {r : List (List UInt8)} {acc : Int} (hr : r ≠ []) (h : x.length = 4 ∧ x.head? = some 120 ∧ x.tail.all digB = true) : grpO (x :: r) acc = grpO r (1000 * acc + valI x.tail) := by
  cases r with
  | nil => exact absurd rfl hr
  | cons g r => conv => lhs; unfold grpO
                rw [if_pos h]
theorem grp_last_no {x : List UInt8} {acc : Int} (h : ¬ (x.length = 3 ∧ x.all digB = true)) : grpO [x] acc = none := by
  unfold grpO; rw [if_neg h]
theorem grp_last_yes {x : List UInt8} {acc : Int} (h : x.length = 3 ∧ x.all digB = true) : grpO [x] acc = grpO [] (1000 * acc + valI x) := by
  unfold grpO; rw [if_pos h]
theorem grp_room {k : Nat} {acc : Int} (h : acc < (1000 ^ k : Nat)) (hk : k < 6) : acc + 1 ≤ 1000000000000000 := by
  have : (1000 : Nat) ^ k ≤ 1000 ^ 5 := Nat.pow_le_pow_right (by omega) (by omega)
  have e : (1000 : Nat) ^ 5 = 1000000000000000 := by decide
  omega
theorem grp_next {k : Nat} {acc v : Int} (h : acc < (1000 ^ k : Nat)) (hv : v < 1000) : 1000 * acc + v < (1000 ^ (k + 1) : Nat) := by
  rw [Nat.pow_succ]
  omega
theorem grp_top {k : Nat} {acc : Int} (h : acc < (1000 ^ k : Nat)) (hk : k ≤ 6) : acc ≤ 1000000000000000000 := by
  have : (1000 : Nat) ^ k ≤ 1000 ^ 6 := Nat.pow_le_pow_right (by omega) (by omega)
  have e : (1000 : Nat) ^ 6 = 1000000000000000000 := by decide
  omega
/-- The digits of a group read so far. -/
def VAt (acc : Int) (y : List UInt8) (j : Nat) (v : Int) : Prop := v = acc * (10 ^ j : Nat) + valI (y.take j) ∧ 0 ≤ valI (y.take j) ∧ valI (y.take j) < (10 ^ j : Nat) ∧ ∀ i, (h : i < y.length) → i < j → IsDig y[i]
theorem VAt.zero (acc : Int) (y : List UInt8) : VAt acc y 0 acc := ⟨by simp [valI], by simp [valI], by simp [valI], fun i _ h => absurd h (by omega)⟩
theorem VAt.next {acc : Int} {y : List UInt8} {j : Nat} {v : Int} (h : VAt acc y j v) (hj : j < y.length) (hd : IsDig y[j]) : VAt acc y (j + 1) (10 * v + ((y[j].toNat : Int) - 48)) := by
  obtain ⟨h1, h2, h3, h4⟩ := h
  have e := valI_take y j hj
  have p : (10 ^ (j + 1) : Nat) = 10 * 10 ^ j := by rw [Nat.pow_succ]; omega
  refine ⟨?_, ?_, ?_, fun i hi hij => ?_⟩
  · rw [p, e, h1]
    push_cast
    have : acc * (10 * (10 : Int) ^ j) = 10 * (acc * (10 : Int) ^ j) := by rw [← Int.mul_assoc, Int.mul_comm acc 10, Int.mul_assoc]
    omega
  · unfold IsDig at hd; omega
  · unfold IsDig at hd; omega
  · rcases Nat.lt_or_ge i j with h | h
    · exact h4 i hi h
    · obtain rfl : i = j := by omega
      exact hd
theorem VAt.room {acc : Int} {y : List UInt8} {j : Nat} {v : Int} (h : VAt acc y j v) (ha : 0 ≤ acc) (hb : acc + 1 ≤ 1000000000000000) (hj : j < 3) : 0 ≤ v ∧ v ≤ 99999999999999999 := by
  obtain ⟨h1, h2, h3, -⟩ := h
  have : j = 0 ∨ j = 1 ∨ j = 2 := by omega
  rcases this with rfl | rfl | rfl <;> simp [valI] at h1 h3 ⊢ <;> simp [valI] at h2 <;> omega
theorem VAt.fin {acc : Int} {y : List UInt8} {v : Int} (h : VAt acc y 3 v) (hy : y.length = 3) : v = 1000 * acc + valI y ∧ 0 ≤ valI y ∧ valI y < 1000 ∧ y.all digB = true := by
  obtain ⟨h1, h2, h3, h4⟩ := h
  rw [List.take_of_length_le (by omega)] at h1 h2 h3
  refine ⟨by simp at h1; omega, h2, by simpa using h3, ?_⟩
  rw [List.all_eq_true]
  intro c hc
  obtain ⟨i, hi, rfl⟩ := List.mem_iff_getElem.1 hc
  exact digB_iff.2 (h4 i hi (by omega))
theorem all_odd {y : List UInt8} {j : Nat} (hj : j < y.length) (hd : ¬ IsDig y[j]) : y.all digB = false := by
  cases h : y.all digB with
  | false => rfl
  | true => exact absurd (digB_iff.1 (List.all_eq_true.1 h _ (List.getElem_mem hj))) hd
theorem grp_at {vs gs : List (List UInt8)} {E i : Nat} (h : gs = (vs.take E).drop 2) (he : E = gs.length + 2) (h2 : 2 ≤ i) (hi : i < E) (hv : i < vs.length) : gs.drop (i - 2) = vs[i] :: gs.drop (i - 1) ∧ (gs.drop (i - 1) ≠ [] ↔ i + 1 < E) := by
  have hl : i - 2 < gs.length := by omega
  refine ⟨?_, ?_⟩
  · rw [List.drop_eq_getElem_cons hl, show i - 2 + 1 = i - 1 by omega]
    congr 1
    subst h
    rw [List.getElem_drop, List.getElem_take]
    congr 1
    omega
  · rw [Ne, List.drop_eq_nil_iff]
    omega
theorem ref_Parse (l : List UInt8) (hl : l.length ≤ 1000) (w : World) : Calls Tryz.prog 14 #[.string (S l)] w (RParsePost l w) := by
  have WD := hid (fun W => ref_words 47 l hl W)
  have HWM := hid (show ∀ x ∈ wordsC 47 l, x.length ≤ 1000 from fun x hx => Nat.le_trans (wordsC_mem 47 l x hx) hl)
  have hwl := wordsC_len 47 l
  have HRW := hid (show refP l = refW l (wordsC 47 l) from rfl)
  generalize wordsC 47 l = ws at *
  have NM := hid (fun t W => ref07_Number t W)
  unfold RefNumPost at NM
  have hb0 : Below w.heap.size w (w.alloc (.cells #[.int .i64 0, .int .i64 0, .int .i64 0] 23)) := (Below.refl _ _).alloc (Nat.le_refl _) _
  have hB0 := Blk.new w 23 #[.int .i64 0, .int .i64 0, .int .i64 0]
  go_enter Tryz.func14, Tryz.ntmps14
  go_wp2_with fail
  refine (WD.out _).mono ?_
  rintro e w1 ⟨A, cc, rfl, hrow, hb1⟩
  have RT1 : Hid (RT w w1) := ⟨hB0.below hb1 (by simp), hb0.trans (hb1.mono (by simp))⟩
  have hkb : 0 < ws.length → ∃ kb, A = some ⟨kb, 0, none⟩ ∧ w.heap.size ≤ kb ∧ WsIn w1 kb ws := fun h0 => by
    have hr := hrow
    rcases hrow.2 with ⟨e, h⟩ | ⟨g, cap, cur, e, hb, hh, _⟩
    · omega
    · simp only [Value.slice.injEq] at e
      obtain ⟨rfl, -, rfl⟩ := e
      refine ⟨g, rfl, by simp at hb; omega, cur, hh, fun j hj => ?_⟩
      have := hr.cellAt j (by omega)
      rw [cell_of_row w1 g j cur _ _ hh] at this
      rw [this]
      simp [List.getElem?_map, List.getElem?_eq_getElem hj]
  clear hrow hb1 hb0 hB0
  by_cases h3 : ws.length < 3
  · have HN := hid (show refP l = none by rw [HRW.out]; exact refW_short (.inl h3))
    have HRT := RT1
    have t1 : (ws.length : Int) < 3 := by omega
    clear hkb
    obtain ⟨r0, r1, r2, f0, f1, f2⟩ := HRT.out.cells
    have OU := hid (HRT.out.out 0 0 0)
    go_wp2
    have e0 := OU.out.1.cell 0
    have e1 := OU.out.1.cell 1
    have e2 := OU.out.1.cell 2
    refine bodyPost_ret (v := .tuple #[.agg #[.int .i64 0, .int .i64 0, .int .i64 0], .bool false]) (by simp [results, Tryz.results14, go_sem, e0, e1, e2]) rfl (rparse_no HN.out OU.out.2)
  obtain ⟨kb, rfl, hk, hW1⟩ := hkb (by omega)
  clear hkb
  have t1 : (3 : Int) ≤ ws.length := by omega
  obtain ⟨c0, f0'⟩ : w1.cell? ⟨kb, 0, none⟩ = some (.string (S (ws[0]'(by omega)))) ∧ w1.frozen? ⟨kb, 0, none⟩ = false := by
    obtain ⟨cs, k1, k2⟩ := hW1
    exact ⟨by rw [k1.cell]; exact k2 0 (by omega), k1.frozen 0⟩
  have hg0 : ws.getD 0 [] = ws[0]'(by omega) := by rw [List.getD_eq_getElem?_getD, List.getElem?_eq_getElem (by omega)]; rfl
  by_cases ht : ws[0]'(by omega) = tileT
  rotate_left
  · have HN := hid (show refP l = none by rw [HRW.out]; exact refW_short (.inr (by rw [hg0]; exact ht)))
    have HRT := RT1
    have t2 : (ws[0]'(by omega) == [116, 105, 108, 101]) = false := by rw [beq_eq_false_iff_ne]; exact ht
    clear hg0 ht
    obtain ⟨r0, r1, r2, f0, f1, f2⟩ := HRT.out.cells
    have OU := hid (HRT.out.out 0 0 0)
    go_wp2
    have e0 := OU.out.1.cell 0
    have e1 := OU.out.1.cell 1
    have e2 := OU.out.1.cell 2
    refine bodyPost_ret (v := .tuple #[.agg #[.int .i64 0, .int .i64 0, .int .i64 0], .bool false]) (by simp [results, Tryz.results14, go_sem, e0, e1, e2]) rfl (rparse_no HN.out OU.out.2)
  have HS := hid (show ¬ (ws.length < 3 ∨ ws.getD 0 [] ≠ tileT) by rw [hg0, ht]; intro h; rcases h with h | h <;> first | omega | exact absurd rfl h)
  have t2 : (ws[0]'(by omega) == [116, 105, 108, 101]) = true := by rw [ht]; rfl
  have RST : Hid (∀ x z, RS w (w1.alloc (.cells #[.int .i64 x, .int .i64 0, .int .i64 z] 23)) w1.heap.size kb x 0 z ws) := fun x z =>
    ⟨RT1.out.res.alloc _, Blk.new w1 _ _, RT1.out.res.lt, hW1.below ((Below.refl _ _).alloc (Nat.le_refl _) _), hk, RT1.out.bel.alloc RT1.out.bel.size _⟩
  have R2 := hid (RST.out (-1) 256)
  obtain ⟨c1, f1'⟩ := R2.out.word (j := 1) (by omega)
  have hg1 : ws.getD 1 [] = ws[1]'(by omega) := by rw [List.getD_eq_getElem?_getD, List.getElem?_eq_getElem (by omega)]; rfl
  clear hg0 ht hW1
  have hx1 : (ws[1]'(by omega)).length ≤ 1000 := HWM.out _ (List.getElem_mem _)
  by_cases he : ws[1]'(by omega) = entT
  · have HL := hid (show lvlR (ws.getD 1 []) = some (-1) by rw [hg1, he]; rfl)
    have t3 : (ws[1]'(by omega) == [101, 110, 116, 114, 105, 101, 115]) = true := by rw [he]; rfl
    have R4 := R2
    clear hg1 he R2
    have hlen2 : ws.length - 2 < ws.length := by omega
    have iL : ((ws.length : Int) - 2).toNat = ws.length - 2 := by omega
    have i2 : (2 : Int) ≤ ws.length := by omega
    obtain ⟨wb, fb⟩ := R4.out.word hlen2
    have hgb : ws.getD (ws.length - 2) [] = ws[ws.length - 2] := by rw [List.getD_eq_getElem?_getD, List.getElem?_eq_getElem hlen2]; rfl
    have hgl : ws.getD (ws.length - 1) [] = ws[ws.length - 1]'(by omega) := by rw [List.getD_eq_getElem?_getD, List.getElem?_eq_getElem (by omega)]; rfl
    have hbl : (ws[ws.length - 2]).length ≤ 1000 := HWM.out _ (List.getElem_mem hlen2)
    generalize hbe : ws[ws.length - 2] = be at *
    have HBE := hid hbe
    clear hbe
    by_cases hbe2 : be.length ≤ 2
    · have hw : hasW be = false := by unfold hasW; simp; omega
      have HWR := hid (show widR ws = some (256, ws.drop 2) by unfold widR; simp only [hgb, hw]; rfl)
      have t1 : (be.length : Int) ≤ 2 := by omega
      clear hgb hgl hw
      obtain ⟨E, gs, HE, HGS, HWS⟩ : ∃ (E : Nat) (gs : List (List UInt8)), Hid (E = ws.length) ∧ Hid (gs = ws.drop 2) ∧ Hid (gs = (ws.take E).drop 2 ∧ E = gs.length + 2 ∧ E ≤ ws.length) := ⟨_, _, rfl, rfl, by rw [List.take_length], by simp; omega, Nat.le_refl _⟩
      rw [← HGS.out] at HWR
      have HVM := HWM
      by_cases h6 : 6 < gs.length
      · have g6 : (6 : Int) < (ws.length : Int) - 2 := by have := HWS.out; have := HE.out; omega
        have HN := hid (show refP l = none by rw [HRW.out, refW_on HS.out HL.out HWR.out, if_pos h6])
        have HRT := hid R4.out.rt
        obtain ⟨r0, r1, r2, f0, f1, f2⟩ := HRT.out.cells
        have OU := hid (HRT.out.out 0 0 0)
        go_wp2
        have e0 := OU.out.1.cell 0
        have e1 := OU.out.1.cell 1
        have e2 := OU.out.1.cell 2
        refine bodyPost_ret (v := .tuple #[.agg #[.int .i64 0, .int .i64 0, .int .i64 0], .bool false]) (by simp [results, Tryz.results14, go_sem, e0, e1, e2]) rfl (rparse_no HN.out OU.out.2)
      · have g6 : ((ws.length : Int) : Int) - 2 ≤ 6 := by have := HWS.out; have := HE.out; omega
        have H6 := hid h6
        have HGN := hid (show grpO gs 0 = none → refP l = none from fun h => refW_grp HRW.out HS.out HL.out HWR.out H6.out h)
        have hE2 : E ≤ 8 ∧ 2 ≤ E ∧ E ≤ (ws).length := by have := HWS.out; omega
        obtain ⟨hE8, hE2, hEl⟩ := hE2
        clear h6
        go_wp2
        rw [show (ws.length : Int) = (E : Int) by have := HE.out; omega]
        go_loopw [12] (fun iv wr => ∃ (i : Nat) (acc : Int), 2 ≤ i ∧ i ≤ E ∧ iv = .int .i64 i ∧ 0 ≤ acc ∧ Hid (acc < (1000 ^ (i - 2) : Nat)) ∧ Hid (grpO (gs.drop (i - 2)) acc = grpO gs 0) ∧ Hid (RS w wr w1.heap.size kb (-1) acc (256) (ws))) (fun iv _ => E - (intOf iv).toNat)
        case atStart => exact ⟨2, 0, Nat.le_refl _, hE2, rfl, Int.le_refl _, by simp [Hid], by simp [Hid], R4⟩
        case round =>
          obtain ⟨i, acc, hi1, hi2, rfl, ha0, hab, hgr, hR⟩ := hrel
          by_cases hlt : i < E
          · have hiw : i < (ws).length := by omega
            obtain ⟨wx, fx⟩ := hR.out.word hiw
            have HX := hid (grp_at (HWS.out).1 (HWS.out).2.1 hi1 hlt hiw)
            have hxl : ((ws)[i]).length ≤ 1000 := HVM.out _ (List.getElem_mem hiw)
            generalize (ws)[i] = x at *
            by_cases hm : i + 1 < E
            · have q1 : (i : Int) < (E : Int) - 1 := by omega
              have HNE := hid (HX.out.2.2 hm)
              have HG1 := hid (show grpO (x :: gs.drop (i - 1)) acc = grpO gs 0 by rw [← HX.out.1]; exact hgr.out)
              clear hgr HX
              by_cases h4 : x.length = 4
              · have k4 : ((x.length : Int) == 4) = true := by rw [h4]; rfl
                by_cases hx : x[0].toNat = 120
                · have kx : ((x[0].toNat : Int) == 120) = true := by rw [hx]; rfl
                  have HHD := hid (show x.head? = some 120 by
                    rw [List.head?_eq_getElem?, List.getElem?_eq_getElem (by omega)]
                    congr 1
                    exact UInt8.toNat_inj.1 hx)
                  clear hx
                  obtain ⟨y, hyd⟩ : ∃ y, y = x.tail := ⟨_, rfl⟩
                  have HYES := hid (show y.all digB = true → grpO (gs.drop (i - 1)) (1000 * acc + valI y) = grpO gs 0 from fun h => by
                    rw [← HG1.out, grp_mid_yes HNE.out ⟨h4, HHD.out, by rw [← hyd]; exact h⟩, ← hyd])
                  have HNO := hid (show y.all digB = false → refP l = none from fun h => HGN.out (by
                    rw [← HG1.out]
                    refine grp_mid_no HNE.out fun hh => ?_
                    rw [← hyd, h] at hh
                    exact absurd hh.2.2 (by decide)))
                  have hy : y.length = 3 := by rw [hyd, List.length_tail, h4]
                  have HYT := hid (show List.take 3 x.tail = y by rw [← hyd, List.take_of_length_le (by omega)])
                  clear hyd
                  have hac := grp_room hab.out (by have := HWS.out; omega)
                  go_wp2
                  rw [HYT.out, show ((x[0].toNat : Int) != 120) = false by rw [bne, kx]; rfl]
                  go_loopw [14] (fun kv wr => ∃ (j : Nat) (v : Int), j ≤ 3 ∧ kv = .int .i64 j ∧ Hid (VAt acc y j v) ∧ Hid (RS w wr w1.heap.size kb ((-1)) v (256) (ws))) (fun kv _ => 3 - (intOf kv).toNat)
                  case atStart => exact ⟨0, acc, by omega, rfl, VAt.zero acc y, hR⟩
                  case round =>
                    obtain ⟨j, v, hj, rfl, hv, hR2⟩ := hrel
                    by_cases hj3 : j < 3
                    · obtain ⟨hv0, hv1⟩ := hv.out.room ha0 hac hj3
                      have hjy : j < y.length := by omega
                      have hcb := (y[j]).toNat_lt
                      have hcb' : ((y[j]).toNat : Int) < 256 := by omega
                      by_cases d1 : ((y[j]).toNat : Int) < 48
                      · have HN := hid (HNO.out (all_odd hjy (by unfold IsDig; omega)))
                        have HRT := hid hR2.out.rt
                        obtain ⟨r0, r1, r2, f0, f1, f2⟩ := HRT.out.cells
                        have OU := hid (HRT.out.out 0 0 0)
                        go_wp2
                        have e0 := OU.out.1.cell 0
                        have e1 := OU.out.1.cell 1
                        have e2 := OU.out.1.cell 2
                        refine bodyPost_ret (v := .tuple #[.agg #[.int .i64 0, .int .i64 0, .int .i64 0], .bool false]) (by simp [results, Tryz.results14, go_sem, e0, e1, e2]) rfl (rparse_no HN.out OU.out.2)
                      · by_cases d2 : (57 : Int) < (y[j]).toNat
                        · have HN := hid (HNO.out (all_odd hjy (by unfold IsDig; omega)))
                          have HRT := hid hR2.out.rt
                          obtain ⟨r0, r1, r2, f0, f1, f2⟩ := HRT.out.cells
                          have OU := hid (HRT.out.out 0 0 0)
                          go_wp2
                          have e0 := OU.out.1.cell 0
                          have e1 := OU.out.1.cell 1
                          have e2 := OU.out.1.cell 2
                          refine bodyPost_ret (v := .tuple #[.agg #[.int .i64 0, .int .i64 0, .int .i64 0], .bool false]) (by simp [results, Tryz.results14, go_sem, e0, e1, e2]) rfl (rparse_no HN.out OU.out.2)
                        · have HV2 := hid (hv.out.next hjy (by unfold IsDig; omega))
                          obtain ⟨p0, p1, p2, g0, g1, g2⟩ := hR2.out.cells
                          obtain ⟨p0', p1', p2', g0', g1', g2'⟩ := hR2.out.drew.cells
                          have HR3 := hid ((hR2.out.set1 (10 * v + (((y[j]).toNat : Int) - 48))).drew)
                          go_wp2
                          go_region
                          go_wp2
                          go_roundw
                          case rel => exact ⟨j + 1, _, by omega, by go_num, HV2, HR3⟩
                          case measure => simp [intOf]; omega
                    · obtain rfl : j = 3 := by omega
                      obtain ⟨e1, e2, e3, e4⟩ := hv.out.fin hy
                      have HG2 := hid (show grpO (gs.drop (i + 1 - 2)) v = grpO gs 0 by rw [e1, show i + 1 - 2 = i - 1 by omega]; exact HYES.out e4)
                      have HB2 := hid (show v < (1000 ^ (i + 1 - 2) : Nat) by rw [e1, show i + 1 - 2 = i - 2 + 1 by omega]; exact grp_next hab.out e3)
                      have hv0 : 0 ≤ v := by omega
                      clear e1 e2 e3 e4
                      go_wp2
                      go_roundw
                      case rel => exact ⟨i + 1, v, by omega, by omega, by go_num, hv0, HB2, HG2, hR2⟩
                      case measure => simp [intOf]; omega
                · have kx : ((x[0].toNat : Int) == 120) = false := by rw [beq_eq_false_iff_ne]; omega
                  have HN := hid (HGN.out (by
                    rw [← HG1.out]
                    refine grp_mid_no HNE.out fun h => hx ?_
                    have h2 := h.2.1
                    rw [List.head?_eq_getElem?, List.getElem?_eq_getElem (by omega)] at h2
                    injection h2 with h2
                    rw [h2]; rfl))
                  have HRT := hid hR.out.rt
                  obtain ⟨r0, r1, r2, f0, f1, f2⟩ := HRT.out.cells
                  have OU := hid (HRT.out.out 0 0 0)
                  go_wp2
                  have e0 := OU.out.1.cell 0
                  have e1 := OU.out.1.cell 1
                  have e2 := OU.out.1.cell 2
                  refine bodyPost_ret (v := .tuple #[.agg #[.int .i64 0, .int .i64 0, .int .i64 0], .bool false]) (by simp [results, Tryz.results14, go_sem, e0, e1, e2]) rfl (rparse_no HN.out OU.out.2)
              · have k4 : ((x.length : Int) == 4) = false := by rw [beq_eq_false_iff_ne]; omega
                have HN := hid (HGN.out (by rw [← HG1.out]; exact grp_mid_no HNE.out fun h => h4 h.1))
                have HRT := hid hR.out.rt
                obtain ⟨r0, r1, r2, f0, f1, f2⟩ := HRT.out.cells
                have OU := hid (HRT.out.out 0 0 0)
                go_wp2
                have e0 := OU.out.1.cell 0
                have e1 := OU.out.1.cell 1
                have e2 := OU.out.1.cell 2
                refine bodyPost_ret (v := .tuple #[.agg #[.int .i64 0, .int .i64 0, .int .i64 0], .bool false]) (by simp [results, Tryz.results14, go_sem, e0, e1, e2]) rfl (rparse_no HN.out OU.out.2)
            · have q1 : (E : Int) - 1 ≤ (i : Int) := by omega
              have HG1 := hid (show grpO [x] acc = grpO gs 0 by
                have h1 := HX.out.1
                rw [Classical.not_not.1 (mt HX.out.2.1 hm)] at h1
                rw [← h1]; exact hgr.out)
              clear hgr HX
              by_cases h3' : x.length = 3
              · have k3 : ((x.length : Int) == 3) = true := by rw [h3']; rfl
                have HIE : i + 1 = E := by omega
                have HYES := hid (show x.all digB = true → grpO (gs.drop (i - 1)) (1000 * acc + valI x) = grpO gs 0 from fun h => by
                  rw [← HG1.out, grp_last_yes ⟨h3', h⟩, List.drop_of_length_le (by have := HWS.out; omega)])
                have HNO := hid (show x.all digB = false → refP l = none from fun h => HGN.out (by
                  rw [← HG1.out]
                  exact grp_last_no fun hh => by rw [h] at hh; exact absurd hh.2 (by decide)))
                have hy : x.length = 3 := h3'
                have hac := grp_room hab.out (by have := HWS.out; omega)
                generalize x = y at *
                go_wp2
                go_loopw [14] (fun kv wr => ∃ (j : Nat) (v : Int), j ≤ 3 ∧ kv = .int .i64 j ∧ Hid (VAt acc y j v) ∧ Hid (RS w wr w1.heap.size kb ((-1)) v (256) (ws))) (fun kv _ => 3 - (intOf kv).toNat)
                case atStart => exact ⟨0, acc, by omega, rfl, VAt.zero acc y, hR⟩
                case round =>
                  obtain ⟨j, v, hj, rfl, hv, hR2⟩ := hrel
                  by_cases hj3 : j < 3
                  · obtain ⟨hv0, hv1⟩ := hv.out.room ha0 hac hj3
                    have hjy : j < y.length := by omega
                    have hcb := (y[j]).toNat_lt
                    have hcb' : ((y[j]).toNat : Int) < 256 := by omega
                    by_cases d1 : ((y[j]).toNat : Int) < 48
                    · have HN := hid (HNO.out (all_odd hjy (by unfold IsDig; omega)))
                      have HRT := hid hR2.out.rt
                      obtain ⟨r0, r1, r2, f0, f1, f2⟩ := HRT.out.cells
                      have OU := hid (HRT.out.out 0 0 0)
                      go_wp2
                      have e0 := OU.out.1.cell 0
                      have e1 := OU.out.1.cell 1
                      have e2 := OU.out.1.cell 2
                      refine bodyPost_ret (v := .tuple #[.agg #[.int .i64 0, .int .i64 0, .int .i64 0], .bool false]) (by simp [results, Tryz.results14, go_sem, e0, e1, e2]) rfl (rparse_no HN.out OU.out.2)
                    · by_cases d2 : (57 : Int) < (y[j]).toNat
                      · have HN := hid (HNO.out (all_odd hjy (by unfold IsDig; omega)))
                        have HRT := hid hR2.out.rt
                        obtain ⟨r0, r1, r2, f0, f1, f2⟩ := HRT.out.cells
                        have OU := hid (HRT.out.out 0 0 0)
                        go_wp2
                        have e0 := OU.out.1.cell 0
                        have e1 := OU.out.1.cell 1
                        have e2 := OU.out.1.cell 2
                        refine bodyPost_ret (v := .tuple #[.agg #[.int .i64 0, .int .i64 0, .int .i64 0], .bool false]) (by simp [results, Tryz.results14, go_sem, e0, e1, e2]) rfl (rparse_no HN.out OU.out.2)
                      · have HV2 := hid (hv.out.next hjy (by unfold IsDig; omega))
                        obtain ⟨p0, p1, p2, g0, g1, g2⟩ := hR2.out.cells
                        obtain ⟨p0', p1', p2', g0', g1', g2'⟩ := hR2.out.drew.cells
                        have HR3 := hid ((hR2.out.set1 (10 * v + (((y[j]).toNat : Int) - 48))).drew)
                        go_wp2
                        go_region
                        go_wp2
                        go_roundw
                        case rel => exact ⟨j + 1, _, by omega, by go_num, HV2, HR3⟩
                        case measure => simp [intOf]; omega
                  · obtain rfl : j = 3 := by omega
                    obtain ⟨e1, e2, e3, e4⟩ := hv.out.fin hy
                    have HG2 := hid (show grpO (gs.drop (i + 1 - 2)) v = grpO gs 0 by rw [e1, show i + 1 - 2 = i - 1 by omega]; exact HYES.out e4)
                    have HB2 := hid (show v < (1000 ^ (i + 1 - 2) : Nat) by rw [e1, show i + 1 - 2 = i - 2 + 1 by omega]; exact grp_next hab.out e3)
                    have hv0 : 0 ≤ v := by omega
                    clear e1 e2 e3 e4
                    go_wp2
                    go_roundw
                    case rel => exact ⟨i + 1, v, by omega, by omega, by go_num, hv0, HB2, HG2, hR2⟩
                    case measure => simp [intOf]; omega
              · have k3 : ((x.length : Int) == 3) = false := by rw [beq_eq_false_iff_ne]; omega
                have HN := hid (HGN.out (by rw [← HG1.out]; exact grp_last_no fun h => h3' h.1))
                have HRT := hid hR.out.rt
                obtain ⟨r0, r1, r2, f0, f1, f2⟩ := HRT.out.cells
                have OU := hid (HRT.out.out 0 0 0)
                go_wp2
                have e0 := OU.out.1.cell 0
                have e1 := OU.out.1.cell 1
                have e2 := OU.out.1.cell 2
                refine bodyPost_ret (v := .tuple #[.agg #[.int .i64 0, .int .i64 0, .int .i64 0], .bool false]) (by simp [results, Tryz.results14, go_sem, e0, e1, e2]) rfl (rparse_no HN.out OU.out.2)
          · skip
            have q1 : (E : Int) ≤ (i : Int) := by omega
            have HEND := hid (refW_end HRW.out HS.out HL.out HWR.out H6.out (show grpO gs 0 = some acc by rw [← hgr.out, List.drop_of_length_le (by have := HWS.out; omega)]; rfl))
            obtain ⟨p0, p1, p2, g0, g1, g2⟩ := hR.out.cells
            have CI := hid (fun W => ref_Is ((-1)) acc (256) W)
            clear hgr hab
            cases hti : isTile ((-1)) acc (256) with
            | false =>
              have HN := hid (show refP l = none by rw [HEND.out, hti, if_neg (fun h => absurd h.1 (by decide))])
              simp only [hti] at CI
              clear hti HEND
              go_wp2_with fail
              refine (CI.out _).mono ?_
              rintro e w5 ⟨rfl, hb5⟩
              have HRT := hid (hR.out.below hb5).rt
              clear hb5 p0 p1 p2 g0 g1 g2
              obtain ⟨r0, r1, r2, f0, f1, f2⟩ := HRT.out.cells
              have OU := hid (HRT.out.out 0 0 0)
              go_wp2
              have e0 := OU.out.1.cell 0
              have e1 := OU.out.1.cell 1
              have e2 := OU.out.1.cell 2
              refine bodyPost_ret (v := .tuple #[.agg #[.int .i64 0, .int .i64 0, .int .i64 0], .bool false]) (by simp [results, Tryz.results14, go_sem, e0, e1, e2]) rfl (rparse_no HN.out OU.out.2)
            | true =>
              have hb := isTile_iff.1 hti
              obtain ⟨n, rfl⟩ := Int.eq_ofNat_of_zero_le ha0
              have CP := hid (fun W => ref_Path ((-1)) n (256) W (by omega) (by omega) (by omega) (by omega) (by omega))
              cases hpl : (pathT ((-1)) n (256) == l) with
              | false =>
                have HN := hid (show refP l = none by rw [HEND.out, if_neg (fun h => absurd h.2 (beq_eq_false_iff_ne.1 hpl))])
                simp only [hti] at CI
                clear hti HEND hb
                generalize pathT ((-1)) n (256) = pt at *
                go_wp2_with fail
                refine (CI.out _).mono ?_
                rintro e w5 ⟨rfl, hb5⟩
                have R5 := hid (hR.out.below hb5)
                clear hb5 p0 p1 p2 g0 g1 g2
                obtain ⟨p0, p1, p2, g0, g1, g2⟩ := R5.out.cells
                go_wp2_with fail
                refine (CP.out _).mono ?_
                rintro e w6 ⟨rfl, hb6⟩
                have HRT := hid (R5.out.below hb6).rt
                clear hb6 p0 p1 p2 g0 g1 g2
                obtain ⟨r0, r1, r2, f0, f1, f2⟩ := HRT.out.cells
                have OU := hid (HRT.out.out 0 0 0)
                go_wp2
                have e0 := OU.out.1.cell 0
                have e1 := OU.out.1.cell 1
                have e2 := OU.out.1.cell 2
                refine bodyPost_ret (v := .tuple #[.agg #[.int .i64 0, .int .i64 0, .int .i64 0], .bool false]) (by simp [results, Tryz.results14, go_sem, e0, e1, e2]) rfl (rparse_no HN.out OU.out.2)
              | true =>
                have HY := hid (show refP l = some ((-1), (n : Int), 256) by rw [HEND.out, if_pos ⟨hti, beq_iff_eq.1 hpl⟩])
                simp only [hti] at CI
                clear hti HEND hb
                generalize pathT ((-1)) n (256) = pt at *
                go_wp2_with fail
                refine (CI.out _).mono ?_
                rintro e w5 ⟨rfl, hb5⟩
                have R5 := hid (hR.out.below hb5)
                clear hb5 p0 p1 p2 g0 g1 g2
                obtain ⟨p0, p1, p2, g0, g1, g2⟩ := R5.out.cells
                go_wp2_with fail
                refine (CP.out _).mono ?_
                rintro e w6 ⟨rfl, hb6⟩
                have R6 := hid (R5.out.below hb6)
                clear hb6 p0 p1 p2 g0 g1 g2
                obtain ⟨p0, p1, p2, g0, g1, g2⟩ := R6.out.cells
                obtain ⟨r0, r1, r2, f0, f1, f2⟩ := R6.out.rt.cells
                have OU := hid (R6.out.rt.out ((-1)) n (256))
                go_wp2
                have e0 := OU.out.1.cell 0
                have e1 := OU.out.1.cell 1
                have e2 := OU.out.1.cell 2
                refine bodyPost_ret (v := .tuple #[.agg #[.int .i64 ((-1)), .int .i64 n, .int .i64 (256)], .bool true]) (by simp [results, Tryz.results14, go_sem, e0, e1, e2]) rfl (rparse_yes HY.out OU.out.2)
    · have b2 : (2 : Int) < be.length := by omega
      have b3 : (2 : Int) ≤ be.length := by omega
      have bL : ((be.length : Int) - 2).toNat = be.length - 2 := by omega
      by_cases hsf : (be.drop (be.length - 2) == [46, 112]) = true
      · have hw : hasW be = true := by unfold hasW; rw [hsf, decide_eq_true (show 2 < be.length by omega)]; rfl
        have hsT : (List.take (be.length - (be.length - 2)) (List.drop (be.length - 2) be) == [46, 112]) = true := by rw [List.take_of_length_le (by simp)]; exact hsf
        have hlen1 : ws.length - 1 < ws.length := by omega
        have iL1 : ((ws.length : Int) - 1).toNat = ws.length - 1 := by omega
        have iL2 : ((ws.length : Int) - 1 - 1).toNat = ws.length - 2 := by omega
        obtain ⟨wl, fl⟩ := R4.out.word hlen1
        generalize hla : ws[ws.length - 1] = la at *
        cases hn : isNum la with
        | false =>
          have HWN := hid (show widR ws = none by unfold widR; simp only [hgb, hgl, hw, hn]; rfl)
          have HN := hid (show refP l = none by rw [HRW.out]; exact refW_wid HWN.out)
          have HRT := hid R4.out.rt
          have NM1 := hid (fun W => NM.out la W)
          simp only [hn] at NM1
          clear hgb hgl hw hla hn
          go_wp2_with fail
          refine (NM1.out _).mono ?_
          rintro e w3 ⟨rfl, rfl⟩
          obtain ⟨r0, r1, r2, f0, f1, f2⟩ := HRT.out.cells
          have OU := hid (HRT.out.out 0 0 0)
          go_wp2
          have e0 := OU.out.1.cell 0
          have e1 := OU.out.1.cell 1
          have e2 := OU.out.1.cell 2
          refine bodyPost_ret (v := .tuple #[.agg #[.int .i64 0, .int .i64 0, .int .i64 0], .bool false]) (by simp [results, Tryz.results14, go_sem, e0, e1, e2]) rfl (rparse_no HN.out OU.out.2)
        | true =>
          have NM1 := hid (fun W => NM.out la W)
          simp only [hn] at NM1
          by_cases h255 : 255 < numI la
          · have HWN := hid (show widR ws = none by unfold widR; simp only [hgb, hgl, hw, hn]; simp; omega)
            have HN := hid (show refP l = none by rw [HRW.out]; exact refW_wid HWN.out)
            have HRT := hid R4.out.rt
            clear hgb hgl hw hla hn
            go_wp2_with fail
            refine (NM1.out _).mono ?_
            rintro e w3 ⟨rfl, rfl⟩
            obtain ⟨r0, r1, r2, f0, f1, f2⟩ := HRT.out.cells
            have OU := hid (HRT.out.out 0 0 0)
            go_wp2
            have e0 := OU.out.1.cell 0
            have e1 := OU.out.1.cell 1
            have e2 := OU.out.1.cell 2
            refine bodyPost_ret (v := .tuple #[.agg #[.int .i64 0, .int .i64 0, .int .i64 0], .bool false]) (by simp [results, Tryz.results14, go_sem, e0, e1, e2]) rfl (rparse_no HN.out OU.out.2)
          · obtain ⟨E, vs, gs, HE, HVS, HGS⟩ : ∃ (E : Nat) (vs gs : List (List UInt8)), Hid (E = ws.length - 1) ∧ Hid (vs = ws.set (ws.length - 2) (be.take (be.length - 2))) ∧ Hid (gs = ((ws.take (ws.length - 1)).set (ws.length - 2) (be.take (be.length - 2))).drop 2) := ⟨_, _, _, rfl, rfl, rfl⟩
            have HWR := hid (show widR ws = some (numI la, gs) by unfold widR; simp only [hgb, hgl, hw, hn, HGS.out]; simp; omega)
            have hvl : vs.length = ws.length := by rw [HVS.out, List.length_set]
            have HWS := hid (show gs = (vs.take E).drop 2 ∧ E = gs.length + 2 ∧ E ≤ vs.length from by
              have e1 := HE.out
              refine ⟨by rw [HGS.out, HVS.out, e1, List.take_set], ?_, by omega⟩
              rw [HGS.out]; simp; omega)
            have HVM := hid (show ∀ x ∈ vs, x.length ≤ 1000 from fun x hx => by
              rw [HVS.out] at hx
              rcases List.mem_or_eq_of_mem_set hx with h | h
              · exact HWM.out x h
              · rw [h, List.length_take]; omega)
            have R5 := hid (show RS w _ w1.heap.size kb ((-1)) 0 (numI la) vs by rw [HVS.out]; exact ((RST.out ((-1)) (numI la)).setW (ws.length - 2) (be.take (be.length - 2))))
            have h256 : numI la ≤ 255 := by omega
            clear hgb hgl hw hla hn h255
            generalize numI la = wd at *
            go_wp2_with fail
            refine (NM1.out _).mono ?_
            rintro e w3 ⟨rfl, rfl⟩
            obtain ⟨p0, p1, p2, g0, g1, g2⟩ := R4.out.cells
            obtain ⟨wb2, fb2⟩ := (RST.out ((-1)) wd).word hlen2
            by_cases h6 : 6 < gs.length
            · have g6 : (6 : Int) < ((ws.length : Int) - 1) - 2 := by have := HWS.out; have := HE.out; omega
              have HN := hid (show refP l = none by rw [HRW.out, refW_on HS.out HL.out HWR.out, if_pos h6])
              have HRT := hid R5.out.rt
              obtain ⟨r0, r1, r2, f0, f1, f2⟩ := HRT.out.cells
              have OU := hid (HRT.out.out 0 0 0)
              go_wp2
              have e0 := OU.out.1.cell 0
              have e1 := OU.out.1.cell 1
              have e2 := OU.out.1.cell 2
              refine bodyPost_ret (v := .tuple #[.agg #[.int .i64 0, .int .i64 0, .int .i64 0], .bool false]) (by simp [results, Tryz.results14, go_sem, e0, e1, e2]) rfl (rparse_no HN.out OU.out.2)
            · have g6 : (((ws.length : Int) - 1) : Int) - 2 ≤ 6 := by have := HWS.out; have := HE.out; omega
              have H6 := hid h6
              have HGN := hid (show grpO gs 0 = none → refP l = none from fun h => refW_grp HRW.out HS.out HL.out HWR.out H6.out h)
              have hE2 : E ≤ 8 ∧ 2 ≤ E ∧ E ≤ (vs).length := by have := HWS.out; omega
              obtain ⟨hE8, hE2, hEl⟩ := hE2
              clear h6
              go_wp2
              rw [show ((ws.length : Int) - 1) = (E : Int) by have := HE.out; omega]
              go_loopw [12] (fun iv wr => ∃ (i : Nat) (acc : Int), 2 ≤ i ∧ i ≤ E ∧ iv = .int .i64 i ∧ 0 ≤ acc ∧ Hid (acc < (1000 ^ (i - 2) : Nat)) ∧ Hid (grpO (gs.drop (i - 2)) acc = grpO gs 0) ∧ Hid (RS w wr w1.heap.size kb (-1) acc (wd) (vs))) (fun iv _ => E - (intOf iv).toNat)
              case atStart => exact ⟨2, 0, Nat.le_refl _, hE2, rfl, Int.le_refl _, by simp [Hid], by simp [Hid], R5⟩
              case round =>
                obtain ⟨i, acc, hi1, hi2, rfl, ha0, hab, hgr, hR⟩ := hrel
                by_cases hlt : i < E
                · have hiw : i < (vs).length := by omega
                  obtain ⟨wx, fx⟩ := hR.out.word hiw
                  have HX := hid (grp_at (HWS.out).1 (HWS.out).2.1 hi1 hlt hiw)
                  have hxl : ((vs)[i]).length ≤ 1000 := HVM.out _ (List.getElem_mem hiw)
                  generalize (vs)[i] = x at *
                  by_cases hm : i + 1 < E
                  · have q1 : (i : Int) < (E : Int) - 1 := by omega
                    have HNE := hid (HX.out.2.2 hm)
                    have HG1 := hid (show grpO (x :: gs.drop (i - 1)) acc = grpO gs 0 by rw [← HX.out.1]; exact hgr.out)
                    clear hgr HX
                    by_cases h4 : x.length = 4
                    · have k4 : ((x.length : Int) == 4) = true := by rw [h4]; rfl
                      by_cases hx : x[0].toNat = 120
                      · have kx : ((x[0].toNat : Int) == 120) = true := by rw [hx]; rfl
                        have HHD := hid (show x.head? = some 120 by
                          rw [List.head?_eq_getElem?, List.getElem?_eq_getElem (by omega)]
                          congr 1
                          exact UInt8.toNat_inj.1 hx)
                        clear hx
                        obtain ⟨y, hyd⟩ : ∃ y, y = x.tail := ⟨_, rfl⟩
                        have HYES := hid (show y.all digB = true → grpO (gs.drop (i - 1)) (1000 * acc + valI y) = grpO gs 0 from fun h => by
                          rw [← HG1.out, grp_mid_yes HNE.out ⟨h4, HHD.out, by rw [← hyd]; exact h⟩, ← hyd])
                        have HNO := hid (show y.all digB = false → refP l = none from fun h => HGN.out (by
                          rw [← HG1.out]
                          refine grp_mid_no HNE.out fun hh => ?_
                          rw [← hyd, h] at hh
                          exact absurd hh.2.2 (by decide)))
                        have hy : y.length = 3 := by rw [hyd, List.length_tail, h4]
                        have HYT := hid (show List.take 3 x.tail = y by rw [← hyd, List.take_of_length_le (by omega)])
                        clear hyd
                        have hac := grp_room hab.out (by have := HWS.out; omega)
                        go_wp2
                        rw [HYT.out, show ((x[0].toNat : Int) != 120) = false by rw [bne, kx]; rfl]
                        go_loopw [14] (fun kv wr => ∃ (j : Nat) (v : Int), j ≤ 3 ∧ kv = .int .i64 j ∧ Hid (VAt acc y j v) ∧ Hid (RS w wr w1.heap.size kb ((-1)) v (wd) (vs))) (fun kv _ => 3 - (intOf kv).toNat)
                        case atStart => exact ⟨0, acc, by omega, rfl, VAt.zero acc y, hR⟩
                        case round =>
                          obtain ⟨j, v, hj, rfl, hv, hR2⟩ := hrel
                          by_cases hj3 : j < 3
                          · obtain ⟨hv0, hv1⟩ := hv.out.room ha0 hac hj3
                            have hjy : j < y.length := by omega
                            have hcb := (y[j]).toNat_lt
                            have hcb' : ((y[j]).toNat : Int) < 256 := by omega
                            by_cases d1 : ((y[j]).toNat : Int) < 48
                            · have HN := hid (HNO.out (all_odd hjy (by unfold IsDig; omega)))
                              have HRT := hid hR2.out.rt
                              obtain ⟨r0, r1, r2, f0, f1, f2⟩ := HRT.out.cells
                              have OU := hid (HRT.out.out 0 0 0)
                              go_wp2
                              have e0 := OU.out.1.cell 0
                              have e1 := OU.out.1.cell 1
                              have e2 := OU.out.1.cell 2
                              refine bodyPost_ret (v := .tuple #[.agg #[.int .i64 0, .int .i64 0, .int .i64 0], .bool false]) (by simp [results, Tryz.results14, go_sem, e0, e1, e2]) rfl (rparse_no HN.out OU.out.2)
                            · by_cases d2 : (57 : Int) < (y[j]).toNat
                              · have HN := hid (HNO.out (all_odd hjy (by unfold IsDig; omega)))
                                have HRT := hid hR2.out.rt
                                obtain ⟨r0, r1, r2, f0, f1, f2⟩ := HRT.out.cells
                                have OU := hid (HRT.out.out 0 0 0)
                                go_wp2
                                have e0 := OU.out.1.cell 0
                                have e1 := OU.out.1.cell 1
                                have e2 := OU.out.1.cell 2
                                refine bodyPost_ret (v := .tuple #[.agg #[.int .i64 0, .int .i64 0, .int .i64 0], .bool false]) (by simp [results, Tryz.results14, go_sem, e0, e1, e2]) rfl (rparse_no HN.out OU.out.2)
                              · have HV2 := hid (hv.out.next hjy (by unfold IsDig; omega))
                                obtain ⟨p0, p1, p2, g0, g1, g2⟩ := hR2.out.cells
                                obtain ⟨p0', p1', p2', g0', g1', g2'⟩ := hR2.out.drew.cells
                                have HR3 := hid ((hR2.out.set1 (10 * v + (((y[j]).toNat : Int) - 48))).drew)
                                go_wp2
                                go_region
                                go_wp2
                                go_roundw
                                case rel => exact ⟨j + 1, _, by omega, by go_num, HV2, HR3⟩
                                case measure => simp [intOf]; omega
                          · obtain rfl : j = 3 := by omega
                            obtain ⟨e1, e2, e3, e4⟩ := hv.out.fin hy
                            have HG2 := hid (show grpO (gs.drop (i + 1 - 2)) v = grpO gs 0 by rw [e1, show i + 1 - 2 = i - 1 by omega]; exact HYES.out e4)
                            have HB2 := hid (show v < (1000 ^ (i + 1 - 2) : Nat) by rw [e1, show i + 1 - 2 = i - 2 + 1 by omega]; exact grp_next hab.out e3)
                            have hv0 : 0 ≤ v := by omega
                            clear e1 e2 e3 e4
                            go_wp2
                            go_roundw
                            case rel => exact ⟨i + 1, v, by omega, by omega, by go_num, hv0, HB2, HG2, hR2⟩
                            case measure => simp [intOf]; omega
                      · have kx : ((x[0].toNat : Int) == 120) = false := by rw [beq_eq_false_iff_ne]; omega
                        have HN := hid (HGN.out (by
                          rw [← HG1.out]
                          refine grp_mid_no HNE.out fun h => hx ?_
                          have h2 := h.2.1
                          rw [List.head?_eq_getElem?, List.getElem?_eq_getElem (by omega)] at h2
                          injection h2 with h2
                          rw [h2]; rfl))
                        have HRT := hid hR.out.rt
                        obtain ⟨r0, r1, r2, f0, f1, f2⟩ := HRT.out.cells
                        have OU := hid (HRT.out.out 0 0 0)
                        go_wp2
                        have e0 := OU.out.1.cell 0
                        have e1 := OU.out.1.cell 1
                        have e2 := OU.out.1.cell 2
                        refine bodyPost_ret (v := .tuple #[.agg #[.int .i64 0, .int .i64 0, .int .i64 0], .bool false]) (by simp [results, Tryz.results14, go_sem, e0, e1, e2]) rfl (rparse_no HN.out OU.out.2)
                    · have k4 : ((x.length : Int) == 4) = false := by rw [beq_eq_false_iff_ne]; omega
                      have HN := hid (HGN.out (by rw [← HG1.out]; exact grp_mid_no HNE.out fun h => h4 h.1))
                      have HRT := hid hR.out.rt
                      obtain ⟨r0, r1, r2, f0, f1, f2⟩ := HRT.out.cells
                      have OU := hid (HRT.out.out 0 0 0)
                      go_wp2
                      have e0 := OU.out.1.cell 0
                      have e1 := OU.out.1.cell 1
                      have e2 := OU.out.1.cell 2
                      refine bodyPost_ret (v := .tuple #[.agg #[.int .i64 0, .int .i64 0, .int .i64 0], .bool false]) (by simp [results, Tryz.results14, go_sem, e0, e1, e2]) rfl (rparse_no HN.out OU.out.2)
                  · have q1 : (E : Int) - 1 ≤ (i : Int) := by omega
                    have HG1 := hid (show grpO [x] acc = grpO gs 0 by
                      have h1 := HX.out.1
                      rw [Classical.not_not.1 (mt HX.out.2.1 hm)] at h1
                      rw [← h1]; exact hgr.out)
                    clear hgr HX
                    by_cases h3' : x.length = 3
                    · have k3 : ((x.length : Int) == 3) = true := by rw [h3']; rfl
                      have HIE : i + 1 = E := by omega
                      have HYES := hid (show x.all digB = true → grpO (gs.drop (i - 1)) (1000 * acc + valI x) = grpO gs 0 from fun h => by
                        rw [← HG1.out, grp_last_yes ⟨h3', h⟩, List.drop_of_length_le (by have := HWS.out; omega)])
                      have HNO := hid (show x.all digB = false → refP l = none from fun h => HGN.out (by
                        rw [← HG1.out]
                        exact grp_last_no fun hh => by rw [h] at hh; exact absurd hh.2 (by decide)))
                      have hy : x.length = 3 := h3'
                      have hac := grp_room hab.out (by have := HWS.out; omega)
                      generalize x = y at *
                      go_wp2
                      go_loopw [14] (fun kv wr => ∃ (j : Nat) (v : Int), j ≤ 3 ∧ kv = .int .i64 j ∧ Hid (VAt acc y j v) ∧ Hid (RS w wr w1.heap.size kb ((-1)) v (wd) (vs))) (fun kv _ => 3 - (intOf kv).toNat)
                      case atStart => exact ⟨0, acc, by omega, rfl, VAt.zero acc y, hR⟩
                      case round =>
                        obtain ⟨j, v, hj, rfl, hv, hR2⟩ := hrel
                        by_cases hj3 : j < 3
                        · obtain ⟨hv0, hv1⟩ := hv.out.room ha0 hac hj3
                          have hjy : j < y.length := by omega
                          have hcb := (y[j]).toNat_lt
                          have hcb' : ((y[j]).toNat : Int) < 256 := by omega
                          by_cases d1 : ((y[j]).toNat : Int) < 48
                          · have HN := hid (HNO.out (all_odd hjy (by unfold IsDig; omega)))
                            have HRT := hid hR2.out.rt
                            obtain ⟨r0, r1, r2, f0, f1, f2⟩ := HRT.out.cells
                            have OU := hid (HRT.out.out 0 0 0)
                            go_wp2
                            have e0 := OU.out.1.cell 0
                            have e1 := OU.out.1.cell 1
                            have e2 := OU.out.1.cell 2
                            refine bodyPost_ret (v := .tuple #[.agg #[.int .i64 0, .int .i64 0, .int .i64 0], .bool false]) (by simp [results, Tryz.results14, go_sem, e0, e1, e2]) rfl (rparse_no HN.out OU.out.2)
                          · by_cases d2 : (57 : Int) < (y[j]).toNat
                            · have HN := hid (HNO.out (all_odd hjy (by unfold IsDig; omega)))
                              have HRT := hid hR2.out.rt
                              obtain ⟨r0, r1, r2, f0, f1, f2⟩ := HRT.out.cells
                              have OU := hid (HRT.out.out 0 0 0)
                              go_wp2
                              have e0 := OU.out.1.cell 0
                              have e1 := OU.out.1.cell 1
                              have e2 := OU.out.1.cell 2
                              refine bodyPost_ret (v := .tuple #[.agg #[.int .i64 0, .int .i64 0, .int .i64 0], .bool false]) (by simp [results, Tryz.results14, go_sem, e0, e1, e2]) rfl (rparse_no HN.out OU.out.2)
                            · have HV2 := hid (hv.out.next hjy (by unfold IsDig; omega))
                              obtain ⟨p0, p1, p2, g0, g1, g2⟩ := hR2.out.cells
                              obtain ⟨p0', p1', p2', g0', g1', g2'⟩ := hR2.out.drew.cells
                              have HR3 := hid ((hR2.out.set1 (10 * v + (((y[j]).toNat : Int) - 48))).drew)
                              go_wp2
                              go_region
                              go_wp2
                              go_roundw
                              case rel => exact ⟨j + 1, _, by omega, by go_num, HV2, HR3⟩
                              case measure => simp [intOf]; omega
                        · obtain rfl : j = 3 := by omega
                          obtain ⟨e1, e2, e3, e4⟩ := hv.out.fin hy
                          have HG2 := hid (show grpO (gs.drop (i + 1 - 2)) v = grpO gs 0 by rw [e1, show i + 1 - 2 = i - 1 by omega]; exact HYES.out e4)
                          have HB2 := hid (show v < (1000 ^ (i + 1 - 2) : Nat) by rw [e1, show i + 1 - 2 = i - 2 + 1 by omega]; exact grp_next hab.out e3)
                          have hv0 : 0 ≤ v := by omega
                          clear e1 e2 e3 e4
                          go_wp2
                          go_roundw
                          case rel => exact ⟨i + 1, v, by omega, by omega, by go_num, hv0, HB2, HG2, hR2⟩
                          case measure => simp [intOf]; omega
                    · have k3 : ((x.length : Int) == 3) = false := by rw [beq_eq_false_iff_ne]; omega
                      have HN := hid (HGN.out (by rw [← HG1.out]; exact grp_last_no fun h => h3' h.1))
                      have HRT := hid hR.out.rt
                      obtain ⟨r0, r1, r2, f0, f1, f2⟩ := HRT.out.cells
                      have OU := hid (HRT.out.out 0 0 0)
                      go_wp2
                      have e0 := OU.out.1.cell 0
                      have e1 := OU.out.1.cell 1
                      have e2 := OU.out.1.cell 2
                      refine bodyPost_ret (v := .tuple #[.agg #[.int .i64 0, .int .i64 0, .int .i64 0], .bool false]) (by simp [results, Tryz.results14, go_sem, e0, e1, e2]) rfl (rparse_no HN.out OU.out.2)
                · skip
                  have q1 : (E : Int) ≤ (i : Int) := by omega
                  have HEND := hid (refW_end HRW.out HS.out HL.out HWR.out H6.out (show grpO gs 0 = some acc by rw [← hgr.out, List.drop_of_length_le (by have := HWS.out; omega)]; rfl))
                  obtain ⟨p0, p1, p2, g0, g1, g2⟩ := hR.out.cells
                  have CI := hid (fun W => ref_Is ((-1)) acc (wd) W)
                  clear hgr hab
                  cases hti : isTile ((-1)) acc (wd) with
                  | false =>
                    have HN := hid (show refP l = none by rw [HEND.out, hti, if_neg (fun h => absurd h.1 (by decide))])
                    simp only [hti] at CI
                    clear hti HEND
                    go_wp2_with fail
                    refine (CI.out _).mono ?_
                    rintro e w5 ⟨rfl, hb5⟩
                    have HRT := hid (hR.out.below hb5).rt
                    clear hb5 p0 p1 p2 g0 g1 g2
                    obtain ⟨r0, r1, r2, f0, f1, f2⟩ := HRT.out.cells
                    have OU := hid (HRT.out.out 0 0 0)
                    go_wp2
                    have e0 := OU.out.1.cell 0
                    have e1 := OU.out.1.cell 1
                    have e2 := OU.out.1.cell 2
                    refine bodyPost_ret (v := .tuple #[.agg #[.int .i64 0, .int .i64 0, .int .i64 0], .bool false]) (by simp [results, Tryz.results14, go_sem, e0, e1, e2]) rfl (rparse_no HN.out OU.out.2)
                  | true =>
                    have hb := isTile_iff.1 hti
                    obtain ⟨n, rfl⟩ := Int.eq_ofNat_of_zero_le ha0
                    have CP := hid (fun W => ref_Path ((-1)) n (wd) W (by omega) (by omega) (by omega) (by omega) (by omega))
                    cases hpl : (pathT ((-1)) n (wd) == l) with
                    | false =>
                      have HN := hid (show refP l = none by rw [HEND.out, if_neg (fun h => absurd h.2 (beq_eq_false_iff_ne.1 hpl))])
                      simp only [hti] at CI
                      clear hti HEND hb
                      generalize pathT ((-1)) n (wd) = pt at *
                      go_wp2_with fail
                      refine (CI.out _).mono ?_
                      rintro e w5 ⟨rfl, hb5⟩
                      have R5 := hid (hR.out.below hb5)
                      clear hb5 p0 p1 p2 g0 g1 g2
                      obtain ⟨p0, p1, p2, g0, g1, g2⟩ := R5.out.cells
                      go_wp2_with fail
                      refine (CP.out _).mono ?_
                      rintro e w6 ⟨rfl, hb6⟩
                      have HRT := hid (R5.out.below hb6).rt
                      clear hb6 p0 p1 p2 g0 g1 g2
                      obtain ⟨r0, r1, r2, f0, f1, f2⟩ := HRT.out.cells
                      have OU := hid (HRT.out.out 0 0 0)
                      go_wp2
                      have e0 := OU.out.1.cell 0
                      have e1 := OU.out.1.cell 1
                      have e2 := OU.out.1.cell 2
                      refine bodyPost_ret (v := .tuple #[.agg #[.int .i64 0, .int .i64 0, .int .i64 0], .bool false]) (by simp [results, Tryz.results14, go_sem, e0, e1, e2]) rfl (rparse_no HN.out OU.out.2)
                    | true =>
                      have HY := hid (show refP l = some ((-1), (n : Int), wd) by rw [HEND.out, if_pos ⟨hti, beq_iff_eq.1 hpl⟩])
                      simp only [hti] at CI
                      clear hti HEND hb
                      generalize pathT ((-1)) n (wd) = pt at *
                      go_wp2_with fail
                      refine (CI.out _).mono ?_
                      rintro e w5 ⟨rfl, hb5⟩
                      have R5 := hid (hR.out.below hb5)
                      clear hb5 p0 p1 p2 g0 g1 g2
                      obtain ⟨p0, p1, p2, g0, g1, g2⟩ := R5.out.cells
                      go_wp2_with fail
                      refine (CP.out _).mono ?_
                      rintro e w6 ⟨rfl, hb6⟩
                      have R6 := hid (R5.out.below hb6)
                      clear hb6 p0 p1 p2 g0 g1 g2
                      obtain ⟨p0, p1, p2, g0, g1, g2⟩ := R6.out.cells
                      obtain ⟨r0, r1, r2, f0, f1, f2⟩ := R6.out.rt.cells
                      have OU := hid (R6.out.rt.out ((-1)) n (wd))
                      go_wp2
                      have e0 := OU.out.1.cell 0
                      have e1 := OU.out.1.cell 1
                      have e2 := OU.out.1.cell 2
                      refine bodyPost_ret (v := .tuple #[.agg #[.int .i64 ((-1)), .int .i64 n, .int .i64 (wd)], .bool true]) (by simp [results, Tryz.results14, go_sem, e0, e1, e2]) rfl (rparse_yes HY.out OU.out.2)
      · have hsf' : (be.drop (be.length - 2) == [46, 112]) = false := by cases h : (be.drop (be.length - 2) == [46, 112]) with | false => rfl | true => exact absurd h hsf
        have hw : hasW be = false := by unfold hasW; rw [hsf']; simp
        have HWR := hid (show widR ws = some (256, ws.drop 2) by unfold widR; simp only [hgb, hw]; rfl)
        have hsT : (List.take (be.length - (be.length - 2)) (List.drop (be.length - 2) be) == [46, 112]) = false := by rw [List.take_of_length_le (by simp)]; exact hsf'
        clear hsf
        clear hgb hgl hw
        obtain ⟨E, gs, HE, HGS, HWS⟩ : ∃ (E : Nat) (gs : List (List UInt8)), Hid (E = ws.length) ∧ Hid (gs = ws.drop 2) ∧ Hid (gs = (ws.take E).drop 2 ∧ E = gs.length + 2 ∧ E ≤ ws.length) := ⟨_, _, rfl, rfl, by rw [List.take_length], by simp; omega, Nat.le_refl _⟩
        rw [← HGS.out] at HWR
        have HVM := HWM
        by_cases h6 : 6 < gs.length
        · have g6 : (6 : Int) < (ws.length : Int) - 2 := by have := HWS.out; have := HE.out; omega
          have HN := hid (show refP l = none by rw [HRW.out, refW_on HS.out HL.out HWR.out, if_pos h6])
          have HRT := hid R4.out.rt
          obtain ⟨r0, r1, r2, f0, f1, f2⟩ := HRT.out.cells
          have OU := hid (HRT.out.out 0 0 0)
          go_wp2
          have e0 := OU.out.1.cell 0
          have e1 := OU.out.1.cell 1
          have e2 := OU.out.1.cell 2
          refine bodyPost_ret (v := .tuple #[.agg #[.int .i64 0, .int .i64 0, .int .i64 0], .bool false]) (by simp [results, Tryz.results14, go_sem, e0, e1, e2]) rfl (rparse_no HN.out OU.out.2)
        · have g6 : ((ws.length : Int) : Int) - 2 ≤ 6 := by have := HWS.out; have := HE.out; omega
          have H6 := hid h6
          have HGN := hid (show grpO gs 0 = none → refP l = none from fun h => refW_grp HRW.out HS.out HL.out HWR.out H6.out h)
          have hE2 : E ≤ 8 ∧ 2 ≤ E ∧ E ≤ (ws).length := by have := HWS.out; omega
          obtain ⟨hE8, hE2, hEl⟩ := hE2
          clear h6
          go_wp2
          rw [show (ws.length : Int) = (E : Int) by have := HE.out; omega]
          go_loopw [12] (fun iv wr => ∃ (i : Nat) (acc : Int), 2 ≤ i ∧ i ≤ E ∧ iv = .int .i64 i ∧ 0 ≤ acc ∧ Hid (acc < (1000 ^ (i - 2) : Nat)) ∧ Hid (grpO (gs.drop (i - 2)) acc = grpO gs 0) ∧ Hid (RS w wr w1.heap.size kb (-1) acc (256) (ws))) (fun iv _ => E - (intOf iv).toNat)
          case atStart => exact ⟨2, 0, Nat.le_refl _, hE2, rfl, Int.le_refl _, by simp [Hid], by simp [Hid], R4⟩
          case round =>
            obtain ⟨i, acc, hi1, hi2, rfl, ha0, hab, hgr, hR⟩ := hrel
            by_cases hlt : i < E
            · have hiw : i < (ws).length := by omega
              obtain ⟨wx, fx⟩ := hR.out.word hiw
              have HX := hid (grp_at (HWS.out).1 (HWS.out).2.1 hi1 hlt hiw)
              have hxl : ((ws)[i]).length ≤ 1000 := HVM.out _ (List.getElem_mem hiw)
              generalize (ws)[i] = x at *
              by_cases hm : i + 1 < E
              · have q1 : (i : Int) < (E : Int) - 1 := by omega
                have HNE := hid (HX.out.2.2 hm)
                have HG1 := hid (show grpO (x :: gs.drop (i - 1)) acc = grpO gs 0 by rw [← HX.out.1]; exact hgr.out)
                clear hgr HX
                by_cases h4 : x.length = 4
                · have k4 : ((x.length : Int) == 4) = true := by rw [h4]; rfl
                  by_cases hx : x[0].toNat = 120
                  · have kx : ((x[0].toNat : Int) == 120) = true := by rw [hx]; rfl
                    have HHD := hid (show x.head? = some 120 by
                      rw [List.head?_eq_getElem?, List.getElem?_eq_getElem (by omega)]
                      congr 1
                      exact UInt8.toNat_inj.1 hx)
                    clear hx
                    obtain ⟨y, hyd⟩ : ∃ y, y = x.tail := ⟨_, rfl⟩
                    have HYES := hid (show y.all digB = true → grpO (gs.drop (i - 1)) (1000 * acc + valI y) = grpO gs 0 from fun h => by
                      rw [← HG1.out, grp_mid_yes HNE.out ⟨h4, HHD.out, by rw [← hyd]; exact h⟩, ← hyd])
                    have HNO := hid (show y.all digB = false → refP l = none from fun h => HGN.out (by
                      rw [← HG1.out]
                      refine grp_mid_no HNE.out fun hh => ?_
                      rw [← hyd, h] at hh
                      exact absurd hh.2.2 (by decide)))
                    have hy : y.length = 3 := by rw [hyd, List.length_tail, h4]
                    have HYT := hid (show List.take 3 x.tail = y by rw [← hyd, List.take_of_length_le (by omega)])
                    clear hyd
                    have hac := grp_room hab.out (by have := HWS.out; omega)
                    go_wp2
                    rw [HYT.out, show ((x[0].toNat : Int) != 120) = false by rw [bne, kx]; rfl]
                    go_loopw [14] (fun kv wr => ∃ (j : Nat) (v : Int), j ≤ 3 ∧ kv = .int .i64 j ∧ Hid (VAt acc y j v) ∧ Hid (RS w wr w1.heap.size kb ((-1)) v (256) (ws))) (fun kv _ => 3 - (intOf kv).toNat)
                    case atStart => exact ⟨0, acc, by omega, rfl, VAt.zero acc y, hR⟩
                    case round =>
                      obtain ⟨j, v, hj, rfl, hv, hR2⟩ := hrel
                      by_cases hj3 : j < 3
                      · obtain ⟨hv0, hv1⟩ := hv.out.room ha0 hac hj3
                        have hjy : j < y.length := by omega
                        have hcb := (y[j]).toNat_lt
                        have hcb' : ((y[j]).toNat : Int) < 256 := by omega
                        by_cases d1 : ((y[j]).toNat : Int) < 48
                        · have HN := hid (HNO.out (all_odd hjy (by unfold IsDig; omega)))
                          have HRT := hid hR2.out.rt
                          obtain ⟨r0, r1, r2, f0, f1, f2⟩ := HRT.out.cells
                          have OU := hid (HRT.out.out 0 0 0)
                          go_wp2
                          have e0 := OU.out.1.cell 0
                          have e1 := OU.out.1.cell 1
                          have e2 := OU.out.1.cell 2
                          refine bodyPost_ret (v := .tuple #[.agg #[.int .i64 0, .int .i64 0, .int .i64 0], .bool false]) (by simp [results, Tryz.results14, go_sem, e0, e1, e2]) rfl (rparse_no HN.out OU.out.2)
                        · by_cases d2 : (57 : Int) < (y[j]).toNat
                          · have HN := hid (HNO.out (all_odd hjy (by unfold IsDig; omega)))
                            have HRT := hid hR2.out.rt
                            obtain ⟨r0, r1, r2, f0, f1, f2⟩ := HRT.out.cells
                            have OU := hid (HRT.out.out 0 0 0)
                            go_wp2
                            have e0 := OU.out.1.cell 0
                            have e1 := OU.out.1.cell 1
                            have e2 := OU.out.1.cell 2
                            refine bodyPost_ret (v := .tuple #[.agg #[.int .i64 0, .int .i64 0, .int .i64 0], .bool false]) (by simp [results, Tryz.results14, go_sem, e0, e1, e2]) rfl (rparse_no HN.out OU.out.2)
                          · have HV2 := hid (hv.out.next hjy (by unfold IsDig; omega))
                            obtain ⟨p0, p1, p2, g0, g1, g2⟩ := hR2.out.cells
                            obtain ⟨p0', p1', p2', g0', g1', g2'⟩ := hR2.out.drew.cells
                            have HR3 := hid ((hR2.out.set1 (10 * v + (((y[j]).toNat : Int) - 48))).drew)
                            go_wp2
                            go_region
                            go_wp2
                            go_roundw
                            case rel => exact ⟨j + 1, _, by omega, by go_num, HV2, HR3⟩
                            case measure => simp [intOf]; omega
                      · obtain rfl : j = 3 := by omega
                        obtain ⟨e1, e2, e3, e4⟩ := hv.out.fin hy
                        have HG2 := hid (show grpO (gs.drop (i + 1 - 2)) v = grpO gs 0 by rw [e1, show i + 1 - 2 = i - 1 by omega]; exact HYES.out e4)
                        have HB2 := hid (show v < (1000 ^ (i + 1 - 2) : Nat) by rw [e1, show i + 1 - 2 = i - 2 + 1 by omega]; exact grp_next hab.out e3)
                        have hv0 : 0 ≤ v := by omega
                        clear e1 e2 e3 e4
                        go_wp2
                        go_roundw
                        case rel => exact ⟨i + 1, v, by omega, by omega, by go_num, hv0, HB2, HG2, hR2⟩
                        case measure => simp [intOf]; omega
                  · have kx : ((x[0].toNat : Int) == 120) = false := by rw [beq_eq_false_iff_ne]; omega
                    have HN := hid (HGN.out (by
                      rw [← HG1.out]
                      refine grp_mid_no HNE.out fun h => hx ?_
                      have h2 := h.2.1
                      rw [List.head?_eq_getElem?, List.getElem?_eq_getElem (by omega)] at h2
                      injection h2 with h2
                      rw [h2]; rfl))
                    have HRT := hid hR.out.rt
                    obtain ⟨r0, r1, r2, f0, f1, f2⟩ := HRT.out.cells
                    have OU := hid (HRT.out.out 0 0 0)
                    go_wp2
                    have e0 := OU.out.1.cell 0
                    have e1 := OU.out.1.cell 1
                    have e2 := OU.out.1.cell 2
                    refine bodyPost_ret (v := .tuple #[.agg #[.int .i64 0, .int .i64 0, .int .i64 0], .bool false]) (by simp [results, Tryz.results14, go_sem, e0, e1, e2]) rfl (rparse_no HN.out OU.out.2)
                · have k4 : ((x.length : Int) == 4) = false := by rw [beq_eq_false_iff_ne]; omega
                  have HN := hid (HGN.out (by rw [← HG1.out]; exact grp_mid_no HNE.out fun h => h4 h.1))
                  have HRT := hid hR.out.rt
                  obtain ⟨r0, r1, r2, f0, f1, f2⟩ := HRT.out.cells
                  have OU := hid (HRT.out.out 0 0 0)
                  go_wp2
                  have e0 := OU.out.1.cell 0
                  have e1 := OU.out.1.cell 1
                  have e2 := OU.out.1.cell 2
                  refine bodyPost_ret (v := .tuple #[.agg #[.int .i64 0, .int .i64 0, .int .i64 0], .bool false]) (by simp [results, Tryz.results14, go_sem, e0, e1, e2]) rfl (rparse_no HN.out OU.out.2)
              · have q1 : (E : Int) - 1 ≤ (i : Int) := by omega
                have HG1 := hid (show grpO [x] acc = grpO gs 0 by
                  have h1 := HX.out.1
                  rw [Classical.not_not.1 (mt HX.out.2.1 hm)] at h1
                  rw [← h1]; exact hgr.out)
                clear hgr HX
                by_cases h3' : x.length = 3
                · have k3 : ((x.length : Int) == 3) = true := by rw [h3']; rfl
                  have HIE : i + 1 = E := by omega
                  have HYES := hid (show x.all digB = true → grpO (gs.drop (i - 1)) (1000 * acc + valI x) = grpO gs 0 from fun h => by
                    rw [← HG1.out, grp_last_yes ⟨h3', h⟩, List.drop_of_length_le (by have := HWS.out; omega)])
                  have HNO := hid (show x.all digB = false → refP l = none from fun h => HGN.out (by
                    rw [← HG1.out]
                    exact grp_last_no fun hh => by rw [h] at hh; exact absurd hh.2 (by decide)))
                  have hy : x.length = 3 := h3'
                  have hac := grp_room hab.out (by have := HWS.out; omega)
                  generalize x = y at *
                  go_wp2
                  go_loopw [14] (fun kv wr => ∃ (j : Nat) (v : Int), j ≤ 3 ∧ kv = .int .i64 j ∧ Hid (VAt acc y j v) ∧ Hid (RS w wr w1.heap.size kb ((-1)) v (256) (ws))) (fun kv _ => 3 - (intOf kv).toNat)
                  case atStart => exact ⟨0, acc, by omega, rfl, VAt.zero acc y, hR⟩
                  case round =>
                    obtain ⟨j, v, hj, rfl, hv, hR2⟩ := hrel
                    by_cases hj3 : j < 3
                    · obtain ⟨hv0, hv1⟩ := hv.out.room ha0 hac hj3
                      have hjy : j < y.length := by omega
                      have hcb := (y[j]).toNat_lt
                      have hcb' : ((y[j]).toNat : Int) < 256 := by omega
                      by_cases d1 : ((y[j]).toNat : Int) < 48
                      · have HN := hid (HNO.out (all_odd hjy (by unfold IsDig; omega)))
                        have HRT := hid hR2.out.rt
                        obtain ⟨r0, r1, r2, f0, f1, f2⟩ := HRT.out.cells
                        have OU := hid (HRT.out.out 0 0 0)
                        go_wp2
                        have e0 := OU.out.1.cell 0
                        have e1 := OU.out.1.cell 1
                        have e2 := OU.out.1.cell 2
                        refine bodyPost_ret (v := .tuple #[.agg #[.int .i64 0, .int .i64 0, .int .i64 0], .bool false]) (by simp [results, Tryz.results14, go_sem, e0, e1, e2]) rfl (rparse_no HN.out OU.out.2)
                      · by_cases d2 : (57 : Int) < (y[j]).toNat
                        · have HN := hid (HNO.out (all_odd hjy (by unfold IsDig; omega)))
                          have HRT := hid hR2.out.rt
                          obtain ⟨r0, r1, r2, f0, f1, f2⟩ := HRT.out.cells
                          have OU := hid (HRT.out.out 0 0 0)
                          go_wp2
                          have e0 := OU.out.1.cell 0
                          have e1 := OU.out.1.cell 1
                          have e2 := OU.out.1.cell 2
                          refine bodyPost_ret (v := .tuple #[.agg #[.int .i64 0, .int .i64 0, .int .i64 0], .bool false]) (by simp [results, Tryz.results14, go_sem, e0, e1, e2]) rfl (rparse_no HN.out OU.out.2)
                        · have HV2 := hid (hv.out.next hjy (by unfold IsDig; omega))
                          obtain ⟨p0, p1, p2, g0, g1, g2⟩ := hR2.out.cells
                          obtain ⟨p0', p1', p2', g0', g1', g2'⟩ := hR2.out.drew.cells
                          have HR3 := hid ((hR2.out.set1 (10 * v + (((y[j]).toNat : Int) - 48))).drew)
                          go_wp2
                          go_region
                          go_wp2
                          go_roundw
                          case rel => exact ⟨j + 1, _, by omega, by go_num, HV2, HR3⟩
                          case measure => simp [intOf]; omega
                    · obtain rfl : j = 3 := by omega
                      obtain ⟨e1, e2, e3, e4⟩ := hv.out.fin hy
                      have HG2 := hid (show grpO (gs.drop (i + 1 - 2)) v = grpO gs 0 by rw [e1, show i + 1 - 2 = i - 1 by omega]; exact HYES.out e4)
                      have HB2 := hid (show v < (1000 ^ (i + 1 - 2) : Nat) by rw [e1, show i + 1 - 2 = i - 2 + 1 by omega]; exact grp_next hab.out e3)
                      have hv0 : 0 ≤ v := by omega
                      clear e1 e2 e3 e4
                      go_wp2
                      go_roundw
                      case rel => exact ⟨i + 1, v, by omega, by omega, by go_num, hv0, HB2, HG2, hR2⟩
                      case measure => simp [intOf]; omega
                · have k3 : ((x.length : Int) == 3) = false := by rw [beq_eq_false_iff_ne]; omega
                  have HN := hid (HGN.out (by rw [← HG1.out]; exact grp_last_no fun h => h3' h.1))
                  have HRT := hid hR.out.rt
                  obtain ⟨r0, r1, r2, f0, f1, f2⟩ := HRT.out.cells
                  have OU := hid (HRT.out.out 0 0 0)
                  go_wp2
                  have e0 := OU.out.1.cell 0
                  have e1 := OU.out.1.cell 1
                  have e2 := OU.out.1.cell 2
                  refine bodyPost_ret (v := .tuple #[.agg #[.int .i64 0, .int .i64 0, .int .i64 0], .bool false]) (by simp [results, Tryz.results14, go_sem, e0, e1, e2]) rfl (rparse_no HN.out OU.out.2)
            · skip
              have q1 : (E : Int) ≤ (i : Int) := by omega
              have HEND := hid (refW_end HRW.out HS.out HL.out HWR.out H6.out (show grpO gs 0 = some acc by rw [← hgr.out, List.drop_of_length_le (by have := HWS.out; omega)]; rfl))
              obtain ⟨p0, p1, p2, g0, g1, g2⟩ := hR.out.cells
              have CI := hid (fun W => ref_Is ((-1)) acc (256) W)
              clear hgr hab
              cases hti : isTile ((-1)) acc (256) with
              | false =>
                have HN := hid (show refP l = none by rw [HEND.out, hti, if_neg (fun h => absurd h.1 (by decide))])
                simp only [hti] at CI
                clear hti HEND
                go_wp2_with fail
                refine (CI.out _).mono ?_
                rintro e w5 ⟨rfl, hb5⟩
                have HRT := hid (hR.out.below hb5).rt
                clear hb5 p0 p1 p2 g0 g1 g2
                obtain ⟨r0, r1, r2, f0, f1, f2⟩ := HRT.out.cells
                have OU := hid (HRT.out.out 0 0 0)
                go_wp2
                have e0 := OU.out.1.cell 0
                have e1 := OU.out.1.cell 1
                have e2 := OU.out.1.cell 2
                refine bodyPost_ret (v := .tuple #[.agg #[.int .i64 0, .int .i64 0, .int .i64 0], .bool false]) (by simp [results, Tryz.results14, go_sem, e0, e1, e2]) rfl (rparse_no HN.out OU.out.2)
              | true =>
                have hb := isTile_iff.1 hti
                obtain ⟨n, rfl⟩ := Int.eq_ofNat_of_zero_le ha0
                have CP := hid (fun W => ref_Path ((-1)) n (256) W (by omega) (by omega) (by omega) (by omega) (by omega))
                cases hpl : (pathT ((-1)) n (256) == l) with
                | false =>
                  have HN := hid (show refP l = none by rw [HEND.out, if_neg (fun h => absurd h.2 (beq_eq_false_iff_ne.1 hpl))])
                  simp only [hti] at CI
                  clear hti HEND hb
                  generalize pathT ((-1)) n (256) = pt at *
                  go_wp2_with fail
                  refine (CI.out _).mono ?_
                  rintro e w5 ⟨rfl, hb5⟩
                  have R5 := hid (hR.out.below hb5)
                  clear hb5 p0 p1 p2 g0 g1 g2
                  obtain ⟨p0, p1, p2, g0, g1, g2⟩ := R5.out.cells
                  go_wp2_with fail
                  refine (CP.out _).mono ?_
                  rintro e w6 ⟨rfl, hb6⟩
                  have HRT := hid (R5.out.below hb6).rt
                  clear hb6 p0 p1 p2 g0 g1 g2
                  obtain ⟨r0, r1, r2, f0, f1, f2⟩ := HRT.out.cells
                  have OU := hid (HRT.out.out 0 0 0)
                  go_wp2
                  have e0 := OU.out.1.cell 0
                  have e1 := OU.out.1.cell 1
                  have e2 := OU.out.1.cell 2
                  refine bodyPost_ret (v := .tuple #[.agg #[.int .i64 0, .int .i64 0, .int .i64 0], .bool false]) (by simp [results, Tryz.results14, go_sem, e0, e1, e2]) rfl (rparse_no HN.out OU.out.2)
                | true =>
                  have HY := hid (show refP l = some ((-1), (n : Int), 256) by rw [HEND.out, if_pos ⟨hti, beq_iff_eq.1 hpl⟩])
                  simp only [hti] at CI
                  clear hti HEND hb
                  generalize pathT ((-1)) n (256) = pt at *
                  go_wp2_with fail
                  refine (CI.out _).mono ?_
                  rintro e w5 ⟨rfl, hb5⟩
                  have R5 := hid (hR.out.below hb5)
                  clear hb5 p0 p1 p2 g0 g1 g2
                  obtain ⟨p0, p1, p2, g0, g1, g2⟩ := R5.out.cells
                  go_wp2_with fail
                  refine (CP.out _).mono ?_
                  rintro e w6 ⟨rfl, hb6⟩
                  have R6 := hid (R5.out.below hb6)
                  clear hb6 p0 p1 p2 g0 g1 g2
                  obtain ⟨p0, p1, p2, g0, g1, g2⟩ := R6.out.cells
                  obtain ⟨r0, r1, r2, f0, f1, f2⟩ := R6.out.rt.cells
                  have OU := hid (R6.out.rt.out ((-1)) n (256))
                  go_wp2
                  have e0 := OU.out.1.cell 0
                  have e1 := OU.out.1.cell 1
                  have e2 := OU.out.1.cell 2
                  refine bodyPost_ret (v := .tuple #[.agg #[.int .i64 ((-1)), .int .i64 n, .int .i64 (256)], .bool true]) (by simp [results, Tryz.results14, go_sem, e0, e1, e2]) rfl (rparse_yes HY.out OU.out.2)
  · have t3 : (ws[1]'(by omega) == [101, 110, 116, 114, 105, 101, 115]) = false := beq_eq_false_iff_ne.2 he
    generalize hx1e : ws[1]'(by omega) = x1 at *
    cases hn : isNum x1 with
    | false =>
      have HN := hid (show refP l = none by rw [HRW.out]; exact refW_lvl (by rw [hg1, lvlR, if_neg he, hn]; rfl))
      have HRT := hid R2.out.rt
      have NM1 := hid (fun W => NM.out x1 W)
      simp only [hn] at NM1
      clear hg1 he hx1e hn
      go_wp2_with fail
      refine (NM1.out _).mono ?_
      rintro e w3 ⟨rfl, rfl⟩
      obtain ⟨r0, r1, r2, f0, f1, f2⟩ := HRT.out.cells
      have OU := hid (HRT.out.out 0 0 0)
      go_wp2
      have e0 := OU.out.1.cell 0
      have e1 := OU.out.1.cell 1
      have e2 := OU.out.1.cell 2
      refine bodyPost_ret (v := .tuple #[.agg #[.int .i64 0, .int .i64 0, .int .i64 0], .bool false]) (by simp [results, Tryz.results14, go_sem, e0, e1, e2]) rfl (rparse_no HN.out OU.out.2)
    | true =>
      have HL := hid (show lvlR (ws.getD 1 []) = some (numI x1) by rw [hg1, lvlR, if_neg he, if_pos hn])
      have NM1 := hid (fun W => NM.out x1 W)
      simp only [hn] at NM1
      have R4 := hid (RST.out (numI x1) 256)
      obtain ⟨l0, l1, l2, m0, m1, m2⟩ := R2.out.cells
      clear hg1 he hx1e hn
      generalize numI x1 = lv at *
      go_wp2_with fail
      refine (NM1.out _).mono ?_
      rintro e w3 ⟨rfl, rfl⟩
      clear NM1
      have hlen2 : ws.length - 2 < ws.length := by omega
      have iL : ((ws.length : Int) - 2).toNat = ws.length - 2 := by omega
      have i2 : (2 : Int) ≤ ws.length := by omega
      obtain ⟨wb, fb⟩ := R4.out.word hlen2
      have hgb : ws.getD (ws.length - 2) [] = ws[ws.length - 2] := by rw [List.getD_eq_getElem?_getD, List.getElem?_eq_getElem hlen2]; rfl
      have hgl : ws.getD (ws.length - 1) [] = ws[ws.length - 1]'(by omega) := by rw [List.getD_eq_getElem?_getD, List.getElem?_eq_getElem (by omega)]; rfl
      have hbl : (ws[ws.length - 2]).length ≤ 1000 := HWM.out _ (List.getElem_mem hlen2)
      generalize hbe : ws[ws.length - 2] = be at *
      have HBE := hid hbe
      clear hbe
      by_cases hbe2 : be.length ≤ 2
      · have hw : hasW be = false := by unfold hasW; simp; omega
        have HWR := hid (show widR ws = some (256, ws.drop 2) by unfold widR; simp only [hgb, hw]; rfl)
        have t1 : (be.length : Int) ≤ 2 := by omega
        clear hgb hgl hw
        obtain ⟨E, gs, HE, HGS, HWS⟩ : ∃ (E : Nat) (gs : List (List UInt8)), Hid (E = ws.length) ∧ Hid (gs = ws.drop 2) ∧ Hid (gs = (ws.take E).drop 2 ∧ E = gs.length + 2 ∧ E ≤ ws.length) := ⟨_, _, rfl, rfl, by rw [List.take_length], by simp; omega, Nat.le_refl _⟩
        rw [← HGS.out] at HWR
        have HVM := HWM
        by_cases h6 : 6 < gs.length
        · have g6 : (6 : Int) < (ws.length : Int) - 2 := by have := HWS.out; have := HE.out; omega
          have HN := hid (show refP l = none by rw [HRW.out, refW_on HS.out HL.out HWR.out, if_pos h6])
          have HRT := hid R4.out.rt
          obtain ⟨r0, r1, r2, f0, f1, f2⟩ := HRT.out.cells
          have OU := hid (HRT.out.out 0 0 0)
          go_wp2
          have e0 := OU.out.1.cell 0
          have e1 := OU.out.1.cell 1
          have e2 := OU.out.1.cell 2
          refine bodyPost_ret (v := .tuple #[.agg #[.int .i64 0, .int .i64 0, .int .i64 0], .bool false]) (by simp [results, Tryz.results14, go_sem, e0, e1, e2]) rfl (rparse_no HN.out OU.out.2)
        · have g6 : ((ws.length : Int) : Int) - 2 ≤ 6 := by have := HWS.out; have := HE.out; omega
          have H6 := hid h6
          have HGN := hid (show grpO gs 0 = none → refP l = none from fun h => refW_grp HRW.out HS.out HL.out HWR.out H6.out h)
          have hE2 : E ≤ 8 ∧ 2 ≤ E ∧ E ≤ (ws).length := by have := HWS.out; omega
          obtain ⟨hE8, hE2, hEl⟩ := hE2
          clear h6
          go_wp2
          rw [show (ws.length : Int) = (E : Int) by have := HE.out; omega]
          go_loopw [12] (fun iv wr => ∃ (i : Nat) (acc : Int), 2 ≤ i ∧ i ≤ E ∧ iv = .int .i64 i ∧ 0 ≤ acc ∧ Hid (acc < (1000 ^ (i - 2) : Nat)) ∧ Hid (grpO (gs.drop (i - 2)) acc = grpO gs 0) ∧ Hid (RS w wr w1.heap.size kb lv acc (256) (ws))) (fun iv _ => E - (intOf iv).toNat)
          case atStart => exact ⟨2, 0, Nat.le_refl _, hE2, rfl, Int.le_refl _, by simp [Hid], by simp [Hid], R4⟩
          case round =>
            obtain ⟨i, acc, hi1, hi2, rfl, ha0, hab, hgr, hR⟩ := hrel
            by_cases hlt : i < E
            · have hiw : i < (ws).length := by omega
              obtain ⟨wx, fx⟩ := hR.out.word hiw
              have HX := hid (grp_at (HWS.out).1 (HWS.out).2.1 hi1 hlt hiw)
              have hxl : ((ws)[i]).length ≤ 1000 := HVM.out _ (List.getElem_mem hiw)
              generalize (ws)[i] = x at *
              by_cases hm : i + 1 < E
              · have q1 : (i : Int) < (E : Int) - 1 := by omega
                have HNE := hid (HX.out.2.2 hm)
                have HG1 := hid (show grpO (x :: gs.drop (i - 1)) acc = grpO gs 0 by rw [← HX.out.1]; exact hgr.out)
                clear hgr HX
                by_cases h4 : x.length = 4
                · have k4 : ((x.length : Int) == 4) = true := by rw [h4]; rfl
                  by_cases hx : x[0].toNat = 120
                  · have kx : ((x[0].toNat : Int) == 120) = true := by rw [hx]; rfl
                    have HHD := hid (show x.head? = some 120 by
                      rw [List.head?_eq_getElem?, List.getElem?_eq_getElem (by omega)]
                      congr 1
                      exact UInt8.toNat_inj.1 hx)
                    clear hx
                    obtain ⟨y, hyd⟩ : ∃ y, y = x.tail := ⟨_, rfl⟩
                    have HYES := hid (show y.all digB = true → grpO (gs.drop (i - 1)) (1000 * acc + valI y) = grpO gs 0 from fun h => by
                      rw [← HG1.out, grp_mid_yes HNE.out ⟨h4, HHD.out, by rw [← hyd]; exact h⟩, ← hyd])
                    have HNO := hid (show y.all digB = false → refP l = none from fun h => HGN.out (by
                      rw [← HG1.out]
                      refine grp_mid_no HNE.out fun hh => ?_
                      rw [← hyd, h] at hh
                      exact absurd hh.2.2 (by decide)))
                    have hy : y.length = 3 := by rw [hyd, List.length_tail, h4]
                    have HYT := hid (show List.take 3 x.tail = y by rw [← hyd, List.take_of_length_le (by omega)])
                    clear hyd
                    have hac := grp_room hab.out (by have := HWS.out; omega)
                    go_wp2
                    rw [HYT.out, show ((x[0].toNat : Int) != 120) = false by rw [bne, kx]; rfl]
                    go_loopw [14] (fun kv wr => ∃ (j : Nat) (v : Int), j ≤ 3 ∧ kv = .int .i64 j ∧ Hid (VAt acc y j v) ∧ Hid (RS w wr w1.heap.size kb (lv) v (256) (ws))) (fun kv _ => 3 - (intOf kv).toNat)
                    case atStart => exact ⟨0, acc, by omega, rfl, VAt.zero acc y, hR⟩
                    case round =>
                      obtain ⟨j, v, hj, rfl, hv, hR2⟩ := hrel
                      by_cases hj3 : j < 3
                      · obtain ⟨hv0, hv1⟩ := hv.out.room ha0 hac hj3
                        have hjy : j < y.length := by omega
                        have hcb := (y[j]).toNat_lt
                        have hcb' : ((y[j]).toNat : Int) < 256 := by omega
                        by_cases d1 : ((y[j]).toNat : Int) < 48
                        · have HN := hid (HNO.out (all_odd hjy (by unfold IsDig; omega)))
                          have HRT := hid hR2.out.rt
                          obtain ⟨r0, r1, r2, f0, f1, f2⟩ := HRT.out.cells
                          have OU := hid (HRT.out.out 0 0 0)
                          go_wp2
                          have e0 := OU.out.1.cell 0
                          have e1 := OU.out.1.cell 1
                          have e2 := OU.out.1.cell 2
                          refine bodyPost_ret (v := .tuple #[.agg #[.int .i64 0, .int .i64 0, .int .i64 0], .bool false]) (by simp [results, Tryz.results14, go_sem, e0, e1, e2]) rfl (rparse_no HN.out OU.out.2)
                        · by_cases d2 : (57 : Int) < (y[j]).toNat
                          · have HN := hid (HNO.out (all_odd hjy (by unfold IsDig; omega)))
                            have HRT := hid hR2.out.rt
                            obtain ⟨r0, r1, r2, f0, f1, f2⟩ := HRT.out.cells
                            have OU := hid (HRT.out.out 0 0 0)
                            go_wp2
                            have e0 := OU.out.1.cell 0
                            have e1 := OU.out.1.cell 1
                            have e2 := OU.out.1.cell 2
                            refine bodyPost_ret (v := .tuple #[.agg #[.int .i64 0, .int .i64 0, .int .i64 0], .bool false]) (by simp [results, Tryz.results14, go_sem, e0, e1, e2]) rfl (rparse_no HN.out OU.out.2)
                          · have HV2 := hid (hv.out.next hjy (by unfold IsDig; omega))
                            obtain ⟨p0, p1, p2, g0, g1, g2⟩ := hR2.out.cells
                            obtain ⟨p0', p1', p2', g0', g1', g2'⟩ := hR2.out.drew.cells
                            have HR3 := hid ((hR2.out.set1 (10 * v + (((y[j]).toNat : Int) - 48))).drew)
                            go_wp2
                            go_region
                            go_wp2
                            go_roundw
                            case rel => exact ⟨j + 1, _, by omega, by go_num, HV2, HR3⟩
                            case measure => simp [intOf]; omega
                      · obtain rfl : j = 3 := by omega
                        obtain ⟨e1, e2, e3, e4⟩ := hv.out.fin hy
                        have HG2 := hid (show grpO (gs.drop (i + 1 - 2)) v = grpO gs 0 by rw [e1, show i + 1 - 2 = i - 1 by omega]; exact HYES.out e4)
                        have HB2 := hid (show v < (1000 ^ (i + 1 - 2) : Nat) by rw [e1, show i + 1 - 2 = i - 2 + 1 by omega]; exact grp_next hab.out e3)
                        have hv0 : 0 ≤ v := by omega
                        clear e1 e2 e3 e4
                        go_wp2
                        go_roundw
                        case rel => exact ⟨i + 1, v, by omega, by omega, by go_num, hv0, HB2, HG2, hR2⟩
                        case measure => simp [intOf]; omega
                  · have kx : ((x[0].toNat : Int) == 120) = false := by rw [beq_eq_false_iff_ne]; omega
                    have HN := hid (HGN.out (by
                      rw [← HG1.out]
                      refine grp_mid_no HNE.out fun h => hx ?_
                      have h2 := h.2.1
                      rw [List.head?_eq_getElem?, List.getElem?_eq_getElem (by omega)] at h2
                      injection h2 with h2
                      rw [h2]; rfl))
                    have HRT := hid hR.out.rt
                    obtain ⟨r0, r1, r2, f0, f1, f2⟩ := HRT.out.cells
                    have OU := hid (HRT.out.out 0 0 0)
                    go_wp2
                    have e0 := OU.out.1.cell 0
                    have e1 := OU.out.1.cell 1
                    have e2 := OU.out.1.cell 2
                    refine bodyPost_ret (v := .tuple #[.agg #[.int .i64 0, .int .i64 0, .int .i64 0], .bool false]) (by simp [results, Tryz.results14, go_sem, e0, e1, e2]) rfl (rparse_no HN.out OU.out.2)
                · have k4 : ((x.length : Int) == 4) = false := by rw [beq_eq_false_iff_ne]; omega
                  have HN := hid (HGN.out (by rw [← HG1.out]; exact grp_mid_no HNE.out fun h => h4 h.1))
                  have HRT := hid hR.out.rt
                  obtain ⟨r0, r1, r2, f0, f1, f2⟩ := HRT.out.cells
                  have OU := hid (HRT.out.out 0 0 0)
                  go_wp2
                  have e0 := OU.out.1.cell 0
                  have e1 := OU.out.1.cell 1
                  have e2 := OU.out.1.cell 2
                  refine bodyPost_ret (v := .tuple #[.agg #[.int .i64 0, .int .i64 0, .int .i64 0], .bool false]) (by simp [results, Tryz.results14, go_sem, e0, e1, e2]) rfl (rparse_no HN.out OU.out.2)
              · have q1 : (E : Int) - 1 ≤ (i : Int) := by omega
                have HG1 := hid (show grpO [x] acc = grpO gs 0 by
                  have h1 := HX.out.1
                  rw [Classical.not_not.1 (mt HX.out.2.1 hm)] at h1
                  rw [← h1]; exact hgr.out)
                clear hgr HX
                by_cases h3' : x.length = 3
                · have k3 : ((x.length : Int) == 3) = true := by rw [h3']; rfl
                  have HIE : i + 1 = E := by omega
                  have HYES := hid (show x.all digB = true → grpO (gs.drop (i - 1)) (1000 * acc + valI x) = grpO gs 0 from fun h => by
                    rw [← HG1.out, grp_last_yes ⟨h3', h⟩, List.drop_of_length_le (by have := HWS.out; omega)])
                  have HNO := hid (show x.all digB = false → refP l = none from fun h => HGN.out (by
                    rw [← HG1.out]
                    exact grp_last_no fun hh => by rw [h] at hh; exact absurd hh.2 (by decide)))
                  have hy : x.length = 3 := h3'
                  have hac := grp_room hab.out (by have := HWS.out; omega)
                  generalize x = y at *
                  go_wp2
                  go_loopw [14] (fun kv wr => ∃ (j : Nat) (v : Int), j ≤ 3 ∧ kv = .int .i64 j ∧ Hid (VAt acc y j v) ∧ Hid (RS w wr w1.heap.size kb (lv) v (256) (ws))) (fun kv _ => 3 - (intOf kv).toNat)
                  case atStart => exact ⟨0, acc, by omega, rfl, VAt.zero acc y, hR⟩
                  case round =>
                    obtain ⟨j, v, hj, rfl, hv, hR2⟩ := hrel
                    by_cases hj3 : j < 3
                    · obtain ⟨hv0, hv1⟩ := hv.out.room ha0 hac hj3
                      have hjy : j < y.length := by omega
                      have hcb := (y[j]).toNat_lt
                      have hcb' : ((y[j]).toNat : Int) < 256 := by omega
                      by_cases d1 : ((y[j]).toNat : Int) < 48
                      · have HN := hid (HNO.out (all_odd hjy (by unfold IsDig; omega)))
                        have HRT := hid hR2.out.rt
                        obtain ⟨r0, r1, r2, f0, f1, f2⟩ := HRT.out.cells
                        have OU := hid (HRT.out.out 0 0 0)
                        go_wp2
                        have e0 := OU.out.1.cell 0
                        have e1 := OU.out.1.cell 1
                        have e2 := OU.out.1.cell 2
                        refine bodyPost_ret (v := .tuple #[.agg #[.int .i64 0, .int .i64 0, .int .i64 0], .bool false]) (by simp [results, Tryz.results14, go_sem, e0, e1, e2]) rfl (rparse_no HN.out OU.out.2)
                      · by_cases d2 : (57 : Int) < (y[j]).toNat
                        · have HN := hid (HNO.out (all_odd hjy (by unfold IsDig; omega)))
                          have HRT := hid hR2.out.rt
                          obtain ⟨r0, r1, r2, f0, f1, f2⟩ := HRT.out.cells
                          have OU := hid (HRT.out.out 0 0 0)
                          go_wp2
                          have e0 := OU.out.1.cell 0
                          have e1 := OU.out.1.cell 1
                          have e2 := OU.out.1.cell 2
                          refine bodyPost_ret (v := .tuple #[.agg #[.int .i64 0, .int .i64 0, .int .i64 0], .bool false]) (by simp [results, Tryz.results14, go_sem, e0, e1, e2]) rfl (rparse_no HN.out OU.out.2)
                        · have HV2 := hid (hv.out.next hjy (by unfold IsDig; omega))
                          obtain ⟨p0, p1, p2, g0, g1, g2⟩ := hR2.out.cells
                          obtain ⟨p0', p1', p2', g0', g1', g2'⟩ := hR2.out.drew.cells
                          have HR3 := hid ((hR2.out.set1 (10 * v + (((y[j]).toNat : Int) - 48))).drew)
                          go_wp2
                          go_region
                          go_wp2
                          go_roundw
                          case rel => exact ⟨j + 1, _, by omega, by go_num, HV2, HR3⟩
                          case measure => simp [intOf]; omega
                    · obtain rfl : j = 3 := by omega
                      obtain ⟨e1, e2, e3, e4⟩ := hv.out.fin hy
                      have HG2 := hid (show grpO (gs.drop (i + 1 - 2)) v = grpO gs 0 by rw [e1, show i + 1 - 2 = i - 1 by omega]; exact HYES.out e4)
                      have HB2 := hid (show v < (1000 ^ (i + 1 - 2) : Nat) by rw [e1, show i + 1 - 2 = i - 2 + 1 by omega]; exact grp_next hab.out e3)
                      have hv0 : 0 ≤ v := by omega
                      clear e1 e2 e3 e4
                      go_wp2
                      go_roundw
                      case rel => exact ⟨i + 1, v, by omega, by omega, by go_num, hv0, HB2, HG2, hR2⟩
                      case measure => simp [intOf]; omega
                · have k3 : ((x.length : Int) == 3) = false := by rw [beq_eq_false_iff_ne]; omega
                  have HN := hid (HGN.out (by rw [← HG1.out]; exact grp_last_no fun h => h3' h.1))
                  have HRT := hid hR.out.rt
                  obtain ⟨r0, r1, r2, f0, f1, f2⟩ := HRT.out.cells
                  have OU := hid (HRT.out.out 0 0 0)
                  go_wp2
                  have e0 := OU.out.1.cell 0
                  have e1 := OU.out.1.cell 1
                  have e2 := OU.out.1.cell 2
                  refine bodyPost_ret (v := .tuple #[.agg #[.int .i64 0, .int .i64 0, .int .i64 0], .bool false]) (by simp [results, Tryz.results14, go_sem, e0, e1, e2]) rfl (rparse_no HN.out OU.out.2)
            · skip
              have q1 : (E : Int) ≤ (i : Int) := by omega
              have HEND := hid (refW_end HRW.out HS.out HL.out HWR.out H6.out (show grpO gs 0 = some acc by rw [← hgr.out, List.drop_of_length_le (by have := HWS.out; omega)]; rfl))
              obtain ⟨p0, p1, p2, g0, g1, g2⟩ := hR.out.cells
              have CI := hid (fun W => ref_Is (lv) acc (256) W)
              clear hgr hab
              cases hti : isTile (lv) acc (256) with
              | false =>
                have HN := hid (show refP l = none by rw [HEND.out, hti, if_neg (fun h => absurd h.1 (by decide))])
                simp only [hti] at CI
                clear hti HEND
                go_wp2_with fail
                refine (CI.out _).mono ?_
                rintro e w5 ⟨rfl, hb5⟩
                have HRT := hid (hR.out.below hb5).rt
                clear hb5 p0 p1 p2 g0 g1 g2
                obtain ⟨r0, r1, r2, f0, f1, f2⟩ := HRT.out.cells
                have OU := hid (HRT.out.out 0 0 0)
                go_wp2
                have e0 := OU.out.1.cell 0
                have e1 := OU.out.1.cell 1
                have e2 := OU.out.1.cell 2
                refine bodyPost_ret (v := .tuple #[.agg #[.int .i64 0, .int .i64 0, .int .i64 0], .bool false]) (by simp [results, Tryz.results14, go_sem, e0, e1, e2]) rfl (rparse_no HN.out OU.out.2)
              | true =>
                have hb := isTile_iff.1 hti
                obtain ⟨n, rfl⟩ := Int.eq_ofNat_of_zero_le ha0
                have CP := hid (fun W => ref_Path (lv) n (256) W (by omega) (by omega) (by omega) (by omega) (by omega))
                cases hpl : (pathT (lv) n (256) == l) with
                | false =>
                  have HN := hid (show refP l = none by rw [HEND.out, if_neg (fun h => absurd h.2 (beq_eq_false_iff_ne.1 hpl))])
                  simp only [hti] at CI
                  clear hti HEND hb
                  generalize pathT (lv) n (256) = pt at *
                  go_wp2_with fail
                  refine (CI.out _).mono ?_
                  rintro e w5 ⟨rfl, hb5⟩
                  have R5 := hid (hR.out.below hb5)
                  clear hb5 p0 p1 p2 g0 g1 g2
                  obtain ⟨p0, p1, p2, g0, g1, g2⟩ := R5.out.cells
                  go_wp2_with fail
                  refine (CP.out _).mono ?_
                  rintro e w6 ⟨rfl, hb6⟩
                  have HRT := hid (R5.out.below hb6).rt
                  clear hb6 p0 p1 p2 g0 g1 g2
                  obtain ⟨r0, r1, r2, f0, f1, f2⟩ := HRT.out.cells
                  have OU := hid (HRT.out.out 0 0 0)
                  go_wp2
                  have e0 := OU.out.1.cell 0
                  have e1 := OU.out.1.cell 1
                  have e2 := OU.out.1.cell 2
                  refine bodyPost_ret (v := .tuple #[.agg #[.int .i64 0, .int .i64 0, .int .i64 0], .bool false]) (by simp [results, Tryz.results14, go_sem, e0, e1, e2]) rfl (rparse_no HN.out OU.out.2)
                | true =>
                  have HY := hid (show refP l = some (lv, (n : Int), 256) by rw [HEND.out, if_pos ⟨hti, beq_iff_eq.1 hpl⟩])
                  simp only [hti] at CI
                  clear hti HEND hb
                  generalize pathT (lv) n (256) = pt at *
                  go_wp2_with fail
                  refine (CI.out _).mono ?_
                  rintro e w5 ⟨rfl, hb5⟩
                  have R5 := hid (hR.out.below hb5)
                  clear hb5 p0 p1 p2 g0 g1 g2
                  obtain ⟨p0, p1, p2, g0, g1, g2⟩ := R5.out.cells
                  go_wp2_with fail
                  refine (CP.out _).mono ?_
                  rintro e w6 ⟨rfl, hb6⟩
                  have R6 := hid (R5.out.below hb6)
                  clear hb6 p0 p1 p2 g0 g1 g2
                  obtain ⟨p0, p1, p2, g0, g1, g2⟩ := R6.out.cells
                  obtain ⟨r0, r1, r2, f0, f1, f2⟩ := R6.out.rt.cells
                  have OU := hid (R6.out.rt.out (lv) n (256))
                  go_wp2
                  have e0 := OU.out.1.cell 0
                  have e1 := OU.out.1.cell 1
                  have e2 := OU.out.1.cell 2
                  refine bodyPost_ret (v := .tuple #[.agg #[.int .i64 (lv), .int .i64 n, .int .i64 (256)], .bool true]) (by simp [results, Tryz.results14, go_sem, e0, e1, e2]) rfl (rparse_yes HY.out OU.out.2)
      · have b2 : (2 : Int) < be.length := by omega
        have b3 : (2 : Int) ≤ be.length := by omega
        have bL : ((be.length : Int) - 2).toNat = be.length - 2 := by omega
        by_cases hsf : (be.drop (be.length - 2) == [46, 112]) = true
        · have hw : hasW be = true := by unfold hasW; rw [hsf, decide_eq_true (show 2 < be.length by omega)]; rfl
          have hsT : (List.take (be.length - (be.length - 2)) (List.drop (be.length - 2) be) == [46, 112]) = true := by rw [List.take_of_length_le (by simp)]; exact hsf
          have hlen1 : ws.length - 1 < ws.length := by omega
          have iL1 : ((ws.length : Int) - 1).toNat = ws.length - 1 := by omega
          have iL2 : ((ws.length : Int) - 1 - 1).toNat = ws.length - 2 := by omega
          obtain ⟨wl, fl⟩ := R4.out.word hlen1
          generalize hla : ws[ws.length - 1] = la at *
          cases hn : isNum la with
          | false =>
            have HWN := hid (show widR ws = none by unfold widR; simp only [hgb, hgl, hw, hn]; rfl)
            have HN := hid (show refP l = none by rw [HRW.out]; exact refW_wid HWN.out)
            have HRT := hid R4.out.rt
            have NM1 := hid (fun W => NM.out la W)
            simp only [hn] at NM1
            clear hgb hgl hw hla hn
            go_wp2_with fail
            refine (NM1.out _).mono ?_
            rintro e w3 ⟨rfl, rfl⟩
            obtain ⟨r0, r1, r2, f0, f1, f2⟩ := HRT.out.cells
            have OU := hid (HRT.out.out 0 0 0)
            go_wp2
            have e0 := OU.out.1.cell 0
            have e1 := OU.out.1.cell 1
            have e2 := OU.out.1.cell 2
            refine bodyPost_ret (v := .tuple #[.agg #[.int .i64 0, .int .i64 0, .int .i64 0], .bool false]) (by simp [results, Tryz.results14, go_sem, e0, e1, e2]) rfl (rparse_no HN.out OU.out.2)
          | true =>
            have NM1 := hid (fun W => NM.out la W)
            simp only [hn] at NM1
            by_cases h255 : 255 < numI la
            · have HWN := hid (show widR ws = none by unfold widR; simp only [hgb, hgl, hw, hn]; simp; omega)
              have HN := hid (show refP l = none by rw [HRW.out]; exact refW_wid HWN.out)
              have HRT := hid R4.out.rt
              clear hgb hgl hw hla hn
              go_wp2_with fail
              refine (NM1.out _).mono ?_
              rintro e w3 ⟨rfl, rfl⟩
              obtain ⟨r0, r1, r2, f0, f1, f2⟩ := HRT.out.cells
              have OU := hid (HRT.out.out 0 0 0)
              go_wp2
              have e0 := OU.out.1.cell 0
              have e1 := OU.out.1.cell 1
              have e2 := OU.out.1.cell 2
              refine bodyPost_ret (v := .tuple #[.agg #[.int .i64 0, .int .i64 0, .int .i64 0], .bool false]) (by simp [results, Tryz.results14, go_sem, e0, e1, e2]) rfl (rparse_no HN.out OU.out.2)
            · obtain ⟨E, vs, gs, HE, HVS, HGS⟩ : ∃ (E : Nat) (vs gs : List (List UInt8)), Hid (E = ws.length - 1) ∧ Hid (vs = ws.set (ws.length - 2) (be.take (be.length - 2))) ∧ Hid (gs = ((ws.take (ws.length - 1)).set (ws.length - 2) (be.take (be.length - 2))).drop 2) := ⟨_, _, _, rfl, rfl, rfl⟩
              have HWR := hid (show widR ws = some (numI la, gs) by unfold widR; simp only [hgb, hgl, hw, hn, HGS.out]; simp; omega)
              have hvl : vs.length = ws.length := by rw [HVS.out, List.length_set]
              have HWS := hid (show gs = (vs.take E).drop 2 ∧ E = gs.length + 2 ∧ E ≤ vs.length from by
                have e1 := HE.out
                refine ⟨by rw [HGS.out, HVS.out, e1, List.take_set], ?_, by omega⟩
                rw [HGS.out]; simp; omega)
              have HVM := hid (show ∀ x ∈ vs, x.length ≤ 1000 from fun x hx => by
                rw [HVS.out] at hx
                rcases List.mem_or_eq_of_mem_set hx with h | h
                · exact HWM.out x h
                · rw [h, List.length_take]; omega)
              have R5 := hid (show RS w _ w1.heap.size kb (lv) 0 (numI la) vs by rw [HVS.out]; exact ((RST.out (lv) (numI la)).setW (ws.length - 2) (be.take (be.length - 2))))
              have h256 : numI la ≤ 255 := by omega
              clear hgb hgl hw hla hn h255
              generalize numI la = wd at *
              go_wp2_with fail
              refine (NM1.out _).mono ?_
              rintro e w3 ⟨rfl, rfl⟩
              obtain ⟨p0, p1, p2, g0, g1, g2⟩ := R4.out.cells
              obtain ⟨wb2, fb2⟩ := (RST.out (lv) wd).word hlen2
              by_cases h6 : 6 < gs.length
              · have g6 : (6 : Int) < ((ws.length : Int) - 1) - 2 := by have := HWS.out; have := HE.out; omega
                have HN := hid (show refP l = none by rw [HRW.out, refW_on HS.out HL.out HWR.out, if_pos h6])
                have HRT := hid R5.out.rt
                obtain ⟨r0, r1, r2, f0, f1, f2⟩ := HRT.out.cells
                have OU := hid (HRT.out.out 0 0 0)
                go_wp2
                have e0 := OU.out.1.cell 0
                have e1 := OU.out.1.cell 1
                have e2 := OU.out.1.cell 2
                refine bodyPost_ret (v := .tuple #[.agg #[.int .i64 0, .int .i64 0, .int .i64 0], .bool false]) (by simp [results, Tryz.results14, go_sem, e0, e1, e2]) rfl (rparse_no HN.out OU.out.2)
              · have g6 : (((ws.length : Int) - 1) : Int) - 2 ≤ 6 := by have := HWS.out; have := HE.out; omega
                have H6 := hid h6
                have HGN := hid (show grpO gs 0 = none → refP l = none from fun h => refW_grp HRW.out HS.out HL.out HWR.out H6.out h)
                have hE2 : E ≤ 8 ∧ 2 ≤ E ∧ E ≤ (vs).length := by have := HWS.out; omega
                obtain ⟨hE8, hE2, hEl⟩ := hE2
                clear h6
                go_wp2
                rw [show ((ws.length : Int) - 1) = (E : Int) by have := HE.out; omega]
                go_loopw [12] (fun iv wr => ∃ (i : Nat) (acc : Int), 2 ≤ i ∧ i ≤ E ∧ iv = .int .i64 i ∧ 0 ≤ acc ∧ Hid (acc < (1000 ^ (i - 2) : Nat)) ∧ Hid (grpO (gs.drop (i - 2)) acc = grpO gs 0) ∧ Hid (RS w wr w1.heap.size kb lv acc (wd) (vs))) (fun iv _ => E - (intOf iv).toNat)
                case atStart => exact ⟨2, 0, Nat.le_refl _, hE2, rfl, Int.le_refl _, by simp [Hid], by simp [Hid], R5⟩
                case round =>
                  obtain ⟨i, acc, hi1, hi2, rfl, ha0, hab, hgr, hR⟩ := hrel
                  by_cases hlt : i < E
                  · have hiw : i < (vs).length := by omega
                    obtain ⟨wx, fx⟩ := hR.out.word hiw
                    have HX := hid (grp_at (HWS.out).1 (HWS.out).2.1 hi1 hlt hiw)
                    have hxl : ((vs)[i]).length ≤ 1000 := HVM.out _ (List.getElem_mem hiw)
                    generalize (vs)[i] = x at *
                    by_cases hm : i + 1 < E
                    · have q1 : (i : Int) < (E : Int) - 1 := by omega
                      have HNE := hid (HX.out.2.2 hm)
                      have HG1 := hid (show grpO (x :: gs.drop (i - 1)) acc = grpO gs 0 by rw [← HX.out.1]; exact hgr.out)
                      clear hgr HX
                      by_cases h4 : x.length = 4
                      · have k4 : ((x.length : Int) == 4) = true := by rw [h4]; rfl
                        by_cases hx : x[0].toNat = 120
                        · have kx : ((x[0].toNat : Int) == 120) = true := by rw [hx]; rfl
                          have HHD := hid (show x.head? = some 120 by
                            rw [List.head?_eq_getElem?, List.getElem?_eq_getElem (by omega)]
                            congr 1
                            exact UInt8.toNat_inj.1 hx)
                          clear hx
                          obtain ⟨y, hyd⟩ : ∃ y, y = x.tail := ⟨_, rfl⟩
                          have HYES := hid (show y.all digB = true → grpO (gs.drop (i - 1)) (1000 * acc + valI y) = grpO gs 0 from fun h => by
                            rw [← HG1.out, grp_mid_yes HNE.out ⟨h4, HHD.out, by rw [← hyd]; exact h⟩, ← hyd])
                          have HNO := hid (show y.all digB = false → refP l = none from fun h => HGN.out (by
                            rw [← HG1.out]
                            refine grp_mid_no HNE.out fun hh => ?_
                            rw [← hyd, h] at hh
                            exact absurd hh.2.2 (by decide)))
                          have hy : y.length = 3 := by rw [hyd, List.length_tail, h4]
                          have HYT := hid (show List.take 3 x.tail = y by rw [← hyd, List.take_of_length_le (by omega)])
                          clear hyd
                          have hac := grp_room hab.out (by have := HWS.out; omega)
                          go_wp2
                          rw [HYT.out, show ((x[0].toNat : Int) != 120) = false by rw [bne, kx]; rfl]
                          go_loopw [14] (fun kv wr => ∃ (j : Nat) (v : Int), j ≤ 3 ∧ kv = .int .i64 j ∧ Hid (VAt acc y j v) ∧ Hid (RS w wr w1.heap.size kb (lv) v (wd) (vs))) (fun kv _ => 3 - (intOf kv).toNat)
                          case atStart => exact ⟨0, acc, by omega, rfl, VAt.zero acc y, hR⟩
                          case round =>
                            obtain ⟨j, v, hj, rfl, hv, hR2⟩ := hrel
                            by_cases hj3 : j < 3
                            · obtain ⟨hv0, hv1⟩ := hv.out.room ha0 hac hj3
                              have hjy : j < y.length := by omega
                              have hcb := (y[j]).toNat_lt
                              have hcb' : ((y[j]).toNat : Int) < 256 := by omega
                              by_cases d1 : ((y[j]).toNat : Int) < 48
                              · have HN := hid (HNO.out (all_odd hjy (by unfold IsDig; omega)))
                                have HRT := hid hR2.out.rt
                                obtain ⟨r0, r1, r2, f0, f1, f2⟩ := HRT.out.cells
                                have OU := hid (HRT.out.out 0 0 0)
                                go_wp2
                                have e0 := OU.out.1.cell 0
                                have e1 := OU.out.1.cell 1
                                have e2 := OU.out.1.cell 2
                                refine bodyPost_ret (v := .tuple #[.agg #[.int .i64 0, .int .i64 0, .int .i64 0], .bool false]) (by simp [results, Tryz.results14, go_sem, e0, e1, e2]) rfl (rparse_no HN.out OU.out.2)
                              · by_cases d2 : (57 : Int) < (y[j]).toNat
                                · have HN := hid (HNO.out (all_odd hjy (by unfold IsDig; omega)))
                                  have HRT := hid hR2.out.rt
                                  obtain ⟨r0, r1, r2, f0, f1, f2⟩ := HRT.out.cells
                                  have OU := hid (HRT.out.out 0 0 0)
                                  go_wp2
                                  have e0 := OU.out.1.cell 0
                                  have e1 := OU.out.1.cell 1
                                  have e2 := OU.out.1.cell 2
                                  refine bodyPost_ret (v := .tuple #[.agg #[.int .i64 0, .int .i64 0, .int .i64 0], .bool false]) (by simp [results, Tryz.results14, go_sem, e0, e1, e2]) rfl (rparse_no HN.out OU.out.2)
                                · have HV2 := hid (hv.out.next hjy (by unfold IsDig; omega))
                                  obtain ⟨p0, p1, p2, g0, g1, g2⟩ := hR2.out.cells
                                  obtain ⟨p0', p1', p2', g0', g1', g2'⟩ := hR2.out.drew.cells
                                  have HR3 := hid ((hR2.out.set1 (10 * v + (((y[j]).toNat : Int) - 48))).drew)
                                  go_wp2
                                  go_region
                                  go_wp2
                                  go_roundw
                                  case rel => exact ⟨j + 1, _, by omega, by go_num, HV2, HR3⟩
                                  case measure => simp [intOf]; omega
                            · obtain rfl : j = 3 := by omega
                              obtain ⟨e1, e2, e3, e4⟩ := hv.out.fin hy
                              have HG2 := hid (show grpO (gs.drop (i + 1 - 2)) v = grpO gs 0 by rw [e1, show i + 1 - 2 = i - 1 by omega]; exact HYES.out e4)
                              have HB2 := hid (show v < (1000 ^ (i + 1 - 2) : Nat) by rw [e1, show i + 1 - 2 = i - 2 + 1 by omega]; exact grp_next hab.out e3)
                              have hv0 : 0 ≤ v := by omega
                              clear e1 e2 e3 e4
                              go_wp2
                              go_roundw
                              case rel => exact ⟨i + 1, v, by omega, by omega, by go_num, hv0, HB2, HG2, hR2⟩
                              case measure => simp [intOf]; omega
                        · have kx : ((x[0].toNat : Int) == 120) = false := by rw [beq_eq_false_iff_ne]; omega
                          have HN := hid (HGN.out (by
                            rw [← HG1.out]
                            refine grp_mid_no HNE.out fun h => hx ?_
                            have h2 := h.2.1
                            rw [List.head?_eq_getElem?, List.getElem?_eq_getElem (by omega)] at h2
                            injection h2 with h2
                            rw [h2]; rfl))
                          have HRT := hid hR.out.rt
                          obtain ⟨r0, r1, r2, f0, f1, f2⟩ := HRT.out.cells
                          have OU := hid (HRT.out.out 0 0 0)
                          go_wp2
                          have e0 := OU.out.1.cell 0
                          have e1 := OU.out.1.cell 1
                          have e2 := OU.out.1.cell 2
                          refine bodyPost_ret (v := .tuple #[.agg #[.int .i64 0, .int .i64 0, .int .i64 0], .bool false]) (by simp [results, Tryz.results14, go_sem, e0, e1, e2]) rfl (rparse_no HN.out OU.out.2)
                      · have k4 : ((x.length : Int) == 4) = false := by rw [beq_eq_false_iff_ne]; omega
                        have HN := hid (HGN.out (by rw [← HG1.out]; exact grp_mid_no HNE.out fun h => h4 h.1))
                        have HRT := hid hR.out.rt
                        obtain ⟨r0, r1, r2, f0, f1, f2⟩ := HRT.out.cells
                        have OU := hid (HRT.out.out 0 0 0)
                        go_wp2
                        have e0 := OU.out.1.cell 0
                        have e1 := OU.out.1.cell 1
                        have e2 := OU.out.1.cell 2
                        refine bodyPost_ret (v := .tuple #[.agg #[.int .i64 0, .int .i64 0, .int .i64 0], .bool false]) (by simp [results, Tryz.results14, go_sem, e0, e1, e2]) rfl (rparse_no HN.out OU.out.2)
                    · have q1 : (E : Int) - 1 ≤ (i : Int) := by omega
                      have HG1 := hid (show grpO [x] acc = grpO gs 0 by
                        have h1 := HX.out.1
                        rw [Classical.not_not.1 (mt HX.out.2.1 hm)] at h1
                        rw [← h1]; exact hgr.out)
                      clear hgr HX
                      by_cases h3' : x.length = 3
                      · have k3 : ((x.length : Int) == 3) = true := by rw [h3']; rfl
                        have HIE : i + 1 = E := by omega
                        have HYES := hid (show x.all digB = true → grpO (gs.drop (i - 1)) (1000 * acc + valI x) = grpO gs 0 from fun h => by
                          rw [← HG1.out, grp_last_yes ⟨h3', h⟩, List.drop_of_length_le (by have := HWS.out; omega)])
                        have HNO := hid (show x.all digB = false → refP l = none from fun h => HGN.out (by
                          rw [← HG1.out]
                          exact grp_last_no fun hh => by rw [h] at hh; exact absurd hh.2 (by decide)))
                        have hy : x.length = 3 := h3'
                        have hac := grp_room hab.out (by have := HWS.out; omega)
                        generalize x = y at *
                        go_wp2
                        go_loopw [14] (fun kv wr => ∃ (j : Nat) (v : Int), j ≤ 3 ∧ kv = .int .i64 j ∧ Hid (VAt acc y j v) ∧ Hid (RS w wr w1.heap.size kb (lv) v (wd) (vs))) (fun kv _ => 3 - (intOf kv).toNat)
                        case atStart => exact ⟨0, acc, by omega, rfl, VAt.zero acc y, hR⟩
                        case round =>
                          obtain ⟨j, v, hj, rfl, hv, hR2⟩ := hrel
                          by_cases hj3 : j < 3
                          · obtain ⟨hv0, hv1⟩ := hv.out.room ha0 hac hj3
                            have hjy : j < y.length := by omega
                            have hcb := (y[j]).toNat_lt
                            have hcb' : ((y[j]).toNat : Int) < 256 := by omega
                            by_cases d1 : ((y[j]).toNat : Int) < 48
                            · have HN := hid (HNO.out (all_odd hjy (by unfold IsDig; omega)))
                              have HRT := hid hR2.out.rt
                              obtain ⟨r0, r1, r2, f0, f1, f2⟩ := HRT.out.cells
                              have OU := hid (HRT.out.out 0 0 0)
                              go_wp2
                              have e0 := OU.out.1.cell 0
                              have e1 := OU.out.1.cell 1
                              have e2 := OU.out.1.cell 2
                              refine bodyPost_ret (v := .tuple #[.agg #[.int .i64 0, .int .i64 0, .int .i64 0], .bool false]) (by simp [results, Tryz.results14, go_sem, e0, e1, e2]) rfl (rparse_no HN.out OU.out.2)
                            · by_cases d2 : (57 : Int) < (y[j]).toNat
                              · have HN := hid (HNO.out (all_odd hjy (by unfold IsDig; omega)))
                                have HRT := hid hR2.out.rt
                                obtain ⟨r0, r1, r2, f0, f1, f2⟩ := HRT.out.cells
                                have OU := hid (HRT.out.out 0 0 0)
                                go_wp2
                                have e0 := OU.out.1.cell 0
                                have e1 := OU.out.1.cell 1
                                have e2 := OU.out.1.cell 2
                                refine bodyPost_ret (v := .tuple #[.agg #[.int .i64 0, .int .i64 0, .int .i64 0], .bool false]) (by simp [results, Tryz.results14, go_sem, e0, e1, e2]) rfl (rparse_no HN.out OU.out.2)
                              · have HV2 := hid (hv.out.next hjy (by unfold IsDig; omega))
                                obtain ⟨p0, p1, p2, g0, g1, g2⟩ := hR2.out.cells
                                obtain ⟨p0', p1', p2', g0', g1', g2'⟩ := hR2.out.drew.cells
                                have HR3 := hid ((hR2.out.set1 (10 * v + (((y[j]).toNat : Int) - 48))).drew)
                                go_wp2
                                go_region
                                go_wp2
                                go_roundw
                                case rel => exact ⟨j + 1, _, by omega, by go_num, HV2, HR3⟩
                                case measure => simp [intOf]; omega
                          · obtain rfl : j = 3 := by omega
                            obtain ⟨e1, e2, e3, e4⟩ := hv.out.fin hy
                            have HG2 := hid (show grpO (gs.drop (i + 1 - 2)) v = grpO gs 0 by rw [e1, show i + 1 - 2 = i - 1 by omega]; exact HYES.out e4)
                            have HB2 := hid (show v < (1000 ^ (i + 1 - 2) : Nat) by rw [e1, show i + 1 - 2 = i - 2 + 1 by omega]; exact grp_next hab.out e3)
                            have hv0 : 0 ≤ v := by omega
                            clear e1 e2 e3 e4
                            go_wp2
                            go_roundw
                            case rel => exact ⟨i + 1, v, by omega, by omega, by go_num, hv0, HB2, HG2, hR2⟩
                            case measure => simp [intOf]; omega
                      · have k3 : ((x.length : Int) == 3) = false := by rw [beq_eq_false_iff_ne]; omega
                        have HN := hid (HGN.out (by rw [← HG1.out]; exact grp_last_no fun h => h3' h.1))
                        have HRT := hid hR.out.rt
                        obtain ⟨r0, r1, r2, f0, f1, f2⟩ := HRT.out.cells
                        have OU := hid (HRT.out.out 0 0 0)
                        go_wp2
                        have e0 := OU.out.1.cell 0
                        have e1 := OU.out.1.cell 1
                        have e2 := OU.out.1.cell 2
                        refine bodyPost_ret (v := .tuple #[.agg #[.int .i64 0, .int .i64 0, .int .i64 0], .bool false]) (by simp [results, Tryz.results14, go_sem, e0, e1, e2]) rfl (rparse_no HN.out OU.out.2)
                  · skip
                    have q1 : (E : Int) ≤ (i : Int) := by omega
                    have HEND := hid (refW_end HRW.out HS.out HL.out HWR.out H6.out (show grpO gs 0 = some acc by rw [← hgr.out, List.drop_of_length_le (by have := HWS.out; omega)]; rfl))
                    obtain ⟨p0, p1, p2, g0, g1, g2⟩ := hR.out.cells
                    have CI := hid (fun W => ref_Is (lv) acc (wd) W)
                    clear hgr hab
                    cases hti : isTile (lv) acc (wd) with
                    | false =>
                      have HN := hid (show refP l = none by rw [HEND.out, hti, if_neg (fun h => absurd h.1 (by decide))])
                      simp only [hti] at CI
                      clear hti HEND
                      go_wp2_with fail
                      refine (CI.out _).mono ?_
                      rintro e w5 ⟨rfl, hb5⟩
                      have HRT := hid (hR.out.below hb5).rt
                      clear hb5 p0 p1 p2 g0 g1 g2
                      obtain ⟨r0, r1, r2, f0, f1, f2⟩ := HRT.out.cells
                      have OU := hid (HRT.out.out 0 0 0)
                      go_wp2
                      have e0 := OU.out.1.cell 0
                      have e1 := OU.out.1.cell 1
                      have e2 := OU.out.1.cell 2
                      refine bodyPost_ret (v := .tuple #[.agg #[.int .i64 0, .int .i64 0, .int .i64 0], .bool false]) (by simp [results, Tryz.results14, go_sem, e0, e1, e2]) rfl (rparse_no HN.out OU.out.2)
                    | true =>
                      have hb := isTile_iff.1 hti
                      obtain ⟨n, rfl⟩ := Int.eq_ofNat_of_zero_le ha0
                      have CP := hid (fun W => ref_Path (lv) n (wd) W (by omega) (by omega) (by omega) (by omega) (by omega))
                      cases hpl : (pathT (lv) n (wd) == l) with
                      | false =>
                        have HN := hid (show refP l = none by rw [HEND.out, if_neg (fun h => absurd h.2 (beq_eq_false_iff_ne.1 hpl))])
                        simp only [hti] at CI
                        clear hti HEND hb
                        generalize pathT (lv) n (wd) = pt at *
                        go_wp2_with fail
                        refine (CI.out _).mono ?_
                        rintro e w5 ⟨rfl, hb5⟩
                        have R5 := hid (hR.out.below hb5)
                        clear hb5 p0 p1 p2 g0 g1 g2
                        obtain ⟨p0, p1, p2, g0, g1, g2⟩ := R5.out.cells
                        go_wp2_with fail
                        refine (CP.out _).mono ?_
                        rintro e w6 ⟨rfl, hb6⟩
                        have HRT := hid (R5.out.below hb6).rt
                        clear hb6 p0 p1 p2 g0 g1 g2
                        obtain ⟨r0, r1, r2, f0, f1, f2⟩ := HRT.out.cells
                        have OU := hid (HRT.out.out 0 0 0)
                        go_wp2
                        have e0 := OU.out.1.cell 0
                        have e1 := OU.out.1.cell 1
                        have e2 := OU.out.1.cell 2
                        refine bodyPost_ret (v := .tuple #[.agg #[.int .i64 0, .int .i64 0, .int .i64 0], .bool false]) (by simp [results, Tryz.results14, go_sem, e0, e1, e2]) rfl (rparse_no HN.out OU.out.2)
                      | true =>
                        have HY := hid (show refP l = some (lv, (n : Int), wd) by rw [HEND.out, if_pos ⟨hti, beq_iff_eq.1 hpl⟩])
                        simp only [hti] at CI
                        clear hti HEND hb
                        generalize pathT (lv) n (wd) = pt at *
                        go_wp2_with fail
                        refine (CI.out _).mono ?_
                        rintro e w5 ⟨rfl, hb5⟩
                        have R5 := hid (hR.out.below hb5)
                        clear hb5 p0 p1 p2 g0 g1 g2
                        obtain ⟨p0, p1, p2, g0, g1, g2⟩ := R5.out.cells
                        go_wp2_with fail
                        refine (CP.out _).mono ?_
                        rintro e w6 ⟨rfl, hb6⟩
                        have R6 := hid (R5.out.below hb6)
                        clear hb6 p0 p1 p2 g0 g1 g2
                        obtain ⟨p0, p1, p2, g0, g1, g2⟩ := R6.out.cells
                        obtain ⟨r0, r1, r2, f0, f1, f2⟩ := R6.out.rt.cells
                        have OU := hid (R6.out.rt.out (lv) n (wd))
                        go_wp2
                        have e0 := OU.out.1.cell 0
                        have e1 := OU.out.1.cell 1
                        have e2 := OU.out.1.cell 2
                        refine bodyPost_ret (v := .tuple #[.agg #[.int .i64 (lv), .int .i64 n, .int .i64 (wd)], .bool true]) (by simp [results, Tryz.results14, go_sem, e0, e1, e2]) rfl (rparse_yes HY.out OU.out.2)
        · have hsf' : (be.drop (be.length - 2) == [46, 112]) = false := by cases h : (be.drop (be.length - 2) == [46, 112]) with | false => rfl | true => exact absurd h hsf
          have hw : hasW be = false := by unfold hasW; rw [hsf']; simp
          have HWR := hid (show widR ws = some (256, ws.drop 2) by unfold widR; simp only [hgb, hw]; rfl)
          have hsT : (List.take (be.length - (be.length - 2)) (List.drop (be.length - 2) be) == [46, 112]) = false := by rw [List.take_of_length_le (by simp)]; exact hsf'
          clear hsf
          clear hgb hgl hw
          obtain ⟨E, gs, HE, HGS, HWS⟩ : ∃ (E : Nat) (gs : List (List UInt8)), Hid (E = ws.length) ∧ Hid (gs = ws.drop 2) ∧ Hid (gs = (ws.take E).drop 2 ∧ E = gs.length + 2 ∧ E ≤ ws.length) := ⟨_, _, rfl, rfl, by rw [List.take_length], by simp; omega, Nat.le_refl _⟩
          rw [← HGS.out] at HWR
          have HVM := HWM
          by_cases h6 : 6 < gs.length
          · have g6 : (6 : Int) < (ws.length : Int) - 2 := by have := HWS.out; have := HE.out; omega
            have HN := hid (show refP l = none by rw [HRW.out, refW_on HS.out HL.out HWR.out, if_pos h6])
            have HRT := hid R4.out.rt
            obtain ⟨r0, r1, r2, f0, f1, f2⟩ := HRT.out.cells
            have OU := hid (HRT.out.out 0 0 0)
            go_wp2
            have e0 := OU.out.1.cell 0
            have e1 := OU.out.1.cell 1
            have e2 := OU.out.1.cell 2
            refine bodyPost_ret (v := .tuple #[.agg #[.int .i64 0, .int .i64 0, .int .i64 0], .bool false]) (by simp [results, Tryz.results14, go_sem, e0, e1, e2]) rfl (rparse_no HN.out OU.out.2)
          · have g6 : ((ws.length : Int) : Int) - 2 ≤ 6 := by have := HWS.out; have := HE.out; omega
            have H6 := hid h6
            have HGN := hid (show grpO gs 0 = none → refP l = none from fun h => refW_grp HRW.out HS.out HL.out HWR.out H6.out h)
            have hE2 : E ≤ 8 ∧ 2 ≤ E ∧ E ≤ (ws).length := by have := HWS.out; omega
            obtain ⟨hE8, hE2, hEl⟩ := hE2
            clear h6
            go_wp2
            rw [show (ws.length : Int) = (E : Int) by have := HE.out; omega]
            go_loopw [12] (fun iv wr => ∃ (i : Nat) (acc : Int), 2 ≤ i ∧ i ≤ E ∧ iv = .int .i64 i ∧ 0 ≤ acc ∧ Hid (acc < (1000 ^ (i - 2) : Nat)) ∧ Hid (grpO (gs.drop (i - 2)) acc = grpO gs 0) ∧ Hid (RS w wr w1.heap.size kb lv acc (256) (ws))) (fun iv _ => E - (intOf iv).toNat)
            case atStart => exact ⟨2, 0, Nat.le_refl _, hE2, rfl, Int.le_refl _, by simp [Hid], by simp [Hid], R4⟩
            case round =>
              obtain ⟨i, acc, hi1, hi2, rfl, ha0, hab, hgr, hR⟩ := hrel
              by_cases hlt : i < E
              · have hiw : i < (ws).length := by omega
                obtain ⟨wx, fx⟩ := hR.out.word hiw
                have HX := hid (grp_at (HWS.out).1 (HWS.out).2.1 hi1 hlt hiw)
                have hxl : ((ws)[i]).length ≤ 1000 := HVM.out _ (List.getElem_mem hiw)
                generalize (ws)[i] = x at *
                by_cases hm : i + 1 < E
                · have q1 : (i : Int) < (E : Int) - 1 := by omega
                  have HNE := hid (HX.out.2.2 hm)
                  have HG1 := hid (show grpO (x :: gs.drop (i - 1)) acc = grpO gs 0 by rw [← HX.out.1]; exact hgr.out)
                  clear hgr HX
                  by_cases h4 : x.length = 4
                  · have k4 : ((x.length : Int) == 4) = true := by rw [h4]; rfl
                    by_cases hx : x[0].toNat = 120
                    · have kx : ((x[0].toNat : Int) == 120) = true := by rw [hx]; rfl
                      have HHD := hid (show x.head? = some 120 by
                        rw [List.head?_eq_getElem?, List.getElem?_eq_getElem (by omega)]
                        congr 1
                        exact UInt8.toNat_inj.1 hx)
                      clear hx
                      obtain ⟨y, hyd⟩ : ∃ y, y = x.tail := ⟨_, rfl⟩
                      have HYES := hid (show y.all digB = true → grpO (gs.drop (i - 1)) (1000 * acc + valI y) = grpO gs 0 from fun h => by
                        rw [← HG1.out, grp_mid_yes HNE.out ⟨h4, HHD.out, by rw [← hyd]; exact h⟩, ← hyd])
                      have HNO := hid (show y.all digB = false → refP l = none from fun h => HGN.out (by
                        rw [← HG1.out]
                        refine grp_mid_no HNE.out fun hh => ?_
                        rw [← hyd, h] at hh
                        exact absurd hh.2.2 (by decide)))
                      have hy : y.length = 3 := by rw [hyd, List.length_tail, h4]
                      have HYT := hid (show List.take 3 x.tail = y by rw [← hyd, List.take_of_length_le (by omega)])
                      clear hyd
                      have hac := grp_room hab.out (by have := HWS.out; omega)
                      go_wp2
                      rw [HYT.out, show ((x[0].toNat : Int) != 120) = false by rw [bne, kx]; rfl]
                      go_loopw [14] (fun kv wr => ∃ (j : Nat) (v : Int), j ≤ 3 ∧ kv = .int .i64 j ∧ Hid (VAt acc y j v) ∧ Hid (RS w wr w1.heap.size kb (lv) v (256) (ws))) (fun kv _ => 3 - (intOf kv).toNat)
                      case atStart => exact ⟨0, acc, by omega, rfl, VAt.zero acc y, hR⟩
                      case round =>
                        obtain ⟨j, v, hj, rfl, hv, hR2⟩ := hrel
                        by_cases hj3 : j < 3
                        · obtain ⟨hv0, hv1⟩ := hv.out.room ha0 hac hj3
                          have hjy : j < y.length := by omega
                          have hcb := (y[j]).toNat_lt
                          have hcb' : ((y[j]).toNat : Int) < 256 := by omega
                          by_cases d1 : ((y[j]).toNat : Int) < 48
                          · have HN := hid (HNO.out (all_odd hjy (by unfold IsDig; omega)))
                            have HRT := hid hR2.out.rt
                            obtain ⟨r0, r1, r2, f0, f1, f2⟩ := HRT.out.cells
                            have OU := hid (HRT.out.out 0 0 0)
                            go_wp2
                            have e0 := OU.out.1.cell 0
                            have e1 := OU.out.1.cell 1
                            have e2 := OU.out.1.cell 2
                            refine bodyPost_ret (v := .tuple #[.agg #[.int .i64 0, .int .i64 0, .int .i64 0], .bool false]) (by simp [results, Tryz.results14, go_sem, e0, e1, e2]) rfl (rparse_no HN.out OU.out.2)
                          · by_cases d2 : (57 : Int) < (y[j]).toNat
                            · have HN := hid (HNO.out (all_odd hjy (by unfold IsDig; omega)))
                              have HRT := hid hR2.out.rt
                              obtain ⟨r0, r1, r2, f0, f1, f2⟩ := HRT.out.cells
                              have OU := hid (HRT.out.out 0 0 0)
                              go_wp2
                              have e0 := OU.out.1.cell 0
                              have e1 := OU.out.1.cell 1
                              have e2 := OU.out.1.cell 2
                              refine bodyPost_ret (v := .tuple #[.agg #[.int .i64 0, .int .i64 0, .int .i64 0], .bool false]) (by simp [results, Tryz.results14, go_sem, e0, e1, e2]) rfl (rparse_no HN.out OU.out.2)
                            · have HV2 := hid (hv.out.next hjy (by unfold IsDig; omega))
                              obtain ⟨p0, p1, p2, g0, g1, g2⟩ := hR2.out.cells
                              obtain ⟨p0', p1', p2', g0', g1', g2'⟩ := hR2.out.drew.cells
                              have HR3 := hid ((hR2.out.set1 (10 * v + (((y[j]).toNat : Int) - 48))).drew)
                              go_wp2
                              go_region
                              go_wp2
                              go_roundw
                              case rel => exact ⟨j + 1, _, by omega, by go_num, HV2, HR3⟩
                              case measure => simp [intOf]; omega
                        · obtain rfl : j = 3 := by omega
                          obtain ⟨e1, e2, e3, e4⟩ := hv.out.fin hy
                          have HG2 := hid (show grpO (gs.drop (i + 1 - 2)) v = grpO gs 0 by rw [e1, show i + 1 - 2 = i - 1 by omega]; exact HYES.out e4)
                          have HB2 := hid (show v < (1000 ^ (i + 1 - 2) : Nat) by rw [e1, show i + 1 - 2 = i - 2 + 1 by omega]; exact grp_next hab.out e3)
                          have hv0 : 0 ≤ v := by omega
                          clear e1 e2 e3 e4
                          go_wp2
                          go_roundw
                          case rel => exact ⟨i + 1, v, by omega, by omega, by go_num, hv0, HB2, HG2, hR2⟩
                          case measure => simp [intOf]; omega
                    · have kx : ((x[0].toNat : Int) == 120) = false := by rw [beq_eq_false_iff_ne]; omega
                      have HN := hid (HGN.out (by
                        rw [← HG1.out]
                        refine grp_mid_no HNE.out fun h => hx ?_
                        have h2 := h.2.1
                        rw [List.head?_eq_getElem?, List.getElem?_eq_getElem (by omega)] at h2
                        injection h2 with h2
                        rw [h2]; rfl))
                      have HRT := hid hR.out.rt
                      obtain ⟨r0, r1, r2, f0, f1, f2⟩ := HRT.out.cells
                      have OU := hid (HRT.out.out 0 0 0)
                      go_wp2
                      have e0 := OU.out.1.cell 0
                      have e1 := OU.out.1.cell 1
                      have e2 := OU.out.1.cell 2
                      refine bodyPost_ret (v := .tuple #[.agg #[.int .i64 0, .int .i64 0, .int .i64 0], .bool false]) (by simp [results, Tryz.results14, go_sem, e0, e1, e2]) rfl (rparse_no HN.out OU.out.2)
                  · have k4 : ((x.length : Int) == 4) = false := by rw [beq_eq_false_iff_ne]; omega
                    have HN := hid (HGN.out (by rw [← HG1.out]; exact grp_mid_no HNE.out fun h => h4 h.1))
                    have HRT := hid hR.out.rt
                    obtain ⟨r0, r1, r2, f0, f1, f2⟩ := HRT.out.cells
                    have OU := hid (HRT.out.out 0 0 0)
                    go_wp2
                    have e0 := OU.out.1.cell 0
                    have e1 := OU.out.1.cell 1
                    have e2 := OU.out.1.cell 2
                    refine bodyPost_ret (v := .tuple #[.agg #[.int .i64 0, .int .i64 0, .int .i64 0], .bool false]) (by simp [results, Tryz.results14, go_sem, e0, e1, e2]) rfl (rparse_no HN.out OU.out.2)
                · have q1 : (E : Int) - 1 ≤ (i : Int) := by omega
                  have HG1 := hid (show grpO [x] acc = grpO gs 0 by
                    have h1 := HX.out.1
                    rw [Classical.not_not.1 (mt HX.out.2.1 hm)] at h1
                    rw [← h1]; exact hgr.out)
                  clear hgr HX
                  by_cases h3' : x.length = 3
                  · have k3 : ((x.length : Int) == 3) = true := by rw [h3']; rfl
                    have HIE : i + 1 = E := by omega
                    have HYES := hid (show x.all digB = true → grpO (gs.drop (i - 1)) (1000 * acc + valI x) = grpO gs 0 from fun h => by
                      rw [← HG1.out, grp_last_yes ⟨h3', h⟩, List.drop_of_length_le (by have := HWS.out; omega)])
                    have HNO := hid (show x.all digB = false → refP l = none from fun h => HGN.out (by
                      rw [← HG1.out]
                      exact grp_last_no fun hh => by rw [h] at hh; exact absurd hh.2 (by decide)))
                    have hy : x.length = 3 := h3'
                    have hac := grp_room hab.out (by have := HWS.out; omega)
                    generalize x = y at *
                    go_wp2
                    go_loopw [14] (fun kv wr => ∃ (j : Nat) (v : Int), j ≤ 3 ∧ kv = .int .i64 j ∧ Hid (VAt acc y j v) ∧ Hid (RS w wr w1.heap.size kb (lv) v (256) (ws))) (fun kv _ => 3 - (intOf kv).toNat)
                    case atStart => exact ⟨0, acc, by omega, rfl, VAt.zero acc y, hR⟩
                    case round =>
                      obtain ⟨j, v, hj, rfl, hv, hR2⟩ := hrel
                      by_cases hj3 : j < 3
                      · obtain ⟨hv0, hv1⟩ := hv.out.room ha0 hac hj3
                        have hjy : j < y.length := by omega
                        have hcb := (y[j]).toNat_lt
                        have hcb' : ((y[j]).toNat : Int) < 256 := by omega
                        by_cases d1 : ((y[j]).toNat : Int) < 48
                        · have HN := hid (HNO.out (all_odd hjy (by unfold IsDig; omega)))
                          have HRT := hid hR2.out.rt
                          obtain ⟨r0, r1, r2, f0, f1, f2⟩ := HRT.out.cells
                          have OU := hid (HRT.out.out 0 0 0)
                          go_wp2
                          have e0 := OU.out.1.cell 0
                          have e1 := OU.out.1.cell 1
                          have e2 := OU.out.1.cell 2
                          refine bodyPost_ret (v := .tuple #[.agg #[.int .i64 0, .int .i64 0, .int .i64 0], .bool false]) (by simp [results, Tryz.results14, go_sem, e0, e1, e2]) rfl (rparse_no HN.out OU.out.2)
                        · by_cases d2 : (57 : Int) < (y[j]).toNat
                          · have HN := hid (HNO.out (all_odd hjy (by unfold IsDig; omega)))
                            have HRT := hid hR2.out.rt
                            obtain ⟨r0, r1, r2, f0, f1, f2⟩ := HRT.out.cells
                            have OU := hid (HRT.out.out 0 0 0)
                            go_wp2
                            have e0 := OU.out.1.cell 0
                            have e1 := OU.out.1.cell 1
                            have e2 := OU.out.1.cell 2
                            refine bodyPost_ret (v := .tuple #[.agg #[.int .i64 0, .int .i64 0, .int .i64 0], .bool false]) (by simp [results, Tryz.results14, go_sem, e0, e1, e2]) rfl (rparse_no HN.out OU.out.2)
                          · have HV2 := hid (hv.out.next hjy (by unfold IsDig; omega))
                            obtain ⟨p0, p1, p2, g0, g1, g2⟩ := hR2.out.cells
                            obtain ⟨p0', p1', p2', g0', g1', g2'⟩ := hR2.out.drew.cells
                            have HR3 := hid ((hR2.out.set1 (10 * v + (((y[j]).toNat : Int) - 48))).drew)
                            go_wp2
                            go_region
                            go_wp2
                            go_roundw
                            case rel => exact ⟨j + 1, _, by omega, by go_num, HV2, HR3⟩
                            case measure => simp [intOf]; omega
                      · obtain rfl : j = 3 := by omega
                        obtain ⟨e1, e2, e3, e4⟩ := hv.out.fin hy
                        have HG2 := hid (show grpO (gs.drop (i + 1 - 2)) v = grpO gs 0 by rw [e1, show i + 1 - 2 = i - 1 by omega]; exact HYES.out e4)
                        have HB2 := hid (show v < (1000 ^ (i + 1 - 2) : Nat) by rw [e1, show i + 1 - 2 = i - 2 + 1 by omega]; exact grp_next hab.out e3)
                        have hv0 : 0 ≤ v := by omega
                        clear e1 e2 e3 e4
                        go_wp2
                        go_roundw
                        case rel => exact ⟨i + 1, v, by omega, by omega, by go_num, hv0, HB2, HG2, hR2⟩
                        case measure => simp [intOf]; omega
                  · have k3 : ((x.length : Int) == 3) = false := by rw [beq_eq_false_iff_ne]; omega
                    have HN := hid (HGN.out (by rw [← HG1.out]; exact grp_last_no fun h => h3' h.1))
                    have HRT := hid hR.out.rt
                    obtain ⟨r0, r1, r2, f0, f1, f2⟩ := HRT.out.cells
                    have OU := hid (HRT.out.out 0 0 0)
                    go_wp2
                    have e0 := OU.out.1.cell 0
                    have e1 := OU.out.1.cell 1
                    have e2 := OU.out.1.cell 2
                    refine bodyPost_ret (v := .tuple #[.agg #[.int .i64 0, .int .i64 0, .int .i64 0], .bool false]) (by simp [results, Tryz.results14, go_sem, e0, e1, e2]) rfl (rparse_no HN.out OU.out.2)
              · skip
                have q1 : (E : Int) ≤ (i : Int) := by omega
                have HEND := hid (refW_end HRW.out HS.out HL.out HWR.out H6.out (show grpO gs 0 = some acc by rw [← hgr.out, List.drop_of_length_le (by have := HWS.out; omega)]; rfl))
                obtain ⟨p0, p1, p2, g0, g1, g2⟩ := hR.out.cells
                have CI := hid (fun W => ref_Is (lv) acc (256) W)
                clear hgr hab
                cases hti : isTile (lv) acc (256) with
                | false =>
                  have HN := hid (show refP l = none by rw [HEND.out, hti, if_neg (fun h => absurd h.1 (by decide))])
                  simp only [hti] at CI
                  clear hti HEND
                  go_wp2_with fail
                  refine (CI.out _).mono ?_
                  rintro e w5 ⟨rfl, hb5⟩
                  have HRT := hid (hR.out.below hb5).rt
                  clear hb5 p0 p1 p2 g0 g1 g2
                  obtain ⟨r0, r1, r2, f0, f1, f2⟩ := HRT.out.cells
                  have OU := hid (HRT.out.out 0 0 0)
                  go_wp2
                  have e0 := OU.out.1.cell 0
                  have e1 := OU.out.1.cell 1
                  have e2 := OU.out.1.cell 2
                  refine bodyPost_ret (v := .tuple #[.agg #[.int .i64 0, .int .i64 0, .int .i64 0], .bool false]) (by simp [results, Tryz.results14, go_sem, e0, e1, e2]) rfl (rparse_no HN.out OU.out.2)
                | true =>
                  have hb := isTile_iff.1 hti
                  obtain ⟨n, rfl⟩ := Int.eq_ofNat_of_zero_le ha0
                  have CP := hid (fun W => ref_Path (lv) n (256) W (by omega) (by omega) (by omega) (by omega) (by omega))
                  cases hpl : (pathT (lv) n (256) == l) with
                  | false =>
                    have HN := hid (show refP l = none by rw [HEND.out, if_neg (fun h => absurd h.2 (beq_eq_false_iff_ne.1 hpl))])
                    simp only [hti] at CI
                    clear hti HEND hb
                    generalize pathT (lv) n (256) = pt at *
                    go_wp2_with fail
                    refine (CI.out _).mono ?_
                    rintro e w5 ⟨rfl, hb5⟩
                    have R5 := hid (hR.out.below hb5)
                    clear hb5 p0 p1 p2 g0 g1 g2
                    obtain ⟨p0, p1, p2, g0, g1, g2⟩ := R5.out.cells
                    go_wp2_with fail
                    refine (CP.out _).mono ?_
                    rintro e w6 ⟨rfl, hb6⟩
                    have HRT := hid (R5.out.below hb6).rt
                    clear hb6 p0 p1 p2 g0 g1 g2
                    obtain ⟨r0, r1, r2, f0, f1, f2⟩ := HRT.out.cells
                    have OU := hid (HRT.out.out 0 0 0)
                    go_wp2
                    have e0 := OU.out.1.cell 0
                    have e1 := OU.out.1.cell 1
                    have e2 := OU.out.1.cell 2
                    refine bodyPost_ret (v := .tuple #[.agg #[.int .i64 0, .int .i64 0, .int .i64 0], .bool false]) (by simp [results, Tryz.results14, go_sem, e0, e1, e2]) rfl (rparse_no HN.out OU.out.2)
                  | true =>
                    have HY := hid (show refP l = some (lv, (n : Int), 256) by rw [HEND.out, if_pos ⟨hti, beq_iff_eq.1 hpl⟩])
                    simp only [hti] at CI
                    clear hti HEND hb
                    generalize pathT (lv) n (256) = pt at *
                    go_wp2_with fail
                    refine (CI.out _).mono ?_
                    rintro e w5 ⟨rfl, hb5⟩
                    have R5 := hid (hR.out.below hb5)
                    clear hb5 p0 p1 p2 g0 g1 g2
                    obtain ⟨p0, p1, p2, g0, g1, g2⟩ := R5.out.cells
                    go_wp2_with fail
                    refine (CP.out _).mono ?_
                    rintro e w6 ⟨rfl, hb6⟩
                    have R6 := hid (R5.out.below hb6)
                    clear hb6 p0 p1 p2 g0 g1 g2
                    obtain ⟨p0, p1, p2, g0, g1, g2⟩ := R6.out.cells
                    obtain ⟨r0, r1, r2, f0, f1, f2⟩ := R6.out.rt.cells
                    have OU := hid (R6.out.rt.out (lv) n (256))
                    go_wp2
                    have e0 := OU.out.1.cell 0
                    have e1 := OU.out.1.cell 1
                    have e2 := OU.out.1.cell 2
                    refine bodyPost_ret (v := .tuple #[.agg #[.int .i64 (lv), .int .i64 n, .int .i64 (256)], .bool true]) (by simp [results, Tryz.results14, go_sem, e0, e1, e2]) rfl (rparse_yes HY.out OU.out.2)
end Go.Proofs.YtecekflooihkoaaGreatDoor
