/- Walks of the library's Replacer, of x and / to nothing: what is built. -/
import Derived.Test.YtecekflooihkoaaGreatDoorOnce
import Derived.Test.YtecekflooihkoaaGreatDoorLayP
import Derived.Laws.Rows
set_option linter.unusedVariables false
set_option linter.unusedSimpArgs false
set_option maxHeartbeats 1600000
set_option maxRecDepth 100000
namespace Go.Proofs.YtecekflooihkoaaGreatDoor
open Go.RowKit

/-- What the replacer is made of: four texts. -/
structure Old (w : World) (ob : Nat) : Prop where
  lt : ob < w.heap.size
  c0 : w.cell? ⟨ob, 0, none⟩ = some (.string (S [120]))
  c1 : w.cell? ⟨ob, 1, none⟩ = some (.string (S []))
  c2 : w.cell? ⟨ob, 2, none⟩ = some (.string (S [47]))
  c3 : w.cell? ⟨ob, 3, none⟩ = some (.string (S []))
theorem Old.below {w w' : World} {ob : Nat} (h : Old w ob) (hb : Below w.heap.size w w') : Old w' ob :=
  ⟨Nat.lt_of_lt_of_le h.lt hb.size, (hb.cell (p := ⟨ob, 0, none⟩) h.lt).trans h.c0, (hb.cell (p := ⟨ob, 1, none⟩) h.lt).trans h.c1, (hb.cell (p := ⟨ob, 2, none⟩) h.lt).trans h.c2, (hb.cell (p := ⟨ob, 3, none⟩) h.lt).trans h.c3⟩

theorem zc_rep : Tryz.zeroCells183.toList = List.replicate 257 (.slice none 0 0) := by kernel_rfl
theorem info_str : ∃ i, (Tryz.prog).info? 9 = some i ∧ i.zero = some (.string ByteArray.empty) ∧ i.size = 1 ∧ i.bytes = 16 := by
  have h : ((Tryz.prog).info? 9).map (fun i => (i.zero, i.size, i.bytes)) = some (some (.string ByteArray.empty), 1, 16) := by kernel_rfl
  obtain ⟨i, hi, he⟩ := Option.map_eq_some_iff.1 h
  simp only [Prod.mk.injEq] at he
  exact ⟨i, hi, he.1, he.2.1, he.2.2⟩
def sV (l : List UInt8) : Value := .string (S l)
/-- append(l, x), x one text. -/
theorem append_str (W : World) {base : Nat} {A : Option Addr} {c : Nat} {os : List (List UInt8)} (y : List UInt8) (hown : W.ownsRow base 9 1 (.slice A os.length c) os.length (os.map sV)) (hl : os.length ≤ 1000000) (hbase : base ≤ W.heap.size) :
    ∃ A' c' w', (Builtin.append_ #[65, 65] 65 #[.slice A os.length c, .slice (some ⟨W.heap.size, 0, none⟩) 1 1]).run Tryz.prog (W.alloc (.cells #[.string (S y)] 9)) = .ok (.slice A' (os.length + 1) c') w' ∧
      w'.ownsRow base 9 1 (.slice A' (os ++ [y]).length c') (os ++ [y]).length ((os ++ [y]).map sV) ∧ Below base W w' ∧ W.grownBy w' (Value.slice A os.length c).ownBlock := by
  obtain ⟨i, hi, hz, hsz, hby⟩ := info_str
  have b0 : Below W.heap.size W (W.alloc (.cells #[sV y] 9)) := (Below.refl _ _).alloc (Nat.le_refl _) _
  have hB := Blk.new W 9 #[sV y]
  obtain ⟨v', w', hrun, hown1, hgrow, hat⟩ := run_append_row (P := Tryz.prog) _ base 65 65 9 i _ 1 16 (by kernel_rfl) hi hz hsz hby rfl (by decide) _ _ _ (row_alloc hown (.cells #[sV y] 9)) (some ⟨W.heap.size, 0, none⟩) 1 1 [sV y] rfl (fun h => by cases h)
    (fun ad had j u hu => by
      injection had with had
      subst had
      rw [add_plain', Nat.zero_add, hB.cell j, ← hu]
      simp)
    (fun u hu => by
      simp only [List.mem_cons, List.not_mem_nil, or_false] at hu
      subst hu
      rfl)
    (by unfold maxLen; omega) (by omega) (by simp; omega)
  have hlen : (os ++ [y]).length = os.length + 1 := by simp
  have hfl : (os ++ [y]).map sV = os.map sV ++ [sV y] := by simp
  obtain ⟨A', c', rfl⟩ := row_form hown1
  refine ⟨A', c', w', hrun, ?_, (b0.mono hbase).grown hgrow (by simp; omega) fun k hk => row_base_le hown hk, ?_⟩
  · rw [hlen, hfl]
    exact hown1
  · exact ⟨hgrow.os, hgrow.tape, hgrow.output, Nat.le_trans b0.size hgrow.size, fun k hk hn => (hgrow.block k (Nat.lt_of_lt_of_le hk b0.size) hn).trans (b0.block k hk)⟩

/-- The table while it is filled: the bytes of 'done' stand for nothing. -/
structure Tab (w : World) (base q : Nat) (done : List Nat) (xs : List (List UInt8)) : Prop where
  has : ∃ (cs : Array Value) (A : Option Addr) (c : Nat), Blk w q 183 cs ∧ cs.size = 257 ∧ cs[256]? = some (.slice A xs.length c) ∧ w.ownsRow base 9 1 (.slice A xs.length c) xs.length (xs.map sV) ∧
    (∀ j, j < 256 → j ∉ done → cs[j]? = some (.slice none 0 0)) ∧ (∀ j, j ∈ done → j < 256 ∧ ∃ a c, cs[j]? = some (.slice (some a) 0 c))
theorem Tab.below {w w' : World} {base q : Nat} {done : List Nat} {xs : List (List UInt8)} (h : Tab w base q done xs) (hb : Below w.heap.size w w') : Tab w' base q done xs := by
  obtain ⟨cs, A, c, h1, h2, h3, h4, h5, h6⟩ := h.has
  exact ⟨cs, A, c, h1.below hb h1.lt, h2, h3, row_below h4 hb, h5, h6⟩
theorem tab_start (w : World) : ∃ wq, (storeCells ⟨w.heap.size + 1, 0, none⟩ (Tryz.zeroCells183.toList.set 256 (.slice (some ⟨w.heap.size, 0, none⟩) 0 2))).run Tryz.prog ((w.alloc (.cells #[.string ByteArray.empty, .string ByteArray.empty] 9)).alloc (.cells Tryz.zeroCells183 183)) = .ok () wq ∧
    Tab wq w.heap.size (w.heap.size + 1) [] [] ∧ Below w.heap.size w wq := by
  generalize hW : (w.alloc (.cells #[.string ByteArray.empty, .string ByteArray.empty] 9)).alloc (.cells Tryz.zeroCells183 183) = W
  have hB : Blk W (w.heap.size + 1) 183 Tryz.zeroCells183 := by
    rw [← hW]
    have := Blk.new (w.alloc (.cells #[.string ByteArray.empty, .string ByteArray.empty] 9)) 183 Tryz.zeroCells183
    simpa using this
  have hR : Blk W w.heap.size 9 #[.string ByteArray.empty, .string ByteArray.empty] := by
    rw [← hW]
    exact (Blk.new w _ _).alloc _
  have hb : Below w.heap.size w W := by
    rw [← hW]
    exact ((Below.refl _ w).alloc (Nat.le_refl _) _).alloc (by simp) _
  have hzl : Tryz.zeroCells183.size = 257 := by rw [← Array.length_toList, zc_rep]; simp
  have hrun := run_storeCells_from (P := Tryz.prog) (w.heap.size + 1) 183 (Tryz.zeroCells183.toList.set 256 (.slice (some ⟨w.heap.size, 0, none⟩) 0 2)) 0 _ W hB (by simp) (by
    rw [zc_rep]
    intro v hv
    rcases List.mem_or_eq_of_mem_set hv with hv | rfl
    · have := List.eq_of_mem_replicate hv
      subst this
      rfl
    · rfl)
  refine ⟨_, hrun, ?_, ?_⟩
  · refine ⟨(Tryz.zeroCells183.toList.set 256 (.slice (some ⟨w.heap.size, 0, none⟩) 0 2)).toArray, some ⟨w.heap.size, 0, none⟩, 2, ?_, ?_, ?_, ?_, ?_, by simp⟩
    · exact setRow_heap W _ _ _ _ _ hB
    · rw [List.size_toArray, List.length_set, zc_rep]; simp
    · rw [List.getElem?_toArray, zc_rep, List.getElem?_set_self (by simp)]; rfl
    · refine ⟨rfl, .inr ⟨w.heap.size, 2, #[.string ByteArray.empty, .string ByteArray.empty], rfl, Nat.le_refl _, ?_, by simp, by unfold maxLen; omega, rfl, rfl⟩⟩
      rw [← hR]
      unfold World.setRow
      simp only []
      rw [Array.getElem?_modify, if_neg (by omega)]
    · intro j hj _
      rw [List.getElem?_toArray, zc_rep, List.getElem?_set_ne (by omega), List.getElem?_replicate, if_pos (by omega)]
  · exact ⟨hb.os, hb.tape, hb.output, by simpa using hb.size, fun k hk => by
      rw [← hb.block k hk]
      unfold World.setRow
      simp only []
      rw [Array.getElem?_modify, if_neg (by omega)]⟩

theorem row_apart {w : World} {base q : Nat} {cs : Array Value} {v : Value} {n : Nat} {xs : List Value} (hB : Blk w q 183 cs) (h : w.ownsRow base 9 1 v n xs) : some q ≠ v.ownBlock := fun e => by
  obtain ⟨cs', hcs⟩ := row_heap h e.symm
  unfold Blk at hB
  rw [hB] at hcs
  injection hcs with hcs
  injection hcs with _ ht
  exact absurd ht (by decide)
theorem tab_step {wr : World} {base q : Nat} {done : List Nat} {xs : List (List UInt8)} (hT : Tab wr base q done xs) (o : Nat) (ho : o < 256) (hod : o ∉ done) (x : List UInt8) (hbase : base ≤ wr.heap.size) (hq : base ≤ q) (hxl : xs.length ≤ 1000) (a0 : Obj) :
    ∃ A c A' c' w1 u wB d cc u2, wr.cell? ⟨q, 256, none⟩ = some (.slice A xs.length c) ∧ wr.frozen? ⟨q, 256, none⟩ = false ∧ wr.cell? ⟨q, o, none⟩ = some (.slice none 0 0) ∧ q < wr.heap.size ∧
      (Builtin.append_ #[65, 65] 65 #[.slice A xs.length c, .slice (some ⟨wr.heap.size + 1, 0, none⟩) 1 1]).run Tryz.prog ((wr.alloc a0).alloc (.cells #[.string (S x)] 9)) = .ok (.slice A' (xs.length + 1) c') w1 ∧
      w1.cell? ⟨q, 256, none⟩ = some u ∧ w1.frozen? ⟨q, 256, none⟩ = false ∧
      (convert 9 81 (.string (S []))).run Tryz.prog (w1.setCell ⟨q, 256, none⟩ (.slice A' (xs.length + 1) c')) = .ok (.slice (some d) 0 cc) wB ∧
      wB.cell? ⟨q, o, none⟩ = some u2 ∧ wB.frozen? ⟨q, o, none⟩ = false ∧ Tab (wB.setCell ⟨q, o, none⟩ (.slice (some d) 0 cc)) base q (o :: done) (xs ++ [x]) ∧ Below base wr (wB.setCell ⟨q, o, none⟩ (.slice (some d) 0 cc)) := by
  obtain ⟨cs, A, c, h1, h2, h3, h4, h5, h6⟩ := hT.has
  have ba : Below wr.heap.size wr (wr.alloc a0) := (Below.refl _ _).alloc (Nat.le_refl _) _
  obtain ⟨A', c', w1, hrun, hrow, hb1, hgrow⟩ := append_str (wr.alloc a0) x (row_below h4 ba) (by omega) (by simp; omega)
  have hB1 : Blk w1 q 183 cs := (hgrow.block q (by have := h1.lt; simp; omega) (row_apart (h1.below ba h1.lt) (row_below h4 ba))).trans (h1.below ba h1.lt)
  have hB2 := hB1.set_ 256 (.slice A' (xs.length + 1) c')
  have hrow2 : (w1.setCell ⟨q, 256, none⟩ (.slice A' (xs.length + 1) c')).ownsRow base 9 1 (.slice A' (xs ++ [x]).length c') (xs ++ [x]).length ((xs ++ [x]).map sV) := row_keep hrow fun k hk => Below.heap_setCell _ _ _ k (fun e => row_apart hB1 hrow (by rw [hk]; rw [e]))
  have hbb := conv_below (w1.setCell ⟨q, 256, none⟩ (.slice A' (xs.length + 1) c')) []
  have hB3 := hB2.below hbb hB2.lt
  have hrow3 := row_below hrow2 hbb
  have hs1 : base ≤ w1.heap.size := Nat.le_trans (by simp; omega) hb1.size
  have hcv := conv_run (w1.setCell ⟨q, 256, none⟩ (.slice A' (xs.length + 1) c')) []
  refine ⟨A, c, A', c', w1, (.slice A xs.length c), _, _, _, .slice none 0 0, by rw [h1.cell]; exact h3, h1.frozen _, by rw [h1.cell]; exact h5 o ho hod, h1.lt, by simpa using hrun, by rw [hB1.cell]; exact h3, hB1.frozen _, hcv, ?_, hB3.frozen _, ⟨_, A', c', hB3.set_ o _, by simp [h2], ?_, ?_, ?_, ?_⟩, ?_⟩
  · rw [hB3.cell, Array.getElem?_setIfInBounds, if_neg (by omega)]; exact h5 o ho hod
  · rw [Array.getElem?_setIfInBounds, if_neg (by omega), Array.getElem?_setIfInBounds, if_pos rfl, if_pos (by omega)]
    simp
  · exact row_keep hrow3 fun k hk => Below.heap_setCell _ _ _ k (fun e => row_apart hB3 hrow3 (by rw [hk]; rw [e]))
  · intro j hj hjd
    simp only [List.mem_cons, not_or] at hjd
    rw [Array.getElem?_setIfInBounds, if_neg (by omega), Array.getElem?_setIfInBounds, if_neg (by omega)]
    exact h5 j hj hjd.2
  · intro j hj
    by_cases hjo : o = j
    · subst hjo
      refine ⟨ho, ?_⟩
      rw [Array.getElem?_setIfInBounds, if_pos rfl, if_pos (by simp; omega)]
      exact ⟨_, _, rfl⟩
    · rcases List.mem_cons.1 hj with e | hj
      · exact absurd e.symm hjo
      · have hj256 : j ≠ 256 := by
          have := (h6 j hj).1
          omega
        refine ⟨(h6 j hj).1, ?_⟩
        rw [Array.getElem?_setIfInBounds, if_neg hjo, Array.getElem?_setIfInBounds, if_neg (by omega)]
        exact (h6 j hj).2
  · refine (((((Below.refl base wr).alloc hbase a0).trans hb1).setCell hq _).trans (hbb.mono ?_)).setCell hq _
    simpa using hs1
end Go.Proofs.YtecekflooihkoaaGreatDoor
