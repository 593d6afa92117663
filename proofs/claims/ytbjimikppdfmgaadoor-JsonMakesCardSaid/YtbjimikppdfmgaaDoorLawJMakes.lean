/- The law JsonMakes. -/
import Derived.Test.YtbjimikppdfmgaaDoorJsK
import Derived.Test.YtbjimikppdfmgaaDoorLawJLong
import Derived.Test.YtbjimikppdfmgaaDoorLawK
set_option linter.unusedVariables false
set_option linter.unusedSimpArgs false
set_option maxHeartbeats 16000000
set_option maxRecDepth 100000
namespace Go.Proofs.YtbjimikppdfmgaaDoor
open Go.RowKit

/-- What is made, under way: the block of the wanted value, its rows, and the row of kids. -/
structure MK (W wr : World) (ns : List (List UInt8)) (A1 : Option Addr) (c1 : Nat) (A3 : Option Addr) (c3 : Nat) (A8 : Option Addr) (c8 : Nat) (x3 x8 : List J5) : Prop where
  bel : Below W.heap.size W wr
  blk : Blk wr W.heap.size 40 (J5.ar ⟨4, [], 0, A1, ns.length, c1, A3, x3.length, c3⟩)
  nrow : wr.ownsRow (W.heap.size + 1) 9 1 (.slice A1 ns.length c1) ns.length (ns.map sV)
  krow : wr.ownsRow (W.heap.size + 1) 40 5 (.slice A3 x3.length c3) x3.length (x3.flatMap J5.cs)
  row8 : wr.ownsRow (W.heap.size + 1) 40 5 (.slice A8 x8.length c8) x8.length (x8.flatMap J5.cs)
  ap : ∀ k, (Value.slice A3 x3.length c3).ownBlock = some k → (Value.slice A8 x8.length c8).ownBlock ≠ some k
theorem row_lt {w : World} {base : Nat} {e : TypeId} {size n : Nat} {v : Value} {xs : List Value} (h : w.ownsRow base e size v n xs) {k : Nat} (hk : v.ownBlock = some k) : k < w.heap.size := by
  obtain ⟨cs, hcs⟩ := row_heap h hk
  exact (Array.getElem?_eq_some_iff.1 hcs).1
theorem row_types {w : World} {base base' : Nat} {s1 s2 n1 n2 : Nat} {v1 v2 : Value} {x1 x2 : List Value} {e1 e2 : TypeId} (h1 : w.ownsRow base e1 s1 v1 n1 x1) (h2 : w.ownsRow base' e2 s2 v2 n2 x2) (hne : e1 ≠ e2) {k : Nat} (hk : v1.ownBlock = some k) : v2.ownBlock ≠ some k := fun hk2 => by
  obtain ⟨cs, hcs⟩ := row_heap h1 hk
  obtain ⟨cs2, hcs2⟩ := row_heap h2 hk2
  rw [hcs] at hcs2
  injection hcs2 with h
  injection h with _ h
  exact hne h
section
variable {W wr wn : World} {ns : List (List UInt8)} {A1 A3 A8 : Option Addr} {c1 c3 c8 : Nat} {x3 x8 : List J5}
theorem MK.below (h : MK W wr ns A1 c1 A3 c3 A8 c8 x3 x8) (hb : Below wr.heap.size wr wn) : MK W wn ns A1 c1 A3 c3 A8 c8 x3 x8 :=
  ⟨bt h.bel hb, h.blk.below hb h.blk.lt, row_below h.nrow hb, row_below h.krow hb, row_below h.row8 hb, h.ap⟩
theorem MK.cells (h : MK W wr ns A1 c1 A3 c3 A8 c8 x3 x8) : wr.cell? ⟨W.heap.size, 3, none⟩ = some (.slice A1 ns.length c1) ∧ wr.cell? ⟨W.heap.size, 4, none⟩ = some (.slice A3 x3.length c3) ∧ wr.frozen? ⟨W.heap.size, 3, none⟩ = false ∧ wr.frozen? ⟨W.heap.size, 4, none⟩ = false ∧ W.heap.size < wr.heap.size :=
  ⟨(h.blk.cell 3).trans rfl, (h.blk.cell 4).trans rfl, h.blk.frozen 3, h.blk.frozen 4, h.blk.lt⟩
/-- The kids' row grows. -/
theorem MK.app8 (h : MK W wr ns A1 c1 A3 c3 A8 c8 x3 x8) {y : J5} {A' : Option Addr} {c' : Nat} {w4 : World} (hr : w4.ownsRow (W.heap.size + 1) 40 5 (.slice A' (x8 ++ [y]).length c') (x8 ++ [y]).length ((x8 ++ [y]).flatMap J5.cs))
    (hb : ∀ k, k < wr.heap.size → (Value.slice A8 x8.length c8).ownBlock ≠ some k → w4.heap[k]? = wr.heap[k]?) (hw : Below (W.heap.size + 1) wr w4) (ho : (Value.slice A' (x8 ++ [y]).length c').ownBlock = (Value.slice A8 x8.length c8).ownBlock ∨ (Value.slice A' (x8 ++ [y]).length c').ownBlock = some (wr.heap.size + 1)) :
    MK W w4 ns A1 c1 A3 c3 A' c' x3 (x8 ++ [y]) := by
  refine ⟨h.bel.trans (hw.mono (by omega)), (hb _ h.blk.lt (fun e => by have := row_base_le h.row8 e; omega)).trans h.blk, row_keep h.nrow fun k hk => hb k (row_lt h.nrow hk) (row_types h.nrow h.row8 (by decide) hk), row_keep h.krow fun k hk => hb k (row_lt h.krow hk) (h.ap k hk), hr, fun k hk => ?_⟩
  rcases ho with e | e
  · rw [e]; exact h.ap k hk
  · rw [e]
    intro e2
    injection e2 with e2
    have := row_lt h.krow hk
    omega
/-- The wanted row grows, and the field is stored. -/
theorem MK.app3 (h : MK W wr ns A1 c1 A3 c3 A8 c8 x3 x8) {y : J5} {A' : Option Addr} {c' : Nat} {w4 : World} (hr : w4.ownsRow (W.heap.size + 1) 40 5 (.slice A' (x3 ++ [y]).length c') (x3 ++ [y]).length ((x3 ++ [y]).flatMap J5.cs)) (hs : w4.heap.size ≥ wr.heap.size)
    (hb : ∀ k, k < wr.heap.size → (Value.slice A3 x3.length c3).ownBlock ≠ some k → w4.heap[k]? = wr.heap[k]?) (hw : Below (W.heap.size + 1) wr w4) (ho : (Value.slice A' (x3 ++ [y]).length c').ownBlock = (Value.slice A3 x3.length c3).ownBlock ∨ (Value.slice A' (x3 ++ [y]).length c').ownBlock = some (wr.heap.size + 1)) :
    (MK W (w4.setCell ⟨W.heap.size, 4, none⟩ (.slice A' (x3.length + 1) c')) ns A1 c1 A' c' A8 c8 (x3 ++ [y]) x8) ∧ w4.cell? ⟨W.heap.size, 4, none⟩ = some (.slice A3 x3.length c3) ∧ w4.frozen? ⟨W.heap.size, 4, none⟩ = false ∧ W.heap.size < w4.heap.size := by
  have hB : Blk w4 W.heap.size 40 (J5.ar ⟨4, [], 0, A1, ns.length, c1, A3, x3.length, c3⟩) := (hb _ h.blk.lt (fun e => by have := row_base_le h.krow e; omega)).trans h.blk
  have hbel : Below W.heap.size W w4 := h.bel.trans (hw.mono (by omega))
  have hk : ∀ k, k ≠ W.heap.size → (w4.setCell ⟨W.heap.size, 4, none⟩ (.slice A' (x3.length + 1) c')).heap[k]? = w4.heap[k]? := fun k hk => set_other _ _ _ _ k hk
  have hne : ∀ {e : TypeId} {size n : Nat} {v : Value} {xs : List Value}, w4.ownsRow (W.heap.size + 1) e size v n xs → (w4.setCell ⟨W.heap.size, 4, none⟩ (.slice A' (x3.length + 1) c')).ownsRow (W.heap.size + 1) e size v n xs := fun hr => row_keep hr fun k hk1 => hk k (by have := row_base_le hr hk1; omega)
  refine ⟨⟨⟨hbel.os, hbel.tape, hbel.output, by rw [set_size]; exact hbel.size, fun k hk1 => (hk k (by omega)).trans (hbel.block k hk1)⟩, ?_, ?_, hne hr, ?_, fun k hk1 => ?_⟩, (hB.cell 4).trans rfl, hB.frozen 4, hB.lt⟩
  · have := hB.set_ 4 (.slice A' (x3.length + 1) c')
    have e : (x3 ++ [y]).length = x3.length + 1 := by simp
    rw [e]
    simpa [J5.ar] using this
  · exact hne (row_keep h.nrow fun k hk => hb k (row_lt h.nrow hk) (row_types h.nrow h.krow (by decide) hk))
  · exact hne (row_keep h.row8 fun k hk => hb k (row_lt h.row8 hk) (fun e => h.ap k e hk))
  · rcases ho with e | e
    · rw [e] at hk1; exact h.ap k hk1
    · rw [e] at hk1
      injection hk1 with e2
      intro hk8
      have := row_lt h.row8 hk8
      omega
end
def leafX (x : J5) : Prop := x = ⟨x.kind, x.text, x.num, none, 0, 0, none, 0, 0⟩
def jOf (x : J5) : Jv := .mk x.kind x.text x.num [] []
theorem leafX_at {x : J5} (h : leafX x) (w : World) (ok : Nat → Prop) : JAt w ok (jOf x) x := by
  have := leafJ w ok x.kind x.text x.num
  unfold jOf
  rw [h]
  exact this
theorem names_none {w : World} {ok : Nat → Prop} {A : Option Addr} {ns : List (List UInt8)} (h : NamesAt w ok A ns) (hA : A = none) : ns = [] := by
  rcases Nat.eq_zero_or_pos ns.length with h0 | h0
  · exact List.eq_nil_of_length_eq_zero h0
  · obtain ⟨b, o, e, -⟩ := h h0
    rw [hA] at e
    cases e
/-- The second loop: just the kids' row turns. -/
structure L2 (w8 wr : World) (b8 N : Nat) : Prop where
  os : wr.os = w8.os
  tape : wr.tape = w8.tape
  output : wr.output = w8.output
  size : wr.heap.size = w8.heap.size
  same : ∀ k, k ≠ b8 → wr.heap[k]? = w8.heap[k]?
  blk : ∃ cs, Blk wr b8 40 cs ∧ cs.size = N
theorem L2.store {w8 wr : World} {b8 N : Nat} (h : L2 w8 wr b8 N) (i : Nat) (v : Value) : L2 w8 (wr.setCell ⟨b8, i, none⟩ v) b8 N := by
  obtain ⟨cs, hb, hs⟩ := h.blk
  exact ⟨h.os, h.tape, h.output, by rw [set_size]; exact h.size, fun k hk => (set_other _ _ _ _ k hk).trans (h.same k hk), _, hb.set_ i v, by simpa using hs⟩
theorem made_at {w : World} {ok1 : Nat → Prop} {A B : Option Addr} {ns : List (List UInt8)} {c d : Nat} {xs : List J5} (hN : NamesAt w ok1 A ns) (hK : KidsAt w ok1 B xs) (hc : ns.length ≤ c) (hd : xs.length ≤ d) (hn : ns.length ≤ 1000000) (hx : xs.length ≤ 1000000) (hl : ∀ x ∈ xs, leafX x) :
    JAt w ok1 (.mk 4 [] 0 ns (xs.map jOf)) ⟨4, [], 0, A, ns.length, c, B, xs.length, d⟩ :=
  .mk ⟨4, [], 0, A, ns.length, c, B, xs.length, d⟩ ns (xs.map jOf) xs rfl hc (by simp) (by simpa using hd) (by omega) (by simp; omega) hN (by simp) hK (fun i h h' => by
    simp only [List.getElem_map]
    exact leafX_at (hl _ (List.getElem_mem h')) w ok1)
theorem law_JsonMakes (A : Option Addr) (nms : List (List UInt8)) (cA : Nat) (B : Option Addr) (ls : List (List UInt8)) (cB : Nat) (n : Int) (W : World) (hA : NamesAt W (fun _ => True) A nms) (hB : NamesAt W (fun _ => True) B ls) (hca : nms.length ≤ cA) (hcb : ls.length ≤ cB) (hla : (cA : Int) ≤ 9223372036854775807) (hlb : (cB : Int) ≤ 9223372036854775807) (hL : LibW W) :
    Calls Tryd.prog 7 #[.slice A nms.length cA, .slice B ls.length cB, .int .i64 n] W fun e w' => e = .returned (.bool true) ∧ Below W.heap.size W w' := by
  have HL := hid (fun W' (hb : Below W.heap.size W W') => hL.below hb)
  have HA := hid hA
  have HBN := hid hB
  clear hL hA hB
  go_enter Tryd.func7, Tryd.ntmps7
  go_upto_if 14 with fail
  go_cut [0] (fun v wr => Hid (wr = W) ∧ ∃ c, v = .slice A (nms.take 5).length c)
  case first =>
    by_cases h : nms.length ≤ 5
    · have h1 : ¬ (5 : Int) < nms.length := by omega
      go_wp2_with fail
      go_meet
      exact ⟨(by first | exact hid rfl | exact hid trivial), cA, by rw [List.take_of_length_le h]⟩
    · obtain ⟨b, o, rfl, -⟩ := HA.out (by omega)
      have h1 : (5 : Int) < nms.length := by omega
      have h2 : (5 : Int) ≤ nms.length := by omega
      have h3 : (5 : Int) ≤ cA := by omega
      have h4 := hid (show (nms.take 5).length = 5 by simp; omega)
      go_wp2_with fail
      go_meet
      exact ⟨(by first | exact hid rfl | exact hid trivial), _, by rw [h4.out]⟩
  case rest =>
  obtain ⟨hw, cN, rfl⟩ := hcut
  obtain rfl := hw.out
  have HN := hid (HA.out.take 5)
  have hns : (nms.take 5).length ≤ 5 := by simp; omega
  generalize nms.take 5 = ns at *
  clear hw HA hca hla
  go_upto_if 19 with fail
  go_cut [1] (fun v wr => Hid (wr = wc) ∧ ∃ c, v = .slice B (ls.take 5).length c)
  case first =>
    by_cases h : ls.length ≤ 5
    · have h1 : ¬ (5 : Int) < ls.length := by omega
      go_wp2_with fail
      go_meet
      exact ⟨(by first | exact hid rfl | exact hid trivial), cB, by rw [List.take_of_length_le h]⟩
    · obtain ⟨b, o, rfl, -⟩ := HBN.out (by omega)
      have h1 : (5 : Int) < ls.length := by omega
      have h2 : (5 : Int) ≤ ls.length := by omega
      have h3 : (5 : Int) ≤ cB := by omega
      have h4 := hid (show (ls.take 5).length = 5 by simp; omega)
      go_wp2_with fail
      go_meet
      exact ⟨(by first | exact hid rfl | exact hid trivial), _, by rw [h4.out]⟩
  case rest =>
  obtain ⟨hw, cT, rfl⟩ := hcut
  obtain rfl := hw.out
  have HT := hid (HBN.out.take 5)
  have hts : (ls.take 5).length ≤ 5 := by simp; omega
  generalize ls.take 5 = ts at *
  clear hw HBN hcb hlb
  have b1 := (Below.refl wc.heap.size wc).alloc (Nat.le_refl _) (.cells (J5.ar ⟨4, [], 0, none, 0, 0, none, 0, 0⟩) 40)
  have BK := Blk.new wc 40 (J5.ar ⟨4, [], 0, none, 0, 0, none, 0, 0⟩)
  obtain ⟨A1, c1, w1, hrun1, hrow1, hb1⟩ := append_names (W := wc.alloc (.cells (J5.ar ⟨4, [], 0, none, 0, 0, none, 0, 0⟩) 40)) (base := wc.heap.size + 1) ns cN (HN.out.keep (ok' := fun _ => True) (fun k _ hlt => b1.block k hlt) b1.size (fun k h _ => h)) (by omega) (by rw [alloc_size]; omega)
  have BK1 := BK.below hb1 BK.lt
  have BELL := bt b1 hb1
  have M0 : Hid (MK wc (w1.setCell ⟨wc.heap.size, 3, none⟩ (.slice A1 ns.length c1)) ns A1 c1 none 0 none 0 [] []) := by
    have hk : ∀ k, k ≠ wc.heap.size → (w1.setCell ⟨wc.heap.size, 3, none⟩ (.slice A1 ns.length c1)).heap[k]? = w1.heap[k]? := fun k hk => set_other _ _ _ _ k hk
    refine hid ⟨⟨BELL.os, BELL.tape, BELL.output, by rw [set_size]; exact BELL.size, fun k hk1 => (hk k (by omega)).trans (BELL.block k hk1)⟩, ?_, row_keep hrow1 fun k hk1 => hk k (by have := row_base_le hrow1 hk1; omega), World.ownsRow_nil _ _ _ _, World.ownsRow_nil _ _ _ _, fun k hk1 => by cases hk1⟩
    have := BK1.set_ 3 (.slice A1 ns.length c1)
    simpa [J5.ar] using this
  have x3 : w1.cell? ⟨wc.heap.size, 3, none⟩ = some (.slice none 0 0) := (BK1.cell 3).trans rfl
  have f3 := BK1.frozen 3
  have l3 : wc.heap.size < w1.heap.size := BK1.lt
  clear b1 BK hrow1 hb1 BK1 BELL
  go_wp2_with (first | (at_builtin; refine wpList_append_run rfl _ _ _ (by rfl) _ _ _ _ (by rfl) (by rfl) hrun1 ?_))
  go_loopw [8, 9] (fun o i wr => ∃ (A3 : Option Addr) (c3 : Nat) (A8 : Option Addr) (c8 : Nat) (xs : List J5), o = .slice A8 xs.length c8 ∧ xs.length ≤ ts.length ∧ i = .int .i64 xs.length ∧ Hid (∀ x ∈ xs, leafX x) ∧ Hid (MK wc wr ns A1 c1 A3 c3 A8 c8 xs xs)) (fun _ i _ => 10 - (intOf i).toNat)
  case atStart => exact ⟨none, 0, none, 0, [], rfl, Nat.zero_le _, rfl, (fun x hx => by cases hx), M0⟩
  case round =>
    clear M0 x3 f3 l3 hrun1
    obtain ⟨A3, c3, A8, c8, xs, rfl, hle, rfl, hlf, hM⟩ := hrel
    by_cases hlt : xs.length < ts.length
    · obtain ⟨bb, oo, rfl, -, lb, hcs⟩ := HT.out (by omega)
      have HC := hid (show ∀ w', Below wc.heap.size wc w' → w'.cell? ⟨bb, oo + xs.length, none⟩ = some (.string (S ts[xs.length])) from fun w' hw => (hw.cell (p := ⟨bb, oo + xs.length, none⟩) lb).trans (hcs _ hlt))
      have hc0 := HC.out wr hM.out.bel
      clear hcs
      generalize ts[xs.length] = tt at *
      go_wp2_with fail
      refine (js_Text tt wr).mono ?_
      rintro e w2 ⟨rfl, h2⟩
      have M2 := hid (hM.out.below h2)
      obtain ⟨A8', c8', w3, hrun3, hrow3, hs3, hk3, hw3, ho3⟩ := append_json (leafT tt) M2.out.row8 (by omega) (by have := M2.out.bel.size; have := M2.out.cells.2.2.2.2; omega)
      have M3 := hid (M2.out.app8 hrow3 hk3 hw3 ho3)
      clear hrow3 hs3 hk3 hw3 ho3 h2 hM hc0
      go_wp2_with (first | (at_builtin; refine wpList_append_run rfl _ _ _ (by rfl) _ _ _ _ (by rfl) (by rfl) hrun3 ?_))
      clear hrun3 M2
      have M3d := hid (M3.out.below ((Below.refl _ _).drew))
      obtain ⟨A3', c3', w4, hrun4, hrow4, hs4, hk4, hw4, ho4⟩ := append_json (W := w3.drew) (leafT tt) M3d.out.krow (by omega) (by have := M3d.out.cells.2.2.2.2; omega)
      obtain ⟨m5, y4, g4, l4⟩ := M3d.out.app3 hrow4 hs4 hk4 hw4 ho4
      have M5 := hid m5
      have c0 := HC.out w3 M3.out.bel
      have c4 := HC.out w4 (M3d.out.bel.trans (hw4.mono (by omega)))
      obtain ⟨-, x4, -, f4, l5⟩ := M3.out.cells
      have lb3 : bb < w3.heap.size := by have := M3.out.bel.size; omega
      have lb4 : bb < w4.heap.size := by have := M3.out.bel.size; have : w3.drew.heap.size = w3.heap.size := rfl; omega
      have HLF := hid (show ∀ x ∈ xs ++ [leafT tt], leafX x from fun x hx => by
        rcases List.mem_append.1 hx with h | h
        · exact hlf.out x h
        · simp at h; subst h; rfl)
      clear hrow4 hs4 hk4 hw4 ho4 m5 hlf M3
      go_upto_region 12 with fail
      refine region_anyK (fun w' => w'.cell? ⟨wc.heap.size, 4, none⟩ = some (.slice A3 xs.length c3) ∧ w'.frozen? ⟨wc.heap.size, 4, none⟩ = false ∧ w'.cell? ⟨bb, oo + xs.length, none⟩ = some (.string (S tt))) 10 (by kernel_rfl) (by ((try dsimp only); first | assumption | simp [*, go_sem, World.cell?_alloc_past])) (fun hSk => ?_)
      refine anyK_take 0 [0] (v := ?_) rfl (by kernel_rfl) (by kernel_rfl) (fun _ _ _ h => h) (Or.inl ⟨by rfl, ?_⟩) hSk ?_
      rotate_left
      · intro w' hSw; (try dsimp only at hSw); go_simp; try with_reducible rfl
      try simp only [List.getElem_toArray, List.getElem_cons_succ, List.getElem_cons_zero, Act.put, List.setIfInBounds_toArray, List.set_cons_zero, List.set_cons_succ]
      refine anyK_take 1 [1] (v := ?_) rfl (by kernel_rfl) (by kernel_rfl) (fun _ _ _ h => h) (Or.inl ⟨by rfl, ?_⟩) hSk ?_
      rotate_left
      · intro w' hSw; (try dsimp only at hSw); go_simp; try with_reducible rfl
      try simp only [List.getElem_toArray, List.getElem_cons_succ, List.getElem_cons_zero, Act.put, List.setIfInBounds_toArray, List.set_cons_zero, List.set_cons_succ]
      refine anyK_take 2 [2] (v := ?_) rfl (by kernel_rfl) (by kernel_rfl) (fun _ _ _ h => h) (Or.inl ⟨by rfl, ?_⟩) hSk ?_
      rotate_left
      · intro w' hSw; (try dsimp only at hSw); go_simp; try with_reducible rfl
      try simp only [List.getElem_toArray, List.getElem_cons_succ, List.getElem_cons_zero, Act.put, List.setIfInBounds_toArray, List.set_cons_zero, List.set_cons_succ]
      refine anyK_take 3 [3] (v := ?_) rfl (by kernel_rfl) (by kernel_rfl) (fun _ _ _ h => h) (Or.inl ⟨by rfl, ?_⟩) hSk ?_
      rotate_left
      · intro w' hSw; (try dsimp only at hSw); go_simp; try with_reducible rfl
      try simp only [List.getElem_toArray, List.getElem_cons_succ, List.getElem_cons_zero, Act.put, List.setIfInBounds_toArray, List.set_cons_zero, List.set_cons_succ]
      refine anyK_take 4 [4] (v := ?_) rfl (by kernel_rfl) (by kernel_rfl) (fun _ _ _ h => h) (Or.inl ⟨by rfl, ?_⟩) hSk ?_
      rotate_left
      · intro w' hSw; (try dsimp only at hSw); go_simp; try with_reducible rfl
      try simp only [List.getElem_toArray, List.getElem_cons_succ, List.getElem_cons_zero, Act.put, List.setIfInBounds_toArray, List.set_cons_zero, List.set_cons_succ]
      refine anyK_take 5 [5] (v := ?_) rfl (by kernel_rfl) (by kernel_rfl) (fun _ _ _ h => h) (Or.inl ⟨by rfl, ?_⟩) hSk ?_
      rotate_left
      · intro w' hSw; (try dsimp only at hSw); go_simp; try with_reducible rfl
      try simp only [List.getElem_toArray, List.getElem_cons_succ, List.getElem_cons_zero, Act.put, List.setIfInBounds_toArray, List.set_cons_zero, List.set_cons_succ]
      refine anyK_take 6 [6] (v := ?_) rfl (by kernel_rfl) (by kernel_rfl) (fun _ _ _ h => h) (Or.inl ⟨by rfl, ?_⟩) hSk ?_
      rotate_left
      · intro w' hSw; (try dsimp only at hSw); go_simp; try with_reducible rfl
      try simp only [List.getElem_toArray, List.getElem_cons_succ, List.getElem_cons_zero, Act.put, List.setIfInBounds_toArray, List.set_cons_zero, List.set_cons_succ]
      refine anyK_only 7 (by kernel_rfl) rfl (fun K hK => ?_)
      (first | (refine step_append_run rfl _ _ _ (by rfl) _ _ _ _ (by rfl) (by rfl) hrun4 ?_) | go_simp)
      clear hSk
      refine hK.out _ _ (by ((try dsimp only); first | assumption | simp [*, go_sem, World.cell?_alloc_past])) (fun hSk => ?_)
      clear hK K
      try simp only [List.getElem_toArray, List.getElem_cons_succ, List.getElem_cons_zero, Act.put, List.setIfInBounds_toArray, List.set_cons_zero, List.set_cons_succ]
      refine anyK_only 8 (by kernel_rfl) rfl (fun K hK => ?_)
      (first | (refine step_append_run rfl _ _ _ (by rfl) _ _ _ _ (by rfl) (by rfl) hrun4 ?_) | go_simp)
      clear hSk
      refine hK.out _ _ (by ((try dsimp only); first | assumption | simp [*, go_sem, World.cell?_alloc_past])) (fun hSk => ?_)
      clear hK K
      try simp only [List.getElem_toArray, List.getElem_cons_succ, List.getElem_cons_zero, Act.put, List.setIfInBounds_toArray, List.set_cons_zero, List.set_cons_succ]
      refine anyK_take 9 [9] (v := ?_) rfl (by kernel_rfl) (by kernel_rfl) (fun _ _ _ h => h) (Or.inl ⟨by rfl, ?_⟩) hSk ?_
      rotate_left
      · intro w' hSw; (try dsimp only at hSw); go_simp; try with_reducible rfl
      try simp only [List.getElem_toArray, List.getElem_cons_succ, List.getElem_cons_zero, Act.put, List.setIfInBounds_toArray, List.set_cons_zero, List.set_cons_succ]
      refine anyK_last (by kernel_rfl) rfl (by kernel_rfl) (fun K hK => ?_)
      go_simp
      refine hK.out _ _ ?_
      clear hK K
      try simp only [List.getElem_toArray, List.getElem_cons_succ, List.getElem_cons_zero, Act.put, List.setIfInBounds_toArray, List.set_cons_zero, List.set_cons_succ]
      refine anyK_done (by kernel_rfl) ?_ _
      go_wp2
      go_roundw
      case rel => exact ⟨A3', c3', A8', c8', xs ++ [leafT tt], by simp, by simp; omega, by simp, HLF, M5⟩
      case measure => simp [intOf]; omega
    · have hxl : xs.length = ts.length := by omega
      have hx5 : xs.length ≤ 5 := by omega
      have HLF := hid (show ∀ x ∈ xs ++ [leafI n], leafX x from fun x hx => by
        rcases List.mem_append.1 hx with h | h
        · exact hlf.out x h
        · simp at h; subst h; rfl)
      clear hle hlf hxl
      go_wp2_with fail
      refine (js_Int n wr).mono ?_
      rintro e w2 ⟨rfl, h2⟩
      have M2 := hid (hM.out.below h2)
      obtain ⟨A8', c8', w3, hrun3, hrow3, hs3, hk3, hw3, ho3⟩ := append_json (leafI n) M2.out.row8 (by omega) (by have := M2.out.cells.2.2.2.2; omega)
      have M3 := hid (M2.out.app8 hrow3 hk3 hw3 ho3)
      clear hrow3 hs3 hk3 hw3 ho3 h2 hM
      obtain ⟨A3', c3', w4, hrun4, hrow4, hs4, hk4, hw4, ho4⟩ := append_json (W := w3) (leafI n) M3.out.krow (by omega) (by have := M3.out.cells.2.2.2.2; omega)
      obtain ⟨m5, y4, g4, l4⟩ := M3.out.app3 hrow4 hs4 hk4 hw4 ho4
      have M5 := hid m5
      obtain ⟨-, x4, -, f4, l5⟩ := M3.out.cells
      clear hrow4 hs4 hk4 hw4 ho4 m5 M3 M2
      go_wp2_with (first | (at_builtin; refine wpList_append_run rfl _ _ _ (by rfl) _ _ _ _ (by rfl) (by rfl) hrun3 ?_) | (at_builtin; refine wpList_append_run rfl _ _ _ (by rfl) _ _ _ _ (by rfl) (by rfl) hrun4 ?_))
      obtain ⟨ys, hys⟩ : ∃ ys, ys = xs ++ [leafI n] := ⟨_, rfl⟩
      have HYL := hid (show ys.length = xs.length + 1 by rw [hys]; simp)
      rw [← hys] at M5 HLF
      clear hys
      obtain ⟨b8, o8, rfl, hb8, lb8, hc8⟩ := (kids_row M5.out.row8) (by have := HYL.out; omega)
      have HMAP := hid (js_Map (W := w4.setCell ⟨wc.heap.size, 4, none⟩ (.slice A3' (xs.length + 1) c3')) (ok := fun _ => True) ns cN (HN.out.keep (fun k _ hlt => M5.out.bel.block k hlt) M5.out.bel.size (fun k h _ => h)) (by omega) ys c8' (by have := HYL.out; omega) hc8 lb8 (names_none HN.out))
      rw [HYL.out] at HMAP
      have HB8 := hid hb8
      have HC8 := hid hc8
      clear hb8 hc8 x4 f4 l5 y4 g4 l4
      go_wp2_with fail
      refine HMAP.out.mono ?_
      rintro e w7 ⟨A', c', B', d', rfl, rN, rK, b7⟩
      have M7 := hid (M5.out.below b7)
      have hsz5 : b8 < (w4.setCell ⟨wc.heap.size, 4, none⟩ (.slice A3' (xs.length + 1) c3')).heap.size := lb8
      have hsz7 : b8 < w7.heap.size := Nat.lt_of_lt_of_le lb8 b7.size
      obtain ⟨cs8, hcs8⟩ := row_heap M7.out.row8 (k := b8) rfl
      have HIN := hid (show ∀ i, i < xs.length + 1 → o8 + i * 5 + 1 < cs8.size from fun i hi => by
        have h1 := HC8.out i (by have := HYL.out; omega) 1 _ rfl
        have h2 := (cell_same (b7.block b8 lb8) (o8 + (i * 5 + 1))).trans h1
        rw [Blk.cell (show Blk w7 b8 40 cs8 from hcs8)] at h2
        have := (Array.getElem?_eq_some_iff.1 h2).1
        omega)
      have RN := hid rN
      have RK := hid rK
      have L0 : Hid (L2 (w7.alloc (.cells (J5.ar ⟨4, [], 0, A', ns.length, c', B', xs.length + 1, d'⟩) 40)) (w7.alloc (.cells (J5.ar ⟨4, [], 0, A', ns.length, c', B', xs.length + 1, d'⟩) 40)) b8 cs8.size) :=
        hid ⟨rfl, rfl, rfl, rfl, fun _ _ => rfl, cs8, (show Blk w7 b8 40 cs8 from hcs8).alloc _, rfl⟩
      have BG := hid (Blk.new w7 40 (J5.ar ⟨4, [], 0, A', ns.length, c', B', xs.length + 1, d'⟩))
      have B7L := hid (show b8 < (w4.setCell ⟨wc.heap.size, 4, none⟩ (.slice A3' (xs.length + 1) c3')).heap.size ∧ (w4.setCell ⟨wc.heap.size, 4, none⟩ (.slice A3' (xs.length + 1) c3')).heap.size ≤ w7.heap.size from ⟨lb8, b7.size⟩)
      clear rN rK b7 hcs8 HMAP HC8 lb8 hsz5 M5
      go_wp2
      go_loopw [11] (fun i wr => ∃ k : Nat, k ≤ xs.length + 1 ∧ i = .int .i64 k ∧ Hid (L2 (w7.alloc (.cells (J5.ar ⟨4, [], 0, A', ns.length, c', B', xs.length + 1, d'⟩) 40)) wr b8 cs8.size)) (fun i _ => 10 - (intOf i).toNat)
      case atStart => exact ⟨0, Nat.zero_le _, rfl, L0⟩
      case round =>
        clear L0
        obtain ⟨k, hk, rfl, hL⟩ := hrel
        by_cases hlt2 : k < xs.length + 1
        · have hin := HIN.out k hlt2
          have LS := hid (hL.out.store (o8 + k * 5 + 1) (.string (S [120])))
          obtain ⟨cs, hbk, hsz⟩ := hL.out.blk
          have cc : wr.cell? ⟨b8, o8 + k * 5 + 1, none⟩ = some (cs[o8 + k * 5 + 1]'(by omega)) := (hbk.cell _).trans (Array.getElem?_eq_getElem (by omega))
          have ff := hbk.frozen (o8 + k * 5 + 1)
          generalize cs[o8 + k * 5 + 1]'(by omega) = old at *
          clear hbk hsz hin
          go_wp2
          go_roundw
          case rel => exact ⟨k + 1, by omega, by go_num, LS⟩
          case measure => simp [intOf]; omega
        · have hne10 : w7.heap.size ≠ b8 := by omega
          have hne0 : wc.heap.size ≠ b8 := by have := HB8.out; omega
          have hw8 : ∀ k, k < w7.heap.size → k ≠ b8 → wr.heap[k]? = w7.heap[k]? := fun k hk hne => (hL.out.same k hne).trans (((Below.refl _ _).alloc (Nat.le_refl _) _).block k hk)
          have GB : Blk wr w7.heap.size 40 (J5.ar ⟨4, [], 0, A', ns.length, c', B', xs.length + 1, d'⟩) := (hL.out.same _ hne10).trans BG.out
          have WB : Blk wr wc.heap.size 40 (J5.ar ⟨4, [], 0, A1, ns.length, c1, A3', ys.length, c3'⟩) := (hw8 _ M7.out.blk.lt hne0).trans M7.out.blk
          rw [HYL.out] at WB
          have rN := row_keep RN.out fun k hk => hw8 k (row_lt RN.out hk) (by have := row_base_le RN.out hk; have := B7L.out.1; omega)
          have rK := RK.out
          rw [← HYL.out] at rK
          have rK' := row_keep rK fun k hk => hw8 k (row_lt rK hk) (by have h1 := row_base_le rK hk; have h2 := B7L.out.1; rw [set_size] at h1 h2; omega)
          have rN2 := row_keep M7.out.nrow fun k hk => hw8 k (row_lt M7.out.nrow hk) (fun e => row_types M7.out.nrow M7.out.row8 (by decide) hk (by rw [e]; rfl))
          have rK2 := row_keep M7.out.krow fun k hk => hw8 k (row_lt M7.out.krow hk) (fun e => M7.out.ap k hk (by rw [e]; rfl))
          have tr : ∀ {w : World} {ok : Nat → Prop} {A : Option Addr} {ns : List (List UInt8)}, NamesAt w ok A ns → NamesAt w (fun _ => True) A ns := fun h => h.keep (fun _ _ _ => rfl) (Nat.le_refl _) (fun _ _ _ => trivial)
          have tr2 : ∀ {w : World} {ok : Nat → Prop} {A : Option Addr} {xs : List J5}, KidsAt w ok A xs → KidsAt w (fun _ => True) A xs := fun h => h.keep (fun _ _ _ => rfl) (Nat.le_refl _) (fun _ _ _ => trivial)
          have hy6 : ys.length ≤ 1000000 := by have := HYL.out; omega
          have JG := made_at (tr (names_row rN)) (tr2 (kids_row rK')) (row_cap rN) (row_cap rK') (by omega) hy6 HLF.out
          have JW := made_at (tr (names_row rN2)) (tr2 (kids_row rK2)) (row_cap rN2) (row_cap rK2) (by omega) hy6 HLF.out
          have SM := hid (ref06_Same JG JW wr (Below.refl _ _))
          rw [HYL.out] at SM
          have BW := hid (show Below wc.heap.size wc wr from ⟨hL.out.os.trans M7.out.bel.os, hL.out.tape.trans M7.out.bel.tape, hL.out.output.trans M7.out.bel.output, by rw [hL.out.size, alloc_size]; have := M7.out.bel.size; omega, fun k hk => by
            have hb := HB8.out
            have hs := M7.out.bel.size
            exact (hw8 k (by omega) (by omega)).trans (M7.out.bel.block k hk)⟩)
          obtain ⟨g0, g1, g2, g3, g4⟩ := ar5 GB
          obtain ⟨v0, v1, v2, v3, v4⟩ := ar5 WB
          have LV := hid (fun (w9 : World) (h : Below wc.heap.size wc w9) => js_lives w9 (fun W' h2 => HL.out W' (bt h h2)))
          simp only [] at g0 g1 g2 g3 g4 v0 v1 v2 v3 v4
          clear hw8 GB WB rN rK rK' rN2 rK2 tr tr2 JG JW hL HIN
          go_wp2_with fail
          refine SM.out.mono ?_
          rintro e w9 ⟨rfl, b9⟩
          have B9 := hid (bt BW.out b9)
          clear b9
          go_wp2_with fail
          refine (LV.out _ B9.out).mono ?_
          rintro e w10 ⟨rfl, b10⟩
          have HF := hid (bt B9.out b10)
          clear b10
          go_wp2
          go_ret
          exact ⟨rfl, HF.out⟩
theorem row_JsonMakes (A : Option Addr) (n cap : Nat) (l : List (List UInt8)) (A2 : Option Addr) (n2 cap2 : Nat) (l2 : List (List UInt8)) (k : Int) (w : World) (h : n = l.length ∧ l.length ≤ cap ∧ (cap : Int) ≤ 9223372036854775807 ∧ NamesAt w (fun _ => True) A l) (h2 : n2 = l2.length ∧ l2.length ≤ cap2 ∧ (cap2 : Int) ≤ 9223372036854775807 ∧ NamesAt w (fun _ => True) A2 l2) (hk : (Lit.int .i64 k).wf = true) (hL : LibW w) :
    Calls Tryd.prog 7 #[.slice A n cap, .slice A2 n2 cap2, .int .i64 k] w fun e w' => e = .returned (.bool true) ∧ Below w.heap.size w w' := by
  obtain ⟨rfl, h1, h3, h4⟩ := h
  obtain ⟨rfl, g1, g3, g4⟩ := h2
  exact law_JsonMakes A l cap A2 l2 cap2 k w h4 g4 h1 g1 h3 g3 hL
end Go.Proofs.YtbjimikppdfmgaaDoor
