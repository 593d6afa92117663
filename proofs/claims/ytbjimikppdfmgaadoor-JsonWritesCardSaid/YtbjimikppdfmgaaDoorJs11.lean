/- Walk of (*json.reader).value$1: a map's kid. -/
import Derived.Test.YtbjimikppdfmgaaDoorJs10
import Derived.Test.YtbjimikppdfmgaaDoorJsN
import Derived.Deep.DeepCutAuto
set_option linter.unusedVariables false
set_option linter.unusedSimpArgs false
set_option maxHeartbeats 8000000
set_option maxRecDepth 100000
namespace Go.Proofs.YtbjimikppdfmgaaDoor
open Go.RowKit

/-- A map under way: a box with the reader, the value with its names, the row of names. -/
structure MapI (W0 : World) (g : Nat) (W : World) (A : Option Addr) (c : Nat) (ns : List (List UInt8)) (fq : Nat → Prop) : Prop where
  box : Blk W W0.heap.size 85 #[.pointer (some ⟨g, 0, none⟩)]
  val : Blk W (W0.heap.size + 1 + 1) 40 (J5.arr ⟨4, [], 0, A, ns.length, c, none, 0, 0⟩)
  row : W.ownsRow (W0.heap.size + 1 + 1 + 1) 9 1 (.slice A ns.length c) ns.length (ns.map sV)
  fqi : ∀ k, fq k ↔ k = W0.heap.size ∨ k = W0.heap.size + 1 + 1 ∨ (Value.slice A ns.length c).ownBlock = some k
  few : ns.length ≤ 1000000
section
variable {W0 W W' : World} {g : Nat} {A : Option Addr} {c : Nat} {ns : List (List UInt8)} {fq : Nat → Prop}
theorem MapI.lt (h : MapI W0 g W A c ns fq) : ∀ k, fq k → k < W.heap.size := fun k hk => by
  rcases (h.fqi k).1 hk with rfl | rfl | h1
  · exact h.box.lt
  · exact h.val.lt
  · obtain ⟨cs, hcs⟩ := row_heap h.row h1
    exact (Array.getElem?_eq_some_iff.1 hcs).1
theorem MapI.ge (h : MapI W0 g W A c ns fq) : ∀ k, fq k → W0.heap.size ≤ k := fun k hk => by
  rcases (h.fqi k).1 hk with rfl | rfl | h1
  · omega
  · omega
  · have := row_base_le h.row h1; omega
theorem MapI.keep (h : MapI W0 g W A c ns fq) (hk : ∀ k, fq k → W'.heap[k]? = W.heap[k]?) : MapI W0 g W' A c ns fq :=
  ⟨(hk _ ((h.fqi _).2 (.inl rfl))).trans h.box, (hk _ ((h.fqi _).2 (.inr (.inl rfl)))).trans h.val, row_keep h.row fun k h1 => hk k ((h.fqi k).2 (.inr (.inr h1))), h.fqi, h.few⟩
end
def mapT (W0 : World) (g : Nat) : Taker (List (List UInt8)) where
  I ns fq W := ∃ A c, MapI W0 g W A c ns fq
  lt ns fq W h := by
    obtain ⟨A, c, h⟩ := h
    exact h.lt
  keep ns fq W W' h hs hk := by
    obtain ⟨A, c, h⟩ := h
    exact ⟨A, c, h.keep hk⟩
/-- The worlds of value$1. -/
structure KW (W0 W wr : World) (g : Nat) (fq0 : Nat → Prop) (s : List UInt8) (d : Int) (b : Bool) (A : Option Addr) (c : Nat) (ns : List (List UInt8)) (fq : Nat → Prop) : Prop where
  rd : Rd wr g s d b
  mi : MapI W0 g wr A c ns fq
  res : Blk wr W.heap.size 40 zeroJ.arr
  tou : Touch W wr (orG g fq0) (orG g fq)
  glt : g < W0.heap.size
  wlt : W0.heap.size + 1 + 1 < W.heap.size
  sep : ∀ k, fq k → k ≠ W.heap.size
section
variable {W0 W wr wn : World} {g : Nat} {fq0 fq : Nat → Prop} {s s' : List UInt8} {d : Int} {b b' : Bool} {A : Option Addr} {c : Nat} {ns : List (List UInt8)}
theorem KW.start (h : Rd W g s d b) (hm : MapI W0 g W A c ns fq) (hg : g < W0.heap.size) : KW W0 W (W.alloc (.cells zeroJ.arr 40)) g fq s d b A c ns fq := by
  have b1 : Below W.heap.size W (W.alloc (.cells zeroJ.arr 40)) := (Below.refl _ _).alloc (Nat.le_refl _) _
  exact ⟨((RdTo.refl h).below b1).blk, hm.keep (fun k hk => b1.block k (hm.lt k hk)), Blk.new W _ _, .of_below b1 _, hg, hm.val.lt, fun k hk => by have := hm.lt k hk; omega⟩
theorem KW.ng (h : KW W0 W wr g fq0 s d b A c ns fq) : ¬ fq g := fun hk => by have := h.mi.ge _ hk; have := h.glt; omega
theorem KW.read (h : KW W0 W wr g fq0 s d b A c ns fq) (hr : RdTo g wr wn s' d b') : KW W0 W wn g fq0 s' d b' A c ns fq := by
  have hg := h.glt
  have hw := h.wlt
  exact ⟨hr.blk, h.mi.keep (fun k hk => hr.tou.block k (h.mi.lt k hk) (fun e => h.ng (e ▸ hk))), (hr.tou.block _ h.res.lt (by omega)).trans h.res, h.tou.trans ⟨hr.tou.os, hr.tou.tape, hr.tou.output, hr.tou.size, fun k hk hn => hr.tou.block k hk (fun e => hn (.inl e)), fun k hk => .inl hk⟩, hg, hw, h.sep⟩
theorem KW.facts (h : KW W0 W wr g fq0 s d b A c ns fq) : wr.cell? ⟨W0.heap.size, 0, none⟩ = some (.pointer (some ⟨g, 0, none⟩)) ∧ wr.cell? ⟨W0.heap.size + 1 + 1, 3, none⟩ = some (.slice A ns.length c) ∧ wr.frozen? ⟨W0.heap.size + 1 + 1, 3, none⟩ = false ∧ (∀ i u, zeroJ.arr[i]? = some u → wr.cell? ⟨W.heap.size, i, none⟩ = some u) ∧ ∀ i, wr.frozen? ⟨W.heap.size, i, none⟩ = false :=
  ⟨h.mi.box.cell 0, (h.mi.val.cell 3).trans rfl, h.mi.val.frozen 3, fun i u hu => (h.res.cell i).trans hu, fun i => h.res.frozen i⟩
/-- A name comes behind. -/
theorem KW.name (h : KW W0 W wr g fq0 s d b A c ns fq) (hl : ns.length ≤ 100000) {y : List UInt8} {A' : Option Addr} {c' : Nat} {w4 : World} (hr : w4.ownsRow (W0.heap.size + 1 + 1 + 1) 9 1 (.slice A' (ns ++ [y]).length c') (ns ++ [y]).length ((ns ++ [y]).map sV)) (hs : w4.heap.size ≥ wr.heap.size)
    (hb : ∀ k, k < wr.heap.size → (Value.slice A ns.length c).ownBlock ≠ some k → w4.heap[k]? = wr.heap[k]?) (hw : Below (W0.heap.size + 1 + 1 + 1) wr w4) (ho : (Value.slice A' (ns ++ [y]).length c').ownBlock = (Value.slice A ns.length c).ownBlock ∨ (Value.slice A' (ns ++ [y]).length c').ownBlock = some (wr.heap.size + 1)) :
    KW W0 W (w4.setCell ⟨W0.heap.size + 1 + 1, 3, none⟩ (.slice A' (ns ++ [y]).length c')) g fq0 s d b A' c' (ns ++ [y]) (fun k => k = W0.heap.size ∨ k = W0.heap.size + 1 + 1 ∨ (Value.slice A' (ns ++ [y]).length c').ownBlock = some k) := by
  have hg := h.glt
  have hlt := h.wlt
  have hnb : ∀ k, k < W0.heap.size + 1 + 1 + 1 → (Value.slice A ns.length c).ownBlock ≠ some k := fun k hk e => by have := row_base_le h.mi.row e; omega
  have hnb' : ∀ k, k < W0.heap.size + 1 + 1 + 1 → (Value.slice A' (ns ++ [y]).length c').ownBlock ≠ some k := fun k hk e => by have := row_base_le hr e; omega
  have hres := h.res.lt
  have hr1 : (Value.slice A ns.length c).ownBlock ≠ some W.heap.size := fun e => h.sep _ ((h.mi.fqi _).2 (.inr (.inr e))) rfl
  have hr2 : (Value.slice A' (ns ++ [y]).length c').ownBlock ≠ some W.heap.size := fun e => by
    rcases ho with h1 | h1
    · exact hr1 (h1 ▸ e)
    · rw [h1] at e; injection e with e; omega
  have gl := h.rd.lt
  have bl := h.mi.box.lt
  have vl := h.mi.val.lt
  refine ⟨?_, ⟨?_, ?_, ?_, fun k => Iff.rfl, by simp; omega⟩, ?_, ?_, hg, hlt, ?_⟩
  · exact (set_other _ _ _ _ g (by omega)).trans ((hb g gl (hnb g (by omega))).trans h.rd)
  · exact (set_other _ _ _ _ _ (by omega)).trans ((hb _ bl (hnb _ (by omega))).trans h.mi.box)
  · have := Blk.set_ ((hb _ vl (hnb _ (by omega))).trans h.mi.val) 3 (.slice A' (ns ++ [y]).length c')
    simpa [J5.arr] using this
  · exact row_keep hr fun k hk => set_other _ _ _ _ k (fun e => hnb' k (by omega) hk)
  · exact (set_other _ _ _ _ _ (by omega)).trans ((hb _ hres hr1).trans h.res)
  · have t := h.tou
    refine ⟨hw.os.trans t.os, hw.tape.trans t.tape, hw.output.trans t.output, by rw [set_size]; exact Nat.le_trans t.size hs, fun k hk hn => ?_, fun k hk => ?_⟩
    · have hsz := t.size
      have hkv : k ≠ W0.heap.size + 1 + 1 := fun e => by
        subst e
        rcases t.new _ (.inr ((h.mi.fqi _).2 (.inr (.inl rfl)))) with h1 | h1
        · exact hn h1
        · omega
      have hko : (Value.slice A ns.length c).ownBlock ≠ some k := fun e => by
        rcases t.new _ (.inr ((h.mi.fqi _).2 (.inr (.inr e)))) with h1 | h1
        · exact hn h1
        · omega
      exact (set_other _ _ _ _ k hkv).trans ((hb k (by omega) hko).trans (t.block k hk hn))
    · rcases hk with rfl | rfl | rfl | hk
      · exact .inl (.inl rfl)
      · exact t.new _ (.inr ((h.mi.fqi _).2 (.inl rfl)))
      · exact t.new _ (.inr ((h.mi.fqi _).2 (.inr (.inl rfl))))
      · rcases ho with h1 | h1
        · exact t.new _ (.inr ((h.mi.fqi _).2 (.inr (.inr (h1 ▸ hk)))))
        · rw [h1] at hk
          injection hk with hk
          have := t.size
          exact .inr (by omega)
  · rintro k (rfl | rfl | hk) e
    · omega
    · omega
    · exact hr2 (e ▸ hk)
theorem KW.name' (h : KW W0 W wr g fq0 s d b A c ns fq) (hl : ns.length ≤ 100000) {y : List UInt8} {A' : Option Addr} {c' : Nat} {w4 : World} (hr : w4.ownsRow (W0.heap.size + 1 + 1 + 1) 9 1 (.slice A' (ns ++ [y]).length c') (ns ++ [y]).length ((ns ++ [y]).map sV)) (hs : w4.heap.size ≥ wr.heap.size)
    (hb : ∀ k, k < wr.heap.size → (Value.slice A ns.length c).ownBlock ≠ some k → w4.heap[k]? = wr.heap[k]?) (hw : Below (W0.heap.size + 1 + 1 + 1) wr w4) (ho : (Value.slice A' (ns ++ [y]).length c').ownBlock = (Value.slice A ns.length c).ownBlock ∨ (Value.slice A' (ns ++ [y]).length c').ownBlock = some (wr.heap.size + 1)) :
    ∃ fq', KW W0 W (w4.setCell ⟨W0.heap.size + 1 + 1, 3, none⟩ (.slice A' (ns.length + 1) c')) g fq0 s d b A' c' (ns ++ [y]) fq' ∧ w4.frozen? ⟨W0.heap.size + 1 + 1, 3, none⟩ = false ∧ (∀ v, (w4.setCell ⟨W0.heap.size + 1 + 1, 3, none⟩ v).cell? ⟨W0.heap.size, 0, none⟩ = some (.pointer (some ⟨g, 0, none⟩))) ∧ ∃ v, w4.cell? ⟨W0.heap.size + 1 + 1, 3, none⟩ = some v := by
  have K := h.name hl hr hs hb hw ho
  have e : (ns ++ [y]).length = ns.length + 1 := by simp
  have hnb : ∀ k, k < W0.heap.size + 1 + 1 + 1 → (Value.slice A ns.length c).ownBlock ≠ some k := fun k hk e => by have := row_base_le h.mi.row e; omega
  have hV : Blk w4 (W0.heap.size + 1 + 1) 40 (J5.arr ⟨4, [], 0, A, ns.length, c, none, 0, 0⟩) := (hb _ h.mi.val.lt (hnb _ (by omega))).trans h.mi.val
  refine ⟨_, e ▸ K, hV.frozen 3, fun v => ?_, _, (hV.cell 3).trans rfl⟩
  rw [cell_same (set_other _ _ _ _ _ (by omega)), cell_same (hb _ h.mi.box.lt (hnb _ (by omega)))]
  exact h.facts.1
/-- What is told is stored: the end. -/
theorem KW.done (h : KW W0 W wr g fq0 s d b A c ns fq) {w6 : World} {R : Option (Jv × List UInt8)} {x : J5} {j : Jv} {q : List UInt8} (hrd : Rd w6 g q d R.isNone) (ht : Touch wr w6 (· = g) (· = g)) (hj : JAt w6 (fun k => wr.heap.size ≤ k) j x) (hp : ∀ p, R = some p → p = (j, q))
    {r : Option (Jv × List (List UInt8) × List UInt8)} (hr : r = R.map fun p => (p.1, ns, p.2)) {u0 u1 u2 u3 u4 : Value} :
    KidPost (mapT W0 g) g fq0 W d r (.returned (.agg #[.int .i64 x.kind, .string (S x.text), .int .i64 x.num, .slice x.nA x.nn x.nc, .slice x.kA x.kn x.kc])) (((((w6.setCell ⟨W.heap.size, 0, none⟩ u0).setCell ⟨W.heap.size, 1, none⟩ u1).setCell ⟨W.heap.size, 2, none⟩ u2).setCell ⟨W.heap.size, 3, none⟩ u3).setCell ⟨W.heap.size, 4, none⟩ u4) := by
  have hk : ∀ k, k ≠ W.heap.size → (((((w6.setCell ⟨W.heap.size, 0, none⟩ u0).setCell ⟨W.heap.size, 1, none⟩ u1).setCell ⟨W.heap.size, 2, none⟩ u2).setCell ⟨W.heap.size, 3, none⟩ u3).setCell ⟨W.heap.size, 4, none⟩ u4).heap[k]? = w6.heap[k]? := fun k hk => by
    rw [set_other _ _ _ _ k hk, set_other _ _ _ _ k hk, set_other _ _ _ _ k hk, set_other _ _ _ _ k hk, set_other _ _ _ _ k hk]
  have hs : (((((w6.setCell ⟨W.heap.size, 0, none⟩ u0).setCell ⟨W.heap.size, 1, none⟩ u1).setCell ⟨W.heap.size, 2, none⟩ u2).setCell ⟨W.heap.size, 3, none⟩ u3).setCell ⟨W.heap.size, 4, none⟩ u4).heap.size = w6.heap.size := by
    rw [set_size, set_size, set_size, set_size, set_size]
  have K := h.read ⟨hrd, ht⟩
  have hg := h.glt
  have hw := h.wlt
  have hres := h.res.lt
  have hsz := ht.size
  refine ⟨x, j, ns, fq, q, rfl, ?_, ⟨K.tou.os, K.tou.tape, K.tou.output, by rw [hs]; exact K.tou.size, fun k hk1 hn => (hk k (by omega)).trans (K.tou.block k hk1 hn), K.tou.new⟩, ?_, ⟨A, c, K.mi.keep fun k hk1 => hk k (K.sep k hk1)⟩, h.ng, ?_⟩
  · rw [hr, Option.isNone_map]
    exact (hk g (by omega)).trans hrd
  · exact hj.keep (fun k hk1 _ => hk k (by omega)) (by rw [hs]; exact Nat.le_refl _) (fun k hk1 _ => ⟨by have := h.tou.size; omega, fun hf => by have := h.mi.lt k hf; omega⟩)
  · intro p hp'
    rw [hr] at hp'
    cases hR : R with
    | none => rw [hR] at hp'; simp at hp'
    | some o =>
      rw [hR] at hp'
      have := hp o hR
      subst this
      simp at hp'
      exact hp'.symm
end
theorem touch_old {W0 W W' : World} {g : Nat} {fq fq' : Nat → Prop} (h : Touch W0 W (· = g) (· = g)) (t : Touch W W' (orG g fq) (orG g fq')) (hf : ∀ k, fq k → W0.heap.size ≤ k) : Touch W0 W' (· = g) (· = g) :=
  ⟨t.os.trans h.os, t.tape.trans h.tape, t.output.trans h.output, Nat.le_trans h.size t.size, fun k hk hn => (t.block k (Nat.lt_of_lt_of_le hk h.size) (fun e => by
    rcases e with e | e
    · exact hn e
    · have := hf k e; omega)).trans (h.block k hk hn), fun k hk => .inl hk⟩
/-- What the second region makes of a name. -/
def NameTo (v : List UInt8 → Option (Jv × List UInt8)) (ns : List (List UInt8)) (s nm q : List UInt8) (b : Bool) : Prop :=
  q.length < 70000 ∧ ((b = true ∧ kidM v ns s = none) ∨ (b = false ∧ kidM v ns s = (v q).map fun p => (p.1, ns ++ [nm], p.2)))
theorem text_skip_len {s t r : List UInt8} (h : textP s = some (t, r)) : r.length ≤ s.length := by have := text_len h; simp only [] at this; omega
theorem jr_kid_map (W0 : World) (g : Nat) (W : World) (A : Option Addr) (c : Nat) (ns : List (List UInt8)) (fq : Nat → Prop) (s : List UInt8) (d : Int) (h : Rd W g s d false) (hm : MapI W0 g W A c ns fq) (hg : g < W0.heap.size) (hT : Touch W0 W (· = g) (· = g)) (hn : ns.length ≤ 70000) (hs : s.length < 70000) (v : List UInt8 → Option (Jv × List UInt8))
    (VAL : ∀ W' s' b, s'.length < 70000 → Touch W0 W' (· = g) (· = g) → Rd W' g s' d b → Calls Tryd.prog 58 #[.pointer (some ⟨g, 0, none⟩)] W' (ValPost g W' d (if b then none else v s'))) :
    Calls Tryd.prog 98 #[.pointer (some ⟨W0.heap.size, 0, none⟩), .pointer (some ⟨W0.heap.size + 1 + 1, 0, none⟩)] W (KidPost (mapT W0 g) g fq W d (kidM v ns s)) := by
  have SG := hid (fun (W : World) (s : List UInt8) (d : Int) (b : Bool) (h : Rd W g s d b) (c : UInt8) => jr_sign h c)
  have TX := hid (fun (W : World) (h : Rd W g s d false) => jr_text h (by omega))
  have V := hid VAL
  have K0 := hid (KW.start h hm hg)
  have HT := hid hT
  have GE := hid hm.ge
  obtain ⟨c0, c1, c2, c3, c4⟩ := K0.out.facts
  have hc0 := hm.box.cell 0
  simp at hc0
  have hc1 : ∀ o, (W.alloc o).cell? ⟨W0.heap.size, 0, none⟩ = some (.pointer (some ⟨g, 0, none⟩)) := fun o => by
    rw [cell_same (((Below.refl _ _).alloc (Nat.le_refl _) o).block _ hm.box.lt)]; exact hc0
  clear VAL h hm hT c0 c1 c2 c3 c4 hc0
  go_enter Tryd.func98, Tryd.ntmps98
  go_wp2_with fail
  refine (TX.out _ K0.out.rd).mono ?_
  intro e w2 hT
  have CTX : ∃ nm s1 b1, e = .returned (.string (S nm)) ∧ RdTo g (W.alloc (.cells zeroJ.arr 40)) w2 s1 d b1 ∧ s1.length < 70000 ∧ ((b1 = true ∧ textP s = none) ∨ (b1 = false ∧ textP s = some (nm, s1))) := by
    rcases hT with ⟨t, r, ht, rfl, h2⟩ | ⟨ht, rfl, h2⟩
    · exact ⟨t, r, false, rfl, h2, by have := text_skip_len ht; omega, .inr ⟨rfl, ht⟩⟩
    · exact ⟨[], _, true, rfl, h2, by have := skip_len s; omega, .inl ⟨rfl, ht⟩⟩
  clear hT
  obtain ⟨nm, s1, b1, rfl, h2, hs1, hcase⟩ := CTX
  have HC := hid hcase
  have K2 := hid (K0.out.read h2)
  clear h2 hcase K0 hc1
  obtain ⟨c0, c1, c2, c3, c4⟩ := K2.out.facts
  obtain ⟨d0, d1, d2, e0, e1, e2⟩ := (RdTo.refl K2.out.rd).b0
  clear c3 c4
  have KD := hid (K2.out.read ((RdTo.refl K2.out.rd).drew))
  have CT0 := hid (js_Contains ns c (names_row KD.out.mi.row) (by omega) nm)
  go_upto_region 2 with fail
  go_cut [] (fun wx => ∃ q b, Hid (NameTo v ns s nm q b ∧ RdTo g w2 wx q d b))
  case first =>
    rcases HC.out with ⟨rfl, ht⟩ | ⟨rfl, ht⟩
    · have FIN := hid (show NameTo v ns s nm s1 true from ⟨hs1, .inl ⟨rfl, by unfold kidM; rw [ht]⟩⟩)
      clear ht
      refine region_anyK (fun w' => w'.cell? ⟨W0.heap.size, 0, none⟩ = some (.pointer (some ⟨g, 0, none⟩)) ∧ w'.cell? ⟨W0.heap.size + 1 + 1, 3, none⟩ = some (.slice A ns.length c) ∧ w'.cell? ⟨g, 2, none⟩ = some (.bool true) ∧ w'.frozen? ⟨g, 2, none⟩ = false) 18 (by kernel_rfl) (by ((try dsimp only); first | assumption | simp [*, go_sem, World.cell?_alloc_past])) (fun hSk => ?_)
      refine anyK_take 0 [0] (v := ?_) rfl (by kernel_rfl) (by kernel_rfl) (fun _ _ _ h => h) (Or.inl ⟨by rfl, ?_⟩) hSk ?_
      rotate_left
      · intro w' hSw; (try dsimp only at hSw); go_simp; try with_reducible rfl
      try simp only [List.getElem_toArray, List.getElem_cons_succ, List.getElem_cons_zero, Act.put, List.setIfInBounds_toArray, List.set_cons_zero, List.set_cons_succ]
      refine anyK_take 1 [1] (v := ?_) rfl (by kernel_rfl) (by kernel_rfl) (fun _ _ _ h => h) (Or.inl ⟨by rfl, ?_⟩) hSk ?_
      rotate_left
      · intro w' hSw; (try dsimp only at hSw); go_simp; try with_reducible rfl
      try simp only [List.getElem_toArray, List.getElem_cons_succ, List.getElem_cons_zero, Act.put, List.setIfInBounds_toArray, List.set_cons_zero, List.set_cons_succ]
      refine anyK_take 2 [2] (v := ?_) rfl (by kernel_rfl) (by kernel_rfl) (fun _ _ _ h => h) (Or.inl ⟨by rfl, ?_⟩) hSk ?_
      rotate_left
      · intro w' hSw; (try dsimp only at hSw); go_simp; try with_reducible rfl
      try simp only [List.getElem_toArray, List.getElem_cons_succ, List.getElem_cons_zero, Act.put, List.setIfInBounds_toArray, List.set_cons_zero, List.set_cons_succ]
      refine anyK_take 3 [3] (v := ?_) rfl (by kernel_rfl) (by kernel_rfl) (fun _ _ _ h => h) (Or.inl ⟨by rfl, ?_⟩) hSk ?_
      rotate_left
      · intro w' hSw; (try dsimp only at hSw); go_simp; try with_reducible rfl
      try simp only [List.getElem_toArray, List.getElem_cons_succ, List.getElem_cons_zero, Act.put, List.setIfInBounds_toArray, List.set_cons_zero, List.set_cons_succ]
      refine anyK_take 4 [4] (v := ?_) rfl (by kernel_rfl) (by kernel_rfl) (fun _ _ _ h => h) (Or.inl ⟨by rfl, ?_⟩) hSk ?_
      rotate_left
      · intro w' hSw; (try dsimp only at hSw); go_simp; try with_reducible rfl
      try simp only [List.getElem_toArray, List.getElem_cons_succ, List.getElem_cons_zero, Act.put, List.setIfInBounds_toArray, List.set_cons_zero, List.set_cons_succ]
      refine anyK_take 5 [5] (v := ?_) rfl (by kernel_rfl) (by kernel_rfl) (fun _ _ _ h => h) (Or.inl ⟨by rfl, ?_⟩) hSk ?_
      rotate_left
      · intro w' hSw; (try dsimp only at hSw); go_simp; try with_reducible rfl
      try simp only [List.getElem_toArray, List.getElem_cons_succ, List.getElem_cons_zero, Act.put, List.setIfInBounds_toArray, List.set_cons_zero, List.set_cons_succ]
      refine anyK_take 6 [6] (v := undef) rfl (by kernel_rfl) (by kernel_rfl) (fun _ _ _ h => h) (Or.inr ⟨by rfl, rfl⟩) hSk ?_
      try simp only [List.getElem_toArray, List.getElem_cons_succ, List.getElem_cons_zero, Act.put, List.setIfInBounds_toArray, List.set_cons_zero, List.set_cons_succ]
      refine anyK_take 7 [7] (v := undef) rfl (by kernel_rfl) (by kernel_rfl) (fun _ _ _ h => h) (Or.inr ⟨by rfl, rfl⟩) hSk ?_
      try simp only [List.getElem_toArray, List.getElem_cons_succ, List.getElem_cons_zero, Act.put, List.setIfInBounds_toArray, List.set_cons_zero, List.set_cons_succ]
      refine anyK_take 8 [8] (v := undef) rfl (by kernel_rfl) (by kernel_rfl) (fun _ _ _ h => h) (Or.inr ⟨by rfl, rfl⟩) hSk ?_
      try simp only [List.getElem_toArray, List.getElem_cons_succ, List.getElem_cons_zero, Act.put, List.setIfInBounds_toArray, List.set_cons_zero, List.set_cons_succ]
      refine anyK_take 9 [9] (v := undef) rfl (by kernel_rfl) (by kernel_rfl) (fun _ _ _ h => h) (Or.inr ⟨by rfl, rfl⟩) hSk ?_
      try simp only [List.getElem_toArray, List.getElem_cons_succ, List.getElem_cons_zero, Act.put, List.setIfInBounds_toArray, List.set_cons_zero, List.set_cons_succ]
      refine anyK_take 10 [10] (v := ?_) rfl (by kernel_rfl) (by kernel_rfl) (fun _ _ _ h => h) (Or.inl ⟨by rfl, ?_⟩) hSk ?_
      rotate_left
      · intro w' hSw; (try dsimp only at hSw); go_simp; try with_reducible rfl
      try simp only [List.getElem_toArray, List.getElem_cons_succ, List.getElem_cons_zero, Act.put, List.setIfInBounds_toArray, List.set_cons_zero, List.set_cons_succ]
      refine anyK_take 11 [11] (v := ?_) rfl (by kernel_rfl) (by kernel_rfl) (fun _ _ _ h => h) (Or.inl ⟨by rfl, ?_⟩) hSk ?_
      rotate_left
      · intro w' hSw; (try dsimp only at hSw); go_simp; try with_reducible rfl
      try simp only [List.getElem_toArray, List.getElem_cons_succ, List.getElem_cons_zero, Act.put, List.setIfInBounds_toArray, List.set_cons_zero, List.set_cons_succ]
      refine anyK_take 12 [12] (v := undef) rfl (by kernel_rfl) (by kernel_rfl) (fun _ _ _ h => h) (Or.inr ⟨by rfl, rfl⟩) hSk ?_
      try simp only [List.getElem_toArray, List.getElem_cons_succ, List.getElem_cons_zero, Act.put, List.setIfInBounds_toArray, List.set_cons_zero, List.set_cons_succ]
      refine anyK_take 13 [13] (v := undef) rfl (by kernel_rfl) (by kernel_rfl) (fun _ _ _ h => h) (Or.inr ⟨by rfl, rfl⟩) hSk ?_
      try simp only [List.getElem_toArray, List.getElem_cons_succ, List.getElem_cons_zero, Act.put, List.setIfInBounds_toArray, List.set_cons_zero, List.set_cons_succ]
      refine anyK_take 14 [14] (v := undef) rfl (by kernel_rfl) (by kernel_rfl) (fun _ _ _ h => h) (Or.inr ⟨by rfl, rfl⟩) hSk ?_
      try simp only [List.getElem_toArray, List.getElem_cons_succ, List.getElem_cons_zero, Act.put, List.setIfInBounds_toArray, List.set_cons_zero, List.set_cons_succ]
      refine anyK_take 15 [15] (v := ?_) rfl (by kernel_rfl) (by kernel_rfl) (fun _ _ _ h => h) (Or.inl ⟨by rfl, ?_⟩) hSk ?_
      rotate_left
      · intro w' hSw; (try dsimp only at hSw); go_simp; try with_reducible rfl
      try simp only [List.getElem_toArray, List.getElem_cons_succ, List.getElem_cons_zero, Act.put, List.setIfInBounds_toArray, List.set_cons_zero, List.set_cons_succ]
      refine anyK_take 16 [17, 16] (v := ?_) rfl (by kernel_rfl) (by kernel_rfl) (fun _ _ _ h => h) (Or.inl ⟨by rfl, ?_⟩) hSk ?_
      rotate_left
      · intro w' hSw; (try dsimp only at hSw); go_simp; try with_reducible rfl
      try simp only [List.getElem_toArray, List.getElem_cons_succ, List.getElem_cons_zero, Act.put, List.setIfInBounds_toArray, List.set_cons_zero, List.set_cons_succ]
      refine anyK_take 17 [17] (v := ?_) rfl (by kernel_rfl) (by kernel_rfl) (fun _ _ _ h => h) (Or.inl ⟨by rfl, ?_⟩) hSk ?_
      rotate_left
      · intro w' hSw; (try dsimp only at hSw); go_simp; try with_reducible rfl
      try simp only [List.getElem_toArray, List.getElem_cons_succ, List.getElem_cons_zero, Act.put, List.setIfInBounds_toArray, List.set_cons_zero, List.set_cons_succ]
      refine anyK_last (by kernel_rfl) rfl (by kernel_rfl) (fun K hK => ?_)
      go_simp
      refine hK.out _ _ ?_
      clear hK K
      try simp only [List.getElem_toArray, List.getElem_cons_succ, List.getElem_cons_zero, Act.put, List.setIfInBounds_toArray, List.set_cons_zero, List.set_cons_succ]
      refine anyK_done (by kernel_rfl) ?_ _
      go_wp2_with fail
      go_meet
      exact ⟨_, _, hid ⟨FIN.out, ((RdTo.refl K2.out.rd).drew).set2 true⟩⟩
    · cases hcn : ns.contains nm with
      | true =>
        have FIN := hid (show NameTo v ns s nm s1 true from ⟨hs1, .inl ⟨rfl, by unfold kidM; rw [ht]; simp only []; rw [hcn]; rfl⟩⟩)
        have CT := hid CT0.out
        rw [hcn] at CT
        clear ht hcn
        refine region_anyK (fun w' => w'.cell? ⟨W0.heap.size, 0, none⟩ = some (.pointer (some ⟨g, 0, none⟩)) ∧ w'.cell? ⟨W0.heap.size + 1 + 1, 3, none⟩ = some (.slice A ns.length c) ∧ w'.cell? ⟨g, 2, none⟩ = some (.bool false) ∧ w'.frozen? ⟨g, 2, none⟩ = false) 18 (by kernel_rfl) (by ((try dsimp only); first | assumption | simp [*, go_sem, World.cell?_alloc_past])) (fun hSk => ?_)
        refine anyK_take 0 [0] (v := ?_) rfl (by kernel_rfl) (by kernel_rfl) (fun _ _ _ h => h) (Or.inl ⟨by rfl, ?_⟩) hSk ?_
        rotate_left
        · intro w' hSw; (try dsimp only at hSw); go_simp; try with_reducible rfl
        try simp only [List.getElem_toArray, List.getElem_cons_succ, List.getElem_cons_zero, Act.put, List.setIfInBounds_toArray, List.set_cons_zero, List.set_cons_succ]
        refine anyK_take 1 [1] (v := ?_) rfl (by kernel_rfl) (by kernel_rfl) (fun _ _ _ h => h) (Or.inl ⟨by rfl, ?_⟩) hSk ?_
        rotate_left
        · intro w' hSw; (try dsimp only at hSw); go_simp; try with_reducible rfl
        try simp only [List.getElem_toArray, List.getElem_cons_succ, List.getElem_cons_zero, Act.put, List.setIfInBounds_toArray, List.set_cons_zero, List.set_cons_succ]
        refine anyK_take 2 [2] (v := ?_) rfl (by kernel_rfl) (by kernel_rfl) (fun _ _ _ h => h) (Or.inl ⟨by rfl, ?_⟩) hSk ?_
        rotate_left
        · intro w' hSw; (try dsimp only at hSw); go_simp; try with_reducible rfl
        try simp only [List.getElem_toArray, List.getElem_cons_succ, List.getElem_cons_zero, Act.put, List.setIfInBounds_toArray, List.set_cons_zero, List.set_cons_succ]
        refine anyK_take 3 [3] (v := ?_) rfl (by kernel_rfl) (by kernel_rfl) (fun _ _ _ h => h) (Or.inl ⟨by rfl, ?_⟩) hSk ?_
        rotate_left
        · intro w' hSw; (try dsimp only at hSw); go_simp; try with_reducible rfl
        try simp only [List.getElem_toArray, List.getElem_cons_succ, List.getElem_cons_zero, Act.put, List.setIfInBounds_toArray, List.set_cons_zero, List.set_cons_succ]
        refine anyK_take 4 [4] (v := ?_) rfl (by kernel_rfl) (by kernel_rfl) (fun _ _ _ h => h) (Or.inl ⟨by rfl, ?_⟩) hSk ?_
        rotate_left
        · intro w' hSw; (try dsimp only at hSw); go_simp; try with_reducible rfl
        try simp only [List.getElem_toArray, List.getElem_cons_succ, List.getElem_cons_zero, Act.put, List.setIfInBounds_toArray, List.set_cons_zero, List.set_cons_succ]
        refine anyK_take 5 [5] (v := ?_) rfl (by kernel_rfl) (by kernel_rfl) (fun _ _ _ h => h) (Or.inl ⟨by rfl, ?_⟩) hSk ?_
        rotate_left
        · intro w' hSw; (try dsimp only at hSw); go_simp; try with_reducible rfl
        try simp only [List.getElem_toArray, List.getElem_cons_succ, List.getElem_cons_zero, Act.put, List.setIfInBounds_toArray, List.set_cons_zero, List.set_cons_succ]
        refine anyK_take 6 [6] (v := ?_) rfl (by kernel_rfl) (by kernel_rfl) (fun _ _ _ h => h) (Or.inl ⟨by rfl, ?_⟩) hSk ?_
        rotate_left
        · intro w' hSw; (try dsimp only at hSw); go_simp; try with_reducible rfl
        try simp only [List.getElem_toArray, List.getElem_cons_succ, List.getElem_cons_zero, Act.put, List.setIfInBounds_toArray, List.set_cons_zero, List.set_cons_succ]
        refine anyK_take 7 [7] (v := ?_) rfl (by kernel_rfl) (by kernel_rfl) (fun _ _ _ h => h) (Or.inl ⟨by rfl, ?_⟩) hSk ?_
        rotate_left
        · intro w' hSw; (try dsimp only at hSw); go_simp; try with_reducible rfl
        try simp only [List.getElem_toArray, List.getElem_cons_succ, List.getElem_cons_zero, Act.put, List.setIfInBounds_toArray, List.set_cons_zero, List.set_cons_succ]
        refine anyK_take 8 [8] (v := ?_) rfl (by kernel_rfl) (by kernel_rfl) (fun _ _ _ h => h) (Or.inl ⟨by rfl, ?_⟩) hSk ?_
        rotate_left
        · intro w' hSw; (try dsimp only at hSw); go_simp; try with_reducible rfl
        try simp only [List.getElem_toArray, List.getElem_cons_succ, List.getElem_cons_zero, Act.put, List.setIfInBounds_toArray, List.set_cons_zero, List.set_cons_succ]
        refine anyK_only 9 (by kernel_rfl) rfl (fun K hK => ?_)
        (first | (rw [if_pos (by rfl)]; go_simp; go_at_call 88; refine CT.out.mono ?_; rintro e w3 ⟨rfl, rfl⟩; go_wp2_with fail) | go_simp)
        clear hSk
        refine hK.out _ _ (by ((try dsimp only); first | assumption | simp [*, go_sem, World.cell?_alloc_past])) (fun hSk => ?_)
        clear hK K
        try simp only [List.getElem_toArray, List.getElem_cons_succ, List.getElem_cons_zero, Act.put, List.setIfInBounds_toArray, List.set_cons_zero, List.set_cons_succ]
        refine anyK_take 10 [10] (v := ?_) rfl (by kernel_rfl) (by kernel_rfl) (fun _ _ _ h => h) (Or.inl ⟨by rfl, ?_⟩) hSk ?_
        rotate_left
        · intro w' hSw; (try dsimp only at hSw); go_simp; try with_reducible rfl
        try simp only [List.getElem_toArray, List.getElem_cons_succ, List.getElem_cons_zero, Act.put, List.setIfInBounds_toArray, List.set_cons_zero, List.set_cons_succ]
        refine anyK_take 11 [11] (v := ?_) rfl (by kernel_rfl) (by kernel_rfl) (fun _ _ _ h => h) (Or.inl ⟨by rfl, ?_⟩) hSk ?_
        rotate_left
        · intro w' hSw; (try dsimp only at hSw); go_simp; try with_reducible rfl
        try simp only [List.getElem_toArray, List.getElem_cons_succ, List.getElem_cons_zero, Act.put, List.setIfInBounds_toArray, List.set_cons_zero, List.set_cons_succ]
        refine anyK_take 12 [12] (v := undef) rfl (by kernel_rfl) (by kernel_rfl) (fun _ _ _ h => h) (Or.inr ⟨by rfl, rfl⟩) hSk ?_
        try simp only [List.getElem_toArray, List.getElem_cons_succ, List.getElem_cons_zero, Act.put, List.setIfInBounds_toArray, List.set_cons_zero, List.set_cons_succ]
        refine anyK_take 13 [13] (v := undef) rfl (by kernel_rfl) (by kernel_rfl) (fun _ _ _ h => h) (Or.inr ⟨by rfl, rfl⟩) hSk ?_
        try simp only [List.getElem_toArray, List.getElem_cons_succ, List.getElem_cons_zero, Act.put, List.setIfInBounds_toArray, List.set_cons_zero, List.set_cons_succ]
        refine anyK_take 14 [14] (v := undef) rfl (by kernel_rfl) (by kernel_rfl) (fun _ _ _ h => h) (Or.inr ⟨by rfl, rfl⟩) hSk ?_
        try simp only [List.getElem_toArray, List.getElem_cons_succ, List.getElem_cons_zero, Act.put, List.setIfInBounds_toArray, List.set_cons_zero, List.set_cons_succ]
        refine anyK_take 15 [15] (v := ?_) rfl (by kernel_rfl) (by kernel_rfl) (fun _ _ _ h => h) (Or.inl ⟨by rfl, ?_⟩) hSk ?_
        rotate_left
        · intro w' hSw; (try dsimp only at hSw); go_simp; try with_reducible rfl
        try simp only [List.getElem_toArray, List.getElem_cons_succ, List.getElem_cons_zero, Act.put, List.setIfInBounds_toArray, List.set_cons_zero, List.set_cons_succ]
        refine anyK_take 16 [17, 16] (v := ?_) rfl (by kernel_rfl) (by kernel_rfl) (fun _ _ _ h => h) (Or.inl ⟨by rfl, ?_⟩) hSk ?_
        rotate_left
        · intro w' hSw; (try dsimp only at hSw); go_simp; try with_reducible rfl
        try simp only [List.getElem_toArray, List.getElem_cons_succ, List.getElem_cons_zero, Act.put, List.setIfInBounds_toArray, List.set_cons_zero, List.set_cons_succ]
        refine anyK_take 17 [17] (v := ?_) rfl (by kernel_rfl) (by kernel_rfl) (fun _ _ _ h => h) (Or.inl ⟨by rfl, ?_⟩) hSk ?_
        rotate_left
        · intro w' hSw; (try dsimp only at hSw); go_simp; try with_reducible rfl
        try simp only [List.getElem_toArray, List.getElem_cons_succ, List.getElem_cons_zero, Act.put, List.setIfInBounds_toArray, List.set_cons_zero, List.set_cons_succ]
        refine anyK_last (by kernel_rfl) rfl (by kernel_rfl) (fun K hK => ?_)
        go_simp
        refine hK.out _ _ ?_
        clear hK K
        try simp only [List.getElem_toArray, List.getElem_cons_succ, List.getElem_cons_zero, Act.put, List.setIfInBounds_toArray, List.set_cons_zero, List.set_cons_succ]
        refine anyK_done (by kernel_rfl) ?_ _
        go_wp2_with fail
        go_meet
        exact ⟨_, _, hid ⟨FIN.out, ((RdTo.refl K2.out.rd).drew).set2 true⟩⟩
      | false =>
        have FIN := hid (show NameTo v ns s nm (signP 58 s1).1 (!(signP 58 s1).2) from ⟨by have := (sign_len 58 s1).1; omega, by
          have e : kidM v ns s = if (signP 58 s1).2 then (v (signP 58 s1).1).map fun p => (p.1, ns ++ [nm], p.2) else none := by
            unfold kidM; rw [ht]; simp only []; rw [hcn]; rfl
          rw [e]
          cases (signP 58 s1).2 with
          | true => exact .inr ⟨rfl, rfl⟩
          | false => exact .inl ⟨rfl, rfl⟩⟩)
        have CT := hid CT0.out
        rw [hcn] at CT
        clear ht hcn
        refine region_anyK (fun w' => w'.cell? ⟨W0.heap.size, 0, none⟩ = some (.pointer (some ⟨g, 0, none⟩)) ∧ w'.cell? ⟨W0.heap.size + 1 + 1, 3, none⟩ = some (.slice A ns.length c) ∧ w'.cell? ⟨g, 2, none⟩ = some (.bool false) ∧ w'.frozen? ⟨g, 2, none⟩ = false) 18 (by kernel_rfl) (by ((try dsimp only); first | assumption | simp [*, go_sem, World.cell?_alloc_past])) (fun hSk => ?_)
        refine anyK_take 0 [0] (v := ?_) rfl (by kernel_rfl) (by kernel_rfl) (fun _ _ _ h => h) (Or.inl ⟨by rfl, ?_⟩) hSk ?_
        rotate_left
        · intro w' hSw; (try dsimp only at hSw); go_simp; try with_reducible rfl
        try simp only [List.getElem_toArray, List.getElem_cons_succ, List.getElem_cons_zero, Act.put, List.setIfInBounds_toArray, List.set_cons_zero, List.set_cons_succ]
        refine anyK_take 1 [1] (v := ?_) rfl (by kernel_rfl) (by kernel_rfl) (fun _ _ _ h => h) (Or.inl ⟨by rfl, ?_⟩) hSk ?_
        rotate_left
        · intro w' hSw; (try dsimp only at hSw); go_simp; try with_reducible rfl
        try simp only [List.getElem_toArray, List.getElem_cons_succ, List.getElem_cons_zero, Act.put, List.setIfInBounds_toArray, List.set_cons_zero, List.set_cons_succ]
        refine anyK_take 2 [2] (v := ?_) rfl (by kernel_rfl) (by kernel_rfl) (fun _ _ _ h => h) (Or.inl ⟨by rfl, ?_⟩) hSk ?_
        rotate_left
        · intro w' hSw; (try dsimp only at hSw); go_simp; try with_reducible rfl
        try simp only [List.getElem_toArray, List.getElem_cons_succ, List.getElem_cons_zero, Act.put, List.setIfInBounds_toArray, List.set_cons_zero, List.set_cons_succ]
        refine anyK_take 3 [3] (v := ?_) rfl (by kernel_rfl) (by kernel_rfl) (fun _ _ _ h => h) (Or.inl ⟨by rfl, ?_⟩) hSk ?_
        rotate_left
        · intro w' hSw; (try dsimp only at hSw); go_simp; try with_reducible rfl
        try simp only [List.getElem_toArray, List.getElem_cons_succ, List.getElem_cons_zero, Act.put, List.setIfInBounds_toArray, List.set_cons_zero, List.set_cons_succ]
        refine anyK_take 4 [4] (v := ?_) rfl (by kernel_rfl) (by kernel_rfl) (fun _ _ _ h => h) (Or.inl ⟨by rfl, ?_⟩) hSk ?_
        rotate_left
        · intro w' hSw; (try dsimp only at hSw); go_simp; try with_reducible rfl
        try simp only [List.getElem_toArray, List.getElem_cons_succ, List.getElem_cons_zero, Act.put, List.setIfInBounds_toArray, List.set_cons_zero, List.set_cons_succ]
        refine anyK_take 5 [5] (v := ?_) rfl (by kernel_rfl) (by kernel_rfl) (fun _ _ _ h => h) (Or.inl ⟨by rfl, ?_⟩) hSk ?_
        rotate_left
        · intro w' hSw; (try dsimp only at hSw); go_simp; try with_reducible rfl
        try simp only [List.getElem_toArray, List.getElem_cons_succ, List.getElem_cons_zero, Act.put, List.setIfInBounds_toArray, List.set_cons_zero, List.set_cons_succ]
        refine anyK_take 6 [6] (v := ?_) rfl (by kernel_rfl) (by kernel_rfl) (fun _ _ _ h => h) (Or.inl ⟨by rfl, ?_⟩) hSk ?_
        rotate_left
        · intro w' hSw; (try dsimp only at hSw); go_simp; try with_reducible rfl
        try simp only [List.getElem_toArray, List.getElem_cons_succ, List.getElem_cons_zero, Act.put, List.setIfInBounds_toArray, List.set_cons_zero, List.set_cons_succ]
        refine anyK_take 7 [7] (v := ?_) rfl (by kernel_rfl) (by kernel_rfl) (fun _ _ _ h => h) (Or.inl ⟨by rfl, ?_⟩) hSk ?_
        rotate_left
        · intro w' hSw; (try dsimp only at hSw); go_simp; try with_reducible rfl
        try simp only [List.getElem_toArray, List.getElem_cons_succ, List.getElem_cons_zero, Act.put, List.setIfInBounds_toArray, List.set_cons_zero, List.set_cons_succ]
        refine anyK_take 8 [8] (v := ?_) rfl (by kernel_rfl) (by kernel_rfl) (fun _ _ _ h => h) (Or.inl ⟨by rfl, ?_⟩) hSk ?_
        rotate_left
        · intro w' hSw; (try dsimp only at hSw); go_simp; try with_reducible rfl
        try simp only [List.getElem_toArray, List.getElem_cons_succ, List.getElem_cons_zero, Act.put, List.setIfInBounds_toArray, List.set_cons_zero, List.set_cons_succ]
        refine anyK_only 9 (by kernel_rfl) rfl (fun K hK => ?_)
        (first | (rw [if_pos (by rfl)]; go_simp; go_at_call 88; refine CT.out.mono ?_; rintro e w3 ⟨rfl, rfl⟩; go_wp2_with fail) | (rw [if_pos (by rfl)]; go_simp; go_at_call 96; refine (SG.out _ _ _ _ KD.out.rd 58).mono ?_; rintro e w3 ⟨rfl, h3⟩; (have R3 := hid h3); (have K3 := hid (KD.out.read h3)); clear h3 c0 c1 c2 d2 e2; obtain ⟨c0, c1, c2, -, -⟩ := K3.out.facts; obtain ⟨-, -, d2, -, -, e2⟩ := R3.out.b0; go_wp2_with fail) | go_simp)
        clear hSk
        refine hK.out _ _ (by ((try dsimp only); first | assumption | simp [*, go_sem, World.cell?_alloc_past])) (fun hSk => ?_)
        clear hK K
        try simp only [List.getElem_toArray, List.getElem_cons_succ, List.getElem_cons_zero, Act.put, List.setIfInBounds_toArray, List.set_cons_zero, List.set_cons_succ]
        refine anyK_take 10 [10] (v := ?_) rfl (by kernel_rfl) (by kernel_rfl) (fun _ _ _ h => h) (Or.inl ⟨by rfl, ?_⟩) hSk ?_
        rotate_left
        · intro w' hSw; (try dsimp only at hSw); go_simp; try with_reducible rfl
        try simp only [List.getElem_toArray, List.getElem_cons_succ, List.getElem_cons_zero, Act.put, List.setIfInBounds_toArray, List.set_cons_zero, List.set_cons_succ]
        refine anyK_take 11 [11] (v := ?_) rfl (by kernel_rfl) (by kernel_rfl) (fun _ _ _ h => h) (Or.inl ⟨by rfl, ?_⟩) hSk ?_
        rotate_left
        · intro w' hSw; (try dsimp only at hSw); go_simp; try with_reducible rfl
        try simp only [List.getElem_toArray, List.getElem_cons_succ, List.getElem_cons_zero, Act.put, List.setIfInBounds_toArray, List.set_cons_zero, List.set_cons_succ]
        refine anyK_take 12 [12] (v := ?_) rfl (by kernel_rfl) (by kernel_rfl) (fun _ _ _ h => h) (Or.inl ⟨by rfl, ?_⟩) hSk ?_
        rotate_left
        · intro w' hSw; (try dsimp only at hSw); go_simp; try with_reducible rfl
        try simp only [List.getElem_toArray, List.getElem_cons_succ, List.getElem_cons_zero, Act.put, List.setIfInBounds_toArray, List.set_cons_zero, List.set_cons_succ]
        refine anyK_only 13 (by kernel_rfl) rfl (fun K hK => ?_)
        (first | (rw [if_pos (by rfl)]; go_simp; go_at_call 88; refine CT.out.mono ?_; rintro e w3 ⟨rfl, rfl⟩; go_wp2_with fail) | (rw [if_pos (by rfl)]; go_simp; go_at_call 96; refine (SG.out _ _ _ _ KD.out.rd 58).mono ?_; rintro e w3 ⟨rfl, h3⟩; (have R3 := hid h3); (have K3 := hid (KD.out.read h3)); clear h3 c0 c1 c2 d2 e2; obtain ⟨c0, c1, c2, -, -⟩ := K3.out.facts; obtain ⟨-, -, d2, -, -, e2⟩ := R3.out.b0; go_wp2_with fail) | go_simp)
        clear hSk
        refine hK.out _ _ (by ((try dsimp only); first | assumption | simp [*, go_sem, World.cell?_alloc_past])) (fun hSk => ?_)
        clear hK K
        try simp only [List.getElem_toArray, List.getElem_cons_succ, List.getElem_cons_zero, Act.put, List.setIfInBounds_toArray, List.set_cons_zero, List.set_cons_succ]
        refine anyK_take 14 [14] (v := ?_) rfl (by kernel_rfl) (by kernel_rfl) (fun _ _ _ h => h) (Or.inl ⟨by rfl, ?_⟩) hSk ?_
        rotate_left
        · intro w' hSw; (try dsimp only at hSw); go_simp; try with_reducible rfl
        try simp only [List.getElem_toArray, List.getElem_cons_succ, List.getElem_cons_zero, Act.put, List.setIfInBounds_toArray, List.set_cons_zero, List.set_cons_succ]
        refine anyK_take 15 [15] (v := ?_) rfl (by kernel_rfl) (by kernel_rfl) (fun _ _ _ h => h) (Or.inl ⟨by rfl, ?_⟩) hSk ?_
        rotate_left
        · intro w' hSw; (try dsimp only at hSw); go_simp; try with_reducible rfl
        try simp only [List.getElem_toArray, List.getElem_cons_succ, List.getElem_cons_zero, Act.put, List.setIfInBounds_toArray, List.set_cons_zero, List.set_cons_succ]
        refine anyK_take 16 [17, 16] (v := ?_) rfl (by kernel_rfl) (by kernel_rfl) (fun _ _ _ h => h) (Or.inl ⟨by rfl, ?_⟩) hSk ?_
        rotate_left
        · intro w' hSw; (try dsimp only at hSw); go_simp; try with_reducible rfl
        try simp only [List.getElem_toArray, List.getElem_cons_succ, List.getElem_cons_zero, Act.put, List.setIfInBounds_toArray, List.set_cons_zero, List.set_cons_succ]
        refine anyK_take 17 [17] (v := ?_) rfl (by kernel_rfl) (by kernel_rfl) (fun _ _ _ h => h) (Or.inl ⟨by rfl, ?_⟩) hSk ?_
        rotate_left
        · intro w' hSw; (try dsimp only at hSw); go_simp; try with_reducible rfl
        try simp only [List.getElem_toArray, List.getElem_cons_succ, List.getElem_cons_zero, Act.put, List.setIfInBounds_toArray, List.set_cons_zero, List.set_cons_succ]
        refine anyK_last (by kernel_rfl) rfl (by kernel_rfl) (fun K hK => ?_)
        go_simp
        refine hK.out _ _ ?_
        clear hK K
        try simp only [List.getElem_toArray, List.getElem_cons_succ, List.getElem_cons_zero, Act.put, List.setIfInBounds_toArray, List.set_cons_zero, List.set_cons_succ]
        refine anyK_done (by kernel_rfl) ?_ _
        go_wp2_with fail
        go_meet
        exact ⟨_, _, hid ⟨FIN.out, (((RdTo.refl K2.out.rd).drew).trans R3.out).set2 _⟩⟩
  case rest =>
    obtain ⟨q, b, hq⟩ := hcut
    obtain ⟨⟨hql, hnm⟩, hrd⟩ := hq.out
    have NM := hid hnm
    have K3 := hid (K2.out.read hrd)
    clear c0 c1 c2 d0 d1 d2 e0 e1 e2 hq hnm hrd KD CT0 K2 HC
    obtain ⟨c0, c1, c2, c3, c4⟩ := K3.out.facts
    clear c3 c4
    go_wp2_with (first | (at_builtin; (refine wpList_append_name (os := ns) (y := nm) (base := W0.heap.size + 1 + 1 + 1) rfl _ _ (by rfl) (by rfl) (by rfl) (by rfl) K3.out.mi.row (by omega) (by have := K3.out.mi.val.lt; omega) ?_); intro A2 c2' w4 hr4 hs4 hb4 hl4 ho4; obtain ⟨fq4, hk4, hf4, hx4, xv4, hv4⟩ := K3.out.name' (by omega) hr4 hs4 hb4 hl4 ho4; (have K4 := hid hk4); clear hr4 hs4 hb4 hl4 ho4 hk4))
    refine (V.out _ q b hql (touch_old HT.out K4.out.tou GE.out) K4.out.rd).mono ?_
    rintro e w6 ⟨x, j, q6, rfl, r6, t6, j6, p6⟩
    have HD := hid (fun (u0 u1 u2 u3 u4 : Value) => KW.done K4.out r6 t6 j6 p6 (r := kidM v ns s) (by
      rcases NM.out with ⟨rfl, h⟩ | ⟨rfl, h⟩
      · rw [h]; rfl
      · rw [h]; rfl) (u0 := u0) (u1 := u1) (u2 := u2) (u3 := u3) (u4 := u4))
    have K6 := hid (K4.out.read ⟨r6, t6⟩)
    have z0 := K6.out.facts.2.2.2.1 0 _ rfl
    have z1 := K6.out.facts.2.2.2.1 1 _ rfl
    have z2 := K6.out.facts.2.2.2.1 2 _ rfl
    have z3 := K6.out.facts.2.2.2.1 3 _ rfl
    have z4 := K6.out.facts.2.2.2.1 4 _ rfl
    have m0 := K6.out.facts.2.2.2.2 0
    have m1 := K6.out.facts.2.2.2.2 1
    have m2 := K6.out.facts.2.2.2.2 2
    have m3 := K6.out.facts.2.2.2.2 3
    have m4 := K6.out.facts.2.2.2.2 4
    clear r6 t6 j6 p6 hx4 hf4 hv4 c0 c1 c2 NM K3 K4 K6
    obtain ⟨xk, xt, xn, xA, xa, xb, xB, xc, xd⟩ := x
    simp only [] at HD z0 z1 z2 z3 z4
    go_wp2
    refine bodyPost_ret (v := .agg #[.int .i64 xk, .string (S xt), .int .i64 xn, .slice xA xa xb, .slice xB xc xd]) (by simp [results, Tryd.results98, go_sem, z0, z1, z2, z3, z4]) rfl (HD.out _ _ _ _ _)
end Go.Proofs.YtbjimikppdfmgaaDoor
