/- Walk of (*json.reader).value. -/
import Derived.Test.YtbjimikppdfmgaaDoorJs6
set_option linter.unusedVariables false
set_option linter.unusedSimpArgs false
set_option maxHeartbeats 8000000
set_option maxRecDepth 100000
namespace Go.Proofs.YtbjimikppdfmgaaDoor
open Go.RowKit

/-- Does l begin with p? -/
def hasJ (l p : List UInt8) : Bool := decide (p.length ≤ l.length) && (l.take p.length == p)
theorem js_lite_HasPrefix (l p : List UInt8) (w : World) : Calls Tryd.prog 84 #[.string (S l), .string (S p)] w fun e w' => e = .returned (.bool (hasJ l p)) ∧ w' = w := by
  by_cases hl : p.length ≤ l.length
  · have H := hid (show hasJ l p = (l.take p.length == p) by unfold hasJ; simp [hl])
    have hq := S_beq (l.take p.length) p
    by_cases he : l.take p.length = p
    · rw [he] at H hq
      generalize hp' : p.length = n at *
      simp only [beq_self_eq_true] at H hq
      go_enter Tryd.func84, Tryd.ntmps84
      go_wp2
      go_ret
      exact ⟨by rw [H.out]; rfl, rfl⟩
    · have he' : (l.take p.length == p) = false := by simpa using he
      rw [he'] at H hq
      generalize hp' : p.length = n at *
      go_enter Tryd.func84, Tryd.ntmps84
      go_wp2
      go_ret
      exact ⟨by rw [H.out]; rfl, rfl⟩
  · have H := hid (show hasJ l p = false by unfold hasJ; simp [hl])
    go_enter Tryd.func84, Tryd.ntmps84
    go_wp2
    go_ret
    exact ⟨by rw [H.out]; rfl, rfl⟩
theorem js_HasPrefix (l p : List UInt8) (w : World) : Calls Tryd.prog 50 #[.string (S l), .string (S p)] w fun e w' => e = .returned (.bool (hasJ l p)) ∧ w' = w := by
  have T := hid (js_lite_HasPrefix l p w)
  go_enter Tryd.func50, Tryd.ntmps50
  go_wp2_with fail
  refine T.out.mono ?_
  rintro e w1 ⟨rfl, rfl⟩
  go_wp2
  go_ret
  exact ⟨rfl, rfl⟩


theorem hasJ_head (l : List UInt8) : hasJ l [34] = decide (l.head? = some 34) := by
  cases l with
  | nil => rfl
  | cons x r => by_cases h : x = 34 <;> simp [hasJ, h]
/-- What value tells. -/
def ValPost (g : Nat) (W : World) (d : Int) (r : Option (Jv × List UInt8)) (e : Ending) (w' : World) : Prop :=
  ∃ (x : J5) (j : Jv) (s : List UInt8), e = .returned (.agg #[.int .i64 x.kind, .string (S x.text), .int .i64 x.num, .slice x.nA x.nn x.nc, .slice x.kA x.kn x.kc]) ∧ Rd w' g s d r.isNone ∧ Touch W w' (· = g) (· = g) ∧ JAt w' (fun k => W.heap.size ≤ k) j x ∧ ∀ p, r = some p → p = (j, s)
theorem leafJ (w : World) (ok : Nat → Prop) (k : Int) (t : List UInt8) (n : Int) : JAt w ok (.mk k t n [] []) ⟨k, t, n, none, 0, 0, none, 0, 0⟩ :=
  .mk ⟨k, t, n, none, 0, 0, none, 0, 0⟩ [] [] [] rfl (Nat.zero_le _) rfl (Nat.zero_le _) (Nat.zero_le _) (Nat.zero_le _) (fun h => by simp at h) rfl (fun h => by simp at h) (fun i h => by simp at h)
def J5.arr (x : J5) : Array Value := #[.int .i64 x.kind, .string (S x.text), .int .i64 x.num, .slice x.nA x.nn x.nc, .slice x.kA x.kn x.kc]
def zeroJ : J5 := ⟨0, [], 0, none, 0, 0, none, 0, 0⟩
/-- The blocks of value: the reader, a box, what is told, what is read. -/
structure VW (W wr : World) (g : Nat) (s : List UInt8) (d : Int) (b : Bool) (x : J5) : Prop where
  rd : Rd wr g s d b
  lt : g < W.heap.size
  box : Blk wr W.heap.size 85 #[.pointer (some ⟨g, 0, none⟩)]
  res : Blk wr (W.heap.size + 1) 40 zeroJ.arr
  val : Blk wr (W.heap.size + 1 + 1) 40 x.arr
  tou : Touch W wr (· = g) (· = g)
section
variable {W wr wn : World} {g : Nat} {s s' : List UInt8} {d : Int} {b b' : Bool} {x : J5}
theorem alloc_size (w : World) (o : Obj) : (w.alloc o).heap.size = w.heap.size + 1 := by unfold World.alloc; exact Array.size_push ..
theorem VW.start (h : Rd W g s d b) : VW W (((W.alloc (.cells #[.pointer (some ⟨g, 0, none⟩)] 85)).alloc (.cells zeroJ.arr 40)).alloc (.cells zeroJ.arr 40)) g s d b zeroJ := by
  have b1 : Below W.heap.size W (((W.alloc (.cells #[.pointer (some ⟨g, 0, none⟩)] 85)).alloc (.cells zeroJ.arr 40)).alloc (.cells zeroJ.arr 40)) :=
    (((Below.refl _ _).alloc (Nat.le_refl _) _).alloc (by rw [alloc_size]; omega) _).alloc (by rw [alloc_size, alloc_size]; omega) _
  have r1 := (RdTo.refl h).below b1
  refine ⟨r1.blk, h.lt, ((Blk.new W _ _).alloc _).alloc _, ?_, ?_, r1.tou⟩
  · have := (Blk.new (W.alloc (.cells #[.pointer (some ⟨g, 0, none⟩)] 85)) 40 zeroJ.arr).alloc (.cells zeroJ.arr 40)
    rw [alloc_size] at this
    exact this
  · have := Blk.new ((W.alloc (.cells #[.pointer (some ⟨g, 0, none⟩)] 85)).alloc (.cells zeroJ.arr 40)) 40 zeroJ.arr
    rw [alloc_size, alloc_size] at this
    exact this
theorem VW.read (h : VW W wr g s d b x) (hr : RdTo g wr wn s' d b') : VW W wn g s' d b' x := by
  have hk : ∀ {k : Nat} {t : TypeId} {cs : Array Value}, Blk wr k t cs → k ≠ g → Blk wn k t cs := fun hb hne => (hr.tou.block _ hb.lt hne).trans hb
  have := h.lt
  exact ⟨hr.blk, h.lt, hk h.box (by omega), hk h.res (by omega), hk h.val (by omega), h.tou.trans hr.tou⟩
theorem VW.set (h : VW W wr g s d b x) (i : Nat) (u : Value) (y : J5) (hy : y.arr = x.arr.setIfInBounds i u) : VW W (wr.setCell ⟨W.heap.size + 1 + 1, i, none⟩ u) g s d b y := by
  have := h.lt
  refine ⟨h.rd.far (by simp only []; omega) _, h.lt, h.box.far (by simp only []; omega) _, h.res.far (by simp only []; omega) _, by rw [hy]; exact h.val.set_ i u, ?_⟩
  exact ⟨h.tou.os, h.tou.tape, h.tou.output, by simpa [set_size] using h.tou.size, fun k hk hn => (set_other _ _ _ _ k (by omega)).trans (h.tou.block k hk hn), h.tou.new⟩
theorem VW.facts (h : VW W wr g s d b x) : wr.cell? ⟨W.heap.size, 0, none⟩ = some (.pointer (some ⟨g, 0, none⟩)) ∧ (∀ i u, x.arr[i]? = some u → wr.cell? ⟨W.heap.size + 1 + 1, i, none⟩ = some u) ∧ (∀ i u, zeroJ.arr[i]? = some u → wr.cell? ⟨W.heap.size + 1, i, none⟩ = some u) ∧ (∀ i, wr.frozen? ⟨W.heap.size + 1 + 1, i, none⟩ = false) ∧ ∀ i, wr.frozen? ⟨W.heap.size + 1, i, none⟩ = false :=
  ⟨h.box.cell 0, fun i u hu => (h.val.cell i).trans hu, fun i u hu => (h.res.cell i).trans hu, fun i => h.val.frozen i, fun i => h.res.frozen i⟩
theorem VW.cells (h : VW W wr g s d b x) : wr.cell? ⟨W.heap.size + 1 + 1, 0, none⟩ = some (.int .i64 x.kind) ∧ wr.cell? ⟨W.heap.size + 1 + 1, 1, none⟩ = some (.string (S x.text)) ∧ wr.cell? ⟨W.heap.size + 1 + 1, 2, none⟩ = some (.int .i64 x.num) ∧ wr.cell? ⟨W.heap.size + 1 + 1, 3, none⟩ = some (.slice x.nA x.nn x.nc) ∧ wr.cell? ⟨W.heap.size + 1 + 1, 4, none⟩ = some (.slice x.kA x.kn x.kc) :=
  ⟨h.facts.2.1 0 _ rfl, h.facts.2.1 1 _ rfl, h.facts.2.1 2 _ rfl, h.facts.2.1 3 _ rfl, h.facts.2.1 4 _ rfl⟩
theorem VW.zeros (h : VW W wr g s d b x) : wr.cell? ⟨W.heap.size + 1, 0, none⟩ = some (.int .i64 0) ∧ wr.cell? ⟨W.heap.size + 1, 1, none⟩ = some (.string (S [])) ∧ wr.cell? ⟨W.heap.size + 1, 2, none⟩ = some (.int .i64 0) ∧ wr.cell? ⟨W.heap.size + 1, 3, none⟩ = some (.slice none 0 0) ∧ wr.cell? ⟨W.heap.size + 1, 4, none⟩ = some (.slice none 0 0) :=
  ⟨h.facts.2.2.1 0 _ rfl, h.facts.2.2.1 1 _ rfl, h.facts.2.2.1 2 _ rfl, h.facts.2.2.1 3 _ rfl, h.facts.2.2.1 4 _ rfl⟩
/-- What is told is stored: the end. -/
theorem VW.done (h : VW W wr g s d b x) {j : Jv} {r : Option (Jv × List UInt8)} (hb : r.isNone = b) (hr : ∀ p, r = some p → p = (j, s)) (hj : JAt wr (fun k => W.heap.size ≤ k ∧ k ≠ W.heap.size + 1) j x) {u0 u1 u2 u3 u4 : Value} :
    ValPost g W d r (.returned (.agg #[.int .i64 x.kind, .string (S x.text), .int .i64 x.num, .slice x.nA x.nn x.nc, .slice x.kA x.kn x.kc])) (((((wr.setCell ⟨W.heap.size + 1, 0, none⟩ u0).setCell ⟨W.heap.size + 1, 1, none⟩ u1).setCell ⟨W.heap.size + 1, 2, none⟩ u2).setCell ⟨W.heap.size + 1, 3, none⟩ u3).setCell ⟨W.heap.size + 1, 4, none⟩ u4) := by
  have hk : ∀ k, k ≠ W.heap.size + 1 → (((((wr.setCell ⟨W.heap.size + 1, 0, none⟩ u0).setCell ⟨W.heap.size + 1, 1, none⟩ u1).setCell ⟨W.heap.size + 1, 2, none⟩ u2).setCell ⟨W.heap.size + 1, 3, none⟩ u3).setCell ⟨W.heap.size + 1, 4, none⟩ u4).heap[k]? = wr.heap[k]? := fun k hk => by
    rw [set_other _ _ _ _ k hk, set_other _ _ _ _ k hk, set_other _ _ _ _ k hk, set_other _ _ _ _ k hk, set_other _ _ _ _ k hk]
  have hs : (((((wr.setCell ⟨W.heap.size + 1, 0, none⟩ u0).setCell ⟨W.heap.size + 1, 1, none⟩ u1).setCell ⟨W.heap.size + 1, 2, none⟩ u2).setCell ⟨W.heap.size + 1, 3, none⟩ u3).setCell ⟨W.heap.size + 1, 4, none⟩ u4).heap.size = wr.heap.size := by
    rw [set_size, set_size, set_size, set_size, set_size]
  have hl := h.lt
  refine ⟨x, j, s, rfl, ?_, ⟨h.tou.os, h.tou.tape, h.tou.output, ?_, fun k hk1 hn => (hk k (by omega)).trans (h.tou.block k hk1 hn), h.tou.new⟩, ?_, hr⟩
  · rw [hb]
    exact (hk g (by omega)).trans h.rd
  · rw [hs]; exact h.tou.size
  · exact hj.keep (fun k hk1 _ => hk k hk1.2) (by rw [hs]; exact Nat.le_refl _) (fun k hk1 _ => hk1.1)
end
theorem jr_value_text (g : Nat) (W : World) (s : List UInt8) (d : Int) (b : Bool) (h : Rd W g s d b) (hs : s.length < 70000) (hq : (skipP s).head? = some 34) :
    Calls Tryd.prog 58 #[.pointer (some ⟨g, 0, none⟩)] W (ValPost g W d (if b then none else (textP (skipP s)).map fun p => (.mk 1 p.1 0 [] [], skipP p.2))) := by
  have SK := hid (fun (W : World) (s : List UInt8) (d : Int) (b : Bool) (h : Rd W g s d b) => jr_skip h)
  have TX := hid (fun (W : World) (h : Rd W g (skipP s) d b) => jr_text h (by have := skip_len s; omega))
  have HP := hid (fun W => js_HasPrefix (skipP s) [34] W)
  rw [hasJ_head, hq] at HP
  have V0 := hid (VW.start h)
  have glt := h.lt
  clear h
  obtain ⟨R, hR⟩ : ∃ R, R = (if b then none else (textP (skipP s)).map fun p => (Jv.mk 1 p.1 0 [] [], skipP p.2)) := ⟨_, rfl⟩
  rw [← hR]
  have HR := hid hR
  clear hR
  go_enter Tryd.func58, Tryd.ntmps58
  go_wp2_with fail
  refine (SK.out _ _ _ _ V0.out.rd).mono ?_
  rintro e w1 ⟨rfl, h1⟩
  have V1 := hid (V0.out.read h1)
  obtain ⟨c0, c1, c2, f1, f2⟩ := V1.out.facts
  obtain ⟨d0, d1, d2, e0, e1, e2⟩ := (RdTo.refl V1.out.rd).b0
  clear h1 V0
  go_wp2_with fail
  refine (HP.out _).mono ?_
  rintro e w' ⟨rfl, hw⟩
  subst hw
  go_wp2_with fail
  refine (TX.out _ V1.out.rd).mono ?_
  intro e w2 hT
  rcases hT with ⟨t, r, ht, rfl, h2⟩ | ⟨ht, rfl, h2⟩
  case inr =>
    have V2 := hid (V1.out.read h2)
    have V3 := hid ((V2.out.set 0 (.int .i64 1) ⟨1, [], 0, none, 0, 0, none, 0, 0⟩ rfl).set 1 (.string (S [])) ⟨1, [], 0, none, 0, 0, none, 0, 0⟩ rfl)
    have g0 := V2.out.facts.2.1 0 _ rfl
    have g1 := V2.out.facts.2.1 1 _ rfl
    have k0 := V2.out.facts.2.2.2.1 0
    have k1 := V2.out.facts.2.2.2.1 1
    have hbx := V2.out.facts.1
    clear c0 c1 c2 f1 f2 d0 d1 d2 e0 e1 e2 h2
    go_wp2_with fail
    refine (SK.out _ _ _ _ V3.out.rd).mono ?_
    rintro e w4 ⟨rfl, h4⟩
    have V4 := hid (V3.out.read h4)
    obtain ⟨a0, a1, a2, a3, a4⟩ := V4.out.cells
    obtain ⟨z0, z1, z2, z3, z4⟩ := V4.out.zeros
    have m0 := V4.out.facts.2.2.2.2 0
    have m1 := V4.out.facts.2.2.2.2 1
    have m2 := V4.out.facts.2.2.2.2 2
    have m3 := V4.out.facts.2.2.2.2 3
    have m4 := V4.out.facts.2.2.2.2 4
    simp only [] at a0 a1 a2 a3 a4
    clear h4 V3 g0 g1 k0 k1 hbx
    have HD := hid (VW.done V4.out (r := R) (by rw [HR.out, ht]; cases b <;> rfl) (fun p hp => by rw [HR.out, ht] at hp; cases b <;> simp at hp) (leafJ _ _ 1 [] 0) (u0 := .int .i64 1) (u1 := .string (S [])) (u2 := .int .i64 0) (u3 := .slice none 0 0) (u4 := .slice none 0 0))
    go_wp2
    refine bodyPost_ret (v := .agg #[.int .i64 1, .string (S []), .int .i64 0, .slice none 0 0, .slice none 0 0]) (by simp [results, Tryd.results58, go_sem, z0, z1, z2, z3, z4]) rfl HD.out
  case inl =>
    have V2 := hid (V1.out.read h2)
    have V3 := hid ((V2.out.set 0 (.int .i64 1) ⟨1, [], 0, none, 0, 0, none, 0, 0⟩ rfl).set 1 (.string (S t)) ⟨1, t, 0, none, 0, 0, none, 0, 0⟩ rfl)
    have g0 := V2.out.facts.2.1 0 _ rfl
    have g1 := V2.out.facts.2.1 1 _ rfl
    have k0 := V2.out.facts.2.2.2.1 0
    have k1 := V2.out.facts.2.2.2.1 1
    have hbx := V2.out.facts.1
    clear c0 c1 c2 f1 f2 d0 d1 d2 e0 e1 e2 h2
    go_wp2_with fail
    refine (SK.out _ _ _ _ V3.out.rd).mono ?_
    rintro e w4 ⟨rfl, h4⟩
    have V4 := hid (V3.out.read h4)
    obtain ⟨a0, a1, a2, a3, a4⟩ := V4.out.cells
    obtain ⟨z0, z1, z2, z3, z4⟩ := V4.out.zeros
    have m0 := V4.out.facts.2.2.2.2 0
    have m1 := V4.out.facts.2.2.2.2 1
    have m2 := V4.out.facts.2.2.2.2 2
    have m3 := V4.out.facts.2.2.2.2 3
    have m4 := V4.out.facts.2.2.2.2 4
    simp only [] at a0 a1 a2 a3 a4
    clear h4 V3 g0 g1 k0 k1 hbx
    have HD := hid (VW.done V4.out (r := R) (by rw [HR.out, ht]; cases b <;> rfl) (fun p hp => by rw [HR.out, ht] at hp; cases b <;> simp at hp; exact hp.symm) (leafJ _ _ 1 t 0) (u0 := .int .i64 1) (u1 := .string (S t)) (u2 := .int .i64 0) (u3 := .slice none 0 0) (u4 := .slice none 0 0))
    go_wp2
    refine bodyPost_ret (v := .agg #[.int .i64 1, .string (S t), .int .i64 0, .slice none 0 0, .slice none 0 0]) (by simp [results, Tryd.results58, go_sem, z0, z1, z2, z3, z4]) rfl HD.out
end Go.Proofs.YtbjimikppdfmgaaDoor
