/- Walk of json.items. -/
import Derived.Test.YtbjimikppdfmgaaDoorJs3
import Derived.Test.YtbjimikppdfmgaaDoorJsM
import Derived.Defers
set_option linter.unusedVariables false
set_option linter.unusedSimpArgs false
set_option maxHeartbeats 8000000
set_option maxRecDepth 100000
namespace Go.Proofs.YtbjimikppdfmgaaDoor
open Go.RowKit

theorem items_deferred (u : FrameMode) (W : World) {g pb : Nat} {s : List UInt8} {d : Int} {b : Bool} (hp : W.cell? ⟨pb, 0, none⟩ = some (.pointer (some ⟨g, 0, none⟩))) (h : Rd W g s d b) (hd : -100 ≤ d ∧ d ≤ 100) :
    CallsD Tryd.prog 121 #[.pointer (some ⟨pb, 0, none⟩)] u W fun e u' w' => u' = u ∧ (e = .returned (.tuple #[]) ∧ w' = W.setCell ⟨g, 1, none⟩ (.int .i64 (d - 1))) := by
  obtain ⟨d0, d1, d2, e0, e1, e2⟩ := (RdTo.refl h).b0
  clear h
  go_enter_d Tryd.func121, Tryd.ntmps121
  go_wp2
  go_end0
  exact ⟨rfl, rfl⟩

/-- A taker's memory: what it keeps, and the blocks that it may turn. -/
structure Taker (σ : Type) where
  I : σ → (Nat → Prop) → World → Prop
  lt : ∀ a fq W, I a fq W → ∀ k, fq k → k < W.heap.size
  keep : ∀ a fq W W', I a fq W → W.heap.size ≤ W'.heap.size → (∀ k, fq k → W'.heap[k]? = W.heap[k]?) → I a fq W'
abbrev orG (g : Nat) (fq : Nat → Prop) (k : Nat) : Prop := k = g ∨ fq k
/-- What a taker's call does. -/
def KidPost {σ : Type} (T : Taker σ) (g : Nat) (fq : Nat → Prop) (W : World) (d : Int) (r : Option (Jv × σ × List UInt8)) (e : Ending) (w' : World) : Prop :=
  ∃ (x : J5) (j : Jv) (a : σ) (fq' : Nat → Prop) (s : List UInt8), e = .returned (.agg #[.int .i64 x.kind, .string (S x.text), .int .i64 x.num, .slice x.nA x.nn x.nc, .slice x.kA x.kn x.kc]) ∧ Rd w' g s d r.isNone ∧ Touch W w' (orG g fq) (orG g fq') ∧ JAt w' (fun k => W.heap.size ≤ k ∧ ¬ fq' k) j x ∧ T.I a fq' w' ∧ ¬ fq' g ∧ ∀ p, r = some p → p = (j, a, s)
/-- What items tells. -/
def ItemsPost {σ : Type} (T : Taker σ) (g : Nat) (fq : Nat → Prop) (W : World) (d : Int) (r : Option (List Jv × σ × List UInt8)) (e : Ending) (w' : World) : Prop :=
  ∃ (A : Option Addr) (c : Nat) (xs : List J5) (js : List Jv) (a : σ) (fq' : Nat → Prop) (s : List UInt8), e = .returned (.slice A xs.length c) ∧ xs.length ≤ c ∧ xs.length ≤ 100000 ∧ Rd w' g s d r.isNone ∧ Touch W w' (orG g fq) (orG g fq') ∧ xs.length = js.length ∧
    KidsAt w' (fun k => W.heap.size ≤ k ∧ ¬ fq' k) A xs ∧ (∀ i (h : i < js.length) (h' : i < xs.length), JAt w' (fun k => W.heap.size ≤ k ∧ ¬ fq' k) js[i] xs[i]) ∧ T.I a fq' w' ∧ ¬ fq' g ∧ ∀ p, r = some p → p = (js, a, s)

/-- How far a reader has to go. -/
def leftOf (g : Nat) (w : World) : Nat :=
  match w.cell? ⟨g, 2, none⟩ with
  | some (.bool true) => 0
  | _ => match w.cell? ⟨g, 0, none⟩ with
    | some (.string b) => b.size + 1
    | _ => 1
theorem leftOf_rd {g : Nat} {w : World} {s : List UInt8} {d : Int} {b : Bool} (h : Rd w g s d b) : leftOf g w = if b then 0 else s.length + 1 := by
  obtain ⟨d0, d1, d2, e0, e1, e2⟩ := (RdTo.refl h).b0
  unfold leftOf
  rw [d0, d2]
  cases b <;> simp [S_size]
/-- The loop's memory. -/
structure LoopMem {σ : Type} (T : Taker σ) (g : Nat) (fq0 : Nat → Prop) (W wr : World) (d : Int) (A : Option Addr) (c : Nat) (os : List J5) (js : List Jv) (a : σ) (fq : Nat → Prop) (s : List UInt8) (b : Bool) : Prop where
  rd : Rd wr g s (d + 1) b
  box : wr.cell? ⟨W.heap.size, 0, none⟩ = some (.pointer (some ⟨g, 0, none⟩))
  tou : Touch W wr (orG g fq0) (orG g fq)
  row : wr.ownsRow W.heap.size 40 5 (.slice A os.length c) os.length (os.flatMap J5.cs)
  own : ∀ k, (Value.slice A os.length c).ownBlock = some k → ¬ fq k ∧ k ≠ W.heap.size
  I : T.I a fq wr
  ng : ¬ fq g
  nb : ¬ fq W.heap.size
  len : os.length = js.length
  kids : ∀ i (h : i < js.length) (h' : i < os.length), JAt wr (fun k => W.heap.size ≤ k ∧ ¬ fq k ∧ (Value.slice A os.length c).ownBlock ≠ some k) js[i] os[i]
/-- The loop's plain state: what is still to come. -/
structure LoopPl {σ : Type} (tk : σ → List UInt8 → Option (Jv × σ × List UInt8)) (fin : UInt8) (r : Option (List Jv × σ × List UInt8)) (cnt : σ → Nat) (N n : Nat) (js : List Jv) (a : σ) (s : List UInt8) (b : Bool) : Prop where
  cn : b = false → cnt a ≤ n
  few : b = false → n + s.length < N
  all : b = false → ∃ f, s.length < f ∧ r = (loopP tk fin f a s).map fun p => (js ++ p.1, p.2.1, p.2.2)
  no : b = true → r = none
  most : n ≤ N + 1
section
variable {σ : Type} {T : Taker σ} {tk : σ → List UInt8 → Option (Jv × σ × List UInt8)} {fin : UInt8} {r : Option (List Jv × σ × List UInt8)} {g : Nat} {fq0 : Nat → Prop} {W wr wn : World} {d : Int} {N : Nat} {A : Option Addr} {c : Nat} {os : List J5} {js : List Jv} {a : σ} {fq : Nat → Prop} {s : List UInt8} {b : Bool}
theorem row_cap {w : World} {base : Nat} {e : TypeId} {size n c : Nat} {A : Option Addr} {xs : List Value} (h : w.ownsRow base e size (.slice A n c) n xs) : n ≤ c := by
  rcases h.2 with ⟨h1, h2⟩ | ⟨g, cap, cur, hv, hb, hh, hc, hm, r⟩
  · simp only [Value.slice.injEq] at h1
    omega
  · simp only [Value.slice.injEq] at hv
    obtain ⟨rfl, -, rfl⟩ := hv
    exact hc
theorem LoopMem.done (h : LoopMem T g fq0 W wr d A c os js a fq s b) (hd : 0 ≤ d ∧ d < 5) (hmost : os.length ≤ 100000) {R : Option (List Jv × σ × List UInt8)} (hb : R.isNone = b) (hR : ∀ p, R = some p → p = (js, a, s)) (hng : g < W.heap.size) :
    ItemsPost T g fq0 W d R (.returned (.slice A os.length c)) (wr.setCell ⟨g, 1, none⟩ (.int .i64 (d + 1 - 1))) := by
  have hk : ∀ k, k ≠ g → (wr.setCell ⟨g, 1, none⟩ (.int .i64 (d + 1 - 1))).heap[k]? = wr.heap[k]? := fun k hk => set_other _ _ _ _ k hk
  have hrd := (RdTo.refl h.rd).set1 (d + 1 - 1)
  refine ⟨A, c, os, js, a, fq, s, rfl, row_cap h.row, by omega, ?_, h.tou.trans (Touch.setCell _ _ (p := ⟨g, 1, none⟩) (.inl rfl) _), h.len, ?_, ?_, ?_, h.ng, hR⟩
  · rw [hb, show d = d + 1 - 1 by omega]
    simpa using hrd.blk
  · have h1 := kids_row h.row
    intro h0
    obtain ⟨bk, o, hA, hbk, hlt, hc⟩ := h1 h0
    have ho : (Value.slice A os.length c).ownBlock = some bk := by
      rcases h.row.2 with ⟨e1, e2⟩ | ⟨gg, cap, cur, hv, _⟩
      · omega
      · simp only [Value.slice.injEq] at hv
        obtain ⟨e1, -, -⟩ := hv
        rw [hA] at e1
        injection e1 with e1
        injection e1 with e1
        subst e1
        rw [hA]
        rfl
    refine ⟨bk, o, hA, ⟨hbk, (h.own bk ho).1⟩, by simpa [set_size] using hlt, fun i hi j u hu => ?_⟩
    rw [cell_same (hk bk (by omega))]
    exact hc i hi j u hu
  · intro i hi hi'
    exact (h.kids i hi hi').keep (fun k hk' _ => hk k (by omega)) (by simp [set_size]) (fun k hk' _ => ⟨hk'.1, hk'.2.1⟩)
  · exact T.keep _ _ _ _ h.I (by simp [set_size]) (fun k hf => hk k (by rintro rfl; exact h.ng hf))
theorem LoopMem.own_lt (h : LoopMem T g fq0 W wr d A c os js a fq s b) {k : Nat} (hk : (Value.slice A os.length c).ownBlock = some k) : W.heap.size < k ∧ k < wr.heap.size := by
  have h1 := row_base_le h.row hk
  have h2 := (h.own k hk).2
  obtain ⟨cs, h3⟩ := row_heap h.row hk
  exact ⟨by omega, (Array.getElem?_eq_some_iff.1 h3).1⟩
/-- The reader goes on. -/
theorem LoopMem.read (h : LoopMem T g fq0 W wr d A c os js a fq s b) (hng : g < W.heap.size) {s' : List UInt8} {b' : Bool} (hr : RdTo g wr wn s' (d + 1) b') : LoopMem T g fq0 W wn d A c os js a fq s' b' := by
  have hk : ∀ k, k < wr.heap.size → k ≠ g → wn.heap[k]? = wr.heap[k]? := fun k hk hne => hr.tou.block k hk hne
  refine ⟨hr.blk, ?_, h.tou.trans ⟨hr.tou.os, hr.tou.tape, hr.tou.output, hr.tou.size, fun k hlt hn => hr.tou.block k hlt (fun e => hn (.inl e)), fun k hk => .inl hk⟩, row_keep h.row (fun k hk' => hk k (h.own_lt hk').2 (by have := (h.own_lt hk').1; omega)), h.own, ?_, h.ng, h.nb, h.len, ?_⟩
  · rw [cell_same (hk W.heap.size (World.block_lt_of_cell? wr _ h.box) (by omega))]
    exact h.box
  · exact T.keep _ _ _ _ h.I hr.tou.size (fun k hf => hk k (T.lt _ _ _ h.I k hf) (by rintro rfl; exact h.ng hf))
  · exact fun i hi hi' => (h.kids i hi hi').keep (fun k hk' hlt => hk k hlt (by omega)) hr.tou.size (fun k hk' _ => hk')
/-- One more. -/
theorem LoopMem.more (h : LoopMem T g fq0 W wr d A c os js a fq s b) (hng : g < W.heap.size) {w3 : World} {x : J5} {j : Jv} {a1 : σ} {fq1 : Nat → Prop} {s1 : List UInt8} {b1 : Bool} (r3 : Rd w3 g s1 (d + 1) b1) (t3 : Touch wr w3 (orG g fq) (orG g fq1))
    (j3 : JAt w3 (fun k => wr.heap.size ≤ k ∧ ¬ fq1 k) j x) (i3 : T.I a1 fq1 w3) (g3 : ¬ fq1 g) :
    w3.ownsRow W.heap.size 40 5 (.slice A os.length c) os.length (os.flatMap J5.cs) ∧ ∀ A' c' w4, w4.ownsRow W.heap.size 40 5 (.slice A' (os ++ [x]).length c') (os ++ [x]).length ((os ++ [x]).flatMap J5.cs) → w4.heap.size ≥ w3.heap.size →
      (∀ k, k < w3.heap.size → (Value.slice A os.length c).ownBlock ≠ some k → w4.heap[k]? = w3.heap[k]?) → Below W.heap.size w3 w4 → ((Value.slice A' (os ++ [x]).length c').ownBlock = (Value.slice A os.length c).ownBlock ∨ (Value.slice A' (os ++ [x]).length c').ownBlock = some (w3.heap.size + 1)) →
      LoopMem T g fq0 W w4 d A' c' (os ++ [x]) (js ++ [j]) a1 fq1 s1 b1 := by
  have hnew : ∀ k, k < wr.heap.size → k ≠ g → ¬ fq k → ¬ fq1 k := fun k hk hne hn hf => by
    rcases t3.new k (.inr hf) with h1 | h1
    · rcases h1 with h1 | h1
      · exact hne h1
      · exact hn h1
    · omega
  have hsame : ∀ k, k < wr.heap.size → k ≠ g → ¬ fq k → w3.heap[k]? = wr.heap[k]? := fun k hk hne hn => t3.block k hk (fun e => by
    rcases e with e | e
    · exact hne e
    · exact hn e)
  have hbx := World.block_lt_of_cell? wr _ h.box
  simp only [] at hbx
  refine ⟨row_keep h.row fun k hk => ?_, fun A' c' w4 hrow hsz hblk hbel how => ?_⟩
  · obtain ⟨l1, l2⟩ := h.own_lt hk
    exact hsame k l2 (by omega) (h.own k hk).1
  · have hgo : (Value.slice A os.length c).ownBlock ≠ some g := fun hk => by have := (h.own_lt hk).1; omega
    have hbo : (Value.slice A os.length c).ownBlock ≠ some W.heap.size := fun hk => by have := (h.own_lt hk).1; omega
    have hfo : ∀ k, fq1 k → (Value.slice A os.length c).ownBlock ≠ some k := fun k hf hk => by
      obtain ⟨l1, l2⟩ := h.own_lt hk
      exact hnew k l2 (by omega) (h.own k hk).1 hf
    refine ⟨?_, ?_, ?_, hrow, fun k hk => ?_, ?_, g3, hnew _ hbx (by omega) h.nb, by simp [h.len], ?_⟩
    · exact (hblk g r3.lt hgo).trans r3
    · rw [cell_same (hblk _ (by have := t3.size; omega) hbo), cell_same (hsame _ hbx (by omega) h.nb)]
      exact h.box
    · have t4 := h.tou.trans t3
      exact ⟨hbel.os.trans t4.os, hbel.tape.trans t4.tape, hbel.output.trans t4.output, Nat.le_trans t4.size hsz, fun k hk hn => (hblk k (Nat.lt_of_lt_of_le hk t4.size) (fun ho => by have := (h.own_lt ho).1; omega)).trans (t4.block k hk hn), t4.new⟩
    · rcases how with ho | ho
      · rw [ho] at hk
        obtain ⟨l1, l2⟩ := h.own_lt hk
        exact ⟨hnew k l2 (by omega) (h.own k hk).1, by omega⟩
      · rw [ho] at hk
        injection hk with hk
        subst hk
        have := t3.size
        exact ⟨fun hf => by have := T.lt _ _ _ i3 _ hf; omega, by omega⟩
    · exact T.keep _ _ _ _ i3 hsz (fun k hf => hblk k (T.lt _ _ _ i3 k hf) (hfo k hf))
    · have hfresh : ∀ k, W.heap.size ≤ k → k < w3.heap.size → (Value.slice A os.length c).ownBlock ≠ some k → (Value.slice A' (os ++ [x]).length c').ownBlock ≠ some k := fun k h1 h2 h3 h4 => by
        rcases how with ho | ho
        · exact h3 (ho ▸ h4)
        · rw [ho] at h4
          injection h4 with h4
          omega
      intro i hi hi'
      by_cases hlt : i < js.length
      · have h1 := h.kids i hlt (by rw [h.len]; exact hlt)
        rw [List.getElem_append_left hlt, List.getElem_append_left (by rw [h.len]; exact hlt)]
        have h2 := h1.keep (w' := w3) (ok' := fun k => W.heap.size ≤ k ∧ ¬ fq1 k ∧ (Value.slice A os.length c).ownBlock ≠ some k ∧ k < wr.heap.size) (fun k hk hkl => hsame k hkl (by omega) hk.2.1) t3.size (fun k hk hkl => ⟨hk.1, hnew k hkl (by omega) hk.2.1, hk.2.2, hkl⟩)
        exact h2.keep (fun k hk hkl => hblk k hkl hk.2.2.1) hsz (fun k hk hkl => ⟨hk.1, hk.2.1, hfresh k hk.1 hkl hk.2.2.1⟩)
      · have hi1 : i = js.length := by simp at hi; omega
        subst hi1
        have e1 : (js ++ [j])[js.length]'hi = j := by simp
        have e2 : (os ++ [x])[js.length]'hi' = x := by simp [← h.len]
        rw [e1, e2]
        have hws := h.tou.size
        exact j3.keep (fun k hk hkl => hblk k hkl (fun ho => by have := (h.own_lt ho).2; omega)) hsz (fun k hk hkl => ⟨by omega, hk.2, hfresh k (by omega) hkl (fun ho => by have := (h.own_lt ho).2; omega)⟩)
end
section
variable {σ : Type} {tk : σ → List UInt8 → Option (Jv × σ × List UInt8)} {fin : UInt8} {r : Option (List Jv × σ × List UInt8)} {cnt : σ → Nat} {N n : Nat} {js : List Jv} {a a1 : σ} {s s1 : List UInt8} {j : Jv}
theorem LoopPl.last (h : LoopPl tk fin r cnt N n js a s false) (hp : ∀ p, tk a s = some p → p = (j, a1, s1)) (hq : (signP fin s1).2 = true) : r.isNone = (tk a s).isNone ∧ ∀ p, r = some p → p = (js ++ [j], a1, (signP fin s1).1) := by
  obtain ⟨f, hf, hr⟩ := h.all rfl
  obtain ⟨f, rfl⟩ : ∃ f', f = f' + 1 := ⟨f - 1, by omega⟩
  rw [loopP] at hr
  cases ht : tk a s with
  | none => rw [ht] at hr; simp at hr; subst hr; simp
  | some p =>
    obtain rfl := hp p ht
    rw [ht] at hr
    simp only [hq, if_true, Option.map_some] at hr
    subst hr
    simp
theorem LoopPl.next (h : LoopPl tk fin r cnt N n js a s false) (hp : ∀ p, tk a s = some p → p = (j, a1, s1)) (hl : ∀ p, tk a s = some p → p.2.2.length ≤ s.length) (hc : ∀ p, tk a s = some p → cnt p.2.1 ≤ cnt a + 1) (hq : (signP fin s1).2 = false) (hq2 : (signP 44 (signP fin s1).1).2 = true) :
    LoopPl tk fin r cnt N (n + 1) (js ++ [j]) a1 (signP 44 (signP fin s1).1).1 (tk a s).isNone ∧ ((tk a s).isNone = false → (signP 44 (signP fin s1).1).1.length < s.length) := by
  obtain ⟨f, hf, hr⟩ := h.all rfl
  obtain ⟨f, rfl⟩ : ∃ f', f = f' + 1 := ⟨f - 1, by omega⟩
  have hfew := h.few rfl
  have l1 := (sign_len fin s1).1
  have l2 := (sign_len 44 (signP fin s1).1).2 hq2
  rw [loopP] at hr
  cases ht : tk a s with
  | none =>
    rw [ht] at hr; simp at hr; subst hr
    exact ⟨⟨(fun h => by cases h), (fun h => by cases h), (fun h => by cases h), fun _ => rfl, by omega⟩, (fun h => by cases h)⟩
  | some p =>
    have hl2 := hl p ht
    have hc2 := hc p ht
    have hc3 := h.cn rfl
    obtain rfl := hp p ht
    simp only [] at hl2 hc2
    rw [ht] at hr
    simp only [hq, hq2, if_true, Bool.false_eq_true, if_false] at hr
    refine ⟨⟨fun _ => by omega, fun _ => by omega, fun _ => ⟨f, by omega, ?_⟩, (fun h => by cases h), by omega⟩, fun _ => by omega⟩
    rw [hr]
    cases loopP tk fin f a1 (signP 44 (signP fin s1).1).1 with
    | none => rfl
    | some q => simp
theorem LoopPl.bad (h : LoopPl tk fin r cnt N n js a s false) (hp : ∀ p, tk a s = some p → p = (j, a1, s1)) (hq : (signP fin s1).2 = false) (hq2 : (signP 44 (signP fin s1).1).2 = false) (s2 : List UInt8) :
    LoopPl tk fin r cnt N (n + 1) (js ++ [j]) a1 s2 true := by
  obtain ⟨f, hf, hr⟩ := h.all rfl
  obtain ⟨f, rfl⟩ : ∃ f', f = f' + 1 := ⟨f - 1, by omega⟩
  have hfew := h.few rfl
  refine ⟨(fun h => by cases h), (fun h => by cases h), (fun h => by cases h), fun _ => ?_, by omega⟩
  rw [loopP] at hr
  cases ht : tk a s with
  | none => rw [ht] at hr; simpa using hr
  | some p =>
    obtain rfl := hp p ht
    rw [ht] at hr
    simpa [hq, hq2] using hr
end
theorem jr_items {σ : Type} (T : Taker σ) {F : FuncId} {fa : Array Value} {V : Value} (hV : (∃ p, V = .func (.func F) #[p] #[] ∧ fa = #[p]) ∨ V = .func (.func F) #[] fa) (hcf : ∀ W, (callFunc F fa).run Tryd.prog W = .ok (.enter F fa) W) (fin : UInt8)
    (tk : σ → List UInt8 → Option (Jv × σ × List UInt8)) (ht : ∀ a s p, tk a s = some p → p.2.2.length ≤ s.length) (cnt : σ → Nat) (hcnt : ∀ a s p, tk a s = some p → cnt p.2.1 ≤ cnt a + 1) (g : Nat) (W : World) (s : List UInt8) (d : Int) (a0 : σ) (fq0 : Nat → Prop) (h : Rd W g s d false) (hI : T.I a0 fq0 W) (h0 : cnt a0 = 0) (hfg : ¬ fq0 g) (hd : 0 ≤ d ∧ d < 5) (hs : s.length ≤ 90000) (N : Nat) (hN : s.length < N) (hN2 : N ≤ 90000)
    (step : ∀ a fq s' W', s'.length < N → cnt a ≤ N → Touch W W' (orG g fq0) (orG g fq) → Rd W' g s' (d + 1) false → T.I a fq W' → ¬ fq g → Calls Tryd.prog F fa W' (KidPost T g fq W' (d + 1) (tk a s'))) :
    Calls Tryd.prog 97 #[.pointer (some ⟨g, 0, none⟩), .string (S [fin]), V] W (ItemsPost T g fq0 W d (itemsP tk fin N a0 s)) := by
  have H := hid h
  have SG := hid (fun (W : World) (s : List UInt8) (d : Int) (b : Bool) (h : Rd W g s d b) (c : UInt8) => jr_sign h c)
  have STEP := hid step
  have HI := hid hI
  have HT := hid ht
  have HC := hid hcnt
  have C0 := hid h0
  have A1 := ((RdTo.refl h).set1 (d + 1)).below ((Below.refl _ _).alloc (Nat.le_refl _) (.cells #[.pointer (some ⟨g, 0, none⟩)] 85))
  have H1 := hid A1
  obtain ⟨d0, d1, d2, e0, e1, e2⟩ := (RdTo.refl h).b0
  have hdd : ¬ (5 : Int) < d + 1 := by omega
  have hd0 := hd.1
  have hd1 := hd.2
  have B1 := hid (Blk.new (W.setCell ⟨g, 1, none⟩ (.int .i64 (d + 1))) 85 #[.pointer (some ⟨g, 0, none⟩)])
  have glt := h.lt
  have gne : W.heap.size ≠ g := by omega
  clear h step hI A1 ht hcnt h0
  rcases hV with ⟨p, rfl, rfl⟩ | rfl
  all_goals
    go_enter_defers Tryd.func97, Tryd.ntmps97
    go_wp2_with fail
    refine (SG.out _ _ _ _ H1.out.blk fin).mono ?_
    rintro e w2 ⟨rfl, h2⟩
    have H2 := hid (H1.out.trans h2)
    have hsl := sign_len fin s
    obtain ⟨q, hq⟩ : ∃ q, q = signP fin s := ⟨_, rfl⟩
    have HP := hid (show itemsP tk fin N a0 s = if q.2 = true then some ([], a0, q.1) else loopP tk fin N a0 q.1 by rw [hq]; rfl)
    rw [← hq] at hsl H2 h2 ⊢
    clear hq
    obtain ⟨q1, q2⟩ := q
    have hbox2 : w2.cell? ⟨W.heap.size, 0, none⟩ = some (.pointer (some ⟨g, 0, none⟩)) := by
      have e1 := h2.tou.block W.heap.size (by simp [World.alloc, set_size]) (by omega)
      rw [cell_same e1]
      simpa using B1.out.cell 0
    have START : ∀ (q : List UInt8) (hq : q = q1), LoopMem T g fq0 W w2 d none 0 [] [] a0 fq0 q false ∧ LoopPl tk fin (loopP tk fin N a0 q) cnt N 0 [] a0 q false := fun q hq => by
      subst hq
      refine ⟨⟨H2.out.blk, hbox2, ?_, World.ownsRow_nil _ _ _ _, (fun k hk => by cases hk), ?_, hfg, (fun hf => absurd (T.lt _ _ _ HI.out _ hf) (by omega)), rfl, (fun i hi => by simp at hi)⟩, (fun _ => Nat.le_of_eq C0.out), fun _ => ?_, fun _ => ⟨N, ?_, ?_⟩, (fun hh => by cases hh), Nat.zero_le _⟩
      · exact ⟨H2.out.tou.os, H2.out.tou.tape, H2.out.tou.output, H2.out.tou.size, fun k hk hn => H2.out.tou.block k hk (fun e => hn (.inl e)), fun k hk => .inl hk⟩
      · exact T.keep _ _ _ _ HI.out H2.out.tou.size (fun k hf => H2.out.tou.block k (T.lt _ _ _ HI.out _ hf) (by rintro rfl; exact hfg hf))
      · have := hsl.1; simp only [] at this; simp; omega
      · have := hsl.1; simp only [] at this; omega
      · simp
    cases q2 with
    | true =>
      clear h2
      have HD := hid (LoopMem.done (START q1 rfl).1 hd (Nat.zero_le _) (R := some ([], a0, q1)) rfl (fun p hp => by injection hp with hp; exact hp.symm) glt)
      go_wp2
      refine leaves_cons (f := 121) (args := #[.pointer (some ⟨W.heap.size, 0, none⟩)]) (by simp) (by simp [go_sem]) ?_
      refine (items_deferred .returning w2 hbox2 H2.out.blk (by omega)).mono ?_
      rintro e u' w'' ⟨rfl, rfl, rfl⟩
      refine ⟨_, results_tmp rfl _ _ _, ?_⟩
      rw [HP.out, if_pos trivial]
      exact HD.out
    | false =>
      have L0 := hid (START q1 rfl)
      have LR : Hid (itemsP tk fin N a0 s = loopP tk fin N a0 q1) := by rw [Hid, HP.out, if_neg (by simp)]
      clear HP h2 H2 hbox2 H1 B1 START d0 d1 d2 e0 e1 e2 hsl H HI
      obtain ⟨r, hr⟩ : ∃ r, r = loopP tk fin N a0 q1 := ⟨_, rfl⟩
      rw [← hr] at L0 LR
      clear hr
      go_wp2
      go_loopw [7] (fun o wr => ∃ A c os js a fq s' b, o = .slice A os.length c ∧ Hid (LoopMem T g fq0 W wr d A c os js a fq s' b) ∧ Hid (LoopPl tk fin r cnt N os.length js a s' b)) (fun _ wr => leftOf g wr)
      case atStart => exact ⟨none, 0, [], [], a0, fq0, q1, false, rfl, L0.out.1, L0.out.2⟩
      case round =>
        obtain ⟨A, c, os, js, a, fq, s', b, rfl, hM, hP⟩ := hrel
        have hbx := hM.out.box
        obtain ⟨d0, d1, d2, e0, e1, e2⟩ := (RdTo.refl hM.out.rd).b0
        have hmost := hP.out.most
        cases b with
        | true =>
          obtain rfl := hP.out.no rfl
          have HD := hid (LoopMem.done hM.out hd (by omega) (R := none) rfl (fun p hp => by cases hp) glt)
          go_wp2
          refine leaves_cons (f := 121) (args := #[.pointer (some ⟨W.heap.size, 0, none⟩)]) (by simp) (by simp [go_sem]) ?_
          refine (items_deferred .returning wr hbx hM.out.rd (by omega)).mono ?_
          rintro e u' w'' ⟨rfl, rfl, rfl⟩
          refine ⟨_, results_tmp rfl _ _ _, ?_⟩
          rw [LR.out]
          exact HD.out
        | false =>
          have hfew := hP.out.few rfl
          have KP := hid (STEP.out a fq s' wr (by omega) (by have := hP.out.cn rfl; omega) hM.out.tou hM.out.rd hM.out.I hM.out.ng)
          go_wp2_with fail
          refine KP.out.mono ?_
          rintro e w3 ⟨x, j, a1, fq1, s1, rfl, r3, t3, j3, i3, g3, p3⟩
          obtain ⟨hrow3, hmk⟩ := hM.out.more glt r3 t3 j3 i3 g3
          have HROW := hid hrow3
          have HMK := hid hmk
          have HP3 := hid p3
          have hs3 := Nat.le_trans hM.out.tou.size t3.size
          clear hrow3 hmk p3 r3 t3 j3 i3 g3 KP d0 d1 d2 e0 e1 e2 hbx
          go_wp2_with (first | (at_builtin; (refine wpList_append_json (os := os) (y := x) (base := W.heap.size) rfl _ _ (by rfl) (by rfl) (by rfl) (by rfl) HROW.out (by omega) (by omega) ?_); intro A2 c2 w4 hr4 hs4 hb4 hl4 ho4; (have M4 := hid (HMK.out A2 c2 w4 hr4 hs4 hb4 hl4 ho4)); (have hbx4 := M4.out.box); clear hr4 hs4 hb4 hl4 ho4))
          refine (SG.out _ _ _ _ M4.out.rd fin).mono ?_
          rintro e w5 ⟨rfl, h5⟩
          have M5 := hid (M4.out.read glt h5)
          have hbx5 := M5.out.box
          have HLAST := hid (fun hq => LoopPl.last hP.out HP3.out hq)
          have HNEXT := hid (fun hq hq2 => LoopPl.next hP.out HP3.out (fun p hp => HT.out _ _ _ hp) (fun p hp => HC.out _ _ _ hp) hq hq2)
          have HBAD := hid (fun hq hq2 => LoopPl.bad hP.out HP3.out hq hq2)
          have hlo := hid (leftOf_rd hM.out.rd)
          clear h5 M4 HMK HP3 hP hM hbx4
          obtain ⟨q, hq⟩ : ∃ q, q = signP fin s1 := ⟨_, rfl⟩
          rw [← hq] at M5 HLAST HNEXT HBAD ⊢
          clear hq
          obtain ⟨q1', q2'⟩ := q
          cases q2' with
          | true =>
            obtain ⟨hl1, hl2⟩ := HLAST.out rfl
            have HD := hid (LoopMem.done M5.out hd (by simp; omega) (R := r) hl1 hl2 glt)
            clear HLAST HNEXT HBAD
            go_wp2
            refine leaves_cons (f := 121) (args := #[.pointer (some ⟨W.heap.size, 0, none⟩)]) (by simp) (by simp [go_sem]) ?_
            refine (items_deferred .returning w5 hbx5 M5.out.rd (by omega)).mono ?_
            rintro e u' w'' ⟨rfl, rfl, rfl⟩
            refine ⟨_, results_tmp rfl _ _ _, ?_⟩
            rw [LR.out]
            simpa using HD.out
          | false =>
            go_wp2_with fail
            refine (SG.out _ _ _ _ M5.out.rd 44).mono ?_
            rintro e w6 ⟨rfl, h6⟩
            have M6 := hid (M5.out.read glt h6)
            have hbx6 := M6.out.box
            have HN3 := hid (fun hq2 => HNEXT.out trivial hq2)
            have HB3 := hid (fun hq2 => HBAD.out trivial hq2)
            clear h6 M5 hbx5 HNEXT HBAD HLAST
            obtain ⟨q, hq⟩ : ∃ q, q = signP 44 q1' := ⟨_, rfl⟩
            rw [← hq] at M6 HN3 HB3 ⊢
            clear hq
            obtain ⟨q3, q4⟩ := q
            cases q4 with
            | true =>
              obtain ⟨PL, hlt⟩ := HN3.out rfl
              have PLH := hid PL
              have HLT := hid hlt
              clear HN3 HB3 PL hlt
              go_wp2
              go_roundw
              case rel => exact ⟨A2, c2, os ++ [x], js ++ [j], a1, fq1, q3, _, by simp, M6, by rw [List.length_append]; exact PLH⟩
              case measure =>
                rw [leftOf_rd M6.out.rd, hlo.out]
                have := HLT.out
                cases hn : (tk a s').isNone with
                | true => simp
                | false => have := this hn; simp; omega
            | false =>
              have PLH := hid (HB3.out rfl q3)
              have M7 := hid (M6.out.read glt ((RdTo.refl M6.out.rd).set2 true))
              obtain ⟨d0, d1, d2, e0, e1, e2⟩ := (RdTo.refl M6.out.rd).b0
              clear HN3 HB3
              go_wp2
              go_roundw
              case rel => exact ⟨A2, c2, os ++ [x], js ++ [j], a1, fq1, q3, true, by simp, M7, by rw [List.length_append]; exact PLH⟩
              case measure =>
                rw [leftOf_rd M7.out.rd, hlo.out]
                simp
end Go.Proofs.YtbjimikppdfmgaaDoor
