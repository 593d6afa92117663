/- Walk of pantileref06.Cut. -/
import Derived.Test.YtbjimikppdfmgaaDoorJsO2
import Derived.Test.YtbjimikppdfmgaaDoorJsK
import Derived.Test.YtbjimikppdfmgaaDoorJsRf
import Derived.Test.YtbjimikppdfmgaaDoorLawK
import Derived.IntWalk
import Derived.Deep.DeepCutAuto
import Derived.Deep.RegionHeld3
set_option linter.unusedVariables false
set_option linter.unusedSimpArgs false
set_option maxHeartbeats 16000000
set_option maxRecDepth 100000
namespace Go.Proofs.YtbjimikppdfmgaaDoor
open Go.RowKit

/-- append(names, n), as a run. -/
theorem append_name {W : World} {base : Nat} {A : Option Addr} {c : Nat} {os : List (List UInt8)} (y : List UInt8)
    (hown : W.ownsRow base 9 1 (.slice A os.length c) os.length (os.map sV)) (hl : os.length ≤ 1000000) (hbase : base ≤ W.heap.size) :
    ∃ A' c' w', (Builtin.append_ #[32, 32] 32 #[.slice A os.length c, .slice (some ⟨W.heap.size, 0, none⟩) 1 1]).run Tryd.prog (W.alloc (.cells #[.string (S y)] 9)) = .ok (.slice A' (os.length + 1) c') w' ∧
      w'.ownsRow base 9 1 (.slice A' (os ++ [y]).length c') (os ++ [y]).length ((os ++ [y]).map sV) ∧ w'.heap.size ≥ W.heap.size ∧ (∀ k, k < W.heap.size → (Value.slice A os.length c).ownBlock ≠ some k → w'.heap[k]? = W.heap[k]?) ∧ Below base W w' := by
  obtain ⟨i, hi, hz, hsz, hby⟩ := info_str
  have b0 : Below W.heap.size W (W.alloc (.cells #[.string (S y)] 9)) := (Below.refl _ _).alloc (Nat.le_refl _) _
  have hB := Blk.new W 9 #[.string (S y)]
  obtain ⟨v', w', hrun, hown1, hgrow, hat⟩ := run_append_row (P := Tryd.prog) _ base 32 32 9 i _ 1 16 (by kernel_rfl) hi hz hsz hby rfl (by decide) _ _ _ (row_alloc hown (.cells #[.string (S y)] 9)) (some ⟨W.heap.size, 0, none⟩) 1 1 [sV y] (by simp) (fun h => by cases h)
    (fun ad had j u hu => by
      injection had with had
      subst had
      rw [add_plain', Nat.zero_add, hB.cell j, ← hu]
      simp [sV])
    (fun u hu => by
      simp only [List.mem_cons, List.not_mem_nil, or_false] at hu
      subst hu; rfl)
    (by unfold maxLen; omega) (by omega) (by simp; omega)
  have hlen : (os ++ [y]).length = os.length + 1 := by simp
  have hfl : (os ++ [y]).map sV = os.map sV ++ [sV y] := by simp
  obtain ⟨A', c', rfl⟩ := row_form hown1
  rw [← hlen, ← hfl] at hown1
  refine ⟨A', c', w', hrun, hown1, ?_, ?_, (b0.mono hbase).grown hgrow (by simp; omega) fun k hk => row_base_le hown hk⟩
  · have := hgrow.size
    simp at this
    omega
  · intro k hk hA
    exact (hgrow.block k (by simp; omega) (fun e => hA e.symm)).trans (b0.block k hk)
/-- The worlds of Cut: the value, what is told, what is made, its rows. -/
structure CW (W wr : World) (x : J5) (k : Int) (t : List UInt8) (u : Int) (A3 : Option Addr) (c3 : Nat) (ns : List (List UInt8)) (A4 : Option Addr) (c4 : Nat) (ys : List J5) (ks : List Jv) : Prop where
  bel : Below W.heap.size W wr
  box : Blk wr W.heap.size 40 x.ar
  res : Blk wr (W.heap.size + 1) 40 zeroJ.ar
  out : Blk wr (W.heap.size + 1 + 1) 40 (J5.ar ⟨k, t, u, A3, ns.length, c3, A4, ys.length, c4⟩)
  nrow : wr.ownsRow (W.heap.size + 1 + 1 + 1) 9 1 (.slice A3 ns.length c3) ns.length (ns.map sV)
  krow : wr.ownsRow (W.heap.size + 1 + 1 + 1) 40 5 (.slice A4 ys.length c4) ys.length (ys.flatMap J5.cs)
  len : ys.length = ks.length
  kids : ∀ i (h : i < ks.length) (h' : i < ys.length), JAt wr (fun b => W.heap.size + 1 + 1 < b ∧ (Value.slice A4 ys.length c4).ownBlock ≠ some b) ks[i] ys[i]
section
variable {W wr wn : World} {x : J5} {k : Int} {t : List UInt8} {u : Int} {A3 A4 : Option Addr} {c3 c4 : Nat} {ns : List (List UInt8)} {ys : List J5} {ks : List Jv}
theorem CW.start (W : World) (x : J5) (k : Int) (t : List UInt8) (u : Int) : CW W (((W.alloc (.cells x.ar 40)).alloc (.cells zeroJ.ar 40)).alloc (.cells (J5.ar ⟨k, t, u, none, 0, 0, none, 0, 0⟩) 40)) x k t u none 0 [] none 0 [] [] := by
  refine ⟨(((Below.refl _ _).alloc (Nat.le_refl _) _).alloc (by rw [alloc_size]; omega) _).alloc (by rw [alloc_size, alloc_size]; omega) _, ((Blk.new W _ _).alloc _).alloc _, ?_, ?_, World.ownsRow_nil _ _ _ _, World.ownsRow_nil _ _ _ _, rfl, fun i h => by simp at h⟩
  · have := (Blk.new (W.alloc (.cells x.ar 40)) 40 zeroJ.ar).alloc (.cells (J5.ar ⟨k, t, u, none, 0, 0, none, 0, 0⟩) 40)
    rwa [alloc_size] at this
  · have := Blk.new ((W.alloc (.cells x.ar 40)).alloc (.cells zeroJ.ar 40)) 40 (J5.ar ⟨k, t, u, none, 0, 0, none, 0, 0⟩)
    rwa [alloc_size, alloc_size] at this
theorem CW.below (h : CW W wr x k t u A3 c3 ns A4 c4 ys ks) (hb : Below wr.heap.size wr wn) : CW W wn x k t u A3 c3 ns A4 c4 ys ks :=
  ⟨bt h.bel hb, h.box.below hb h.box.lt, h.res.below hb h.res.lt, h.out.below hb h.out.lt, row_below h.nrow hb, row_below h.krow hb, h.len, fun i hi hi' => (h.kids i hi hi').belowW hb⟩
theorem CW.cells (h : CW W wr x k t u A3 c3 ns A4 c4 ys ks) : wr.cell? ⟨W.heap.size, 3, none⟩ = some (.slice x.nA x.nn x.nc) ∧ wr.cell? ⟨W.heap.size, 4, none⟩ = some (.slice x.kA x.kn x.kc) ∧ wr.cell? ⟨W.heap.size + 1 + 1, 3, none⟩ = some (.slice A3 ns.length c3) ∧ wr.cell? ⟨W.heap.size + 1 + 1, 4, none⟩ = some (.slice A4 ys.length c4) ∧ wr.frozen? ⟨W.heap.size + 1 + 1, 3, none⟩ = false ∧ wr.frozen? ⟨W.heap.size + 1 + 1, 4, none⟩ = false ∧ W.heap.size < wr.heap.size ∧ W.heap.size + 1 + 1 < wr.heap.size :=
  ⟨(h.box.cell 3).trans rfl, (h.box.cell 4).trans rfl, (h.out.cell 3).trans rfl, (h.out.cell 4).trans rfl, h.out.frozen 3, h.out.frozen 4, h.box.lt, h.out.lt⟩
theorem row_ltC {w : World} {base : Nat} {e : TypeId} {size n : Nat} {v : Value} {xs : List Value} (h : w.ownsRow base e size v n xs) {k : Nat} (hk : v.ownBlock = some k) : k < w.heap.size := by
  obtain ⟨cs, hcs⟩ := row_heap h hk
  exact (Array.getElem?_eq_some_iff.1 hcs).1
theorem row_typesC {w : World} {base base' : Nat} {s1 s2 n1 n2 : Nat} {v1 v2 : Value} {x1 x2 : List Value} {e1 e2 : TypeId} (h1 : w.ownsRow base e1 s1 v1 n1 x1) (h2 : w.ownsRow base' e2 s2 v2 n2 x2) (hne : e1 ≠ e2) {k : Nat} (hk : v1.ownBlock = some k) : v2.ownBlock ≠ some k := fun hk2 => by
  obtain ⟨cs, hcs⟩ := row_heap h1 hk
  obtain ⟨cs2, hcs2⟩ := row_heap h2 hk2
  rw [hcs] at hcs2
  injection hcs2 with h
  injection h with _ h
  exact hne h
/-- What holds behind an append whose row lies beyond the three blocks. -/
theorem CW.three (h : CW W wr x k t u A3 c3 ns A4 c4 ys ks) {w4 : World} {v : Value} (hv : ∀ b, v.ownBlock = some b → W.heap.size + 1 + 1 + 1 ≤ b) (hb : ∀ b, b < wr.heap.size → v.ownBlock ≠ some b → w4.heap[b]? = wr.heap[b]?) :
    Blk w4 W.heap.size 40 x.ar ∧ Blk w4 (W.heap.size + 1) 40 zeroJ.ar ∧ Blk w4 (W.heap.size + 1 + 1) 40 (J5.ar ⟨k, t, u, A3, ns.length, c3, A4, ys.length, c4⟩) :=
  ⟨(hb _ h.box.lt (fun e => by have := hv _ e; omega)).trans h.box, (hb _ h.res.lt (fun e => by have := hv _ e; omega)).trans h.res, (hb _ h.out.lt (fun e => by have := hv _ e; omega)).trans h.out⟩
theorem below_set {B : Nat} {w w4 : World} (h : Below B w w4) {p : Addr} (hp : B ≤ p.block) (v : Value) : Below B w (w4.setCell p v) :=
  ⟨h.os, h.tape, h.output, by rw [set_size]; exact h.size, fun b hb => (Below.heap_setCell w4 p v b (by omega)).trans (h.block b hb)⟩
theorem CW.addN (h : CW W wr x k t u A3 c3 ns none 0 [] []) {y : List UInt8} {A' : Option Addr} {c' : Nat} {w4 : World} (hr : w4.ownsRow (W.heap.size + 1 + 1 + 1) 9 1 (.slice A' (ns ++ [y]).length c') (ns ++ [y]).length ((ns ++ [y]).map sV))
    (hb : ∀ b, b < wr.heap.size → (Value.slice A3 ns.length c3).ownBlock ≠ some b → w4.heap[b]? = wr.heap[b]?) (hw : Below (W.heap.size + 1 + 1 + 1) wr w4) :
    CW W (w4.setCell ⟨W.heap.size + 1 + 1, 3, none⟩ (.slice A' (ns.length + 1) c')) x k t u A' c' (ns ++ [y]) none 0 [] [] := by
  obtain ⟨h1, h2, h3⟩ := h.three (fun b hb => row_base_le h.nrow hb) hb
  have e : (ns ++ [y]).length = ns.length + 1 := by simp
  refine ⟨below_set (h.bel.trans (hw.mono (by omega))) (by simp only []; omega) _, h1.far (by simp only []; omega) _, h2.far (by simp only []; omega) _, ?_, row_keep hr fun b hb1 => set_other _ _ _ _ b (by have := row_base_le hr hb1; omega), World.ownsRow_nil _ _ _ _, rfl, fun i h => by simp at h⟩
  have := h3.set_ 3 (.slice A' (ns.length + 1) c')
  rw [e]
  simpa [J5.ar] using this
theorem CW.addK (h : CW W wr x k t u A3 c3 ns A4 c4 ys ks) {y : J5} {j : Jv} {A' : Option Addr} {c' : Nat} {w4 : World} (hj : JAt wr (fun b => W.heap.size + 1 + 1 < b ∧ (Value.slice A4 ys.length c4).ownBlock ≠ some b) j y) (hr : w4.ownsRow (W.heap.size + 1 + 1 + 1) 40 5 (.slice A' (ys ++ [y]).length c') (ys ++ [y]).length ((ys ++ [y]).flatMap J5.cs)) (hs : w4.heap.size ≥ wr.heap.size)
    (hb : ∀ b, b < wr.heap.size → (Value.slice A4 ys.length c4).ownBlock ≠ some b → w4.heap[b]? = wr.heap[b]?) (hw : Below (W.heap.size + 1 + 1 + 1) wr w4) (ho : (Value.slice A' (ys ++ [y]).length c').ownBlock = (Value.slice A4 ys.length c4).ownBlock ∨ (Value.slice A' (ys ++ [y]).length c').ownBlock = some (wr.heap.size + 1)) :
    CW W (w4.setCell ⟨W.heap.size + 1 + 1, 4, none⟩ (.slice A' (ys.length + 1) c')) x k t u A3 c3 ns A' c' (ys ++ [y]) (ks ++ [j]) := by
  obtain ⟨h1, h2, h3⟩ := h.three (fun b hb => row_base_le h.krow hb) hb
  have e : (ys ++ [y]).length = ys.length + 1 := by simp
  have keepJ : ∀ {j : Jv} {y' : J5}, JAt wr (fun b => W.heap.size + 1 + 1 < b ∧ (Value.slice A4 ys.length c4).ownBlock ≠ some b) j y' → JAt (w4.setCell ⟨W.heap.size + 1 + 1, 4, none⟩ (.slice A' (ys.length + 1) c')) (fun b => W.heap.size + 1 + 1 < b ∧ (Value.slice A' (ys ++ [y]).length c').ownBlock ≠ some b) j y' := fun hj => hj.keep (fun b hb1 hb2 => (set_other _ _ _ _ b (by omega)).trans (hb b hb2 hb1.2)) (by rw [set_size]; exact hs) (fun b hb1 hb2 => ⟨hb1.1, fun e2 => by
    rcases ho with h4 | h4
    · exact hb1.2 (h4 ▸ e2)
    · rw [h4] at e2
      injection e2 with e2
      omega⟩)
  refine ⟨below_set (h.bel.trans (hw.mono (by omega))) (by simp only []; omega) _, h1.far (by simp only []; omega) _, h2.far (by simp only []; omega) _, ?_, ?_, row_keep hr fun b hb1 => set_other _ _ _ _ b (by have := row_base_le hr hb1; omega), by simp [h.len], ?_⟩
  · have := h3.set_ 4 (.slice A' (ys.length + 1) c')
    rw [e]
    simpa [J5.ar] using this
  · exact row_keep (row_keep h.nrow fun b hb1 => hb b (row_ltC h.nrow hb1) (row_typesC h.nrow h.krow (by decide) hb1)) fun b hb1 => set_other _ _ _ _ b (by have := row_base_le h.nrow hb1; omega)
  · intro i hi hi'
    by_cases hlt : i < ks.length
    · rw [List.getElem_append_left hlt, List.getElem_append_left (by rw [h.len]; exact hlt)]
      exact keepJ (h.kids i hlt (by rw [h.len]; exact hlt))
    · obtain rfl : i = ks.length := by simp at hi; omega
      have e1 : (ks ++ [j])[ks.length]'hi = j := by simp
      have e2 : (ys ++ [y])[ks.length]'hi' = y := by simp [← h.len]
      rw [e1, e2]
      exact keepJ hj
theorem CW.done (h : CW W wr x k t u A3 c3 ns A4 c4 ys ks) (hn : ns.length ≤ 1000000) (hy : ys.length ≤ 1000000) (u0 u1 u2 u3 u4 : Value) :
    JAt (((((wr.setCell ⟨W.heap.size + 1, 0, none⟩ u0).setCell ⟨W.heap.size + 1, 1, none⟩ u1).setCell ⟨W.heap.size + 1, 2, none⟩ u2).setCell ⟨W.heap.size + 1, 3, none⟩ u3).setCell ⟨W.heap.size + 1, 4, none⟩ u4) (fun b => W.heap.size ≤ b) (.mk k t u ns ks) ⟨k, t, u, A3, ns.length, c3, A4, ys.length, c4⟩ ∧
    Below W.heap.size W (((((wr.setCell ⟨W.heap.size + 1, 0, none⟩ u0).setCell ⟨W.heap.size + 1, 1, none⟩ u1).setCell ⟨W.heap.size + 1, 2, none⟩ u2).setCell ⟨W.heap.size + 1, 3, none⟩ u3).setCell ⟨W.heap.size + 1, 4, none⟩ u4) := by
  have hk : ∀ b, b ≠ W.heap.size + 1 → (((((wr.setCell ⟨W.heap.size + 1, 0, none⟩ u0).setCell ⟨W.heap.size + 1, 1, none⟩ u1).setCell ⟨W.heap.size + 1, 2, none⟩ u2).setCell ⟨W.heap.size + 1, 3, none⟩ u3).setCell ⟨W.heap.size + 1, 4, none⟩ u4).heap[b]? = wr.heap[b]? := fun b hk => by
    rw [set_other _ _ _ _ b hk, set_other _ _ _ _ b hk, set_other _ _ _ _ b hk, set_other _ _ _ _ b hk, set_other _ _ _ _ b hk]
  have hs : (((((wr.setCell ⟨W.heap.size + 1, 0, none⟩ u0).setCell ⟨W.heap.size + 1, 1, none⟩ u1).setCell ⟨W.heap.size + 1, 2, none⟩ u2).setCell ⟨W.heap.size + 1, 3, none⟩ u3).setCell ⟨W.heap.size + 1, 4, none⟩ u4).heap.size = wr.heap.size := by
    rw [set_size, set_size, set_size, set_size, set_size]
  have hb := h.bel
  refine ⟨?_, hb.os, hb.tape, hb.output, by rw [hs]; exact hb.size, fun b hb1 => (hk b (by omega)).trans (hb.block b hb1)⟩
  have J : JAt wr (fun b => W.heap.size + 1 + 1 < b) (.mk k t u ns ks) ⟨k, t, u, A3, ns.length, c3, A4, ys.length, c4⟩ :=
    .mk ⟨k, t, u, A3, ns.length, c3, A4, ys.length, c4⟩ ns ks ys rfl (row_cap h.nrow) h.len (by rw [← h.len]; exact row_cap h.krow) (by omega) (by rw [← h.len]; omega) ((names_row h.nrow).keep (fun _ _ _ => rfl) (Nat.le_refl _) (fun b hb1 _ => by omega)) h.len ((kids_row h.krow).keep (fun _ _ _ => rfl) (Nat.le_refl _) (fun b hb1 _ => by omega)) (fun i hi hi' => (h.kids i hi hi').keep (fun _ _ _ => rfl) (Nat.le_refl _) (fun b hb1 _ => hb1.1))
  exact J.keep (fun b hb1 _ => hk b (by omega)) (by rw [hs]; exact Nat.le_refl _) (fun b hb1 _ => by omega)
theorem CW.outs (h : CW W wr x k t u A3 c3 ns A4 c4 ys ks) : wr.cell? ⟨W.heap.size + 1 + 1, 0, none⟩ = some (.int .i64 k) ∧ wr.cell? ⟨W.heap.size + 1 + 1, 1, none⟩ = some (.string (S t)) ∧ wr.cell? ⟨W.heap.size + 1 + 1, 2, none⟩ = some (.int .i64 u) :=
  ⟨(h.out.cell 0).trans rfl, (h.out.cell 1).trans rfl, (h.out.cell 2).trans rfl⟩
theorem CW.zer (h : CW W wr x k t u A3 c3 ns A4 c4 ys ks) : (wr.cell? ⟨W.heap.size + 1, 0, none⟩ = some (.int .i64 0) ∧ wr.cell? ⟨W.heap.size + 1, 1, none⟩ = some (.string (S [])) ∧ wr.cell? ⟨W.heap.size + 1, 2, none⟩ = some (.int .i64 0) ∧ wr.cell? ⟨W.heap.size + 1, 3, none⟩ = some (.slice none 0 0) ∧ wr.cell? ⟨W.heap.size + 1, 4, none⟩ = some (.slice none 0 0)) ∧ ∀ i, wr.frozen? ⟨W.heap.size + 1, i, none⟩ = false :=
  ⟨⟨(h.res.cell 0).trans rfl, (h.res.cell 1).trans rfl, (h.res.cell 2).trans rfl, (h.res.cell 3).trans rfl, (h.res.cell 4).trans rfl⟩, fun i => h.res.frozen i⟩
end
theorem cutJ_eq (n : Nat) (k : Int) (t : List UInt8) (u : Int) (ns : List (List UInt8)) (ks : List Jv) : cutJ n (.mk k t u ns ks) = .mk k (t.take 50) u ((ns.take 5).map (·.take 50)) (match n with | 0 => [] | n + 1 => (ks.take 5).map (cutJ n)) := by
  cases n <;> rw [cutJ.eq_def]
theorem cut_step (n : Nat) (hn : n ≤ 100) (k : Int) (t : List UInt8) (u : Int) (A : Option Addr) (nc : Nat) (B : Option Addr) (kc : Nat) (ns : List (List UInt8)) (ks : List Jv) (xs : List J5) (hnc : ns.length ≤ nc) (hkc : ks.length ≤ kc) (hbn : ns.length ≤ 9223372036854775807) (hbk : ks.length ≤ 9223372036854775807) (ft : t.length ≤ 9223372036854775807) (fn : ∀ s ∈ ns, s.length ≤ 9223372036854775807) (W : World) (ok : Nat → Prop) (hN : NamesAt W ok A ns) (hl : xs.length = ks.length) (hK : KidsAt W ok B xs)
    (hCUT : ∀ m, n = m + 1 → ∀ i (h : i < ks.length) (h' : i < xs.length) (w1 : World), Below W.heap.size W w1 → Calls Tryd.prog 15 #[.agg #[.int .i64 xs[i].kind, .string (S xs[i].text), .int .i64 xs[i].num, .slice xs[i].nA xs[i].nn xs[i].nc, .slice xs[i].kA xs[i].kn xs[i].kc], .int .i64 m] w1 (fun e w' => ∃ yk yt yu yA ya yb yB yc yd, e = .returned (.agg #[.int .i64 yk, .string (S yt), .int .i64 yu, .slice yA ya yb, .slice yB yc yd]) ∧ JAt w' (fun k => w1.heap.size ≤ k) (cutJ m ks[i]) ⟨yk, yt, yu, yA, ya, yb, yB, yc, yd⟩ ∧ Below w1.heap.size w1 w')) :
    Calls Tryd.prog 15 #[.agg #[.int .i64 k, .string (S t), .int .i64 u, .slice A ns.length nc, .slice B ks.length kc], .int .i64 n] W fun e w' => ∃ yk yt yu yA ya yb yB yc yd, e = .returned (.agg #[.int .i64 yk, .string (S yt), .int .i64 yu, .slice yA ya yb, .slice yB yc yd]) ∧ JAt w' (fun k => W.heap.size ≤ k) (cutJ n (.mk k t u ns ks)) ⟨yk, yt, yu, yA, ya, yb, yB, yc, yd⟩ ∧ Below W.heap.size W w' := by
      obtain ⟨N, hN'⟩ : ∃ N : Int, N = (n : Int) := ⟨_, rfl⟩
      have C0 := hid (CW.start W ⟨k, t, u, A, ns.length, nc, B, ks.length, kc⟩ k (t.take 50) u)
      have R0 := hid (TW.start W ⟨k, t, u, A, ns.length, nc, B, ks.length, kc⟩)
      have FT := hid (fun w1 : World => ref06_few t (by omega) w1)
      have FN := hid fn
      have NC := hid hN
      have HKX := hid hK
      have LX := hid hl
      have CUT := hid hCUT
      have CE := hid (cutJ_eq n k t u ns ks)
      rw [← hN']
      have HN := hid hN'
      have hn0 : 0 ≤ N := by omega
      have hn1 : N ≤ 100 := by omega
      clear hN hl hK fn hN' ft hCUT
      obtain ⟨cj, hcj⟩ : ∃ cj, cj = cutJ n (.mk k t u ns ks) := ⟨_, rfl⟩
      rw [← hcj] at CE ⊢
      clear hcj
      obtain ⟨t5, ht5⟩ : ∃ t5, t5 = t.take 50 := ⟨_, rfl⟩
      rw [← ht5] at C0 FT CE
      have TK := hid (show t5 = t5 from rfl)
      clear ht5
      go_enter Tryd.func15, Tryd.ntmps15
      have C1 := hid (C0.out.below ((Below.refl _ _).drew))
      have CC := hid (show ∀ w', w' = ((((W.alloc (.cells (J5.ar ⟨k, t, u, A, ns.length, nc, B, ks.length, kc⟩) 40)).alloc (.cells zeroJ.ar 40)).alloc (.cells (J5.ar ⟨k, t5, u, none, 0, 0, none, 0, 0⟩) 40)).drew) → CW W w' ⟨k, t, u, A, ns.length, nc, B, ks.length, kc⟩ k t5 u none 0 [] none 0 [] [] from fun w' h => h ▸ C1.out)
      clear C0 C1
      go_upto_region 1 with fail
      go_cut [5] (fun o wx => o = .pointer (some ⟨W.heap.size + 1 + 1, 0, none⟩) ∧ Hid (CW W wx ⟨k, t, u, A, ns.length, nc, B, ks.length, kc⟩ k t5 u none 0 [] none 0 [] []))
      case first =>
        go_region_held3 (fun w' => w'.cell? ⟨W.heap.size, 0, none⟩ = some (.int .i64 k) ∧ w'.cell? ⟨W.heap.size, 1, none⟩ = some (.string (S t)) ∧ w'.cell? ⟨W.heap.size, 2, none⟩ = some (.int .i64 u)) (simp [*, go_sem, World.cell?_alloc_past]) (first
          | (go_at_call 52; refine (FT.out _).mono ?_; rintro e w3 ⟨rfl, rfl⟩))
        all_goals
          go_wp2_with fail
          go_meet
          exact ⟨rfl, hid (CC.out _ rfl)⟩
      case rest =>
      obtain ⟨rfl, C1⟩ := hcut
      clear CC FT
      go_wp2
      go_loopw [6] (fun i wr => ∃ (A3 : Option Addr) (c3 : Nat) (ms : List (List UInt8)) (q : Nat), q ≤ ns.length ∧ q ≤ 5 ∧ i = .int .i64 q ∧ Hid (ms = (ns.take q).map (·.take 50)) ∧ Hid (ms.length = q) ∧ Hid (CW W wr ⟨k, t, u, A, ns.length, nc, B, ks.length, kc⟩ k t5 u A3 c3 ms none 0 [] [])) (fun i _ => 10 - (intOf i).toNat)
      case atStart => exact ⟨none, 0, [], 0, Nat.zero_le _, Nat.zero_le _, rfl, rfl, rfl, C1⟩
      case round =>
        clear C1
        obtain ⟨A3, c3, ms, q, hq1, hq2, rfl, hms, HML, hC⟩ := hrel
        obtain ⟨x3, x4, y3, y4, f3, f4, l0, l1⟩ := hC.out.cells
        simp only [] at x3 x4
        by_cases hlt : q < ns.length
        · by_cases h5 : q < 5
          · obtain ⟨b1, o1, rfl, -, lb, hcs⟩ := NC.out (by omega)
            have HCS := hid (show ∀ w', Below W.heap.size W w' → w'.cell? ⟨b1, o1 + q, none⟩ = some (.string (S ns[q])) from fun w' hb => (hb.cell (p := ⟨b1, o1 + q, none⟩) lb).trans (hcs q hlt))
            have hnl := FN.out _ (List.getElem_mem hlt)
            have HMS := hid (show ms ++ [ns[q].take 50] = (ns.take (q + 1)).map (·.take 50) by rw [take_snoc ns hlt, List.map_append, hms.out]; rfl)
            clear hcs hms
            generalize ns[q] = nm at *
            have FEW := hid (ref06_few nm (by omega) wr.drew)
            have CD := hid (hC.out.below ((Below.refl _ _).drew))
            obtain ⟨A5, c5, w4, hrun4, hr4, hs4, hb4, hw4⟩ := append_name (W := wr.drew) (nm.take 50) CD.out.nrow (by have := HML.out; omega) (by have := CD.out.cells.2.2.2.2.2.2.2; omega)
            have M5 := hid (CD.out.addN hr4 hb4 hw4)
            obtain ⟨t1, t2, t3⟩ := CD.out.three (fun b hb => row_base_le CD.out.nrow hb) hb4
            have e3 : w4.cell? ⟨W.heap.size + 1 + 1, 3, none⟩ = some (.slice A3 ms.length c3) := (t3.cell 3).trans rfl
            have ef := t3.frozen 3
            have ev : w4.cell? ⟨W.heap.size, 3, none⟩ = some (.slice (some ⟨b1, o1, none⟩) ns.length nc) := (t1.cell 3).trans rfl
            have en := HCS.out w4 (CD.out.bel.trans (hw4.mono (by omega)))
            have n0 := HCS.out wr hC.out.bel
            have g1 : b1 < wr.heap.size := by omega
            have g2 : b1 < w4.heap.size := by have := t1.lt; omega
            have g3 : W.heap.size + 1 + 1 < w4.heap.size := t3.lt
            have g4 : W.heap.size < w4.heap.size := t1.lt
            have HML2 := hid (show (ms ++ [nm.take 50]).length = q + 1 by have := HML.out; simp; omega)
            clear hr4 hs4 hb4 hw4 t1 t2 t3 HCS hC CUT hnl
            go_upto_region 5 with fail
            refine region_anyK (fun w' => w'.cell? ⟨W.heap.size + 1 + 1, 3, none⟩ = some (.slice A3 ms.length c3) ∧ w'.frozen? ⟨W.heap.size + 1 + 1, 3, none⟩ = false ∧ w'.cell? ⟨W.heap.size, 3, none⟩ = some (.slice (some ⟨b1, o1, none⟩) ns.length nc) ∧ w'.cell? ⟨b1, o1 + q, none⟩ = some (.string (S nm))) 11 (by kernel_rfl) (by ((try dsimp only); first | assumption | simp [*, go_sem, World.cell?_alloc_past])) (fun hSk => ?_)
            refine anyK_take 0 [0] (v := ?_) rfl (by kernel_rfl) (by kernel_rfl) (fun _ _ _ h => h) (Or.inl ⟨by rfl, ?_⟩) hSk ?_
            rotate_left
            · intro w' hSw; (try dsimp only at hSw); go_simp; try with_reducible rfl
            try simp only [List.getElem_toArray, List.getElem_cons_succ, List.getElem_cons_zero, Act.put, List.setIfInBounds_toArray, List.set_cons_zero, List.set_cons_succ]
            refine anyK_take 1 [1] (v := ?_) rfl (by kernel_rfl) (by kernel_rfl) (fun _ _ _ h => h) (Or.inl ⟨by rfl, ?_⟩) hSk ?_
            rotate_left
            · intro w' hSw; (try dsimp only at hSw); go_simp; try with_reducible rfl
            try simp only [List.getElem_toArray, List.getElem_cons_succ, List.getElem_cons_zero, Act.put, List.setIfInBounds_toArray, List.set_cons_zero, List.set_cons_succ]
            refine anyK_take 2 [2] (v := ?_) rfl (by kernel_rfl) (by kernel_rfl) (fun _ _ _ h => h) (Or.inl ⟨by rfl, ?_⟩) hSk ?_
            rotate_left
            · intro w' hSw; (try dsimp only at hSw); go_simp; try with_reducible rfl
            try simp only [List.getElem_toArray, List.getElem_cons_succ, List.getElem_cons_zero, Act.put, List.setIfInBounds_toArray, List.set_cons_zero, List.set_cons_succ]
            refine anyK_take 3 [3] (v := ?_) rfl (by kernel_rfl) (by kernel_rfl) (fun _ _ _ h => h) (Or.inl ⟨by rfl, ?_⟩) hSk ?_
            rotate_left
            · intro w' hSw; (try dsimp only at hSw); go_simp; try with_reducible rfl
            try simp only [List.getElem_toArray, List.getElem_cons_succ, List.getElem_cons_zero, Act.put, List.setIfInBounds_toArray, List.set_cons_zero, List.set_cons_succ]
            refine anyK_take 4 [4] (v := ?_) rfl (by kernel_rfl) (by kernel_rfl) (fun _ _ _ h => h) (Or.inl ⟨by rfl, ?_⟩) hSk ?_
            rotate_left
            · intro w' hSw; (try dsimp only at hSw); go_simp; try with_reducible rfl
            try simp only [List.getElem_toArray, List.getElem_cons_succ, List.getElem_cons_zero, Act.put, List.setIfInBounds_toArray, List.set_cons_zero, List.set_cons_succ]
            refine anyK_take 5 [5] (v := ?_) rfl (by kernel_rfl) (by kernel_rfl) (fun _ _ _ h => h) (Or.inl ⟨by rfl, ?_⟩) hSk ?_
            rotate_left
            · intro w' hSw; (try dsimp only at hSw); go_simp; try with_reducible rfl
            try simp only [List.getElem_toArray, List.getElem_cons_succ, List.getElem_cons_zero, Act.put, List.setIfInBounds_toArray, List.set_cons_zero, List.set_cons_succ]
            refine anyK_take 6 [6] (v := ?_) rfl (by kernel_rfl) (by kernel_rfl) (fun _ _ _ h => h) (Or.inl ⟨by rfl, ?_⟩) hSk ?_
            rotate_left
            · intro w' hSw; (try dsimp only at hSw); go_simp; try with_reducible rfl
            try simp only [List.getElem_toArray, List.getElem_cons_succ, List.getElem_cons_zero, Act.put, List.setIfInBounds_toArray, List.set_cons_zero, List.set_cons_succ]
            refine anyK_only 7 (by kernel_rfl) rfl (fun K hK => ?_)
            (first | (rw [if_pos (by rfl)]; go_simp; go_at_call 52; refine FEW.out.mono ?_; rintro e w3 ⟨rfl, rfl⟩; go_wp2_with fail) | (refine step_append_run rfl _ _ _ (by rfl) _ _ _ _ (by rfl) (by rfl) hrun4 ?_) | go_simp)
            clear hSk
            refine hK.out _ _ (by ((try dsimp only); first | assumption | simp [*, go_sem, World.cell?_alloc_past])) (fun hSk => ?_)
            clear hK K
            try simp only [List.getElem_toArray, List.getElem_cons_succ, List.getElem_cons_zero, Act.put, List.setIfInBounds_toArray, List.set_cons_zero, List.set_cons_succ]
            refine anyK_only 8 (by kernel_rfl) rfl (fun K hK => ?_)
            (first | (rw [if_pos (by rfl)]; go_simp; go_at_call 52; refine FEW.out.mono ?_; rintro e w3 ⟨rfl, rfl⟩; go_wp2_with fail) | (refine step_append_run rfl _ _ _ (by rfl) _ _ _ _ (by rfl) (by rfl) hrun4 ?_) | go_simp)
            clear hSk
            refine hK.out _ _ (by ((try dsimp only); first | assumption | simp [*, go_sem, World.cell?_alloc_past])) (fun hSk => ?_)
            clear hK K
            try simp only [List.getElem_toArray, List.getElem_cons_succ, List.getElem_cons_zero, Act.put, List.setIfInBounds_toArray, List.set_cons_zero, List.set_cons_succ]
            refine anyK_only 9 (by kernel_rfl) rfl (fun K hK => ?_)
            (first | (rw [if_pos (by rfl)]; go_simp; go_at_call 52; refine FEW.out.mono ?_; rintro e w3 ⟨rfl, rfl⟩; go_wp2_with fail) | (refine step_append_run rfl _ _ _ (by rfl) _ _ _ _ (by rfl) (by rfl) hrun4 ?_) | go_simp)
            clear hSk
            refine hK.out _ _ (by ((try dsimp only); first | assumption | simp [*, go_sem, World.cell?_alloc_past])) (fun hSk => ?_)
            clear hK K
            try simp only [List.getElem_toArray, List.getElem_cons_succ, List.getElem_cons_zero, Act.put, List.setIfInBounds_toArray, List.set_cons_zero, List.set_cons_succ]
            refine anyK_take 10 [10] (v := ?_) rfl (by kernel_rfl) (by kernel_rfl) (fun _ _ _ h => h) (Or.inl ⟨by rfl, ?_⟩) hSk ?_
            rotate_left
            · intro w' hSw; (try dsimp only at hSw); go_simp; try with_reducible rfl
            try simp only [List.getElem_toArray, List.getElem_cons_succ, List.getElem_cons_zero, Act.put, List.setIfInBounds_toArray, List.set_cons_zero, List.set_cons_succ]
            refine anyK_last (by kernel_rfl) rfl (by kernel_rfl) (fun K hK => ?_)
            go_simp
            refine hK.out _ _ ?_
            clear hK K
            try simp only [List.getElem_toArray, List.getElem_cons_succ, List.getElem_cons_zero, Act.put, List.setIfInBounds_toArray, List.set_cons_zero, List.set_cons_succ]
            refine anyK_done (by kernel_rfl) ?_ _
            go_wp2
            go_roundw
            case rel => exact ⟨A5, c5, ms ++ [nm.take 50], q + 1, by omega, by omega, by go_num, HMS, HML2, M5⟩
            case measure => simp [intOf]; omega
          · have HMS := hid (show ms = (ns.take 5).map (·.take 50) by rw [hms.out]; congr 2; omega)
            clear hms
            go_wp2
            go_loopw [7] (fun i wr => ∃ (A4 : Option Addr) (c4 : Nat) (ys : List J5) (kq : List Jv) (q : Nat), q ≤ ks.length ∧ q ≤ 5 ∧ i = .int .i64 q ∧ Hid (n = 0 → q = 0) ∧ Hid (kq = (ks.take q).map (cutJ (n - 1))) ∧ Hid (ys.length = q) ∧ Hid (CW W wr ⟨k, t, u, A, ns.length, nc, B, ks.length, kc⟩ k t5 u A3 c3 ms A4 c4 ys kq)) (fun i _ => 10 - (intOf i).toNat)
            case atStart => exact ⟨none, 0, [], [], 0, Nat.zero_le _, Nat.zero_le _, rfl, fun _ => rfl, rfl, rfl, hC⟩
            case round =>
              clear hC x3 x4 y3 y4 f3 f4 l0 l1
              obtain ⟨A4, c4, ys, kq, q, hq1, hq2, rfl, hz, hkq, HYL, hC⟩ := hrel
              obtain ⟨x3, x4, y3, y4, f3, f4, l0, l1⟩ := hC.out.cells
              simp only [] at x3 x4
              by_cases hlt : q < ks.length
              · by_cases h5 : q < 5
                · by_cases hpos : 0 < N
                  · obtain ⟨m, hm⟩ : ∃ m, n = m + 1 := ⟨n - 1, by have := HN.out; omega⟩
                    have lx : q < xs.length := by have := LX.out; omega
                    obtain ⟨b1, o1, rfl, lb, hc1⟩ := kids_cell HKX.out lx
                    obtain ⟨p0, p1, p2, p3, p4⟩ := hc1 wr hC.out.bel
                    have CD := hid (hC.out.below ((Below.refl _ _).drew))
                    have hsub2 : N - 1 = (m : Int) := by have := HN.out; omega
                    have HKQ := hid (show kq ++ [cutJ m (ks[q]'hlt)] = (ks.take (q + 1)).map (cutJ (n - 1)) by
                      rw [take_snoc ks hlt, List.map_append, hkq.out, hm]; rfl)
                    have HZ := hid (show n = 0 → q + 1 = 0 from fun h => by omega)
                    have CALLX := hid (show Calls Tryd.prog 15 #[.agg #[.int .i64 xs[q].kind, .string (S xs[q].text), .int .i64 xs[q].num, .slice xs[q].nA xs[q].nn xs[q].nc, .slice xs[q].kA xs[q].kn xs[q].kc], .int .i64 (N - 1)] wr.drew (fun e w3 => ∃ yk yt yu yA ya yb yB yc yd, e = .returned (.agg #[.int .i64 yk, .string (S yt), .int .i64 yu, .slice yA ya yb, .slice yB yc yd]) ∧
                        (w3.cell? ⟨W.heap.size + 1 + 1, 4, none⟩ = some (.slice A4 ys.length c4) ∧ w3.frozen? ⟨W.heap.size + 1 + 1, 4, none⟩ = false ∧ w3.cell? ⟨W.heap.size, 4, none⟩ = some (.slice (some ⟨b1, o1, none⟩) ks.length kc) ∧ w3.cell? ⟨b1, o1 + q * 5, none⟩ = some (.int .i64 xs[q].kind) ∧ w3.cell? ⟨b1, o1 + q * 5 + 1, none⟩ = some (.string (S xs[q].text)) ∧ w3.cell? ⟨b1, o1 + q * 5 + 2, none⟩ = some (.int .i64 xs[q].num) ∧ w3.cell? ⟨b1, o1 + q * 5 + 3, none⟩ = some (.slice xs[q].nA xs[q].nn xs[q].nc) ∧ w3.cell? ⟨b1, o1 + q * 5 + 4, none⟩ = some (.slice xs[q].kA xs[q].kn xs[q].kc) ∧ W.heap.size + 1 + 1 < w3.heap.size ∧ W.heap.size < w3.heap.size ∧ b1 < w3.heap.size) ∧
                        ∃ A5 c5 w4, (Builtin.append_ #[38, 38] 38 #[.slice A4 ys.length c4, .slice (some ⟨w3.heap.size, 0, none⟩) 1 1]).run Tryd.prog (w3.alloc (.cells #[.int .i64 yk, .string (S yt), .int .i64 yu, .slice yA ya yb, .slice yB yc yd] 40)) = .ok (.slice A5 (ys.length + 1) c5) w4 ∧
                        (w4.cell? ⟨W.heap.size + 1 + 1, 4, none⟩ = some (.slice A4 ys.length c4) ∧ w4.frozen? ⟨W.heap.size + 1 + 1, 4, none⟩ = false ∧ w4.cell? ⟨W.heap.size, 4, none⟩ = some (.slice (some ⟨b1, o1, none⟩) ks.length kc) ∧ w4.cell? ⟨b1, o1 + q * 5, none⟩ = some (.int .i64 xs[q].kind) ∧ w4.cell? ⟨b1, o1 + q * 5 + 1, none⟩ = some (.string (S xs[q].text)) ∧ w4.cell? ⟨b1, o1 + q * 5 + 2, none⟩ = some (.int .i64 xs[q].num) ∧ w4.cell? ⟨b1, o1 + q * 5 + 3, none⟩ = some (.slice xs[q].nA xs[q].nn xs[q].nc) ∧ w4.cell? ⟨b1, o1 + q * 5 + 4, none⟩ = some (.slice xs[q].kA xs[q].kn xs[q].kc)) ∧
                        Hid (∃ y, CW W (w4.setCell ⟨W.heap.size + 1 + 1, 4, none⟩ (.slice A5 (ys.length + 1) c5)) ⟨k, t, u, A, ns.length, nc, some ⟨b1, o1, none⟩, ks.length, kc⟩ k t5 u A3 c3 ms A5 c5 (ys ++ [y]) (kq ++ [cutJ m (ks[q]'hlt)]))) from by
                      rw [hsub2]
                      refine (CUT.out m hm q hlt lx wr.drew CD.out.bel).mono ?_
                      rintro e w3 ⟨yk, yt, yu, yA, ya, yb, yB, yc, yd, rfl, jy, b3⟩
                      have C3 := CD.out.below b3
                      obtain ⟨A5, c5, w4, hrun4, hr4, hs4, hb4, hw4, ho4⟩ := append_json (W := w3) (⟨yk, yt, yu, yA, ya, yb, yB, yc, yd⟩ : J5) C3.krow (by have := HYL.out; omega) (by have := C3.cells.2.2.2.2.2.2.2; omega)
                      obtain ⟨t1, t2, t3⟩ := C3.three (fun b hb => row_base_le C3.krow hb) hb4
                      have jy2 := jy.keep (w' := w3) (ok' := fun b => W.heap.size + 1 + 1 < b ∧ (Value.slice A4 ys.length c4).ownBlock ≠ some b) (fun _ _ _ => rfl) (Nat.le_refl _) (fun b hb1 _ => ⟨by have := CD.out.cells.2.2.2.2.2.2.2; omega, fun e => by have := row_ltC CD.out.krow e; omega⟩)
                      obtain ⟨p0, p1, p2, p3, p4⟩ := hc1 w3 C3.bel
                      obtain ⟨r0, r1, r2, r3, r4⟩ := hc1 w4 (C3.bel.trans (hw4.mono (by omega)))
                      obtain ⟨-, cx4, -, cy4, -, cf4, cl0, cl1⟩ := C3.cells
                      exact ⟨yk, yt, yu, yA, ya, yb, yB, yc, yd, rfl, ⟨cy4, cf4, cx4, p0, p1, p2, p3, p4, cl1, cl0, by omega⟩, A5, c5, w4, hrun4, ⟨(t3.cell 4).trans rfl, t3.frozen 4, (t1.cell 4).trans rfl, r0, r1, r2, r3, r4⟩, hid ⟨_, C3.addK jy2 hr4 hs4 hb4 hw4 ho4⟩⟩)
                    have HYL2 := hid (show ∀ y : J5, (ys ++ [y]).length = q + 1 from fun y => by have := HYL.out; simp; omega)
                    have g1 : b1 < wr.heap.size := by omega
                    clear hc1 CUT hkq hz hC CE hm hsub2
                    generalize cutJ m (ks[q]'hlt) = cq at *
                    generalize xs[q] = X at *
                    obtain ⟨xk, xt, xn, xA, xa, xb, xB, xc, xd⟩ := X
                    simp only [] at *
                    go_upto_region 9 with fail
                    have hwr : IntKind.i64.wrap (N - 1) = N - 1 := IntWalk.i64_in _ (by omega)
                    refine region_anyK (fun w' => w'.cell? ⟨W.heap.size + 1 + 1, 4, none⟩ = some (.slice A4 ys.length c4) ∧ w'.frozen? ⟨W.heap.size + 1 + 1, 4, none⟩ = false ∧ w'.cell? ⟨W.heap.size, 4, none⟩ = some (.slice (some ⟨b1, o1, none⟩) ks.length kc) ∧ w'.cell? ⟨b1, o1 + q * 5, none⟩ = some (.int .i64 xk) ∧ w'.cell? ⟨b1, o1 + q * 5 + 1, none⟩ = some (.string (S xt)) ∧ w'.cell? ⟨b1, o1 + q * 5 + 2, none⟩ = some (.int .i64 xn) ∧ w'.cell? ⟨b1, o1 + q * 5 + 3, none⟩ = some (.slice xA xa xb) ∧ w'.cell? ⟨b1, o1 + q * 5 + 4, none⟩ = some (.slice xB xc xd)) 13 (by kernel_rfl) (by ((try dsimp only); first | assumption | simp [*, go_sem, World.cell?_alloc_past])) (fun hSk => ?_)
                    refine anyK_take 0 [0] (v := ?_) rfl (by kernel_rfl) (by kernel_rfl) (fun _ _ _ h => h) (Or.inl ⟨by rfl, ?_⟩) hSk ?_
                    rotate_left
                    · intro w' hSw; (try dsimp only at hSw); go_simp; try with_reducible rfl
                    try simp only [List.getElem_toArray, List.getElem_cons_succ, List.getElem_cons_zero, Act.put, List.setIfInBounds_toArray, List.set_cons_zero, List.set_cons_succ]
                    refine anyK_take 1 [1] (v := ?_) rfl (by kernel_rfl) (by kernel_rfl) (fun _ _ _ h => h) (Or.inl ⟨by rfl, ?_⟩) hSk ?_
                    rotate_left
                    · intro w' hSw; (try dsimp only at hSw); go_simp; try with_reducible rfl
                    try simp only [List.getElem_toArray, List.getElem_cons_succ, List.getElem_cons_zero, Act.put, List.setIfInBounds_toArray, List.set_cons_zero, List.set_cons_succ]
                    refine anyK_take 2 [2] (v := ?_) rfl (by kernel_rfl) (by kernel_rfl) (fun _ _ _ h => h) (Or.inl ⟨by rfl, ?_⟩) hSk ?_
                    rotate_left
                    · intro w' hSw; (try dsimp only at hSw); go_simp; try with_reducible rfl
                    try simp only [List.getElem_toArray, List.getElem_cons_succ, List.getElem_cons_zero, Act.put, List.setIfInBounds_toArray, List.set_cons_zero, List.set_cons_succ]
                    refine anyK_take 3 [3] (v := ?_) rfl (by kernel_rfl) (by kernel_rfl) (fun _ _ _ h => h) (Or.inl ⟨by rfl, ?_⟩) hSk ?_
                    rotate_left
                    · intro w' hSw; (try dsimp only at hSw); go_simp; try with_reducible rfl
                    try simp only [List.getElem_toArray, List.getElem_cons_succ, List.getElem_cons_zero, Act.put, List.setIfInBounds_toArray, List.set_cons_zero, List.set_cons_succ]
                    refine anyK_take 4 [4] (v := ?_) rfl (by kernel_rfl) (by kernel_rfl) (fun _ _ _ h => h) (Or.inl ⟨by rfl, ?_⟩) hSk ?_
                    rotate_left
                    · intro w' hSw; (try dsimp only at hSw); go_simp; try with_reducible rfl
                    try simp only [List.getElem_toArray, List.getElem_cons_succ, List.getElem_cons_zero, Act.put, List.setIfInBounds_toArray, List.set_cons_zero, List.set_cons_succ]
                    refine anyK_take 5 [5] (v := ?_) rfl (by kernel_rfl) (by kernel_rfl) (fun _ _ _ h => h) (Or.inl ⟨by rfl, ?_⟩) hSk ?_
                    rotate_left
                    · intro w' hSw; (try dsimp only at hSw); go_simp; try with_reducible rfl
                    try simp only [List.getElem_toArray, List.getElem_cons_succ, List.getElem_cons_zero, Act.put, List.setIfInBounds_toArray, List.set_cons_zero, List.set_cons_succ]
                    refine anyK_take 6 [6] (v := ?_) rfl (by kernel_rfl) (by kernel_rfl) (fun _ _ _ h => h) (Or.inl ⟨by rfl, ?_⟩) hSk ?_
                    rotate_left
                    · intro w' hSw; (try dsimp only at hSw); go_simp; try with_reducible rfl
                    try simp only [List.getElem_toArray, List.getElem_cons_succ, List.getElem_cons_zero, Act.put, List.setIfInBounds_toArray, List.set_cons_zero, List.set_cons_succ]
                    refine anyK_take 7 [7] (v := ?_) rfl (by kernel_rfl) (by kernel_rfl) (fun _ _ _ h => h) (Or.inl ⟨by rfl, ?_⟩) hSk ?_
                    rotate_left
                    · intro w' hSw; (try dsimp only at hSw); go_simp; try with_reducible rfl
                    try simp only [List.getElem_toArray, List.getElem_cons_succ, List.getElem_cons_zero, Act.put, List.setIfInBounds_toArray, List.set_cons_zero, List.set_cons_succ]
                    refine anyK_take 8 [8] (v := ?_) rfl (by kernel_rfl) (by kernel_rfl) (fun _ _ _ h => h) (Or.inl ⟨by rfl, ?_⟩) hSk ?_
                    rotate_left
                    · intro w' hSw; (try dsimp only at hSw); go_simp; try with_reducible rfl
                    try simp only [List.getElem_toArray, List.getElem_cons_succ, List.getElem_cons_zero, Act.put, List.setIfInBounds_toArray, List.set_cons_zero, List.set_cons_succ]
                    refine anyK_only 9 (by kernel_rfl) rfl (fun K hK => ?_)
                    (first | (rw [if_pos (by rfl)]; go_simp; go_at_call 15; refine CALLX.out.mono ?_; rintro e w3 ⟨yk, yt, yu, yA, ya, yb, yB, yc, yd, rfl, ⟨p0, p1, p2, p3, p4, p5, p6, p7, pl1, pl2, pl3⟩, A5, c5, w4, hrun4, ⟨q0, q1, q2, q3, q4, q5, q6, q7⟩, M5⟩; go_wp2_with fail) | (refine step_append_run rfl _ _ _ (by rfl) _ _ _ _ (by rfl) (by rfl) hrun4 ?_) | go_simp)
                    clear hSk
                    refine hK.out _ _ (by ((try dsimp only); first | assumption | simp [*, go_sem, World.cell?_alloc_past])) (fun hSk => ?_)
                    clear hK K
                    try simp only [List.getElem_toArray, List.getElem_cons_succ, List.getElem_cons_zero, Act.put, List.setIfInBounds_toArray, List.set_cons_zero, List.set_cons_succ]
                    refine anyK_only 10 (by kernel_rfl) rfl (fun K hK => ?_)
                    (first | (rw [if_pos (by rfl)]; go_simp; go_at_call 15; refine CALLX.out.mono ?_; rintro e w3 ⟨yk, yt, yu, yA, ya, yb, yB, yc, yd, rfl, ⟨p0, p1, p2, p3, p4, p5, p6, p7, pl1, pl2, pl3⟩, A5, c5, w4, hrun4, ⟨q0, q1, q2, q3, q4, q5, q6, q7⟩, M5⟩; go_wp2_with fail) | (refine step_append_run rfl _ _ _ (by rfl) _ _ _ _ (by rfl) (by rfl) hrun4 ?_) | go_simp)
                    clear hSk
                    refine hK.out _ _ (by ((try dsimp only); first | assumption | simp [*, go_sem, World.cell?_alloc_past])) (fun hSk => ?_)
                    clear hK K
                    try simp only [List.getElem_toArray, List.getElem_cons_succ, List.getElem_cons_zero, Act.put, List.setIfInBounds_toArray, List.set_cons_zero, List.set_cons_succ]
                    refine anyK_only 11 (by kernel_rfl) rfl (fun K hK => ?_)
                    (first | (rw [if_pos (by rfl)]; go_simp; go_at_call 15; refine CALLX.out.mono ?_; rintro e w3 ⟨yk, yt, yu, yA, ya, yb, yB, yc, yd, rfl, ⟨p0, p1, p2, p3, p4, p5, p6, p7, pl1, pl2, pl3⟩, A5, c5, w4, hrun4, ⟨q0, q1, q2, q3, q4, q5, q6, q7⟩, M5⟩; go_wp2_with fail) | (refine step_append_run rfl _ _ _ (by rfl) _ _ _ _ (by rfl) (by rfl) hrun4 ?_) | go_simp)
                    clear hSk
                    refine hK.out _ _ (by ((try dsimp only); first | assumption | simp [*, go_sem, World.cell?_alloc_past])) (fun hSk => ?_)
                    clear hK K
                    try simp only [List.getElem_toArray, List.getElem_cons_succ, List.getElem_cons_zero, Act.put, List.setIfInBounds_toArray, List.set_cons_zero, List.set_cons_succ]
                    refine anyK_take 12 [12] (v := ?_) rfl (by kernel_rfl) (by kernel_rfl) (fun _ _ _ h => h) (Or.inl ⟨by rfl, ?_⟩) hSk ?_
                    rotate_left
                    · intro w' hSw; (try dsimp only at hSw); go_simp; try with_reducible rfl
                    try simp only [List.getElem_toArray, List.getElem_cons_succ, List.getElem_cons_zero, Act.put, List.setIfInBounds_toArray, List.set_cons_zero, List.set_cons_succ]
                    refine anyK_last (by kernel_rfl) rfl (by kernel_rfl) (fun K hK => ?_)
                    go_simp
                    refine hK.out _ _ ?_
                    clear hK K
                    try simp only [List.getElem_toArray, List.getElem_cons_succ, List.getElem_cons_zero, Act.put, List.setIfInBounds_toArray, List.set_cons_zero, List.set_cons_succ]
                    refine anyK_done (by kernel_rfl) ?_ _
                    clear hwr
                    obtain ⟨yy, M6⟩ := M5.out
                    go_wp2
                    go_roundw
                    case rel => exact ⟨A5, c5, ys ++ [yy], kq ++ [cq], q + 1, by omega, by omega, by go_num, HZ, HKQ, HYL2.out yy, hid M6⟩
                    case measure => simp [intOf]; omega
                  · have HCJ := hid (show Jv.mk k t5 u ms kq = cj by
                      have hn0' : n = 0 := by have := HN.out; omega
                      rw [CE.out, hkq.out, hz.out hn0', HMS.out]
                      subst hn0'
                      rfl)
                    obtain rfl : N = 0 := by omega
                    clear CE hkq hz CUT
                    obtain ⟨⟨z0, z1, z2, z3, z4⟩, zf⟩ := hC.out.zer
                    have m0 := zf 0
                    have m1 := zf 1
                    have m2 := zf 2
                    have m3 := zf 3
                    have m4 := zf 4
                    obtain ⟨w0, w1, w2⟩ := hC.out.outs
                    have HD := hid (fun (v0 v1 v2 v3 v4 : Value) => hC.out.done (by have := HML.out; omega) (by have := HYL.out; omega) v0 v1 v2 v3 v4)
                    rw [show (Jv.mk k t5 u ms kq) = cj from HCJ.out] at HD
                    clear zf
                    go_wp2
                    refine bodyPost_ret (v := .agg #[.int .i64 k, .string (S t5), .int .i64 u, .slice A3 ms.length c3, .slice A4 ys.length c4]) (by simp [results, Tryd.results15, go_sem, z0, z1, z2, z3, z4]) rfl ⟨_, _, _, _, _, _, _, _, _, rfl, HD.out _ _ _ _ _⟩
                · have HCJ := hid (show Jv.mk k t5 u ms kq = cj by
                    obtain ⟨m, rfl⟩ : ∃ m, n = m + 1 := ⟨n - 1, by
                      rcases Nat.eq_zero_or_pos n with h | h
                      · have := hz.out h; omega
                      · omega⟩
                    obtain rfl : q = 5 := by omega
                    rw [CE.out, hkq.out, HMS.out]
                    rfl)
                  obtain rfl : q = 5 := by omega
                  clear CE hkq hz CUT
                  obtain ⟨⟨z0, z1, z2, z3, z4⟩, zf⟩ := hC.out.zer
                  have m0 := zf 0
                  have m1 := zf 1
                  have m2 := zf 2
                  have m3 := zf 3
                  have m4 := zf 4
                  obtain ⟨w0, w1, w2⟩ := hC.out.outs
                  have HD := hid (fun (v0 v1 v2 v3 v4 : Value) => hC.out.done (by have := HML.out; omega) (by have := HYL.out; omega) v0 v1 v2 v3 v4)
                  rw [show (Jv.mk k t5 u ms kq) = cj from HCJ.out] at HD
                  clear zf
                  go_wp2
                  refine bodyPost_ret (v := .agg #[.int .i64 k, .string (S t5), .int .i64 u, .slice A3 ms.length c3, .slice A4 ys.length c4]) (by simp [results, Tryd.results15, go_sem, z0, z1, z2, z3, z4]) rfl ⟨_, _, _, _, _, _, _, _, _, rfl, HD.out _ _ _ _ _⟩
              · have HCJ := hid (show Jv.mk k t5 u ms kq = cj by
                  rw [CE.out, hkq.out, HMS.out]
                  obtain rfl : q = ks.length := by omega
                  cases n with
                  | zero =>
                    have := hz.out rfl
                    rw [this]
                    rfl
                  | succ m =>
                    rw [List.take_length, List.take_of_length_le hq2]
                    rfl)
                clear CE hkq hz CUT
                obtain ⟨⟨z0, z1, z2, z3, z4⟩, zf⟩ := hC.out.zer
                have m0 := zf 0
                have m1 := zf 1
                have m2 := zf 2
                have m3 := zf 3
                have m4 := zf 4
                obtain ⟨w0, w1, w2⟩ := hC.out.outs
                have HD := hid (fun (v0 v1 v2 v3 v4 : Value) => hC.out.done (by have := HML.out; omega) (by have := HYL.out; omega) v0 v1 v2 v3 v4)
                rw [show (Jv.mk k t5 u ms kq) = cj from HCJ.out] at HD
                clear zf
                go_wp2
                refine bodyPost_ret (v := .agg #[.int .i64 k, .string (S t5), .int .i64 u, .slice A3 ms.length c3, .slice A4 ys.length c4]) (by simp [results, Tryd.results15, go_sem, z0, z1, z2, z3, z4]) rfl ⟨_, _, _, _, _, _, _, _, _, rfl, HD.out _ _ _ _ _⟩
        · have HMS := hid (show ms = (ns.take 5).map (·.take 50) by rw [hms.out, List.take_of_length_le (by omega), List.take_of_length_le (by omega)])
          clear hms
          go_wp2
          go_loopw [7] (fun i wr => ∃ (A4 : Option Addr) (c4 : Nat) (ys : List J5) (kq : List Jv) (q : Nat), q ≤ ks.length ∧ q ≤ 5 ∧ i = .int .i64 q ∧ Hid (n = 0 → q = 0) ∧ Hid (kq = (ks.take q).map (cutJ (n - 1))) ∧ Hid (ys.length = q) ∧ Hid (CW W wr ⟨k, t, u, A, ns.length, nc, B, ks.length, kc⟩ k t5 u A3 c3 ms A4 c4 ys kq)) (fun i _ => 10 - (intOf i).toNat)
          case atStart => exact ⟨none, 0, [], [], 0, Nat.zero_le _, Nat.zero_le _, rfl, fun _ => rfl, rfl, rfl, hC⟩
          case round =>
            clear hC x3 x4 y3 y4 f3 f4 l0 l1
            obtain ⟨A4, c4, ys, kq, q, hq1, hq2, rfl, hz, hkq, HYL, hC⟩ := hrel
            obtain ⟨x3, x4, y3, y4, f3, f4, l0, l1⟩ := hC.out.cells
            simp only [] at x3 x4
            by_cases hlt : q < ks.length
            · by_cases h5 : q < 5
              · by_cases hpos : 0 < N
                · obtain ⟨m, hm⟩ : ∃ m, n = m + 1 := ⟨n - 1, by have := HN.out; omega⟩
                  have lx : q < xs.length := by have := LX.out; omega
                  obtain ⟨b1, o1, rfl, lb, hc1⟩ := kids_cell HKX.out lx
                  obtain ⟨p0, p1, p2, p3, p4⟩ := hc1 wr hC.out.bel
                  have CD := hid (hC.out.below ((Below.refl _ _).drew))
                  have hsub2 : N - 1 = (m : Int) := by have := HN.out; omega
                  have HKQ := hid (show kq ++ [cutJ m (ks[q]'hlt)] = (ks.take (q + 1)).map (cutJ (n - 1)) by
                    rw [take_snoc ks hlt, List.map_append, hkq.out, hm]; rfl)
                  have HZ := hid (show n = 0 → q + 1 = 0 from fun h => by omega)
                  have CALLX := hid (show Calls Tryd.prog 15 #[.agg #[.int .i64 xs[q].kind, .string (S xs[q].text), .int .i64 xs[q].num, .slice xs[q].nA xs[q].nn xs[q].nc, .slice xs[q].kA xs[q].kn xs[q].kc], .int .i64 (N - 1)] wr.drew (fun e w3 => ∃ yk yt yu yA ya yb yB yc yd, e = .returned (.agg #[.int .i64 yk, .string (S yt), .int .i64 yu, .slice yA ya yb, .slice yB yc yd]) ∧
                      (w3.cell? ⟨W.heap.size + 1 + 1, 4, none⟩ = some (.slice A4 ys.length c4) ∧ w3.frozen? ⟨W.heap.size + 1 + 1, 4, none⟩ = false ∧ w3.cell? ⟨W.heap.size, 4, none⟩ = some (.slice (some ⟨b1, o1, none⟩) ks.length kc) ∧ w3.cell? ⟨b1, o1 + q * 5, none⟩ = some (.int .i64 xs[q].kind) ∧ w3.cell? ⟨b1, o1 + q * 5 + 1, none⟩ = some (.string (S xs[q].text)) ∧ w3.cell? ⟨b1, o1 + q * 5 + 2, none⟩ = some (.int .i64 xs[q].num) ∧ w3.cell? ⟨b1, o1 + q * 5 + 3, none⟩ = some (.slice xs[q].nA xs[q].nn xs[q].nc) ∧ w3.cell? ⟨b1, o1 + q * 5 + 4, none⟩ = some (.slice xs[q].kA xs[q].kn xs[q].kc) ∧ W.heap.size + 1 + 1 < w3.heap.size ∧ W.heap.size < w3.heap.size ∧ b1 < w3.heap.size) ∧
                      ∃ A5 c5 w4, (Builtin.append_ #[38, 38] 38 #[.slice A4 ys.length c4, .slice (some ⟨w3.heap.size, 0, none⟩) 1 1]).run Tryd.prog (w3.alloc (.cells #[.int .i64 yk, .string (S yt), .int .i64 yu, .slice yA ya yb, .slice yB yc yd] 40)) = .ok (.slice A5 (ys.length + 1) c5) w4 ∧
                      (w4.cell? ⟨W.heap.size + 1 + 1, 4, none⟩ = some (.slice A4 ys.length c4) ∧ w4.frozen? ⟨W.heap.size + 1 + 1, 4, none⟩ = false ∧ w4.cell? ⟨W.heap.size, 4, none⟩ = some (.slice (some ⟨b1, o1, none⟩) ks.length kc) ∧ w4.cell? ⟨b1, o1 + q * 5, none⟩ = some (.int .i64 xs[q].kind) ∧ w4.cell? ⟨b1, o1 + q * 5 + 1, none⟩ = some (.string (S xs[q].text)) ∧ w4.cell? ⟨b1, o1 + q * 5 + 2, none⟩ = some (.int .i64 xs[q].num) ∧ w4.cell? ⟨b1, o1 + q * 5 + 3, none⟩ = some (.slice xs[q].nA xs[q].nn xs[q].nc) ∧ w4.cell? ⟨b1, o1 + q * 5 + 4, none⟩ = some (.slice xs[q].kA xs[q].kn xs[q].kc)) ∧
                      Hid (∃ y, CW W (w4.setCell ⟨W.heap.size + 1 + 1, 4, none⟩ (.slice A5 (ys.length + 1) c5)) ⟨k, t, u, A, ns.length, nc, some ⟨b1, o1, none⟩, ks.length, kc⟩ k t5 u A3 c3 ms A5 c5 (ys ++ [y]) (kq ++ [cutJ m (ks[q]'hlt)]))) from by
                    rw [hsub2]
                    refine (CUT.out m hm q hlt lx wr.drew CD.out.bel).mono ?_
                    rintro e w3 ⟨yk, yt, yu, yA, ya, yb, yB, yc, yd, rfl, jy, b3⟩
                    have C3 := CD.out.below b3
                    obtain ⟨A5, c5, w4, hrun4, hr4, hs4, hb4, hw4, ho4⟩ := append_json (W := w3) (⟨yk, yt, yu, yA, ya, yb, yB, yc, yd⟩ : J5) C3.krow (by have := HYL.out; omega) (by have := C3.cells.2.2.2.2.2.2.2; omega)
                    obtain ⟨t1, t2, t3⟩ := C3.three (fun b hb => row_base_le C3.krow hb) hb4
                    have jy2 := jy.keep (w' := w3) (ok' := fun b => W.heap.size + 1 + 1 < b ∧ (Value.slice A4 ys.length c4).ownBlock ≠ some b) (fun _ _ _ => rfl) (Nat.le_refl _) (fun b hb1 _ => ⟨by have := CD.out.cells.2.2.2.2.2.2.2; omega, fun e => by have := row_ltC CD.out.krow e; omega⟩)
                    obtain ⟨p0, p1, p2, p3, p4⟩ := hc1 w3 C3.bel
                    obtain ⟨r0, r1, r2, r3, r4⟩ := hc1 w4 (C3.bel.trans (hw4.mono (by omega)))
                    obtain ⟨-, cx4, -, cy4, -, cf4, cl0, cl1⟩ := C3.cells
                    exact ⟨yk, yt, yu, yA, ya, yb, yB, yc, yd, rfl, ⟨cy4, cf4, cx4, p0, p1, p2, p3, p4, cl1, cl0, by omega⟩, A5, c5, w4, hrun4, ⟨(t3.cell 4).trans rfl, t3.frozen 4, (t1.cell 4).trans rfl, r0, r1, r2, r3, r4⟩, hid ⟨_, C3.addK jy2 hr4 hs4 hb4 hw4 ho4⟩⟩)
                  have HYL2 := hid (show ∀ y : J5, (ys ++ [y]).length = q + 1 from fun y => by have := HYL.out; simp; omega)
                  have g1 : b1 < wr.heap.size := by omega
                  clear hc1 CUT hkq hz hC CE hm hsub2
                  generalize cutJ m (ks[q]'hlt) = cq at *
                  generalize xs[q] = X at *
                  obtain ⟨xk, xt, xn, xA, xa, xb, xB, xc, xd⟩ := X
                  simp only [] at *
                  go_upto_region 9 with fail
                  have hwr : IntKind.i64.wrap (N - 1) = N - 1 := IntWalk.i64_in _ (by omega)
                  refine region_anyK (fun w' => w'.cell? ⟨W.heap.size + 1 + 1, 4, none⟩ = some (.slice A4 ys.length c4) ∧ w'.frozen? ⟨W.heap.size + 1 + 1, 4, none⟩ = false ∧ w'.cell? ⟨W.heap.size, 4, none⟩ = some (.slice (some ⟨b1, o1, none⟩) ks.length kc) ∧ w'.cell? ⟨b1, o1 + q * 5, none⟩ = some (.int .i64 xk) ∧ w'.cell? ⟨b1, o1 + q * 5 + 1, none⟩ = some (.string (S xt)) ∧ w'.cell? ⟨b1, o1 + q * 5 + 2, none⟩ = some (.int .i64 xn) ∧ w'.cell? ⟨b1, o1 + q * 5 + 3, none⟩ = some (.slice xA xa xb) ∧ w'.cell? ⟨b1, o1 + q * 5 + 4, none⟩ = some (.slice xB xc xd)) 13 (by kernel_rfl) (by ((try dsimp only); first | assumption | simp [*, go_sem, World.cell?_alloc_past])) (fun hSk => ?_)
                  refine anyK_take 0 [0] (v := ?_) rfl (by kernel_rfl) (by kernel_rfl) (fun _ _ _ h => h) (Or.inl ⟨by rfl, ?_⟩) hSk ?_
                  rotate_left
                  · intro w' hSw; (try dsimp only at hSw); go_simp; try with_reducible rfl
                  try simp only [List.getElem_toArray, List.getElem_cons_succ, List.getElem_cons_zero, Act.put, List.setIfInBounds_toArray, List.set_cons_zero, List.set_cons_succ]
                  refine anyK_take 1 [1] (v := ?_) rfl (by kernel_rfl) (by kernel_rfl) (fun _ _ _ h => h) (Or.inl ⟨by rfl, ?_⟩) hSk ?_
                  rotate_left
                  · intro w' hSw; (try dsimp only at hSw); go_simp; try with_reducible rfl
                  try simp only [List.getElem_toArray, List.getElem_cons_succ, List.getElem_cons_zero, Act.put, List.setIfInBounds_toArray, List.set_cons_zero, List.set_cons_succ]
                  refine anyK_take 2 [2] (v := ?_) rfl (by kernel_rfl) (by kernel_rfl) (fun _ _ _ h => h) (Or.inl ⟨by rfl, ?_⟩) hSk ?_
                  rotate_left
                  · intro w' hSw; (try dsimp only at hSw); go_simp; try with_reducible rfl
                  try simp only [List.getElem_toArray, List.getElem_cons_succ, List.getElem_cons_zero, Act.put, List.setIfInBounds_toArray, List.set_cons_zero, List.set_cons_succ]
                  refine anyK_take 3 [3] (v := ?_) rfl (by kernel_rfl) (by kernel_rfl) (fun _ _ _ h => h) (Or.inl ⟨by rfl, ?_⟩) hSk ?_
                  rotate_left
                  · intro w' hSw; (try dsimp only at hSw); go_simp; try with_reducible rfl
                  try simp only [List.getElem_toArray, List.getElem_cons_succ, List.getElem_cons_zero, Act.put, List.setIfInBounds_toArray, List.set_cons_zero, List.set_cons_succ]
                  refine anyK_take 4 [4] (v := ?_) rfl (by kernel_rfl) (by kernel_rfl) (fun _ _ _ h => h) (Or.inl ⟨by rfl, ?_⟩) hSk ?_
                  rotate_left
                  · intro w' hSw; (try dsimp only at hSw); go_simp; try with_reducible rfl
                  try simp only [List.getElem_toArray, List.getElem_cons_succ, List.getElem_cons_zero, Act.put, List.setIfInBounds_toArray, List.set_cons_zero, List.set_cons_succ]
                  refine anyK_take 5 [5] (v := ?_) rfl (by kernel_rfl) (by kernel_rfl) (fun _ _ _ h => h) (Or.inl ⟨by rfl, ?_⟩) hSk ?_
                  rotate_left
                  · intro w' hSw; (try dsimp only at hSw); go_simp; try with_reducible rfl
                  try simp only [List.getElem_toArray, List.getElem_cons_succ, List.getElem_cons_zero, Act.put, List.setIfInBounds_toArray, List.set_cons_zero, List.set_cons_succ]
                  refine anyK_take 6 [6] (v := ?_) rfl (by kernel_rfl) (by kernel_rfl) (fun _ _ _ h => h) (Or.inl ⟨by rfl, ?_⟩) hSk ?_
                  rotate_left
                  · intro w' hSw; (try dsimp only at hSw); go_simp; try with_reducible rfl
                  try simp only [List.getElem_toArray, List.getElem_cons_succ, List.getElem_cons_zero, Act.put, List.setIfInBounds_toArray, List.set_cons_zero, List.set_cons_succ]
                  refine anyK_take 7 [7] (v := ?_) rfl (by kernel_rfl) (by kernel_rfl) (fun _ _ _ h => h) (Or.inl ⟨by rfl, ?_⟩) hSk ?_
                  rotate_left
                  · intro w' hSw; (try dsimp only at hSw); go_simp; try with_reducible rfl
                  try simp only [List.getElem_toArray, List.getElem_cons_succ, List.getElem_cons_zero, Act.put, List.setIfInBounds_toArray, List.set_cons_zero, List.set_cons_succ]
                  refine anyK_take 8 [8] (v := ?_) rfl (by kernel_rfl) (by kernel_rfl) (fun _ _ _ h => h) (Or.inl ⟨by rfl, ?_⟩) hSk ?_
                  rotate_left
                  · intro w' hSw; (try dsimp only at hSw); go_simp; try with_reducible rfl
                  try simp only [List.getElem_toArray, List.getElem_cons_succ, List.getElem_cons_zero, Act.put, List.setIfInBounds_toArray, List.set_cons_zero, List.set_cons_succ]
                  refine anyK_only 9 (by kernel_rfl) rfl (fun K hK => ?_)
                  (first | (rw [if_pos (by rfl)]; go_simp; go_at_call 15; refine CALLX.out.mono ?_; rintro e w3 ⟨yk, yt, yu, yA, ya, yb, yB, yc, yd, rfl, ⟨p0, p1, p2, p3, p4, p5, p6, p7, pl1, pl2, pl3⟩, A5, c5, w4, hrun4, ⟨q0, q1, q2, q3, q4, q5, q6, q7⟩, M5⟩; go_wp2_with fail) | (refine step_append_run rfl _ _ _ (by rfl) _ _ _ _ (by rfl) (by rfl) hrun4 ?_) | go_simp)
                  clear hSk
                  refine hK.out _ _ (by ((try dsimp only); first | assumption | simp [*, go_sem, World.cell?_alloc_past])) (fun hSk => ?_)
                  clear hK K
                  try simp only [List.getElem_toArray, List.getElem_cons_succ, List.getElem_cons_zero, Act.put, List.setIfInBounds_toArray, List.set_cons_zero, List.set_cons_succ]
                  refine anyK_only 10 (by kernel_rfl) rfl (fun K hK => ?_)
                  (first | (rw [if_pos (by rfl)]; go_simp; go_at_call 15; refine CALLX.out.mono ?_; rintro e w3 ⟨yk, yt, yu, yA, ya, yb, yB, yc, yd, rfl, ⟨p0, p1, p2, p3, p4, p5, p6, p7, pl1, pl2, pl3⟩, A5, c5, w4, hrun4, ⟨q0, q1, q2, q3, q4, q5, q6, q7⟩, M5⟩; go_wp2_with fail) | (refine step_append_run rfl _ _ _ (by rfl) _ _ _ _ (by rfl) (by rfl) hrun4 ?_) | go_simp)
                  clear hSk
                  refine hK.out _ _ (by ((try dsimp only); first | assumption | simp [*, go_sem, World.cell?_alloc_past])) (fun hSk => ?_)
                  clear hK K
                  try simp only [List.getElem_toArray, List.getElem_cons_succ, List.getElem_cons_zero, Act.put, List.setIfInBounds_toArray, List.set_cons_zero, List.set_cons_succ]
                  refine anyK_only 11 (by kernel_rfl) rfl (fun K hK => ?_)
                  (first | (rw [if_pos (by rfl)]; go_simp; go_at_call 15; refine CALLX.out.mono ?_; rintro e w3 ⟨yk, yt, yu, yA, ya, yb, yB, yc, yd, rfl, ⟨p0, p1, p2, p3, p4, p5, p6, p7, pl1, pl2, pl3⟩, A5, c5, w4, hrun4, ⟨q0, q1, q2, q3, q4, q5, q6, q7⟩, M5⟩; go_wp2_with fail) | (refine step_append_run rfl _ _ _ (by rfl) _ _ _ _ (by rfl) (by rfl) hrun4 ?_) | go_simp)
                  clear hSk
                  refine hK.out _ _ (by ((try dsimp only); first | assumption | simp [*, go_sem, World.cell?_alloc_past])) (fun hSk => ?_)
                  clear hK K
                  try simp only [List.getElem_toArray, List.getElem_cons_succ, List.getElem_cons_zero, Act.put, List.setIfInBounds_toArray, List.set_cons_zero, List.set_cons_succ]
                  refine anyK_take 12 [12] (v := ?_) rfl (by kernel_rfl) (by kernel_rfl) (fun _ _ _ h => h) (Or.inl ⟨by rfl, ?_⟩) hSk ?_
                  rotate_left
                  · intro w' hSw; (try dsimp only at hSw); go_simp; try with_reducible rfl
                  try simp only [List.getElem_toArray, List.getElem_cons_succ, List.getElem_cons_zero, Act.put, List.setIfInBounds_toArray, List.set_cons_zero, List.set_cons_succ]
                  refine anyK_last (by kernel_rfl) rfl (by kernel_rfl) (fun K hK => ?_)
                  go_simp
                  refine hK.out _ _ ?_
                  clear hK K
                  try simp only [List.getElem_toArray, List.getElem_cons_succ, List.getElem_cons_zero, Act.put, List.setIfInBounds_toArray, List.set_cons_zero, List.set_cons_succ]
                  refine anyK_done (by kernel_rfl) ?_ _
                  clear hwr
                  obtain ⟨yy, M6⟩ := M5.out
                  go_wp2
                  go_roundw
                  case rel => exact ⟨A5, c5, ys ++ [yy], kq ++ [cq], q + 1, by omega, by omega, by go_num, HZ, HKQ, HYL2.out yy, hid M6⟩
                  case measure => simp [intOf]; omega
                · have HCJ := hid (show Jv.mk k t5 u ms kq = cj by
                    have hn0' : n = 0 := by have := HN.out; omega
                    rw [CE.out, hkq.out, hz.out hn0', HMS.out]
                    subst hn0'
                    rfl)
                  obtain rfl : N = 0 := by omega
                  clear CE hkq hz CUT
                  obtain ⟨⟨z0, z1, z2, z3, z4⟩, zf⟩ := hC.out.zer
                  have m0 := zf 0
                  have m1 := zf 1
                  have m2 := zf 2
                  have m3 := zf 3
                  have m4 := zf 4
                  obtain ⟨w0, w1, w2⟩ := hC.out.outs
                  have HD := hid (fun (v0 v1 v2 v3 v4 : Value) => hC.out.done (by have := HML.out; omega) (by have := HYL.out; omega) v0 v1 v2 v3 v4)
                  rw [show (Jv.mk k t5 u ms kq) = cj from HCJ.out] at HD
                  clear zf
                  go_wp2
                  refine bodyPost_ret (v := .agg #[.int .i64 k, .string (S t5), .int .i64 u, .slice A3 ms.length c3, .slice A4 ys.length c4]) (by simp [results, Tryd.results15, go_sem, z0, z1, z2, z3, z4]) rfl ⟨_, _, _, _, _, _, _, _, _, rfl, HD.out _ _ _ _ _⟩
              · have HCJ := hid (show Jv.mk k t5 u ms kq = cj by
                  obtain ⟨m, rfl⟩ : ∃ m, n = m + 1 := ⟨n - 1, by
                    rcases Nat.eq_zero_or_pos n with h | h
                    · have := hz.out h; omega
                    · omega⟩
                  obtain rfl : q = 5 := by omega
                  rw [CE.out, hkq.out, HMS.out]
                  rfl)
                obtain rfl : q = 5 := by omega
                clear CE hkq hz CUT
                obtain ⟨⟨z0, z1, z2, z3, z4⟩, zf⟩ := hC.out.zer
                have m0 := zf 0
                have m1 := zf 1
                have m2 := zf 2
                have m3 := zf 3
                have m4 := zf 4
                obtain ⟨w0, w1, w2⟩ := hC.out.outs
                have HD := hid (fun (v0 v1 v2 v3 v4 : Value) => hC.out.done (by have := HML.out; omega) (by have := HYL.out; omega) v0 v1 v2 v3 v4)
                rw [show (Jv.mk k t5 u ms kq) = cj from HCJ.out] at HD
                clear zf
                go_wp2
                refine bodyPost_ret (v := .agg #[.int .i64 k, .string (S t5), .int .i64 u, .slice A3 ms.length c3, .slice A4 ys.length c4]) (by simp [results, Tryd.results15, go_sem, z0, z1, z2, z3, z4]) rfl ⟨_, _, _, _, _, _, _, _, _, rfl, HD.out _ _ _ _ _⟩
            · have HCJ := hid (show Jv.mk k t5 u ms kq = cj by
                rw [CE.out, hkq.out, HMS.out]
                obtain rfl : q = ks.length := by omega
                cases n with
                | zero =>
                  have := hz.out rfl
                  rw [this]
                  rfl
                | succ m =>
                  rw [List.take_length, List.take_of_length_le hq2]
                  rfl)
              clear CE hkq hz CUT
              obtain ⟨⟨z0, z1, z2, z3, z4⟩, zf⟩ := hC.out.zer
              have m0 := zf 0
              have m1 := zf 1
              have m2 := zf 2
              have m3 := zf 3
              have m4 := zf 4
              obtain ⟨w0, w1, w2⟩ := hC.out.outs
              have HD := hid (fun (v0 v1 v2 v3 v4 : Value) => hC.out.done (by have := HML.out; omega) (by have := HYL.out; omega) v0 v1 v2 v3 v4)
              rw [show (Jv.mk k t5 u ms kq) = cj from HCJ.out] at HD
              clear zf
              go_wp2
              refine bodyPost_ret (v := .agg #[.int .i64 k, .string (S t5), .int .i64 u, .slice A3 ms.length c3, .slice A4 ys.length c4]) (by simp [results, Tryd.results15, go_sem, z0, z1, z2, z3, z4]) rfl ⟨_, _, _, _, _, _, _, _, _, rfl, HD.out _ _ _ _ _⟩
theorem ref06_Cut : ∀ (n : Nat), n ≤ 100 → ∀ (j : Jv), TxtB j → ∀ (W : World) (ok : Nat → Prop) (x : J5), JAt W ok j x →
    Calls Tryd.prog 15 #[.agg #[.int .i64 x.kind, .string (S x.text), .int .i64 x.num, .slice x.nA x.nn x.nc, .slice x.kA x.kn x.kc], .int .i64 n] W fun e w' => ∃ yk yt yu yA ya yb yB yc yd, e = .returned (.agg #[.int .i64 yk, .string (S yt), .int .i64 yu, .slice yA ya yb, .slice yB yc yd]) ∧ JAt w' (fun k => W.heap.size ≤ k) (cutJ n j) ⟨yk, yt, yu, yA, ya, yb, yB, yc, yd⟩ ∧ Below W.heap.size W w' := by
  intro n
  induction n with
  | zero =>
    intro hn j hf W ok x hj
    cases hj with
    | mk x ns ks xs hnn hnc hkn hkc hbn hbk hN hl hK hs =>
      obtain ⟨k, t, u, A, nn, nc, B, kn, kc⟩ := x
      simp only [] at *
      subst hnn hkn
      cases hf with
      | mk _ _ _ _ _ ft fn fk =>
      exact cut_step 0 hn k t u A nc B kc ns ks xs hnc hkc hbn hbk ft fn W ok hN hl hK (fun m hm => by omega)
  | succ m ih =>
    intro hn j hf W ok x hj
    cases hj with
    | mk x ns ks xs hnn hnc hkn hkc hbn hbk hN hl hK hs =>
      obtain ⟨k, t, u, A, nn, nc, B, kn, kc⟩ := x
      simp only [] at *
      subst hnn hkn
      cases hf with
      | mk _ _ _ _ _ ft fn fk =>
      exact cut_step (m + 1) hn k t u A nc B kc ns ks xs hnc hkc hbn hbk ft fn W ok hN hl hK (fun m' hm i h h' w1 hb => by
        obtain rfl : m' = m := by omega
        exact ih (by omega) ks[i] (fk i h) w1 ok xs[i] ((hs i h h').belowW hb))
end Go.Proofs.YtbjimikppdfmgaaDoor
