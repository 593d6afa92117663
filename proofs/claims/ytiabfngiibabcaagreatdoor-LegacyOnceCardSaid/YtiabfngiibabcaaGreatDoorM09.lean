/- A drive behind a world, and blocks beside it. Batches in memory. What a Go map from texts to texts is good for. Walks of package kv: may, do, file. A drive behind a world, blocks beside it, and a map. Walk of kv.first: calls one behind the other, to the first error. -/
import Derived.Test.YtiabfngiibabcaaGreatDoorM08
import Derived.Test.YtiabfngiibabcaaGreatDoorM06
import Derived.Test.YtiabfngiibabcaaGreatDoorM01
import Derived.Test.YtiabfngiibabcaaGreatDoorM02
import Derived.Test.YtiabfngiibabcaaGreatDoorChecked
set_option linter.unusedVariables false
set_option linter.unusedSimpArgs false
set_option maxRecDepth 100000
namespace Go.Proofs.YtiabfngiibabcaaGreatDoor
open Go.RowKit

abbrev Xc := Nat × TypeId × Array Value
/-- A drive made behind w0; N bounds the pieces; X: blocks that are not its. -/
def DW (w0 : World) (g : Nat) (d : Dr) (N : Nat) (X : List Xc) (W : World) : Prop :=
  ∃ fp, IsDrive W g d fp ∧ d.Ok N ∧ Below w0.heap.size w0 W ∧ (∀ k, fp k → w0.heap.size ≤ k) ∧ ∀ x ∈ X, ¬ fp x.1 ∧ Blk W x.1 x.2.1 x.2.2
theorem DW.new (q : Int) (hq : quotableB q = true) (w : World) : Calls Tryz.prog 7 #[.int .i64 q] w fun e w' => ∃ g, e = .returned (.pointer (some ⟨g, 0, none⟩)) ∧ DW w g (Dr.new q) 0 [] w' := by
  refine (drive_New q hq w).mono ?_
  rintro e w' ⟨g, fp, rfl, h1, h2, h3⟩
  exact ⟨g, rfl, fp, h1, Dr.Ok.new q hq, h2, h3, by simp⟩
section
variable {w0 W : World} {g N : Nat} {d : Dr} {X : List Xc}
theorem DW.bel (h : DW w0 g d N X W) : Below w0.heap.size w0 W := by
  obtain ⟨fp, h1, h2, h3, h4, h5⟩ := h
  exact h3
theorem DW.ok (h : DW w0 g d N X W) : d.Ok N := by
  obtain ⟨fp, h1, h2, h3, h4, h5⟩ := h
  exact h2
theorem DW.blk (h : DW w0 g d N X W) {x : Xc} (hx : x ∈ X) : Blk W x.1 x.2.1 x.2.2 := by
  obtain ⟨fp, h1, h2, h3, h4, h5⟩ := h
  exact (h5 x hx).2
theorem DW.sub (h : DW w0 g d N X W) {Y : List Xc} (hY : ∀ x ∈ Y, x ∈ X) : DW w0 g d N Y W := by
  obtain ⟨fp, h1, h2, h3, h4, h5⟩ := h
  exact ⟨fp, h1, h2, h3, h4, fun x hx => h5 x (hY x hx)⟩
theorem DW.drop (h : DW w0 g d N X W) : DW w0 g d N [] W := h.sub (by simp)
theorem DW.more (h : DW w0 g d N X W) {M : Nat} (hM : N ≤ M) : DW w0 g d M X W := by
  obtain ⟨fp, h1, h2, h3, h4, h5⟩ := h
  exact ⟨fp, h1, h2.more hM, h3, h4, h5⟩
theorem DW.below (h : DW w0 g d N X W) {W' : World} (hb : Below W.heap.size W W') : DW w0 g d N X W' := by
  obtain ⟨fp, h1, h2, h3, h4, h5⟩ := h
  exact ⟨fp, h1.below hb, h2, bt h3 hb, h4, fun x hx => ⟨(h5 x hx).1, (h5 x hx).2.below hb (h5 x hx).2.lt⟩⟩
/-- A block that was made behind. -/
theorem DW.push (h : DW w0 g d N X W) {W' : World} (hb : Below W.heap.size W W') {q : Nat} {t : TypeId} {cs : Array Value} (hq : W.heap.size ≤ q) (hB : Blk W' q t cs) : DW w0 g d N ((q, t, cs) :: X) W' := by
  obtain ⟨fp, h1, h2, h3, h4, h5⟩ := h
  refine ⟨fp, h1.below hb, h2, bt h3 hb, h4, fun x hx => ?_⟩
  rcases List.mem_cons.1 hx with rfl | hx
  · refine ⟨fun hk => ?_, hB⟩
    have := h1.lt _ hk
    simp at this
    omega
  · exact ⟨(h5 x hx).1, (h5 x hx).2.below hb (h5 x hx).2.lt⟩
theorem DW.with_ (h : DW w0 g d N X W) (t : TypeId) (cs : Array Value) : DW w0 g d N ((W.heap.size, t, cs) :: X) (W.alloc (.cells cs t)) :=
  h.push ((Below.refl _ _).alloc (Nat.le_refl _) _) (Nat.le_refl _) (Blk.new W t cs)
/-- A cell of a block beside it is written. -/
theorem DW.set_ {q : Nat} {t : TypeId} {cs : Array Value} (h : DW w0 g d N [(q, t, cs)] W) (hq : w0.heap.size ≤ q) (i : Nat) (v : Value) : DW w0 g d N [(q, t, cs.setIfInBounds i v)] (W.setCell ⟨q, i, none⟩ v) := by
  obtain ⟨fp, h1, h2, h3, h4, h5⟩ := h
  obtain ⟨q1, q2⟩ := h5 (q, t, cs) (by simp)
  refine ⟨fp, h1.keep (by rw [set_size]; exact Nat.le_refl _) (fun k hk => set_other _ _ _ _ k (by rintro rfl; exact q1 hk)), h2, h3.setCell (p := ⟨q, i, none⟩) hq _, h4, fun x hx => ?_⟩
  simp at hx
  subst hx
  exact ⟨q1, q2.set_ i v⟩
/-- A call that turned the drive alone. -/
theorem DW.turned {fp : Nat → Prop} {d' : Dr} {N' : Nat} {W' : World} (h1 : IsDrive W g d fp) (h3 : Below w0.heap.size w0 W) (h4 : ∀ k, fp k → w0.heap.size ≤ k) (h5 : ∀ x ∈ X, ¬ fp x.1 ∧ Blk W x.1 x.2.1 x.2.2) (ht : Then W g d' fp W') (ho : d'.Ok N') : DW w0 g d' N' X W' := by
  obtain ⟨fp', k1, k2⟩ := ht
  refine ⟨fp', k1, ho, h3.trans (k2.below h4 h3.size), fun k hk => ?_, fun x hx => ?_⟩
  · rcases k2.new k hk with hk | hk
    · exact h4 k hk
    · exact Nat.le_trans h3.size hk
  · obtain ⟨q1, q3⟩ := h5 x hx
    refine ⟨fun hk => ?_, (k2.block _ q3.lt q1).trans q3⟩
    rcases k2.new _ hk with hk | hk
    · exact q1 hk
    · have := q3.lt; omega
theorem DW.create (h : DW w0 g d N X W) (name : Key) (hl : name.length ≤ 1000000) : Calls Tryz.prog 79 #[.pointer (some ⟨g, 0, none⟩), .string (S name)] W fun e w' => e = .returned (.int .i64 (d.create name).2) ∧ DW w0 g (d.create name).1 N X w' := by
  obtain ⟨fp, h1, h2, h3, h4, h5⟩ := h
  refine (drive_Create h1 h2 name hl).mono ?_
  rintro e w' ⟨rfl, ht⟩
  exact ⟨rfl, DW.turned h1 h3 h4 h5 ht (h2.create name)⟩
theorem DW.sync (h : DW w0 g d N X W) (hN : N ≤ 1000000000) (name : Key) (hl : name.length ≤ 1000000) : Calls Tryz.prog 81 #[.pointer (some ⟨g, 0, none⟩), .string (S name)] W fun e w' => e = .returned (.int .i64 (d.sync name).2) ∧ DW w0 g (d.sync name).1 N X w' := by
  obtain ⟨fp, h1, h2, h3, h4, h5⟩ := h
  refine (drive_Sync h1 h2 hN name hl).mono ?_
  rintro e w' ⟨rfl, ht⟩
  exact ⟨rfl, DW.turned h1 h3 h4 h5 ht (h2.sync name)⟩
/-- What is handed in lies behind the drive, or beside it. -/
theorem DW.append (h : DW w0 g d N X W) (hN : N < 1000000000) (name : Key) (hl : name.length ≤ 1000000) (A : Option Addr) (data : List UInt8) (c : Nat) (hB : BytesAt W A data) (hn : ∀ p, A = some p → p.block < w0.heap.size ∨ ∃ x ∈ X, x.1 = p.block) (hdl : data.length ≤ 1000000000) :
    Calls Tryz.prog 100 #[.pointer (some ⟨g, 0, none⟩), .string (S name), .slice A data.length c] W fun e w' => e = .returned (.int .i64 (d.append name data).2) ∧ DW w0 g (d.append name data).1 (N + 1) X w' := by
  obtain ⟨fp, h1, h2, h3, h4, h5⟩ := h
  refine (drive_Append h1 h2 hN name hl A data c hB (fun p hp hk => ?_) hdl).mono ?_
  · rcases hn p hp with h6 | ⟨x, hx, h6⟩
    · have := h4 _ hk; omega
    · rw [← h6] at hk
      exact (h5 x hx).1 hk
  · rintro e w' ⟨rfl, ht⟩
    exact ⟨rfl, DW.turned h1 h3 h4 h5 ht (h2.append name data)⟩
/-- What is handed in was made behind the drive. -/
theorem DW.append_new (h : DW w0 g d N X W) {W' : World} (hb : Below W.heap.size W W') (hN : N < 1000000000) (name : Key) (hl : name.length ≤ 1000000) (A : Option Addr) (data : List UInt8) (c : Nat) (hB : BytesAt W' A data) (hn : ∀ p, A = some p → W.heap.size ≤ p.block) (hdl : data.length ≤ 1000000000) :
    Calls Tryz.prog 100 #[.pointer (some ⟨g, 0, none⟩), .string (S name), .slice A data.length c] W' fun e w' => e = .returned (.int .i64 (d.append name data).2) ∧ DW w0 g (d.append name data).1 (N + 1) X w' := by
  obtain ⟨fp, h1, h2, h3, h4, h5⟩ := h
  refine (drive_Append (h1.below hb) h2 hN name hl A data c hB (fun p hp hk => ?_) hdl).mono ?_
  · have := h1.lt _ hk
    have := hn p hp
    omega
  · rintro e w' ⟨rfl, ht⟩
    exact ⟨rfl, DW.turned (h1.below hb) (bt h3 hb) h4 (fun x hx => ⟨(h5 x hx).1, (h5 x hx).2.below hb (h5 x hx).2.lt⟩) ht (h2.append name data)⟩
theorem DW.read (h : DW w0 g d N X W) (hN : N ≤ 1000000000) (name : Key) (hl : name.length ≤ 1000000) : Calls Tryz.prog 139 #[.pointer (some ⟨g, 0, none⟩), .string (S name)] W fun e w' => ∃ v, e = .returned (.tuple #[v, .int .i64 (d.readE name)]) ∧ w'.ownsRow W.heap.size 5 1 v (d.read name).length ((d.read name).map B8) ∧ Below W.heap.size W w' ∧ DW w0 g d N X w' := by
  have h' := h
  obtain ⟨fp, h1, h2, h3, h4, h5⟩ := h
  refine (drive_Read h1 h2 hN name hl).mono ?_
  rintro e w' ⟨v, rfl, hr, hb⟩
  exact ⟨v, rfl, hr, hb, h'.below hb⟩
theorem DW.arm (h : DW w0 g d N X W) (n : Int) (hn : n ≤ 9223372036854775807) : Calls Tryz.prog 71 #[.pointer (some ⟨g, 0, none⟩), .int .i64 n] W fun e w' => e = .returned (.tuple #[]) ∧ DW w0 g (d.arm n) N X w' := by
  obtain ⟨fp, h1, h2, h3, h4, h5⟩ := h
  refine (drive_Arm h1 n).mono ?_
  rintro e w' ⟨rfl, ht1, ht2⟩
  exact ⟨rfl, DW.turned h1 h3 h4 h5 ⟨fp, ht1, ht2⟩ (h2.arm n hn)⟩
theorem DW.alive (h : DW w0 g d N X W) : Calls Tryz.prog 72 #[.pointer (some ⟨g, 0, none⟩)] W fun e w' => e = .returned (.bool (!d.down)) ∧ w' = W := by
  obtain ⟨fp, h1, h2, h3, h4, h5⟩ := h
  exact drive_Alive h1
end
end Go.Proofs.YtiabfngiibabcaaGreatDoor

set_option linter.unusedVariables false
set_option linter.unusedSimpArgs false
set_option maxHeartbeats 1600000
set_option maxRecDepth 100000
namespace Go.Proofs.YtiabfngiibabcaaGreatDoor
open Go.RowKit

def wCells (x : Wr) : List Value := [.string (S x.key), .string (S x.val), .bool x.gone]
/-- A batch that is there. -/
def WsAt (w : World) (A : Option Addr) (l : List Wr) : Prop := 0 < l.length → ∃ b off, A = some ⟨b, off, none⟩ ∧ b < w.heap.size ∧ ∀ i, (h : i < l.length) →
  w.cell? ⟨b, off + i * 3, none⟩ = some (.string (S l[i].key)) ∧ w.cell? ⟨b, off + i * 3 + 1, none⟩ = some (.string (S l[i].val)) ∧ w.cell? ⟨b, off + i * 3 + 2, none⟩ = some (.bool l[i].gone)
theorem WsAt.below {w w' : World} {A : Option Addr} {l : List Wr} (h : WsAt w A l) (hb : Below w.heap.size w w') : WsAt w' A l := fun h0 => by
  obtain ⟨b, off, rfl, hlt, hc⟩ := h h0
  refine ⟨b, off, rfl, Nat.lt_of_lt_of_le hlt hb.size, fun i hi => ?_⟩
  obtain ⟨c1, c2, c3⟩ := hc i hi
  exact ⟨(hb.cell hlt).trans c1, (hb.cell hlt).trans c2, (hb.cell hlt).trans c3⟩
/-- Blocks below a bound stay: where the batch lies below it. -/
def WsIn' (w : World) (B : Nat) (A : Option Addr) (l : List Wr) : Prop := WsAt w A l ∧ ∀ p, A = some p → p.block < B
theorem wCells_len (ps : List Wr) : (ps.flatMap wCells).length = ps.length * 3 := by
  induction ps with
  | nil => rfl
  | cons p ps ih => simp [wCells] at ih ⊢; omega
theorem wCells_get (ps : List Wr) : ∀ i, (h : i < ps.length) → (ps.flatMap wCells)[i * 3]? = some (.string (S ps[i].key)) ∧ (ps.flatMap wCells)[i * 3 + 1]? = some (.string (S ps[i].val)) ∧ (ps.flatMap wCells)[i * 3 + 2]? = some (.bool ps[i].gone) := by
  induction ps with
  | nil => intro i h; simp at h
  | cons p ps ih =>
    intro i h
    rw [List.flatMap_cons]
    rcases i with _ | i
    · simp [wCells]
    · have := ih i (by simpa using h)
      have hl : (wCells p).length = 3 := rfl
      rw [List.getElem?_append_right (by rw [hl]; omega), List.getElem?_append_right (by rw [hl]; omega), List.getElem?_append_right (by rw [hl]; omega), hl]
      rw [show (i + 1) * 3 - 3 = i * 3 by omega, show (i + 1) * 3 + 1 - 3 = i * 3 + 1 by omega, show (i + 1) * 3 + 2 - 3 = i * 3 + 2 by omega]
      exact this
theorem ws_row {w : World} {base : Nat} {A : Option Addr} {c : Nat} {ps : List Wr} (h : w.ownsRow base 104 3 (.slice A ps.length c) ps.length (ps.flatMap wCells)) : WsAt w A ps := fun h0 => by
  rcases h.2 with ⟨h1, h2⟩ | ⟨g, cap, cur, hv, hb, hh, r⟩
  · omega
  · simp only [Value.slice.injEq] at hv
    obtain ⟨rfl, -, rfl⟩ := hv
    refine ⟨g, 0, rfl, (Array.getElem?_eq_some_iff.1 hh).1, fun i hi => ?_⟩
    obtain ⟨p1, p2, p3⟩ := wCells_get ps i hi
    simp only [Nat.zero_add]
    exact ⟨(h.cellAt (i * 3) (by omega)).trans p1, (h.cellAt (i * 3 + 1) (by omega)).trans p2, (h.cellAt (i * 3 + 2) (by omega)).trans p3⟩
theorem info_write : ∃ i, (Tryz.prog).info? 104 = some i ∧ i.zero = some (.agg #[.string ByteArray.empty, .string ByteArray.empty, .bool false]) ∧ i.size = 3 ∧ i.bytes = 40 := by
  have h : ((Tryz.prog).info? 104).map (fun i => (i.zero, i.size, i.bytes)) = some (some (.agg #[.string ByteArray.empty, .string ByteArray.empty, .bool false]), 3, 40) := by kernel_rfl
  obtain ⟨i, hi, he⟩ := Option.map_eq_some_iff.1 h
  simp only [Prod.mk.injEq] at he
  exact ⟨i, hi, he.1, he.2.1, he.2.2⟩
/-- append(out, w), in a walk. -/
theorem wpList_append_write {W : World} {ops : Array Oper} {rest : List Oper} {o : Oper} {a : Act} {Q : Exit → Act → World → Prop} (hgd : o.guard = none) (s x : Operand) {base : Nat} {A : Option Addr} {c : Nat} {os : List Wr} {y : Wr}
    (ho : o.op = .call { callee := .builtin .append, args := #[s, x], argTypes := #[105, 105] }) (hty : o.type = 105) (hs : a.eval s = .slice A os.length c) (hx : a.eval x = .slice (some ⟨W.heap.size, 0, none⟩) 1 1)
    (hown : W.ownsRow base 104 3 (.slice A os.length c) os.length (os.flatMap wCells)) (hl : os.length ≤ 1000000) (hbase : base ≤ W.heap.size)
    (h : ∀ A' c' w', w'.ownsRow base 104 3 (.slice A' (os ++ [y]).length c') (os ++ [y]).length ((os ++ [y]).flatMap wCells) → Below base W w' → wpList Tryz.prog ops Q rest (a.put o.dst (.slice A' (os ++ [y]).length c')) w') :
    wpList Tryz.prog ops Q (o :: rest) a (W.alloc (.cells #[.string (S y.key), .string (S y.val), .bool y.gone] 104)) := by
  obtain ⟨i, hi, hz, hsz, hby⟩ := info_write
  have b0 : Below W.heap.size W (W.alloc (.cells #[.string (S y.key), .string (S y.val), .bool y.gone] 104)) := (Below.refl _ _).alloc (Nat.le_refl _) _
  have hB := Blk.new W 104 #[.string (S y.key), .string (S y.val), .bool y.gone]
  obtain ⟨v', w', hrun, hown1, hgrow, hat⟩ := run_append_row (P := Tryz.prog) _ base 105 105 104 i _ 3 40 (by kernel_rfl) hi hz hsz hby rfl (by decide) _ _ _ (row_alloc hown (.cells #[.string (S y.key), .string (S y.val), .bool y.gone] 104)) (some ⟨W.heap.size, 0, none⟩) 1 1 (wCells y) (by simp [wCells]) (fun h => by cases h)
    (fun ad had j u hu => by
      injection had with had
      subst had
      rw [add_plain', Nat.zero_add, hB.cell j, ← hu]
      simp [wCells])
    (fun u hu => by
      simp only [wCells, List.mem_cons, List.not_mem_nil, or_false] at hu
      rcases hu with rfl | rfl | rfl <;> rfl)
    (by unfold maxLen; omega) (by omega) (by simp; omega)
  have hlen : (os ++ [y]).length = os.length + 1 := by simp
  have hfl : (os ++ [y]).flatMap wCells = os.flatMap wCells ++ wCells y := by simp
  obtain ⟨A', c', rfl⟩ := row_form hown1
  rw [← hlen, ← hfl] at hown1
  rw [← hlen] at hrun
  exact wpList_append_run hgd s x _ ho _ _ _ _ hs hx (by rw [hty]; exact hrun) (h A' c' w' hown1 ((b0.mono hbase).grown hgrow (by simp; omega) fun k hk => row_base_le hown hk))
end Go.Proofs.YtiabfngiibabcaaGreatDoor

set_option linter.unusedVariables false
set_option linter.unusedSimpArgs false
namespace Go.Proofs.YtiabfngiibabcaaGreatDoor
open Go.RowKit Go.WideMaps Go.ChangeMaps Go.Maps

/-- How a text reads. -/
def Rs (v : Value) : Option (DataW Unit × List MemPlace) :=
  match v with
  | .string b => some (.lit (.string b.data.toList), [])
  | _ => none
theorem Rs_str (l : List UInt8) : Rs (.string (S l)) = some (.lit (.string l), []) := by
  simp [Rs, S]
theorem Rs_inv {v : Value} {d : DataW Unit} {ps : List MemPlace} (h : Rs v = some (d, ps)) : ∃ l, v = .string (S l) ∧ d = .lit (.string l) := by
  unfold Rs at h
  split at h
  · rename_i b
    simp at h
    exact ⟨b.data.toList, by rw [S_of], h.1.symm⟩
  · cases h
abbrev KMap := List (Key × List UInt8)
def mapS (m : KMap) : DataW Unit := .map (m.map fun p => (.string p.1, .lit (.string p.2)))
theorem insert_mapS (k : Key) (b : List UInt8) (m : KMap) : DataW.insert ((.string k, .lit (.string b)) : Lit × DataW Unit) (m.map fun p => (.string p.1, .lit (.string p.2))) = (kins k b m).map fun p => (.string p.1, .lit (.string p.2)) := by
  induction m with
  | nil => rfl
  | cons y r ih =>
    rw [List.map_cons]
    unfold DataW.insert kins
    by_cases h : bytesBefore k y.1 = true
    · rw [if_pos (show ((Lit.string k).before (Lit.string y.1)) = true from h), if_pos h]; rfl
    · rw [if_neg (show ¬ ((Lit.string k).before (Lit.string y.1)) = true from h), if_neg h, ih]; rfl
theorem mapS_del (m : KMap) (k : Key) : (mapS m).del (.string k) = mapS (kdel m k) := by
  simp [mapS, DataW.del, kdel, List.filter_map, Function.comp_def, Lit.sameKey]
theorem mapS_put (m : KMap) (k : Key) (b : List UInt8) : (mapS m).put (.string k) (.lit (.string b)) = mapS (kput m k b) := by
  have h := mapS_del m k
  simp only [mapS, DataW.del, DataW.map.injEq] at h
  simp only [mapS, DataW.put, h]
  rw [insert_mapS, kput]
theorem mapS_at (m : KMap) (k : Key) : (mapS m).atKey (.string k) (.lit (.string [])) = .lit (.string ((kget m k).getD [])) := by
  simp only [mapS, DataW.atKey, kget, List.find?_map, Function.comp_def, Lit.sameKey]
  cases h : m.find? fun p => p.1 == k <;> simp [h]
theorem mapS_size (m : KMap) : Maps.size (mapS m) = m.length := by simp [mapS, Maps.size]

/-- Block b is a map from texts to texts. -/
def OwnS (P : Program) (k : TypeId) (w : World) (b : Nat) (m : KMap) : Prop := w.ownsMap P k Rs b m.length (mapS m)
section
variable {P : Program} {k t e : TypeId} {w : World} {b : Nat} {m : KMap}
theorem OwnS.made (w : World) : OwnS P k (w.alloc (.map #[] 0)) w.heap.size [] := World.ownsMap_made w P k Rs
theorem OwnS.tight {n : Nat} (h : w.ownsMap P k Rs b n (mapS m)) : OwnS P k w b m := by
  obtain ⟨es, clock, hb, F, hs, hD⟩ := h
  refine ⟨es, clock, hb, F, ?_, hD⟩
  have h1 := congrArg Maps.size hD
  rw [mapS_size, Maps.size_eq, length_read] at h1
  omega
theorem OwnS.kept {w' : World} (h : OwnS P k w b m) (hb : w'.heap[b]? = w.heap[b]?) : OwnS P k w' b m := by
  obtain ⟨es, clock, hb', F, hs, hD⟩ := h
  exact ⟨es, clock, hb.trans hb', F, hs, hD⟩
theorem OwnS.isMap (h : OwnS P k w b m) : ∃ es clock, w.heap[b]? = some (.map es clock) := by
  obtain ⟨es, clock, hb, _⟩ := h
  exact ⟨es, clock, hb⟩
theorem OwnS.look (h : OwnS P k w b m) (hk : P.underlying k = some .string) (ht : P.underlying t = some (.map k e)) (hz : (zeroValue e).run P w = .ok (.string (S [])) w) (key : Key) (hl : key.length ≤ 1000000) :
    (Instr.lookup t (.map (some b)) (.string (S key)) false).run P w = .ok (.string (S ((kget m key).getD []))) w := by
  obtain ⟨v, ps, hrun, hv⟩ := World.ownsMap.lookup h (Maps.string_keyed hk) ht hz (zd := .lit (.string [])) (zp := []) (Rs_str []) (key_of hk key hl)
  rw [mapS_at] at hv
  rw [hrun]
  congr 1
  obtain ⟨l, rfl, hd⟩ := Rs_inv hv
  simp only [DataW.lit.injEq, Lit.string.injEq] at hd
  rw [hd]
theorem OwnS.put (h : OwnS P k w b m) (hk : P.underlying k = some .string) (ht : P.underlying t = some (.map k e)) (hn : m.length < 9223372036854775807) (key : Key) (hl : key.length ≤ 1000000) (c : List UInt8) :
    ∃ w', (Instr.mapUpdate t (.map (some b)) (.string (S key)) (.string (S c))).run P w = .ok () w' ∧ OwnS P k w' b (kput m key c) ∧ w.grownBy w' (some b) := by
  obtain ⟨w', hrun, hown, hg⟩ := World.ownsMap.update h (Maps.string_keyed hk) ht (by unfold maxLen; omega) (val := .string (S c)) (key_of hk key hl) (Rs_str c)
  rw [mapS_put] at hown
  exact ⟨w', hrun, OwnS.tight hown, hg⟩
theorem OwnS.len (h : OwnS P k w b m) (ht : P.underlying t = some (.map k e)) (ty : TypeId) : (Builtin.len_ #[t] ty #[.map (some b)]).run P w = .ok (.int .i64 (m.length : Nat)) w := by
  have := World.ownsMap.len h ht ty
  rw [mapS_size] at this
  exact this
theorem OwnS.drop (h : OwnS P k w b m) (hk : P.underlying k = some .string) (ht : P.underlying t = some (.map k e)) (key : Key) (hl : key.length ≤ 1000000) (ty : TypeId) :
    ∃ w', (Builtin.delete_ #[t, k] ty #[.map (some b), .string (S key)]).run P w = .ok (.tuple #[]) w' ∧ OwnS P k w' b (kdel m key) ∧ w.mapTurned w' b := by
  obtain ⟨w', hrun, hown, hg⟩ := World.ownsMap.drop h (Maps.string_keyed hk) ht (key_of hk key hl) ty
  rw [mapS_del] at hown
  exact ⟨w', hrun, OwnS.tight hown, hg⟩
end
end Go.Proofs.YtiabfngiibabcaaGreatDoor

set_option linter.unusedVariables false
set_option linter.unusedSimpArgs false
set_option maxHeartbeats 3200000
set_option maxRecDepth 100000
namespace Go.Proofs.YtiabfngiibabcaaGreatDoor
open Go.RowKit

theorem mayB_no {l : List Wr} {k : Nat} (h : k < l.length) (ho : okW l[k] = false) : mayB l = false := by
  cases hm : mayB l with
  | false => rfl
  | true =>
    have := List.all_eq_true.1 hm _ (List.getElem_mem h)
    rw [ho] at this
    cases this
theorem mayB_yes {l : List Wr} (h : ∀ j, (hj : j < l.length) → okW l[j] = true) : mayB l = true := by
  unfold mayB
  rw [List.all_eq_true]
  intro x hx
  obtain ⟨j, hj, rfl⟩ := List.mem_iff_getElem.1 hx
  exact h j hj
theorem kv_may (w : World) (A : Option Addr) (c : Nat) (l : List Wr) (hws : WsAt w A l) (hl : l.length ≤ 1000) :
    Calls Tryz.prog 98 #[.slice A l.length c] w fun e w' => e = .returned (.bool (mayB l)) ∧ Below w.heap.size w w' := by
  have HW := hid hws
  go_enter Tryz.func98, Tryz.ntmps98
  go_wp2
  go_loopw [7] (fun i wr => ∃ k : Nat, k ≤ l.length ∧ i = .int .i64 k ∧ Hid (∀ j, (hj : j < l.length) → j < k → okW l[j] = true) ∧ Hid (Below w.heap.size w wr)) (fun i _ => l.length - (intOf i).toNat)
  case atStart => exact ⟨0, Nat.zero_le _, rfl, fun j _ h => absurd h (by omega), Below.refl _ _⟩
  case round =>
    obtain ⟨k, hk, rfl, ho, hb⟩ := hrel
    by_cases h : k < l.length
    · obtain ⟨bb, off, rfl, hbb, hc⟩ := (HW.out.below hb.out) (by omega)
      obtain ⟨c1, c2, c3⟩ := hc k h
      clear hc
      have HN := hid (mayB_no h)
      have HY := hid (show okW l[k] = true → ∀ j, (hj : j < l.length) → j < k + 1 → okW l[j] = true from fun hx j hj hjk => by
        rcases Nat.lt_or_ge j k with h1 | h1
        · exact ho.out j hj h1
        · obtain rfl : j = k := by omega
          exact hx)
      generalize l[k] = x at *
      obtain ⟨xk, xv, xg⟩ := x
      simp only [] at c1 c2 c3
      have HB := hid (hb.out.alloc hb.out.size (.cells #[.string (S xk), .string (S xv), .bool xg] 104))
      clear hb
      by_cases d1 : xk = []
      · subst d1
        have HR := hid (HN.out (by simp [okW]))
        go_wp2
        go_ret
        exact ⟨by rw [HR.out]; rfl, HB.out⟩
      · have e1 : (xk == []) = false := beq_eq_false_iff_ne.2 d1
        by_cases d2 : 200 < xk.length
        · have HR := hid (HN.out (by simp [okW]; omega))
          have d2' : (200 : Int) < xk.length := by omega
          go_wp2
          go_ret
          exact ⟨by rw [HR.out]; rfl, HB.out⟩
        · have d2' : (xk.length : Int) ≤ 200 := by omega
          by_cases d3 : 1048576 < xv.length
          · have HR := hid (HN.out (by simp [okW]; omega))
            have d3' : (1048576 : Int) < xv.length := by omega
            go_wp2
            go_ret
            exact ⟨by rw [HR.out]; rfl, HB.out⟩
          · have d3' : (xv.length : Int) ≤ 1048576 := by omega
            by_cases d4 : xg = true ∧ xv ≠ []
            · obtain ⟨rfl, d5⟩ := d4
              have e5 : (xv == []) = false := beq_eq_false_iff_ne.2 d5
              have HR := hid (HN.out (by simp [okW, d5]))
              go_wp2
              go_ret
              exact ⟨by rw [HR.out]; rfl, HB.out⟩
            · have HR := hid (HY.out (by
                have : ¬ (xg = true ∧ xv ≠ []) := d4
                simp only [okW, e1]
                cases xg <;> simp_all <;> omega))
              cases xg with
              | false =>
                clear d4
                go_wp2
                go_roundw
                case rel => exact ⟨k + 1, by omega, by go_num, HR, HB⟩
                case measure => simp [intOf]; omega
              | true =>
                have e5 : (xv == []) = true := by
                  rw [beq_iff_eq]
                  exact Classical.not_not.1 fun h => d4 ⟨rfl, h⟩
                clear d4
                go_wp2
                go_roundw
                case rel => exact ⟨k + 1, by omega, by go_num, HR, HB⟩
                case measure => simp [intOf]; omega
    · have hk' : k = l.length := by omega
      subst hk'
      have HR := hid (mayB_yes fun j hj => ho.out j hj hj)
      go_wp2
      go_ret
      exact ⟨by rw [HR.out]; rfl, hb.out⟩
/-- A write is done to a map. -/
theorem kv_do (w : World) (mb : Nat) (m : KM) (x : Wr) (hm : OwnS Tryz.prog 9 w mb m) (hl : m.length ≤ 1000000) (hk : x.key.length ≤ 1000000) :
    Calls Tryz.prog 104 #[.map (some mb), .agg #[.string (S x.key), .string (S x.val), .bool x.gone]] w fun e w' => e = .returned (.tuple #[]) ∧ OwnS Tryz.prog 9 w' mb (doW m x) ∧ Touch w w' (fun k => k = mb) (fun k => k = mb) := by
  obtain ⟨xk, xv, xg⟩ := x
  simp only [] at *
  have hlt : mb < w.heap.size := by
    obtain ⟨es, c, h⟩ := hm.isMap
    exact (Array.getElem?_eq_some_iff.1 h).1
  have hm1 : OwnS Tryz.prog 9 (w.alloc (.cells #[.string (S xk), .string (S xv), .bool xg] 104)) mb m := hm.kept (Below.heap_alloc _ _ _ hlt)
  have ht1 : Touch w (w.alloc (.cells #[.string (S xk), .string (S xv), .bool xg] 104)) (fun k => k = mb) (fun k => k = mb) := Touch.of_below ((Below.refl _ _).alloc (Nat.le_refl _) _) _
  cases xg with
  | true =>
    obtain ⟨w2, hrun, h2, h3⟩ := hm1.drop (t := 138) (e := 9) (by kernel_rfl) (by kernel_rfl) xk hk 0
    have H2 := hid h2
    have H3 := hid (ht1.trans (Touch.of_grown (turned_grown h3) fun k hk => by injection hk with hk; exact hk.symm))
    clear h2 h3 hm hm1 ht1
    go_enter Tryz.func104, Tryz.ntmps104
    go_wp2
    go_end0
    exact ⟨rfl, H2.out, H3.out⟩
  | false =>
    obtain ⟨w2, hrun, h2, h3⟩ := hm1.put (t := 138) (e := 9) (by kernel_rfl) (by kernel_rfl) (by omega) xk hk xv
    have H2 := hid h2
    have H3 := hid (ht1.trans (Touch.of_grown h3 fun k hk => by injection hk with hk; exact hk.symm))
    clear h2 h3 hm hm1 ht1
    go_enter Tryz.func104, Tryz.ntmps104
    go_wp2
    go_end0
    exact ⟨rfl, H2.out, H3.out⟩
/-- A file's name. -/
def fileN (name e : List UInt8) : List UInt8 := name ++ 46 :: e
theorem kv_file (w : World) (sb : Nat) (name e : List UInt8) (hc : w.cell? ⟨sb, 1, none⟩ = some (.string (S name))) (hn : name.length ≤ 1000) (he : e.length ≤ 1000) :
    Calls Tryz.prog 80 #[.pointer (some ⟨sb, 0, none⟩), .string (S e)] w fun en w' => en = .returned (.string (S (fileN name e))) ∧ w' = w := by
  go_enter Tryz.func80, Tryz.ntmps80
  go_wp2
  go_ret
  exact ⟨by simp [fileN], rfl⟩
end Go.Proofs.YtiabfngiibabcaaGreatDoor

set_option linter.unusedVariables false
set_option linter.unusedSimpArgs false
set_option maxRecDepth 100000
namespace Go.Proofs.YtiabfngiibabcaaGreatDoor
open Go.RowKit

/-- What a call must keep: of a world, the blocks of pr. -/
structure Fr where
  w : World
  pr : Nat → Prop
def Fr.all (w : World) : Fr := ⟨w, fun _ => True⟩
/-- A block that a call may turn. -/
def Fr.free (F : Fr) (k : Nat) : Prop := k < F.w.heap.size → ¬ F.pr k
structure Fr.kept (F : Fr) (W : World) : Prop where
  os : W.os = F.w.os
  tape : W.tape = F.w.tape
  output : W.output = F.w.output
  size : F.w.heap.size ≤ W.heap.size
  block : ∀ k, k < F.w.heap.size → F.pr k → W.heap[k]? = F.w.heap[k]?
section
variable {F : Fr} {W W' : World}
theorem Fr.kept_self (F : Fr) : F.kept F.w := ⟨rfl, rfl, rfl, Nat.le_refl _, fun _ _ _ => rfl⟩
theorem Fr.kept.below (h : F.kept W) (hb : Below W.heap.size W W') : F.kept W' :=
  ⟨hb.os.trans h.os, hb.tape.trans h.tape, hb.output.trans h.output, Nat.le_trans h.size hb.size, fun k hk hp => (hb.block k (Nat.lt_of_lt_of_le hk h.size)).trans (h.block k hk hp)⟩
theorem Fr.kept.touch {fp fp' : Nat → Prop} (h : F.kept W) (ht : Touch W W' fp fp') (hf : ∀ k, fp k → F.free k) : F.kept W' :=
  ⟨ht.os.trans h.os, ht.tape.trans h.tape, ht.output.trans h.output, Nat.le_trans h.size ht.size, fun k hk hp => (ht.block k (Nat.lt_of_lt_of_le hk h.size) (fun hfp => hf k hfp hk hp)).trans (h.block k hk hp)⟩
theorem Fr.kept.setCell (h : F.kept W) {p : Addr} (hp : F.free p.block) (v : Value) : F.kept (W.setCell p v) :=
  h.touch (Touch.setCell W (fun k => k = p.block) rfl v) fun k hk => by rw [hk]; exact hp
theorem Fr.free_new (F : Fr) {k : Nat} (h : F.w.heap.size ≤ k) : F.free k := fun hk => by omega
theorem Fr.all_below {w : World} (h : (Fr.all w).kept W) : Below w.heap.size w W := ⟨h.os, h.tape, h.output, h.size, fun k hk => h.block k hk trivial⟩
theorem Fr.all_kept {w : World} (h : Below w.heap.size w W) : (Fr.all w).kept W := ⟨h.os, h.tape, h.output, h.size, fun k hk _ => h.block k hk⟩
theorem Fr.all_free {w : World} {k : Nat} (h : (Fr.all w).free k) : w.heap.size ≤ k := by
  rcases Nat.lt_or_ge k w.heap.size with h1 | h1
  · exact absurd trivial (h h1)
  · exact h1
end
/-- A drive that a call may turn; N bounds the pieces; X: blocks that are not its. -/
def FW (w0 : Fr) (g : Nat) (d : Dr) (N : Nat) (X : List Xc) (W : World) : Prop :=
  ∃ fp, IsDrive W g d fp ∧ d.Ok N ∧ w0.kept W ∧ (∀ k, fp k → w0.free k) ∧ ∀ x ∈ X, ¬ fp x.1 ∧ Blk W x.1 x.2.1 x.2.2
theorem FW.new (w0 : Fr) (q : Int) (hq : quotableB q = true) (w : World) (hw : w0.kept w) : Calls Tryz.prog 7 #[.int .i64 q] w fun e w' => ∃ g, e = .returned (.pointer (some ⟨g, 0, none⟩)) ∧ w.heap.size ≤ g ∧ Below w.heap.size w w' ∧ FW w0 g (Dr.new q) 0 [] w' := by
  refine (drive_New q hq w).mono ?_
  rintro e w' ⟨g, fp, rfl, h1, h2, h3⟩
  exact ⟨g, rfl, h3 _ h1.own, h2, fp, h1, Dr.Ok.new q hq, hw.below h2, fun k hk => w0.free_new (Nat.le_trans hw.size (h3 k hk)), by simp⟩
section
variable {w0 : Fr} {W : World} {g N : Nat} {d : Dr} {X : List Xc}
theorem FW.bel (h : FW w0 g d N X W) : w0.kept W := by
  obtain ⟨fp, h1, h2, h3, h4, h5⟩ := h
  exact h3
theorem FW.ok (h : FW w0 g d N X W) : d.Ok N := by
  obtain ⟨fp, h1, h2, h3, h4, h5⟩ := h
  exact h2
theorem FW.blk (h : FW w0 g d N X W) {x : Xc} (hx : x ∈ X) : Blk W x.1 x.2.1 x.2.2 := by
  obtain ⟨fp, h1, h2, h3, h4, h5⟩ := h
  exact (h5 x hx).2
theorem FW.sub (h : FW w0 g d N X W) {Y : List Xc} (hY : ∀ x ∈ Y, x ∈ X) : FW w0 g d N Y W := by
  obtain ⟨fp, h1, h2, h3, h4, h5⟩ := h
  exact ⟨fp, h1, h2, h3, h4, fun x hx => h5 x (hY x hx)⟩
theorem FW.more (h : FW w0 g d N X W) {M : Nat} (hM : N ≤ M) : FW w0 g d M X W := by
  obtain ⟨fp, h1, h2, h3, h4, h5⟩ := h
  exact ⟨fp, h1, h2.more hM, h3, h4, h5⟩
theorem FW.below (h : FW w0 g d N X W) {W' : World} (hb : Below W.heap.size W W') : FW w0 g d N X W' := by
  obtain ⟨fp, h1, h2, h3, h4, h5⟩ := h
  exact ⟨fp, h1.below hb, h2, h3.below hb, h4, fun x hx => ⟨(h5 x hx).1, (h5 x hx).2.below hb (h5 x hx).2.lt⟩⟩
/-- A block that was made behind. -/
theorem FW.push (h : FW w0 g d N X W) {W' : World} (hb : Below W.heap.size W W') {q : Nat} {t : TypeId} {cs : Array Value} (hq : W.heap.size ≤ q) (hB : Blk W' q t cs) : FW w0 g d N ((q, t, cs) :: X) W' := by
  obtain ⟨fp, h1, h2, h3, h4, h5⟩ := h
  refine ⟨fp, h1.below hb, h2, h3.below hb, h4, fun x hx => ?_⟩
  rcases List.mem_cons.1 hx with rfl | hx
  · refine ⟨fun hk => ?_, hB⟩
    have := h1.lt _ hk
    simp at this
    omega
  · exact ⟨(h5 x hx).1, (h5 x hx).2.below hb (h5 x hx).2.lt⟩
theorem FW.with_ (h : FW w0 g d N X W) (t : TypeId) (cs : Array Value) : FW w0 g d N ((W.heap.size, t, cs) :: X) (W.alloc (.cells cs t)) :=
  h.push ((Below.refl _ _).alloc (Nat.le_refl _) _) (Nat.le_refl _) (Blk.new W t cs)
theorem FW.alive (h : FW w0 g d N X W) : Calls Tryz.prog 72 #[.pointer (some ⟨g, 0, none⟩)] W fun e w' => e = .returned (.bool (!d.down)) ∧ w' = W := by
  obtain ⟨fp, h1, h2, h3, h4, h5⟩ := h
  exact drive_Alive h1
end

/-- .. and a map from texts to texts, which is not the drive's. -/
def MW (w0 : Fr) (g : Nat) (d : Dr) (N : Nat) (X : List Xc) (mb : Nat) (m : KM) (W : World) : Prop :=
  ∃ fp, IsDrive W g d fp ∧ d.Ok N ∧ w0.kept W ∧ (∀ k, fp k → w0.free k) ∧ (∀ x ∈ X, ¬ fp x.1 ∧ Blk W x.1 x.2.1 x.2.2) ∧ ¬ fp mb ∧ w0.free mb ∧ OwnS Tryz.prog 9 W mb m
section
variable {w0 : Fr} {W : World} {g N mb : Nat} {d : Dr} {X : List Xc} {m : KM}
theorem OwnS.lt {P : Program} {k : TypeId} {w : World} {b : Nat} {m : KM} (h : OwnS P k w b m) : b < w.heap.size := by
  obtain ⟨es, c, h⟩ := h.isMap
  exact (Array.getElem?_eq_some_iff.1 h).1
theorem OwnS.not_blk {P : Program} {k t : TypeId} {w : World} {b : Nat} {m : KM} {cs : Array Value} {x : Nat} (h : OwnS P k w b m) (hB : Blk w x t cs) : x ≠ b := by
  rintro rfl
  obtain ⟨es, c, h⟩ := h.isMap
  unfold Blk at hB
  rw [hB] at h
  cases h
theorem MW.fw (h : MW w0 g d N X mb m W) : FW w0 g d N X W := by
  obtain ⟨fp, h1, h2, h3, h4, h5, -⟩ := h
  exact ⟨fp, h1, h2, h3, h4, h5⟩
theorem MW.bel (h : MW w0 g d N X mb m W) : w0.kept W := h.fw.bel
theorem MW.blk (h : MW w0 g d N X mb m W) {x : Xc} (hx : x ∈ X) : Blk W x.1 x.2.1 x.2.2 := h.fw.blk hx
theorem MW.map (h : MW w0 g d N X mb m W) : OwnS Tryz.prog 9 W mb m := by
  obtain ⟨fp, h1, h2, h3, h4, h5, h6, h7, h8⟩ := h
  exact h8
theorem MW.sub (h : MW w0 g d N X mb m W) {Y : List Xc} (hY : ∀ x ∈ Y, x ∈ X) : MW w0 g d N Y mb m W := by
  obtain ⟨fp, h1, h2, h3, h4, h5, h6⟩ := h
  exact ⟨fp, h1, h2, h3, h4, fun x hx => h5 x (hY x hx), h6⟩
theorem MW.more (h : MW w0 g d N X mb m W) {M : Nat} (hM : N ≤ M) : MW w0 g d M X mb m W := by
  obtain ⟨fp, h1, h2, h3⟩ := h
  exact ⟨fp, h1, h2.more hM, h3⟩
theorem MW.below (h : MW w0 g d N X mb m W) {W' : World} (hb : Below W.heap.size W W') : MW w0 g d N X mb m W' := by
  obtain ⟨fp, h1, h2, h3, h4, h5, h6, h7, h8⟩ := h
  exact ⟨fp, h1.below hb, h2, h3.below hb, h4, fun x hx => ⟨(h5 x hx).1, (h5 x hx).2.below hb (h5 x hx).2.lt⟩, h6, h7, h8.kept (hb.block mb h8.lt)⟩
theorem MW.push (h : MW w0 g d N X mb m W) {W' : World} (hb : Below W.heap.size W W') {q : Nat} {t : TypeId} {cs : Array Value} (hq : W.heap.size ≤ q) (hB : Blk W' q t cs) : MW w0 g d N ((q, t, cs) :: X) mb m W' := by
  obtain ⟨fp, h1, h2, h3, h4, h5, h6, h7, h8⟩ := h
  refine ⟨fp, h1.below hb, h2, h3.below hb, h4, fun x hx => ?_, h6, h7, h8.kept (hb.block mb h8.lt)⟩
  rcases List.mem_cons.1 hx with rfl | hx
  · refine ⟨fun hk => ?_, hB⟩
    have := h1.lt _ hk
    simp at this
    omega
  · exact ⟨(h5 x hx).1, (h5 x hx).2.below hb (h5 x hx).2.lt⟩
theorem MW.with_ (h : MW w0 g d N X mb m W) (t : TypeId) (cs : Array Value) : MW w0 g d N ((W.heap.size, t, cs) :: X) mb m (W.alloc (.cells cs t)) :=
  h.push ((Below.refl _ _).alloc (Nat.le_refl _) _) (Nat.le_refl _) (Blk.new W t cs)
/-- A map is made beside a drive. -/
theorem FW.newMap (h : FW w0 g d N X W) : MW w0 g d N X W.heap.size [] (W.alloc (.map #[] 0)) := by
  have hb : Below W.heap.size W (W.alloc (.map #[] 0)) := (Below.refl _ _).alloc (Nat.le_refl _) _
  obtain ⟨fp, h1, h2, h3, h4, h5⟩ := h.below hb
  obtain ⟨fp0, k1, -, k3, k4, k5⟩ := h
  refine ⟨fp0, k1.below hb, h2, h3, k4, fun x hx => ⟨(k5 x hx).1, (k5 x hx).2.below hb (k5 x hx).2.lt⟩, fun hk => ?_, w0.free_new k3.size, OwnS.made W⟩
  have := k1.lt _ hk
  omega
/-- A map is made beside it, as that is: it takes its place. -/
theorem MW.clone (h : MW w0 g d N X mb m W) {es : Array MapEntry} {c : Nat} (he : W.heap[mb]? = some (.map es c)) : MW w0 g d N X W.heap.size m (W.alloc (.map es c)) := by
  have hb : Below W.heap.size W (W.alloc (.map es c)) := (Below.refl _ _).alloc (Nat.le_refl _) _
  obtain ⟨fp, h1, h2, h3, h4, h5, h6, h7, h8⟩ := h
  refine ⟨fp, h1.below hb, h2, h3.below hb, h4, fun x hx => ⟨(h5 x hx).1, (h5 x hx).2.below hb (h5 x hx).2.lt⟩, fun hk => ?_, w0.free_new h3.size, ?_⟩
  · have := h1.lt _ hk
    omega
  · obtain ⟨es', c', e1, F, hs, hD⟩ := h8
    rw [he] at e1
    injection e1 with e1
    injection e1 with e2 e3
    subst e2 e3
    exact ⟨es, c, heap_alloc_new W _, F, hs, hD⟩
/-- The map alone was turned. -/
theorem MW.did (h : MW w0 g d N X mb m W) {m' : KM} {W' : World} (hm : OwnS Tryz.prog 9 W' mb m') (ht : Touch W W' (fun k => k = mb) (fun k => k = mb)) : MW w0 g d N X mb m' W' := by
  obtain ⟨fp, h1, h2, h3, h4, h5, h6, h7, h8⟩ := h
  refine ⟨fp, h1.keep ht.size fun k hk => ht.block k (h1.lt k hk) (by rintro rfl; exact h6 hk), h2, h3.touch ht (fun k hk => by rw [hk]; exact h7), h4, fun x hx => ⟨(h5 x hx).1, ?_⟩, h6, h7, hm⟩
  exact (ht.block x.1 (h5 x hx).2.lt (h8.not_blk (h5 x hx).2)).trans (h5 x hx).2
/-- A call that turned the drive alone. -/
theorem MW.turned {fp : Nat → Prop} {d' : Dr} {N' : Nat} {W' : World} (h1 : IsDrive W g d fp) (h3 : w0.kept W) (h4 : ∀ k, fp k → w0.free k) (h5 : ∀ x ∈ X, ¬ fp x.1 ∧ Blk W x.1 x.2.1 x.2.2) (h6 : ¬ fp mb) (h7 : w0.free mb) (h8 : OwnS Tryz.prog 9 W mb m) (ht : Then W g d' fp W') (ho : d'.Ok N') : MW w0 g d' N' X mb m W' := by
  obtain ⟨fp', k1, k2⟩ := ht
  refine ⟨fp', k1, ho, h3.touch k2 h4, fun k hk => ?_, fun x hx => ?_, fun hk => ?_, h7, h8.kept (k2.block mb h8.lt h6)⟩
  · rcases k2.new k hk with hk | hk
    · exact h4 k hk
    · exact w0.free_new (Nat.le_trans h3.size hk)
  · obtain ⟨q1, q3⟩ := h5 x hx
    refine ⟨fun hk => ?_, (k2.block _ q3.lt q1).trans q3⟩
    rcases k2.new _ hk with hk | hk
    · exact q1 hk
    · have := q3.lt; omega
  · rcases k2.new _ hk with hk | hk
    · exact h6 hk
    · have := h8.lt; omega
theorem MW.create (h : MW w0 g d N X mb m W) (name : Key) (hl : name.length ≤ 1000000) : Calls Tryz.prog 79 #[.pointer (some ⟨g, 0, none⟩), .string (S name)] W fun e w' => e = .returned (.int .i64 (d.create name).2) ∧ MW w0 g (d.create name).1 N X mb m w' := by
  obtain ⟨fp, h1, h2, h3, h4, h5, h6, h7, h8⟩ := h
  refine (drive_Create h1 h2 name hl).mono ?_
  rintro e w' ⟨rfl, ht⟩
  exact ⟨rfl, MW.turned h1 h3 h4 h5 h6 h7 h8 ht (h2.create name)⟩
theorem MW.sync (h : MW w0 g d N X mb m W) (hN : N ≤ 1000000000) (name : Key) (hl : name.length ≤ 1000000) : Calls Tryz.prog 81 #[.pointer (some ⟨g, 0, none⟩), .string (S name)] W fun e w' => e = .returned (.int .i64 (d.sync name).2) ∧ MW w0 g (d.sync name).1 N X mb m w' := by
  obtain ⟨fp, h1, h2, h3, h4, h5, h6, h7, h8⟩ := h
  refine (drive_Sync h1 h2 hN name hl).mono ?_
  rintro e w' ⟨rfl, ht⟩
  exact ⟨rfl, MW.turned h1 h3 h4 h5 h6 h7 h8 ht (h2.sync name)⟩
/-- What is handed in was made behind it. -/
theorem MW.append_new (h : MW w0 g d N X mb m W) {W' : World} (hb : Below W.heap.size W W') (hN : N < 1000000000) (name : Key) (hl : name.length ≤ 1000000) (A : Option Addr) (data : List UInt8) (c : Nat) (hB : BytesAt W' A data) (hn : ∀ p, A = some p → W.heap.size ≤ p.block) (hdl : data.length ≤ 1000000000) :
    Calls Tryz.prog 100 #[.pointer (some ⟨g, 0, none⟩), .string (S name), .slice A data.length c] W' fun e w' => e = .returned (.int .i64 (d.append name data).2) ∧ MW w0 g (d.append name data).1 (N + 1) X mb m w' := by
  obtain ⟨fp, h1, h2, h3, h4, h5, h6, h7, h8⟩ := h
  refine (drive_Append (h1.below hb) h2 hN name hl A data c hB (fun p hp hk => ?_) hdl).mono ?_
  · have := h1.lt _ hk
    have := hn p hp
    omega
  · rintro e w' ⟨rfl, ht⟩
    exact ⟨rfl, MW.turned (h1.below hb) (h3.below hb) h4 (fun x hx => ⟨(h5 x hx).1, (h5 x hx).2.below hb (h5 x hx).2.lt⟩) h6 h7 (h8.kept (hb.block mb h8.lt)) ht (h2.append name data)⟩
theorem MW.read (h : MW w0 g d N X mb m W) (hN : N ≤ 1000000000) (name : Key) (hl : name.length ≤ 1000000) : Calls Tryz.prog 139 #[.pointer (some ⟨g, 0, none⟩), .string (S name)] W fun e w' => ∃ v, e = .returned (.tuple #[v, .int .i64 (d.readE name)]) ∧ w'.ownsRow W.heap.size 5 1 v (d.read name).length ((d.read name).map B8) ∧ Below W.heap.size W w' ∧ MW w0 g d N X mb m w' := by
  have h' := h
  obtain ⟨fp, h1, h2, h3, h4, h5, h6⟩ := h
  refine (drive_Read h1 h2 hN name hl).mono ?_
  rintro e w' ⟨v, rfl, hr, hb⟩
  exact ⟨v, rfl, hr, hb, h'.below hb⟩
theorem MW.alive (h : MW w0 g d N X mb m W) : Calls Tryz.prog 72 #[.pointer (some ⟨g, 0, none⟩)] W fun e w' => e = .returned (.bool (!d.down)) ∧ w' = W := by
  obtain ⟨fp, h1, h2, h3, h4, h5, h6⟩ := h
  exact drive_Alive h1
/-- A write is done to its map. -/
theorem MW.do_ (h : MW w0 g d N X mb m W) (x : Wr) (hl : m.length ≤ 1000000) (hk : x.key.length ≤ 1000000) : Calls Tryz.prog 104 #[.map (some mb), .agg #[.string (S x.key), .string (S x.val), .bool x.gone]] W fun e w' => e = .returned (.tuple #[]) ∧ MW w0 g d N X mb (doW m x) w' :=
  (kv_do W mb m x h.map hl hk).mono fun e w' ⟨h1, h2, h3⟩ => ⟨h1, h.did h2 h3⟩
end
end Go.Proofs.YtiabfngiibabcaaGreatDoor

set_option linter.unusedVariables false
set_option linter.unusedSimpArgs false
set_option maxHeartbeats 3200000
set_option maxRecDepth 100000
namespace Go.Proofs.YtiabfngiibabcaaGreatDoor
open Go.RowKit

/-- What a call of the list does: it goes on, or it is the last. -/
def StepTo (I : World → Prop) (F : Int → World → Prop) (e : Ending) (w' : World) : Prop := ∃ x : Int, e = .returned (.int .i64 x) ∧ ((x = 0 ∧ I w') ∨ (x ≠ 0 ∧ F x w'))
theorem kv_first (w : World) (A : Option Addr) (c : Nat) (fs : List (FuncId × Array Value)) (Inv : Nat → World → Prop) (Fail : Int → World → Prop) (hn : fs.length ≤ 100) (h0 : Inv 0 w)
    (hcf : ∀ i, (h : i < fs.length) → ∀ W, (callFunc fs[i].1 fs[i].2).run Tryz.prog W = .ok (.enter fs[i].1 fs[i].2) W)
    (hrow : ∀ i W, (h : i < fs.length) → Inv i W → ∃ b off, A = some ⟨b, off, none⟩ ∧ W.cell? ⟨b, off + i, none⟩ = some (.func (.func fs[i].1) #[] fs[i].2))
    (hstep : ∀ i W, (h : i < fs.length) → Inv i W → Calls Tryz.prog fs[i].1 fs[i].2 W (StepTo (Inv (i + 1)) Fail)) :
    Calls Tryz.prog 74 #[.slice A fs.length c] w (StepTo (Inv fs.length) Fail) := by
  have HR := hid hrow
  have HS := hid hstep
  have HC := hid hcf
  clear hrow hstep hcf
  go_enter Tryz.func74, Tryz.ntmps74
  go_wp2
  go_loopw [8] (fun i wr => ∃ k : Nat, k ≤ fs.length ∧ i = .int .i64 k ∧ Hid (Inv k wr)) (fun i _ => fs.length - (intOf i).toNat)
  case atStart => exact ⟨0, Nat.zero_le _, rfl, h0⟩
  case round =>
    obtain ⟨k, hk, rfl, hI⟩ := hrel
    by_cases h : k < fs.length
    · obtain ⟨b, off, rfl, hc⟩ := HR.out k wr h hI.out
      have hs := hid (HS.out k wr h hI.out)
      have hf := HC.out k h
      generalize fs[k].1 = F at *
      generalize fs[k].2 = caps at *
      go_wp2_with fail
      refine hs.out.mono ?_
      rintro e w2 ⟨x, rfl, hx⟩
      rcases hx with ⟨rfl, h2⟩ | ⟨hne, h2⟩
      · have H2 := hid h2
        clear h2
        go_wp2
        go_roundw
        case rel => exact ⟨k + 1, by omega, by go_num, H2⟩
        case measure => simp [intOf]; omega
      · have H2 := hid (show StepTo (Inv fs.length) Fail (.returned (.int .i64 x)) w2 from ⟨x, rfl, .inr ⟨hne, h2⟩⟩)
        have k0 : (x == 0) = false := beq_eq_false_iff_ne.2 hne
        clear h2
        go_wp2
        go_ret
        exact H2.out
    · have hk' : k = fs.length := by omega
      have H2 := hid (show StepTo (Inv fs.length) Fail (.returned (.int .i64 0)) wr from ⟨0, rfl, .inl ⟨rfl, by rw [← hk']; exact hI.out⟩⟩)
      go_wp2
      go_ret
      exact H2.out
end Go.Proofs.YtiabfngiibabcaaGreatDoor
