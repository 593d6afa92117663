/- A drive behind a world, and blocks beside it. -/
import Derived.Test.YtbjimikppdfmgaaGreatDoorDrive13
import Derived.Test.YtbjimikppdfmgaaGreatDoorDrive16
import Derived.Test.YtbjimikppdfmgaaGreatDoorDrive8
import Derived.Test.YtbjimikppdfmgaaGreatDoorDrOk
set_option linter.unusedVariables false
set_option linter.unusedSimpArgs false
set_option maxRecDepth 100000
namespace Go.Proofs.YtbjimikppdfmgaaGreatDoor
open Go.RowKit

abbrev Xc := Nat × TypeId × Array Value
/-- A drive made behind w0; N bounds the pieces; X: blocks that are not its. -/
def DW (w0 : World) (g : Nat) (d : Dr) (N : Nat) (X : List Xc) (W : World) : Prop :=
  ∃ fp, IsDrive W g d fp ∧ d.Ok N ∧ Below w0.heap.size w0 W ∧ (∀ k, fp k → w0.heap.size ≤ k) ∧ ∀ x ∈ X, ¬ fp x.1 ∧ Blk W x.1 x.2.1 x.2.2
theorem DW.new (q : Int) (hq : quotableB q = true) (w : World) : Calls Tryz.prog 6 #[.int .i64 q] w fun e w' => ∃ g, e = .returned (.pointer (some ⟨g, 0, none⟩)) ∧ DW w g (Dr.new q) 0 [] w' := by
  refine (drive_New q hq w).mono ?_
  rintro e w' ⟨g, fp, rfl, h1, h2, h3⟩
  exact ⟨g, rfl, fp, h1, Dr.Ok.new q hq, h2, h3, by simp⟩
section
variable {w0 W : World} {g N : Nat} {d : Dr} {X : List Xc}
theorem DW.bel (h : DW w0 g d N X W) : Below w0.heap.size w0 W := by
  obtain ⟨fp, h1, h2, h3, h4, h5⟩ := h
  exact h3
theorem DW.ok (h : DW w0 g d N X W) : d.Ok N := by
  obtain ⟨fp, h1, h2, h3, h4, h5⟩ := h
  exact h2
theorem DW.blk (h : DW w0 g d N X W) {x : Xc} (hx : x ∈ X) : Blk W x.1 x.2.1 x.2.2 := by
  obtain ⟨fp, h1, h2, h3, h4, h5⟩ := h
  exact (h5 x hx).2
theorem DW.sub (h : DW w0 g d N X W) {Y : List Xc} (hY : ∀ x ∈ Y, x ∈ X) : DW w0 g d N Y W := by
  obtain ⟨fp, h1, h2, h3, h4, h5⟩ := h
  exact ⟨fp, h1, h2, h3, h4, fun x hx => h5 x (hY x hx)⟩
theorem DW.drop (h : DW w0 g d N X W) : DW w0 g d N [] W := h.sub (by simp)
theorem DW.more (h : DW w0 g d N X W) {M : Nat} (hM : N ≤ M) : DW w0 g d M X W := by
  obtain ⟨fp, h1, h2, h3, h4, h5⟩ := h
  exact ⟨fp, h1, h2.more hM, h3, h4, h5⟩
theorem DW.below (h : DW w0 g d N X W) {W' : World} (hb : Below W.heap.size W W') : DW w0 g d N X W' := by
  obtain ⟨fp, h1, h2, h3, h4, h5⟩ := h
  exact ⟨fp, h1.below hb, h2, bt h3 hb, h4, fun x hx => ⟨(h5 x hx).1, (h5 x hx).2.below hb (h5 x hx).2.lt⟩⟩
/-- A block that was made behind. -/
theorem DW.push (h : DW w0 g d N X W) {W' : World} (hb : Below W.heap.size W W') {q : Nat} {t : TypeId} {cs : Array Value} (hq : W.heap.size ≤ q) (hB : Blk W' q t cs) : DW w0 g d N ((q, t, cs) :: X) W' := by
  obtain ⟨fp, h1, h2, h3, h4, h5⟩ := h
  refine ⟨fp, h1.below hb, h2, bt h3 hb, h4, fun x hx => ?_⟩
  rcases List.mem_cons.1 hx with rfl | hx
  · refine ⟨fun hk => ?_, hB⟩
    have := h1.lt _ hk
    simp at this
    omega
  · exact ⟨(h5 x hx).1, (h5 x hx).2.below hb (h5 x hx).2.lt⟩
theorem DW.with_ (h : DW w0 g d N X W) (t : TypeId) (cs : Array Value) : DW w0 g d N ((W.heap.size, t, cs) :: X) (W.alloc (.cells cs t)) :=
  h.push ((Below.refl _ _).alloc (Nat.le_refl _) _) (Nat.le_refl _) (Blk.new W t cs)
/-- A cell of a block beside it is written. -/
theorem DW.set_ {q : Nat} {t : TypeId} {cs : Array Value} (h : DW w0 g d N [(q, t, cs)] W) (hq : w0.heap.size ≤ q) (i : Nat) (v : Value) : DW w0 g d N [(q, t, cs.setIfInBounds i v)] (W.setCell ⟨q, i, none⟩ v) := by
  obtain ⟨fp, h1, h2, h3, h4, h5⟩ := h
  obtain ⟨q1, q2⟩ := h5 (q, t, cs) (by simp)
  refine ⟨fp, h1.keep (by rw [set_size]; exact Nat.le_refl _) (fun k hk => set_other _ _ _ _ k (by rintro rfl; exact q1 hk)), h2, h3.setCell (p := ⟨q, i, none⟩) hq _, h4, fun x hx => ?_⟩
  simp at hx
  subst hx
  exact ⟨q1, q2.set_ i v⟩
/-- A call that turned the drive alone. -/
theorem DW.turned {fp : Nat → Prop} {d' : Dr} {N' : Nat} {W' : World} (h1 : IsDrive W g d fp) (h3 : Below w0.heap.size w0 W) (h4 : ∀ k, fp k → w0.heap.size ≤ k) (h5 : ∀ x ∈ X, ¬ fp x.1 ∧ Blk W x.1 x.2.1 x.2.2) (ht : Then W g d' fp W') (ho : d'.Ok N') : DW w0 g d' N' X W' := by
  obtain ⟨fp', k1, k2⟩ := ht
  refine ⟨fp', k1, ho, h3.trans (k2.below h4 h3.size), fun k hk => ?_, fun x hx => ?_⟩
  · rcases k2.new k hk with hk | hk
    · exact h4 k hk
    · exact Nat.le_trans h3.size hk
  · obtain ⟨q1, q3⟩ := h5 x hx
    refine ⟨fun hk => ?_, (k2.block _ q3.lt q1).trans q3⟩
    rcases k2.new _ hk with hk | hk
    · exact q1 hk
    · have := q3.lt; omega
theorem DW.create (h : DW w0 g d N X W) (name : Key) (hl : name.length ≤ 1000000) : Calls Tryz.prog 25 #[.pointer (some ⟨g, 0, none⟩), .string (S name)] W fun e w' => e = .returned (.int .i64 (d.create name).2) ∧ DW w0 g (d.create name).1 N X w' := by
  obtain ⟨fp, h1, h2, h3, h4, h5⟩ := h
  refine (drive_Create h1 h2 name hl).mono ?_
  rintro e w' ⟨rfl, ht⟩
  exact ⟨rfl, DW.turned h1 h3 h4 h5 ht (h2.create name)⟩
theorem DW.sync (h : DW w0 g d N X W) (hN : N ≤ 1000000000) (name : Key) (hl : name.length ≤ 1000000) : Calls Tryz.prog 27 #[.pointer (some ⟨g, 0, none⟩), .string (S name)] W fun e w' => e = .returned (.int .i64 (d.sync name).2) ∧ DW w0 g (d.sync name).1 N X w' := by
  obtain ⟨fp, h1, h2, h3, h4, h5⟩ := h
  refine (drive_Sync h1 h2 hN name hl).mono ?_
  rintro e w' ⟨rfl, ht⟩
  exact ⟨rfl, DW.turned h1 h3 h4 h5 ht (h2.sync name)⟩
theorem DW.remove (h : DW w0 g d N X W) (hN : N ≤ 1000000000) (name : Key) (hl : name.length ≤ 1000000) : Calls Tryz.prog 68 #[.pointer (some ⟨g, 0, none⟩), .string (S name)] W fun e w' => e = .returned (.int .i64 (d.remove name).2) ∧ DW w0 g (d.remove name).1 N X w' := by
  obtain ⟨fp, h1, h2, h3, h4, h5⟩ := h
  refine (drive_Remove h1 h2 hN name hl).mono ?_
  rintro e w' ⟨rfl, ht⟩
  exact ⟨rfl, DW.turned h1 h3 h4 h5 ht (h2.remove name)⟩
theorem DW.rename (h : DW w0 g d N X W) (hN : N ≤ 1000000000) (a b : Key) (hla : a.length ≤ 1000000) (hlb : b.length ≤ 1000000) : Calls Tryz.prog 73 #[.pointer (some ⟨g, 0, none⟩), .string (S a), .string (S b)] W fun e w' => e = .returned (.int .i64 (d.rename a b).2) ∧ DW w0 g (d.rename a b).1 N X w' := by
  obtain ⟨fp, h1, h2, h3, h4, h5⟩ := h
  refine (drive_Rename h1 h2 hN a b hla hlb).mono ?_
  rintro e w' ⟨rfl, ht⟩
  exact ⟨rfl, DW.turned h1 h3 h4 h5 ht (h2.rename a b)⟩
/-- What is handed in lies behind the drive, or beside it. -/
theorem DW.append (h : DW w0 g d N X W) (hN : N < 1000000000) (name : Key) (hl : name.length ≤ 1000000) (A : Option Addr) (data : List UInt8) (c : Nat) (hB : BytesAt W A data) (hn : ∀ p, A = some p → p.block < w0.heap.size ∨ ∃ x ∈ X, x.1 = p.block) (hdl : data.length ≤ 1000000000) :
    Calls Tryz.prog 34 #[.pointer (some ⟨g, 0, none⟩), .string (S name), .slice A data.length c] W fun e w' => e = .returned (.int .i64 (d.append name data).2) ∧ DW w0 g (d.append name data).1 (N + 1) X w' := by
  obtain ⟨fp, h1, h2, h3, h4, h5⟩ := h
  refine (drive_Append h1 h2 hN name hl A data c hB (fun p hp hk => ?_) hdl).mono ?_
  · rcases hn p hp with h6 | ⟨x, hx, h6⟩
    · have := h4 _ hk; omega
    · rw [← h6] at hk
      exact (h5 x hx).1 hk
  · rintro e w' ⟨rfl, ht⟩
    exact ⟨rfl, DW.turned h1 h3 h4 h5 ht (h2.append name data)⟩
/-- What is handed in was made behind the drive. -/
theorem DW.append_new (h : DW w0 g d N X W) {W' : World} (hb : Below W.heap.size W W') (hN : N < 1000000000) (name : Key) (hl : name.length ≤ 1000000) (A : Option Addr) (data : List UInt8) (c : Nat) (hB : BytesAt W' A data) (hn : ∀ p, A = some p → W.heap.size ≤ p.block) (hdl : data.length ≤ 1000000000) :
    Calls Tryz.prog 34 #[.pointer (some ⟨g, 0, none⟩), .string (S name), .slice A data.length c] W' fun e w' => e = .returned (.int .i64 (d.append name data).2) ∧ DW w0 g (d.append name data).1 (N + 1) X w' := by
  obtain ⟨fp, h1, h2, h3, h4, h5⟩ := h
  refine (drive_Append (h1.below hb) h2 hN name hl A data c hB (fun p hp hk => ?_) hdl).mono ?_
  · have := h1.lt _ hk
    have := hn p hp
    omega
  · rintro e w' ⟨rfl, ht⟩
    exact ⟨rfl, DW.turned (h1.below hb) (bt h3 hb) h4 (fun x hx => ⟨(h5 x hx).1, (h5 x hx).2.below hb (h5 x hx).2.lt⟩) ht (h2.append name data)⟩
theorem DW.read (h : DW w0 g d N X W) (hN : N ≤ 1000000000) (name : Key) (hl : name.length ≤ 1000000) : Calls Tryz.prog 51 #[.pointer (some ⟨g, 0, none⟩), .string (S name)] W fun e w' => ∃ v, e = .returned (.tuple #[v, .int .i64 (d.readE name)]) ∧ w'.ownsRow W.heap.size 5 1 v (d.read name).length ((d.read name).map B8) ∧ Below W.heap.size W w' ∧ DW w0 g d N X w' := by
  have h' := h
  obtain ⟨fp, h1, h2, h3, h4, h5⟩ := h
  refine (drive_Read h1 h2 hN name hl).mono ?_
  rintro e w' ⟨v, rfl, hr, hb⟩
  exact ⟨v, rfl, hr, hb, h'.below hb⟩
theorem DW.alive (h : DW w0 g d N X W) : Calls Tryz.prog 19 #[.pointer (some ⟨g, 0, none⟩)] W fun e w' => e = .returned (.bool (!d.down)) ∧ w' = W := by
  obtain ⟨fp, h1, h2, h3, h4, h5⟩ := h
  exact drive_Alive h1
end
end Go.Proofs.YtbjimikppdfmgaaGreatDoor
