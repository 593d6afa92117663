/- A drive behind a world, blocks beside it, and a map. -/
import Derived.Test.YtbjimikppdfmgaaGreatDoorDW
import Derived.Test.YtbjimikppdfmgaaGreatDoorKv3
set_option linter.unusedVariables false
set_option linter.unusedSimpArgs false
set_option maxRecDepth 100000
namespace Go.Proofs.YtbjimikppdfmgaaGreatDoor
open Go.RowKit

/-- What a call must keep: of a world, the blocks of pr. -/
structure Fr where
  w : World
  pr : Nat → Prop
def Fr.all (w : World) : Fr := ⟨w, fun _ => True⟩
/-- A block that a call may turn. -/
def Fr.free (F : Fr) (k : Nat) : Prop := k < F.w.heap.size → ¬ F.pr k
structure Fr.kept (F : Fr) (W : World) : Prop where
  os : W.os = F.w.os
  tape : W.tape = F.w.tape
  output : W.output = F.w.output
  size : F.w.heap.size ≤ W.heap.size
  block : ∀ k, k < F.w.heap.size → F.pr k → W.heap[k]? = F.w.heap[k]?
section
variable {F : Fr} {W W' : World}
theorem Fr.kept_self (F : Fr) : F.kept F.w := ⟨rfl, rfl, rfl, Nat.le_refl _, fun _ _ _ => rfl⟩
theorem Fr.kept.below (h : F.kept W) (hb : Below W.heap.size W W') : F.kept W' :=
  ⟨hb.os.trans h.os, hb.tape.trans h.tape, hb.output.trans h.output, Nat.le_trans h.size hb.size, fun k hk hp => (hb.block k (Nat.lt_of_lt_of_le hk h.size)).trans (h.block k hk hp)⟩
theorem Fr.kept.touch {fp fp' : Nat → Prop} (h : F.kept W) (ht : Touch W W' fp fp') (hf : ∀ k, fp k → F.free k) : F.kept W' :=
  ⟨ht.os.trans h.os, ht.tape.trans h.tape, ht.output.trans h.output, Nat.le_trans h.size ht.size, fun k hk hp => (ht.block k (Nat.lt_of_lt_of_le hk h.size) (fun hfp => hf k hfp hk hp)).trans (h.block k hk hp)⟩
theorem Fr.kept.setCell (h : F.kept W) {p : Addr} (hp : F.free p.block) (v : Value) : F.kept (W.setCell p v) :=
  h.touch (Touch.setCell W (fun k => k = p.block) rfl v) fun k hk => by rw [hk]; exact hp
theorem Fr.free_new (F : Fr) {k : Nat} (h : F.w.heap.size ≤ k) : F.free k := fun hk => by omega
theorem Fr.all_below {w : World} (h : (Fr.all w).kept W) : Below w.heap.size w W := ⟨h.os, h.tape, h.output, h.size, fun k hk => h.block k hk trivial⟩
theorem Fr.all_kept {w : World} (h : Below w.heap.size w W) : (Fr.all w).kept W := ⟨h.os, h.tape, h.output, h.size, fun k hk _ => h.block k hk⟩
theorem Fr.all_free {w : World} {k : Nat} (h : (Fr.all w).free k) : w.heap.size ≤ k := by
  rcases Nat.lt_or_ge k w.heap.size with h1 | h1
  · exact absurd trivial (h h1)
  · exact h1
end
/-- A drive that a call may turn; N bounds the pieces; X: blocks that are not its. -/
def FW (w0 : Fr) (g : Nat) (d : Dr) (N : Nat) (X : List Xc) (W : World) : Prop :=
  ∃ fp, IsDrive W g d fp ∧ d.Ok N ∧ w0.kept W ∧ (∀ k, fp k → w0.free k) ∧ ∀ x ∈ X, ¬ fp x.1 ∧ Blk W x.1 x.2.1 x.2.2
theorem FW.new (w0 : Fr) (q : Int) (hq : quotableB q = true) (w : World) (hw : w0.kept w) : Calls Tryz.prog 6 #[.int .i64 q] w fun e w' => ∃ g, e = .returned (.pointer (some ⟨g, 0, none⟩)) ∧ w.heap.size ≤ g ∧ Below w.heap.size w w' ∧ FW w0 g (Dr.new q) 0 [] w' := by
  refine (drive_New q hq w).mono ?_
  rintro e w' ⟨g, fp, rfl, h1, h2, h3⟩
  exact ⟨g, rfl, h3 _ h1.own, h2, fp, h1, Dr.Ok.new q hq, hw.below h2, fun k hk => w0.free_new (Nat.le_trans hw.size (h3 k hk)), by simp⟩
section
variable {w0 : Fr} {W : World} {g N : Nat} {d : Dr} {X : List Xc}
theorem FW.bel (h : FW w0 g d N X W) : w0.kept W := by
  obtain ⟨fp, h1, h2, h3, h4, h5⟩ := h
  exact h3
theorem FW.ok (h : FW w0 g d N X W) : d.Ok N := by
  obtain ⟨fp, h1, h2, h3, h4, h5⟩ := h
  exact h2
theorem FW.blk (h : FW w0 g d N X W) {x : Xc} (hx : x ∈ X) : Blk W x.1 x.2.1 x.2.2 := by
  obtain ⟨fp, h1, h2, h3, h4, h5⟩ := h
  exact (h5 x hx).2
theorem FW.sub (h : FW w0 g d N X W) {Y : List Xc} (hY : ∀ x ∈ Y, x ∈ X) : FW w0 g d N Y W := by
  obtain ⟨fp, h1, h2, h3, h4, h5⟩ := h
  exact ⟨fp, h1, h2, h3, h4, fun x hx => h5 x (hY x hx)⟩
theorem FW.more (h : FW w0 g d N X W) {M : Nat} (hM : N ≤ M) : FW w0 g d M X W := by
  obtain ⟨fp, h1, h2, h3, h4, h5⟩ := h
  exact ⟨fp, h1, h2.more hM, h3, h4, h5⟩
theorem FW.below (h : FW w0 g d N X W) {W' : World} (hb : Below W.heap.size W W') : FW w0 g d N X W' := by
  obtain ⟨fp, h1, h2, h3, h4, h5⟩ := h
  exact ⟨fp, h1.below hb, h2, h3.below hb, h4, fun x hx => ⟨(h5 x hx).1, (h5 x hx).2.below hb (h5 x hx).2.lt⟩⟩
/-- A block that was made behind. -/
theorem FW.push (h : FW w0 g d N X W) {W' : World} (hb : Below W.heap.size W W') {q : Nat} {t : TypeId} {cs : Array Value} (hq : W.heap.size ≤ q) (hB : Blk W' q t cs) : FW w0 g d N ((q, t, cs) :: X) W' := by
  obtain ⟨fp, h1, h2, h3, h4, h5⟩ := h
  refine ⟨fp, h1.below hb, h2, h3.below hb, h4, fun x hx => ?_⟩
  rcases List.mem_cons.1 hx with rfl | hx
  · refine ⟨fun hk => ?_, hB⟩
    have := h1.lt _ hk
    simp at this
    omega
  · exact ⟨(h5 x hx).1, (h5 x hx).2.below hb (h5 x hx).2.lt⟩
theorem FW.with_ (h : FW w0 g d N X W) (t : TypeId) (cs : Array Value) : FW w0 g d N ((W.heap.size, t, cs) :: X) (W.alloc (.cells cs t)) :=
  h.push ((Below.refl _ _).alloc (Nat.le_refl _) _) (Nat.le_refl _) (Blk.new W t cs)
theorem FW.alive (h : FW w0 g d N X W) : Calls Tryz.prog 19 #[.pointer (some ⟨g, 0, none⟩)] W fun e w' => e = .returned (.bool (!d.down)) ∧ w' = W := by
  obtain ⟨fp, h1, h2, h3, h4, h5⟩ := h
  exact drive_Alive h1
end

/-- .. and a map from texts to texts, which is not the drive's. -/
def MW (w0 : Fr) (g : Nat) (d : Dr) (N : Nat) (X : List Xc) (mb : Nat) (m : KM) (W : World) : Prop :=
  ∃ fp, IsDrive W g d fp ∧ d.Ok N ∧ w0.kept W ∧ (∀ k, fp k → w0.free k) ∧ (∀ x ∈ X, ¬ fp x.1 ∧ Blk W x.1 x.2.1 x.2.2) ∧ ¬ fp mb ∧ w0.free mb ∧ OwnS Tryz.prog 9 W mb m
section
variable {w0 : Fr} {W : World} {g N mb : Nat} {d : Dr} {X : List Xc} {m : KM}
theorem OwnS.lt {P : Program} {k : TypeId} {w : World} {b : Nat} {m : KM} (h : OwnS P k w b m) : b < w.heap.size := by
  obtain ⟨es, c, h⟩ := h.isMap
  exact (Array.getElem?_eq_some_iff.1 h).1
theorem OwnS.not_blk {P : Program} {k t : TypeId} {w : World} {b : Nat} {m : KM} {cs : Array Value} {x : Nat} (h : OwnS P k w b m) (hB : Blk w x t cs) : x ≠ b := by
  rintro rfl
  obtain ⟨es, c, h⟩ := h.isMap
  unfold Blk at hB
  rw [hB] at h
  cases h
theorem MW.fw (h : MW w0 g d N X mb m W) : FW w0 g d N X W := by
  obtain ⟨fp, h1, h2, h3, h4, h5, -⟩ := h
  exact ⟨fp, h1, h2, h3, h4, h5⟩
theorem MW.bel (h : MW w0 g d N X mb m W) : w0.kept W := h.fw.bel
theorem MW.blk (h : MW w0 g d N X mb m W) {x : Xc} (hx : x ∈ X) : Blk W x.1 x.2.1 x.2.2 := h.fw.blk hx
theorem MW.map (h : MW w0 g d N X mb m W) : OwnS Tryz.prog 9 W mb m := by
  obtain ⟨fp, h1, h2, h3, h4, h5, h6, h7, h8⟩ := h
  exact h8
theorem MW.sub (h : MW w0 g d N X mb m W) {Y : List Xc} (hY : ∀ x ∈ Y, x ∈ X) : MW w0 g d N Y mb m W := by
  obtain ⟨fp, h1, h2, h3, h4, h5, h6⟩ := h
  exact ⟨fp, h1, h2, h3, h4, fun x hx => h5 x (hY x hx), h6⟩
theorem MW.more (h : MW w0 g d N X mb m W) {M : Nat} (hM : N ≤ M) : MW w0 g d M X mb m W := by
  obtain ⟨fp, h1, h2, h3⟩ := h
  exact ⟨fp, h1, h2.more hM, h3⟩
theorem MW.below (h : MW w0 g d N X mb m W) {W' : World} (hb : Below W.heap.size W W') : MW w0 g d N X mb m W' := by
  obtain ⟨fp, h1, h2, h3, h4, h5, h6, h7, h8⟩ := h
  exact ⟨fp, h1.below hb, h2, h3.below hb, h4, fun x hx => ⟨(h5 x hx).1, (h5 x hx).2.below hb (h5 x hx).2.lt⟩, h6, h7, h8.kept (hb.block mb h8.lt)⟩
theorem MW.push (h : MW w0 g d N X mb m W) {W' : World} (hb : Below W.heap.size W W') {q : Nat} {t : TypeId} {cs : Array Value} (hq : W.heap.size ≤ q) (hB : Blk W' q t cs) : MW w0 g d N ((q, t, cs) :: X) mb m W' := by
  obtain ⟨fp, h1, h2, h3, h4, h5, h6, h7, h8⟩ := h
  refine ⟨fp, h1.below hb, h2, h3.below hb, h4, fun x hx => ?_, h6, h7, h8.kept (hb.block mb h8.lt)⟩
  rcases List.mem_cons.1 hx with rfl | hx
  · refine ⟨fun hk => ?_, hB⟩
    have := h1.lt _ hk
    simp at this
    omega
  · exact ⟨(h5 x hx).1, (h5 x hx).2.below hb (h5 x hx).2.lt⟩
theorem MW.with_ (h : MW w0 g d N X mb m W) (t : TypeId) (cs : Array Value) : MW w0 g d N ((W.heap.size, t, cs) :: X) mb m (W.alloc (.cells cs t)) :=
  h.push ((Below.refl _ _).alloc (Nat.le_refl _) _) (Nat.le_refl _) (Blk.new W t cs)
/-- A map is made beside a drive. -/
theorem FW.newMap (h : FW w0 g d N X W) : MW w0 g d N X W.heap.size [] (W.alloc (.map #[] 0)) := by
  have hb : Below W.heap.size W (W.alloc (.map #[] 0)) := (Below.refl _ _).alloc (Nat.le_refl _) _
  obtain ⟨fp, h1, h2, h3, h4, h5⟩ := h.below hb
  obtain ⟨fp0, k1, -, k3, k4, k5⟩ := h
  refine ⟨fp0, k1.below hb, h2, h3, k4, fun x hx => ⟨(k5 x hx).1, (k5 x hx).2.below hb (k5 x hx).2.lt⟩, fun hk => ?_, w0.free_new k3.size, OwnS.made W⟩
  have := k1.lt _ hk
  omega
/-- A map is made beside it, as that is: it takes its place. -/
theorem MW.clone (h : MW w0 g d N X mb m W) {es : Array MapEntry} {c : Nat} (he : W.heap[mb]? = some (.map es c)) : MW w0 g d N X W.heap.size m (W.alloc (.map es c)) := by
  have hb : Below W.heap.size W (W.alloc (.map es c)) := (Below.refl _ _).alloc (Nat.le_refl _) _
  obtain ⟨fp, h1, h2, h3, h4, h5, h6, h7, h8⟩ := h
  refine ⟨fp, h1.below hb, h2, h3.below hb, h4, fun x hx => ⟨(h5 x hx).1, (h5 x hx).2.below hb (h5 x hx).2.lt⟩, fun hk => ?_, w0.free_new h3.size, ?_⟩
  · have := h1.lt _ hk
    omega
  · obtain ⟨es', c', e1, F, hs, hD⟩ := h8
    rw [he] at e1
    injection e1 with e1
    injection e1 with e2 e3
    subst e2 e3
    exact ⟨es, c, heap_alloc_new W _, F, hs, hD⟩
/-- The map alone was turned. -/
theorem MW.did (h : MW w0 g d N X mb m W) {m' : KM} {W' : World} (hm : OwnS Tryz.prog 9 W' mb m') (ht : Touch W W' (fun k => k = mb) (fun k => k = mb)) : MW w0 g d N X mb m' W' := by
  obtain ⟨fp, h1, h2, h3, h4, h5, h6, h7, h8⟩ := h
  refine ⟨fp, h1.keep ht.size fun k hk => ht.block k (h1.lt k hk) (by rintro rfl; exact h6 hk), h2, h3.touch ht (fun k hk => by rw [hk]; exact h7), h4, fun x hx => ⟨(h5 x hx).1, ?_⟩, h6, h7, hm⟩
  exact (ht.block x.1 (h5 x hx).2.lt (h8.not_blk (h5 x hx).2)).trans (h5 x hx).2
/-- A call that turned the drive alone. -/
theorem MW.turned {fp : Nat → Prop} {d' : Dr} {N' : Nat} {W' : World} (h1 : IsDrive W g d fp) (h3 : w0.kept W) (h4 : ∀ k, fp k → w0.free k) (h5 : ∀ x ∈ X, ¬ fp x.1 ∧ Blk W x.1 x.2.1 x.2.2) (h6 : ¬ fp mb) (h7 : w0.free mb) (h8 : OwnS Tryz.prog 9 W mb m) (ht : Then W g d' fp W') (ho : d'.Ok N') : MW w0 g d' N' X mb m W' := by
  obtain ⟨fp', k1, k2⟩ := ht
  refine ⟨fp', k1, ho, h3.touch k2 h4, fun k hk => ?_, fun x hx => ?_, fun hk => ?_, h7, h8.kept (k2.block mb h8.lt h6)⟩
  · rcases k2.new k hk with hk | hk
    · exact h4 k hk
    · exact w0.free_new (Nat.le_trans h3.size hk)
  · obtain ⟨q1, q3⟩ := h5 x hx
    refine ⟨fun hk => ?_, (k2.block _ q3.lt q1).trans q3⟩
    rcases k2.new _ hk with hk | hk
    · exact q1 hk
    · have := q3.lt; omega
  · rcases k2.new _ hk with hk | hk
    · exact h6 hk
    · have := h8.lt; omega
theorem MW.create (h : MW w0 g d N X mb m W) (name : Key) (hl : name.length ≤ 1000000) : Calls Tryz.prog 25 #[.pointer (some ⟨g, 0, none⟩), .string (S name)] W fun e w' => e = .returned (.int .i64 (d.create name).2) ∧ MW w0 g (d.create name).1 N X mb m w' := by
  obtain ⟨fp, h1, h2, h3, h4, h5, h6, h7, h8⟩ := h
  refine (drive_Create h1 h2 name hl).mono ?_
  rintro e w' ⟨rfl, ht⟩
  exact ⟨rfl, MW.turned h1 h3 h4 h5 h6 h7 h8 ht (h2.create name)⟩
theorem MW.sync (h : MW w0 g d N X mb m W) (hN : N ≤ 1000000000) (name : Key) (hl : name.length ≤ 1000000) : Calls Tryz.prog 27 #[.pointer (some ⟨g, 0, none⟩), .string (S name)] W fun e w' => e = .returned (.int .i64 (d.sync name).2) ∧ MW w0 g (d.sync name).1 N X mb m w' := by
  obtain ⟨fp, h1, h2, h3, h4, h5, h6, h7, h8⟩ := h
  refine (drive_Sync h1 h2 hN name hl).mono ?_
  rintro e w' ⟨rfl, ht⟩
  exact ⟨rfl, MW.turned h1 h3 h4 h5 h6 h7 h8 ht (h2.sync name)⟩
/-- What is handed in was made behind it. -/
theorem MW.append_new (h : MW w0 g d N X mb m W) {W' : World} (hb : Below W.heap.size W W') (hN : N < 1000000000) (name : Key) (hl : name.length ≤ 1000000) (A : Option Addr) (data : List UInt8) (c : Nat) (hB : BytesAt W' A data) (hn : ∀ p, A = some p → W.heap.size ≤ p.block) (hdl : data.length ≤ 1000000000) :
    Calls Tryz.prog 34 #[.pointer (some ⟨g, 0, none⟩), .string (S name), .slice A data.length c] W' fun e w' => e = .returned (.int .i64 (d.append name data).2) ∧ MW w0 g (d.append name data).1 (N + 1) X mb m w' := by
  obtain ⟨fp, h1, h2, h3, h4, h5, h6, h7, h8⟩ := h
  refine (drive_Append (h1.below hb) h2 hN name hl A data c hB (fun p hp hk => ?_) hdl).mono ?_
  · have := h1.lt _ hk
    have := hn p hp
    omega
  · rintro e w' ⟨rfl, ht⟩
    exact ⟨rfl, MW.turned (h1.below hb) (h3.below hb) h4 (fun x hx => ⟨(h5 x hx).1, (h5 x hx).2.below hb (h5 x hx).2.lt⟩) h6 h7 (h8.kept (hb.block mb h8.lt)) ht (h2.append name data)⟩
theorem MW.read (h : MW w0 g d N X mb m W) (hN : N ≤ 1000000000) (name : Key) (hl : name.length ≤ 1000000) : Calls Tryz.prog 51 #[.pointer (some ⟨g, 0, none⟩), .string (S name)] W fun e w' => ∃ v, e = .returned (.tuple #[v, .int .i64 (d.readE name)]) ∧ w'.ownsRow W.heap.size 5 1 v (d.read name).length ((d.read name).map B8) ∧ Below W.heap.size W w' ∧ MW w0 g d N X mb m w' := by
  have h' := h
  obtain ⟨fp, h1, h2, h3, h4, h5, h6⟩ := h
  refine (drive_Read h1 h2 hN name hl).mono ?_
  rintro e w' ⟨v, rfl, hr, hb⟩
  exact ⟨v, rfl, hr, hb, h'.below hb⟩
theorem MW.alive (h : MW w0 g d N X mb m W) : Calls Tryz.prog 19 #[.pointer (some ⟨g, 0, none⟩)] W fun e w' => e = .returned (.bool (!d.down)) ∧ w' = W := by
  obtain ⟨fp, h1, h2, h3, h4, h5, h6⟩ := h
  exact drive_Alive h1
/-- A write is done to its map. -/
theorem MW.do_ (h : MW w0 g d N X mb m W) (x : Wr) (hl : m.length ≤ 1000000) (hk : x.key.length ≤ 1000000) : Calls Tryz.prog 38 #[.map (some mb), .agg #[.string (S x.key), .string (S x.val), .bool x.gone]] W fun e w' => e = .returned (.tuple #[]) ∧ MW w0 g d N X mb (doW m x) w' :=
  (kv_do W mb m x h.map hl hk).mono fun e w' ⟨h1, h2, h3⟩ => ⟨h1, h.did h2 h3⟩
end
end Go.Proofs.YtbjimikppdfmgaaGreatDoor
