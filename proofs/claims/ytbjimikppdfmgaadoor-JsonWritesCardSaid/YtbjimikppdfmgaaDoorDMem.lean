/- A drive in memory: what its blocks hold, and what a call may turn. -/
import Derived.Test.YtbjimikppdfmgaaDoorChecked
import Derived.Test.YtbjimikppdfmgaaDoorMap
import Derived.Test.YtbjimikppdfmgaaDoorMem
set_option linter.unusedVariables false
set_option linter.unusedSimpArgs false
namespace Go.Proofs.YtbjimikppdfmgaaDoor
open Go.RowKit

/-! ### what a call may turn: blocks of 'fp', and new ones -/
structure Touch (w w' : World) (fp fp' : Nat → Prop) : Prop where
  os : w'.os = w.os
  tape : w'.tape = w.tape
  output : w'.output = w.output
  size : w.heap.size ≤ w'.heap.size
  block : ∀ k, k < w.heap.size → ¬ fp k → w'.heap[k]? = w.heap[k]?
  new : ∀ k, fp' k → fp k ∨ w.heap.size ≤ k
section
variable {w w1 w2 : World} {fp fp1 fp2 : Nat → Prop}
theorem Touch.refl (w : World) (fp : Nat → Prop) : Touch w w fp fp := ⟨rfl, rfl, rfl, Nat.le_refl _, fun _ _ _ => rfl, fun _ h => .inl h⟩
theorem Touch.trans (h : Touch w w1 fp fp1) (k : Touch w1 w2 fp1 fp2) : Touch w w2 fp fp2 :=
  ⟨k.os.trans h.os, k.tape.trans h.tape, k.output.trans h.output, Nat.le_trans h.size k.size, fun i hi hn => (k.block i (Nat.lt_of_lt_of_le hi h.size) (fun h1 => by
    rcases h.new i h1 with h2 | h2
    · exact hn h2
    · omega)).trans (h.block i hi hn), fun i hi => by
    rcases k.new i hi with h1 | h1
    · exact h.new i h1
    · exact .inr (Nat.le_trans h.size h1)⟩
theorem Touch.of_below (h : Below w.heap.size w w1) (fp : Nat → Prop) : Touch w w1 fp fp := ⟨h.os, h.tape, h.output, h.size, fun k hk _ => h.block k hk, fun _ h => .inl h⟩
theorem Touch.of_grown {row : Option Nat} (h : w.grownBy w1 row) (hr : ∀ k, row = some k → fp k) : Touch w w1 fp fp :=
  ⟨h.os, h.tape, h.output, h.size, fun k hk hn => h.block k hk (fun e => hn (hr k e.symm)), fun _ h => .inl h⟩
theorem Touch.more (h : Touch w w1 fp fp1) (hn : ∀ k, fp2 k → fp1 k ∨ w.heap.size ≤ k) : Touch w w1 fp fp2 :=
  ⟨h.os, h.tape, h.output, h.size, h.block, fun k hk => by
    rcases hn k hk with h1 | h1
    · exact h.new k h1
    · exact .inr h1⟩
theorem Touch.below {B : Nat} (h : Touch w w1 fp fp1) (hB : ∀ k, fp k → B ≤ k) (hs : B ≤ w.heap.size) : Below B w w1 :=
  ⟨h.os, h.tape, h.output, h.size, fun k hk => h.block k (by omega) (fun hf => by have := hB k hf; omega)⟩
theorem Touch.setCell (w : World) (fp : Nat → Prop) {p : Addr} (hp : fp p.block) (v : Value) : Touch w (w.setCell p v) fp fp :=
  ⟨rfl, rfl, rfl, by simp [World.setCell], fun k hk hn => Below.heap_setCell w p v k (by rintro rfl; exact hn hp), fun _ h => .inl h⟩
end

/-! ### files -/
structure File where
  safe : List UInt8
  pieces : List (List UInt8)
/-- A file in memory: its block, the two slices in it. -/
structure FileR where
  blk : Nat
  sv : Value
  pv : Value
  f : File
/-- A slice of bytes in blocks of fp. -/
structure BytesRow (w : World) (fp : Nat → Prop) (v : Value) (l : List UInt8) : Prop where
  row : w.ownsRow 0 5 1 v l.length (l.map B8)
  own : ∀ k, v.ownBlock = some k → fp k
/-- A slice of such slices. -/
structure PiecesRow (w : World) (fp : Nat → Prop) (v : Value) (ls : List (List UInt8)) (vs : List Value) : Prop where
  row : w.ownsRow 0 47 1 v ls.length vs
  own : ∀ k, v.ownBlock = some k → fp k
  len : vs.length = ls.length
  each : ∀ i, (h : i < ls.length) → ∃ u, vs[i]? = some u ∧ BytesRow w fp u ls[i]
structure IsFile (w : World) (fp : Nat → Prop) (r : FileR) : Prop where
  blk : Blk w r.blk 108 #[r.sv, r.pv]
  own : fp r.blk
  safe : BytesRow w fp r.sv r.f.safe
  pieces : ∃ vs, PiecesRow w fp r.pv r.f.pieces vs

/-- What does not touch blocks of the types that a drive's files are made of, but such as are not theirs. -/
def Keeps (w w' : World) (fp : Nat → Prop) : Prop := ∀ k, fp k → w'.heap[k]? = w.heap[k]?
section
variable {w w' : World} {fp fp' : Nat → Prop}
theorem BytesRow.keep {v : Value} {l : List UInt8} (h : BytesRow w fp v l) (hk : ∀ k cs, fp k → w.heap[k]? = some (.cells cs 5 (0, 0)) → w'.heap[k]? = w.heap[k]?) (hf : ∀ k, fp k → fp' k) : BytesRow w' fp' v l :=
  ⟨row_keep h.row fun k hkk => by
    obtain ⟨cs, hcs⟩ := row_heap h.row hkk
    exact hk k cs (h.own k hkk) hcs, fun k hkk => hf k (h.own k hkk)⟩
theorem PiecesRow.keep {v : Value} {ls : List (List UInt8)} {vs : List Value} (h : PiecesRow w fp v ls vs) (hk : ∀ k cs, fp k → w.heap[k]? = some (.cells cs 5 (0, 0)) → w'.heap[k]? = w.heap[k]?)
    (hk2 : ∀ k, v.ownBlock = some k → w'.heap[k]? = w.heap[k]?) (hf : ∀ k, fp k → fp' k) : PiecesRow w' fp' v ls vs :=
  ⟨row_keep h.row hk2, fun k hkk => hf k (h.own k hkk), h.len, fun i hi => by
    obtain ⟨u, hu, hb⟩ := h.each i hi
    exact ⟨u, hu, hb.keep hk hf⟩⟩
theorem IsFile.keep {r : FileR} (h : IsFile w fp r) (hk : ∀ k cs, fp k → w.heap[k]? = some (.cells cs 5 (0, 0)) → w'.heap[k]? = w.heap[k]?)
    (hk2 : ∀ k, r.pv.ownBlock = some k → w'.heap[k]? = w.heap[k]?) (hk3 : w'.heap[r.blk]? = w.heap[r.blk]?) (hf : ∀ k, fp k → fp' k) : IsFile w' fp' r := by
  obtain ⟨vs, hv⟩ := h.pieces
  exact ⟨hk3.trans h.blk, hf _ h.own, h.safe.keep hk hf, vs, hv.keep hk hk2 hf⟩
theorem IsFile.keepAll {r : FileR} (h : IsFile w fp r) (hk : ∀ k cs t, fp k → t ≠ 68 → w.heap[k]? = some (.cells cs t (0, 0)) → w'.heap[k]? = w.heap[k]?) (hf : ∀ k, fp k → fp' k) : IsFile w' fp' r := by
  obtain ⟨vs, hv⟩ := h.pieces
  refine h.keep (fun k cs h1 h2 => hk k cs _ h1 (by decide) h2) (fun k h1 => ?_) (hk _ _ _ h.own (by decide) h.blk) hf
  obtain ⟨cs, hcs⟩ := row_heap hv.row h1
  exact hk k cs _ (hv.own k h1) (by decide) hcs
end

/-! ### a drive -/
structure Dr where
  files : List (Key × File)
  quota : Int
  deeds : Int
  down : Bool
  left : Int
def File.all (f : File) : List UInt8 := f.safe ++ f.pieces.flatten
def Dr.used (d : Dr) : Int := ((d.files.map fun p => p.2.all.length).sum : Nat)

/-- Two files share no block that is written. -/
def FApart (p q : Key × FileR) : Prop := p.2.blk ≠ q.2.blk ∧ ∀ k, p.2.pv.ownBlock = some k → q.2.pv.ownBlock ≠ some k
theorem FApart.symm {p q : Key × FileR} (h : FApart p q) : FApart q p := ⟨Ne.symm h.1, fun k hk hp => h.2 k hp hk⟩
/-- The map of a drive, and its files. -/
structure HasFiles (w : World) (fp : Nat → Prop) (mb : Nat) (rs : List (Key × FileR)) : Prop where
  map : OwnM Tryd.prog 9 w mb (kmap FileR.blk rs)
  own : fp mb
  each : ∀ p ∈ rs, IsFile w fp p.2
  apart : rs.Pairwise FApart
theorem HasFiles.keep {w w' : World} {fp fp' : Nat → Prop} {mb : Nat} {rs : List (Key × FileR)} (h : HasFiles w fp mb rs) (hm : w'.heap[mb]? = w.heap[mb]?)
    (hk : ∀ k cs t, fp k → t ≠ 68 → w.heap[k]? = some (.cells cs t (0, 0)) → w'.heap[k]? = w.heap[k]?) (hf : ∀ k, fp k → fp' k) : HasFiles w' fp' mb rs :=
  ⟨h.map.kept hm, hf _ h.own, fun p hp => (h.each p hp).keepAll hk hf, h.apart⟩

def driveCells (d : Dr) (mb : Nat) (aft : Int) : Array Value := #[.map (some mb), .int .i64 d.quota, .int .i64 d.used, .int .i64 d.deeds, .bool d.down, .bool (decide (0 ≤ d.left)), .int .i64 aft]
structure IsDrive (w : World) (g : Nat) (d : Dr) (fp : Nat → Prop) : Prop where
  lt : ∀ k, fp k → k < w.heap.size
  own : fp g
  has : ∃ (mb : Nat) (aft : Int) (rs : List (Key × FileR)), Blk w g 68 (driveCells d mb aft) ∧ (0 ≤ d.left → aft = d.left) ∧ HasFiles w fp mb rs ∧ d.files = kmap FileR.f rs
theorem IsDrive.keep {w w' : World} {g : Nat} {d : Dr} {fp : Nat → Prop} (h : IsDrive w g d fp) (hs : w.heap.size ≤ w'.heap.size) (hk : ∀ k, fp k → w'.heap[k]? = w.heap[k]?) : IsDrive w' g d fp := by
  obtain ⟨mb, aft, rs, hb, ha, hf, hd⟩ := h.has
  exact ⟨fun k hk => Nat.lt_of_lt_of_le (h.lt k hk) hs, h.own, mb, aft, rs, (hk g h.own).trans hb, ha, hf.keep (hk _ hf.own) (fun k cs t h1 _ _ => hk k h1) (fun _ h => h), hd⟩
theorem IsDrive.below {w w' : World} {g : Nat} {d : Dr} {fp : Nat → Prop} (h : IsDrive w g d fp) (hb : Below w.heap.size w w') : IsDrive w' g d fp := h.keep hb.size fun k hk => hb.block k (h.lt k hk)
theorem HasFiles.turned {w w' : World} {fp : Nat → Prop} {mb g : Nat} {cs : Array Value} {rs : List (Key × FileR)} (h : HasFiles w fp mb rs) (hb : Blk w g 68 cs) (hk : ∀ k, k ≠ g → w'.heap[k]? = w.heap[k]?) : HasFiles w' fp mb rs := by
  refine h.keep (hk _ ?_) (fun k cs' t h1 h2 h3 => hk k ?_) (fun _ h => h)
  · rintro rfl
    obtain ⟨es, c, hm⟩ := h.map.isMap
    unfold Blk at hb
    rw [hb] at hm
    cases hm
  · rintro rfl
    unfold Blk at hb
    rw [hb] at h3
    injection h3 with h3
    injection h3 with _ h4
    exact h2 h4.symm
/-- The drive's own block was written: its files are the same. -/
theorem IsDrive.mk' {w w' : World} {g mb : Nat} {d d' : Dr} {fp : Nat → Prop} {cs : Array Value} {aft : Int} {rs : List (Key × FileR)} (h : IsDrive w g d fp) (hb : Blk w g 68 cs) (hf : HasFiles w fp mb rs) (hs : w.heap.size ≤ w'.heap.size)
    (hk : ∀ k, k ≠ g → w'.heap[k]? = w.heap[k]?) (hb' : Blk w' g 68 (driveCells d' mb aft)) (ha : 0 ≤ d'.left → aft = d'.left) (hd : d'.files = kmap FileR.f rs) : IsDrive w' g d' fp :=
  ⟨fun k hk => Nat.lt_of_lt_of_le (h.lt k hk) hs, h.own, mb, aft, rs, hb', ha, hf.turned hb hk, hd⟩
theorem set_other (w : World) (g i : Nat) (v : Value) : ∀ k, k ≠ g → (w.setCell ⟨g, i, none⟩ v).heap[k]? = w.heap[k]? := fun k hk => Below.heap_setCell w _ v k hk
theorem set_size (w : World) (p : Addr) (v : Value) : (w.setCell p v).heap.size = w.heap.size := by simp [World.setCell]
end Go.Proofs.YtbjimikppdfmgaaDoor
