/- A drive in memory: what its blocks hold, and what a call may turn. A drive's answers, in plain Lean. Finite maps by rising keys: sums, lookups, orders. Keys and values, in plain Lean: writes, their bytes, what a batch does. No program is named here. -/
import Derived.Test.YtiabfngiibabcaaGreatDoorChecked
import Derived.Test.YtiabfngiibabcaaGreatDoorM01
import Derived.WideAt
import Derived.WideShapes
set_option linter.unusedVariables false
set_option linter.unusedSimpArgs false
namespace Go.Proofs.YtiabfngiibabcaaGreatDoor
open Go.RowKit

/-! ### what a call may turn: blocks of 'fp', and new ones -/
structure Touch (w w' : World) (fp fp' : Nat → Prop) : Prop where
  os : w'.os = w.os
  tape : w'.tape = w.tape
  output : w'.output = w.output
  size : w.heap.size ≤ w'.heap.size
  block : ∀ k, k < w.heap.size → ¬ fp k → w'.heap[k]? = w.heap[k]?
  new : ∀ k, fp' k → fp k ∨ w.heap.size ≤ k
section
variable {w w1 w2 : World} {fp fp1 fp2 : Nat → Prop}
theorem Touch.refl (w : World) (fp : Nat → Prop) : Touch w w fp fp := ⟨rfl, rfl, rfl, Nat.le_refl _, fun _ _ _ => rfl, fun _ h => .inl h⟩
theorem Touch.trans (h : Touch w w1 fp fp1) (k : Touch w1 w2 fp1 fp2) : Touch w w2 fp fp2 :=
  ⟨k.os.trans h.os, k.tape.trans h.tape, k.output.trans h.output, Nat.le_trans h.size k.size, fun i hi hn => (k.block i (Nat.lt_of_lt_of_le hi h.size) (fun h1 => by
    rcases h.new i h1 with h2 | h2
    · exact hn h2
    · omega)).trans (h.block i hi hn), fun i hi => by
    rcases k.new i hi with h1 | h1
    · exact h.new i h1
    · exact .inr (Nat.le_trans h.size h1)⟩
theorem Touch.of_below (h : Below w.heap.size w w1) (fp : Nat → Prop) : Touch w w1 fp fp := ⟨h.os, h.tape, h.output, h.size, fun k hk _ => h.block k hk, fun _ h => .inl h⟩
theorem Touch.of_grown {row : Option Nat} (h : w.grownBy w1 row) (hr : ∀ k, row = some k → fp k) : Touch w w1 fp fp :=
  ⟨h.os, h.tape, h.output, h.size, fun k hk hn => h.block k hk (fun e => hn (hr k e.symm)), fun _ h => .inl h⟩
theorem Touch.more (h : Touch w w1 fp fp1) (hn : ∀ k, fp2 k → fp1 k ∨ w.heap.size ≤ k) : Touch w w1 fp fp2 :=
  ⟨h.os, h.tape, h.output, h.size, h.block, fun k hk => by
    rcases hn k hk with h1 | h1
    · exact h.new k h1
    · exact .inr h1⟩
theorem Touch.below {B : Nat} (h : Touch w w1 fp fp1) (hB : ∀ k, fp k → B ≤ k) (hs : B ≤ w.heap.size) : Below B w w1 :=
  ⟨h.os, h.tape, h.output, h.size, fun k hk => h.block k (by omega) (fun hf => by have := hB k hf; omega)⟩
theorem Touch.setCell (w : World) (fp : Nat → Prop) {p : Addr} (hp : fp p.block) (v : Value) : Touch w (w.setCell p v) fp fp :=
  ⟨rfl, rfl, rfl, by simp [World.setCell], fun k hk hn => Below.heap_setCell w p v k (by rintro rfl; exact hn hp), fun _ h => .inl h⟩
end

/-! ### files -/
structure File where
  safe : List UInt8
  pieces : List (List UInt8)
/-- A file in memory: its block, the two slices in it. -/
structure FileR where
  blk : Nat
  sv : Value
  pv : Value
  f : File
/-- A slice of bytes in blocks of fp. -/
structure BytesRow (w : World) (fp : Nat → Prop) (v : Value) (l : List UInt8) : Prop where
  row : w.ownsRow 0 5 1 v l.length (l.map B8)
  own : ∀ k, v.ownBlock = some k → fp k
/-- A slice of such slices. -/
structure PiecesRow (w : World) (fp : Nat → Prop) (v : Value) (ls : List (List UInt8)) (vs : List Value) : Prop where
  row : w.ownsRow 0 85 1 v ls.length vs
  own : ∀ k, v.ownBlock = some k → fp k
  len : vs.length = ls.length
  each : ∀ i, (h : i < ls.length) → ∃ u, vs[i]? = some u ∧ BytesRow w fp u ls[i]
structure IsFile (w : World) (fp : Nat → Prop) (r : FileR) : Prop where
  blk : Blk w r.blk 178 #[r.sv, r.pv]
  own : fp r.blk
  safe : BytesRow w fp r.sv r.f.safe
  pieces : ∃ vs, PiecesRow w fp r.pv r.f.pieces vs

/-- What does not touch blocks of the types that a drive's files are made of, but such as are not theirs. -/
def Keeps (w w' : World) (fp : Nat → Prop) : Prop := ∀ k, fp k → w'.heap[k]? = w.heap[k]?
section
variable {w w' : World} {fp fp' : Nat → Prop}
theorem BytesRow.keep {v : Value} {l : List UInt8} (h : BytesRow w fp v l) (hk : ∀ k cs, fp k → w.heap[k]? = some (.cells cs 5 (0, 0)) → w'.heap[k]? = w.heap[k]?) (hf : ∀ k, fp k → fp' k) : BytesRow w' fp' v l :=
  ⟨row_keep h.row fun k hkk => by
    obtain ⟨cs, hcs⟩ := row_heap h.row hkk
    exact hk k cs (h.own k hkk) hcs, fun k hkk => hf k (h.own k hkk)⟩
theorem PiecesRow.keep {v : Value} {ls : List (List UInt8)} {vs : List Value} (h : PiecesRow w fp v ls vs) (hk : ∀ k cs, fp k → w.heap[k]? = some (.cells cs 5 (0, 0)) → w'.heap[k]? = w.heap[k]?)
    (hk2 : ∀ k, v.ownBlock = some k → w'.heap[k]? = w.heap[k]?) (hf : ∀ k, fp k → fp' k) : PiecesRow w' fp' v ls vs :=
  ⟨row_keep h.row hk2, fun k hkk => hf k (h.own k hkk), h.len, fun i hi => by
    obtain ⟨u, hu, hb⟩ := h.each i hi
    exact ⟨u, hu, hb.keep hk hf⟩⟩
theorem IsFile.keep {r : FileR} (h : IsFile w fp r) (hk : ∀ k cs, fp k → w.heap[k]? = some (.cells cs 5 (0, 0)) → w'.heap[k]? = w.heap[k]?)
    (hk2 : ∀ k, r.pv.ownBlock = some k → w'.heap[k]? = w.heap[k]?) (hk3 : w'.heap[r.blk]? = w.heap[r.blk]?) (hf : ∀ k, fp k → fp' k) : IsFile w' fp' r := by
  obtain ⟨vs, hv⟩ := h.pieces
  exact ⟨hk3.trans h.blk, hf _ h.own, h.safe.keep hk hf, vs, hv.keep hk hk2 hf⟩
theorem IsFile.keepAll {r : FileR} (h : IsFile w fp r) (hk : ∀ k cs t, fp k → t ≠ 78 → w.heap[k]? = some (.cells cs t (0, 0)) → w'.heap[k]? = w.heap[k]?) (hf : ∀ k, fp k → fp' k) : IsFile w' fp' r := by
  obtain ⟨vs, hv⟩ := h.pieces
  refine h.keep (fun k cs h1 h2 => hk k cs _ h1 (by decide) h2) (fun k h1 => ?_) (hk _ _ _ h.own (by decide) h.blk) hf
  obtain ⟨cs, hcs⟩ := row_heap hv.row h1
  exact hk k cs _ (hv.own k h1) (by decide) hcs
end

/-! ### a drive -/
structure Dr where
  files : List (Key × File)
  quota : Int
  deeds : Int
  down : Bool
  left : Int
def File.all (f : File) : List UInt8 := f.safe ++ f.pieces.flatten
def Dr.used (d : Dr) : Int := ((d.files.map fun p => p.2.all.length).sum : Nat)

/-- Two files share no block that is written. -/
def FApart (p q : Key × FileR) : Prop := p.2.blk ≠ q.2.blk ∧ ∀ k, p.2.pv.ownBlock = some k → q.2.pv.ownBlock ≠ some k
theorem FApart.symm {p q : Key × FileR} (h : FApart p q) : FApart q p := ⟨Ne.symm h.1, fun k hk hp => h.2 k hp hk⟩
/-- The map of a drive, and its files. -/
structure HasFiles (w : World) (fp : Nat → Prop) (mb : Nat) (rs : List (Key × FileR)) : Prop where
  map : OwnM Tryz.prog 9 w mb (kmap FileR.blk rs)
  own : fp mb
  each : ∀ p ∈ rs, IsFile w fp p.2
  apart : rs.Pairwise FApart
theorem HasFiles.keep {w w' : World} {fp fp' : Nat → Prop} {mb : Nat} {rs : List (Key × FileR)} (h : HasFiles w fp mb rs) (hm : w'.heap[mb]? = w.heap[mb]?)
    (hk : ∀ k cs t, fp k → t ≠ 78 → w.heap[k]? = some (.cells cs t (0, 0)) → w'.heap[k]? = w.heap[k]?) (hf : ∀ k, fp k → fp' k) : HasFiles w' fp' mb rs :=
  ⟨h.map.kept hm, hf _ h.own, fun p hp => (h.each p hp).keepAll hk hf, h.apart⟩

def driveCells (d : Dr) (mb : Nat) (aft : Int) : Array Value := #[.map (some mb), .int .i64 d.quota, .int .i64 d.used, .int .i64 d.deeds, .bool d.down, .bool (decide (0 ≤ d.left)), .int .i64 aft]
structure IsDrive (w : World) (g : Nat) (d : Dr) (fp : Nat → Prop) : Prop where
  lt : ∀ k, fp k → k < w.heap.size
  own : fp g
  has : ∃ (mb : Nat) (aft : Int) (rs : List (Key × FileR)), Blk w g 78 (driveCells d mb aft) ∧ (0 ≤ d.left → aft = d.left) ∧ HasFiles w fp mb rs ∧ d.files = kmap FileR.f rs
theorem IsDrive.keep {w w' : World} {g : Nat} {d : Dr} {fp : Nat → Prop} (h : IsDrive w g d fp) (hs : w.heap.size ≤ w'.heap.size) (hk : ∀ k, fp k → w'.heap[k]? = w.heap[k]?) : IsDrive w' g d fp := by
  obtain ⟨mb, aft, rs, hb, ha, hf, hd⟩ := h.has
  exact ⟨fun k hk => Nat.lt_of_lt_of_le (h.lt k hk) hs, h.own, mb, aft, rs, (hk g h.own).trans hb, ha, hf.keep (hk _ hf.own) (fun k cs t h1 _ _ => hk k h1) (fun _ h => h), hd⟩
theorem IsDrive.below {w w' : World} {g : Nat} {d : Dr} {fp : Nat → Prop} (h : IsDrive w g d fp) (hb : Below w.heap.size w w') : IsDrive w' g d fp := h.keep hb.size fun k hk => hb.block k (h.lt k hk)
theorem HasFiles.turned {w w' : World} {fp : Nat → Prop} {mb g : Nat} {cs : Array Value} {rs : List (Key × FileR)} (h : HasFiles w fp mb rs) (hb : Blk w g 78 cs) (hk : ∀ k, k ≠ g → w'.heap[k]? = w.heap[k]?) : HasFiles w' fp mb rs := by
  refine h.keep (hk _ ?_) (fun k cs' t h1 h2 h3 => hk k ?_) (fun _ h => h)
  · rintro rfl
    obtain ⟨es, c, hm⟩ := h.map.isMap
    unfold Blk at hb
    rw [hb] at hm
    cases hm
  · rintro rfl
    unfold Blk at hb
    rw [hb] at h3
    injection h3 with h3
    injection h3 with _ h4
    exact h2 h4.symm
/-- The drive's own block was written: its files are the same. -/
theorem IsDrive.mk' {w w' : World} {g mb : Nat} {d d' : Dr} {fp : Nat → Prop} {cs : Array Value} {aft : Int} {rs : List (Key × FileR)} (h : IsDrive w g d fp) (hb : Blk w g 78 cs) (hf : HasFiles w fp mb rs) (hs : w.heap.size ≤ w'.heap.size)
    (hk : ∀ k, k ≠ g → w'.heap[k]? = w.heap[k]?) (hb' : Blk w' g 78 (driveCells d' mb aft)) (ha : 0 ≤ d'.left → aft = d'.left) (hd : d'.files = kmap FileR.f rs) : IsDrive w' g d' fp :=
  ⟨fun k hk => Nat.lt_of_lt_of_le (h.lt k hk) hs, h.own, mb, aft, rs, hb', ha, hf.turned hb hk, hd⟩
theorem set_other (w : World) (g i : Nat) (v : Value) : ∀ k, k ≠ g → (w.setCell ⟨g, i, none⟩ v).heap[k]? = w.heap[k]? := fun k hk => Below.heap_setCell w _ v k hk
theorem set_size (w : World) (p : Addr) (v : Value) : (w.setCell p v).heap.size = w.heap.size := by simp [World.setCell]
end Go.Proofs.YtiabfngiibabcaaGreatDoor

set_option linter.unusedVariables false
set_option linter.unusedSimpArgs false
namespace Go.Proofs.YtiabfngiibabcaaGreatDoor
open Go.RowKit

def quotableB (n : Int) : Bool := decide (0 ≤ n) && decide (n ≤ 16777216)
def signB (c : UInt8) : Bool := (decide (97 ≤ c.toNat) && decide (c.toNat ≤ 122)) || (decide (48 ≤ c.toNat) && decide (c.toNat ≤ 57)) || c.toNat == 46 || c.toNat == 47 || c.toNat == 45 || c.toNat == 95
def namedB (l : List UInt8) : Bool := l.all signB && decide (1 ≤ l.length) && decide (l.length ≤ 60)
def wrap1 (n : Int) : Int := wrap64 (n + 1)

def Dr.new (q : Int) : Dr := ⟨[], q, 0, false, -1⟩
/-- A deed that is tried: the error, and what the drive is behind it but for the deed itself. -/
def Dr.may (d : Dr) (e : Int) : Dr × Int :=
  if d.down then (d, 13) else if e ≠ 0 then (d, e) else if d.left = 0 then ({ d with down := true, left := -1 }, 13) else ({ d with left := if 0 ≤ d.left then d.left - 1 else -1, deeds := wrap1 d.deeds }, 0)
def Dr.deed (d : Dr) (e : Int) (f : Dr → Dr) : Dr × Int := if (d.may e).2 = 0 then (f (d.may e).1, 0) else d.may e
def Dr.thereE (d : Dr) (name : Key) : Int := if (kget d.files name).isSome then 0 else 10
def Dr.createE (d : Dr) (name : Key) : Int := if !namedB name then 1 else if (kget d.files name).isSome then 11 else if 65536 ≤ d.files.length then 12 else 0
def Dr.create (d : Dr) (name : Key) : Dr × Int := d.deed (d.createE name) fun d => { d with files := kput d.files name ⟨[], []⟩ }
def Dr.appendE (d : Dr) (name : Key) (n : Nat) : Int := if d.thereE name = 0 ∧ d.quota - d.used < n then 12 else d.thereE name
def fileOf (d : Dr) (name : Key) : File := (kget d.files name).getD ⟨[], []⟩
def Dr.append (d : Dr) (name : Key) (data : List UInt8) : Dr × Int := d.deed (d.appendE name data.length) fun d => { d with files := kset d.files name ⟨(fileOf d name).safe, (fileOf d name).pieces ++ [data]⟩ }
def Dr.sync (d : Dr) (name : Key) : Dr × Int := d.deed (d.thereE name) fun d => { d with files := kput d.files name ⟨(fileOf d name).all, []⟩ }
def Dr.remove (d : Dr) (name : Key) : Dr × Int := d.deed (d.thereE name) fun d => { d with files := kdel d.files name }
def Dr.renameE (d : Dr) (a b : Key) : Int := if d.thereE a = 0 ∧ !namedB b then 1 else d.thereE a
def Dr.rename (d : Dr) (a b : Key) : Dr × Int := d.deed (d.renameE a b) fun d => { d with files := kput (kdel d.files a) b (fileOf d a) }
def Dr.readE (d : Dr) (name : Key) : Int := if d.down then 13 else d.thereE name
def Dr.read (d : Dr) (name : Key) : List UInt8 := if d.readE name = 0 then (fileOf d name).all else []
def Dr.arm (d : Dr) (n : Int) : Dr := { d with left := if 0 ≤ n then n else -1 }
def Dr.quotaE (d : Dr) (n : Int) : Int := if d.down then 13 else if quotableB n then 0 else 1
def Dr.setQuota (d : Dr) (n : Int) : Dr := if d.quotaE n = 0 then { d with quota := n } else d

/-- What holds of every drive; N bounds the pieces of a file. -/
structure Dr.Ok (N : Nat) (d : Dr) : Prop where
  q0 : 0 ≤ d.quota
  q1 : d.quota ≤ 16777216
  used : d.used ≤ 16777216
  files : d.files.length ≤ 65536
  keys : ∀ p ∈ d.files, namedB p.1 = true
  rising : d.files.Pairwise fun p q => bytesBefore p.1 q.1 = true
  few : ∀ p ∈ d.files, p.2.pieces.length ≤ N
  left : -1 ≤ d.left ∧ d.left ≤ 9223372036854775807
end Go.Proofs.YtiabfngiibabcaaGreatDoor

set_option linter.unusedVariables false
set_option linter.unusedSimpArgs false
namespace Go.Proofs.YtiabfngiibabcaaGreatDoor
open Go.RowKit Go.WideMaps Go.ChangeMaps Go.WideAt Go.WideShapes

section
variable {α : Type}
def Rising (m : List (Key × α)) : Prop := m.Pairwise fun p q => bytesBefore p.1 q.1 = true
theorem Rising.ne {m : List (Key × α)} (h : Rising m) : m.Pairwise fun p q => p.1 ≠ q.1 :=
  List.Pairwise.imp (fun {p q} hpq he => by
    have h2 : bytesBefore p.1 q.1 = true := hpq
    rw [he, bytes_irrefl] at h2
    cases h2) h
theorem Rising.del {m : List (Key × α)} (h : Rising m) (k : Key) : Rising (kdel m k) := List.Pairwise.filter _ h
theorem Rising.ins {m : List (Key × α)} (h : Rising m) (k : Key) (v : α) (hn : ∀ p ∈ m, p.1 ≠ k) : Rising (kins k v m) := by
  induction m with
  | nil => exact List.pairwise_singleton _ _
  | cons y r ih =>
    have h1 := List.pairwise_cons.1 h
    unfold kins
    split
    · rename_i hb
      refine List.pairwise_cons.2 ⟨fun p hp => ?_, h⟩
      rcases List.mem_cons.1 hp with rfl | hp
      · exact hb
      · exact bytes_trans _ _ _ hb (h1.1 p hp)
    · rename_i hb
      refine List.pairwise_cons.2 ⟨fun p hp => ?_, ih h1.2 (fun p hp => hn p (by simp [hp]))⟩
      rcases mem_kins.1 hp with rfl | hp
      · rcases bytes_total k y.1 (fun e => hn y (by simp) e.symm) with h2 | h2
        · exact absurd h2 hb
        · exact h2
      · exact h1.1 p hp
theorem Rising.put {m : List (Key × α)} (h : Rising m) (k : Key) (v : α) : Rising (kput m k v) := (h.del k).ins k v fun p hp => (mem_kdel.1 hp).2
theorem Rising.set {m : List (Key × α)} (h : Rising m) (k : Key) (v : α) : Rising (kset m k v) := by
  unfold kset Rising
  rw [List.pairwise_map]
  refine List.Pairwise.imp (fun {p q} hpq => ?_) h
  split <;> split <;> exact hpq
theorem kget_none {m : List (Key × α)} {k : Key} (h : kget m k = none) : ∀ p ∈ m, p.1 ≠ k := by
  unfold kget at h
  simp only [Option.map_eq_none_iff, List.find?_eq_none] at h
  intro p hp e
  have := h p hp
  simp [e] at this
theorem kdel_none {m : List (Key × α)} {k : Key} (h : kget m k = none) : kdel m k = m := by
  unfold kdel
  rw [List.filter_eq_self]
  intro p hp
  simpa using kget_none h p hp
theorem kget_del (m : List (Key × α)) (k : Key) : kget (kdel m k) k = none := by
  unfold kget
  simp only [Option.map_eq_none_iff, List.find?_eq_none]
  intro p hp
  simpa using (mem_kdel.1 hp).2
theorem kget_of_mem {m : List (Key × α)} (h : Rising m) {k : Key} {v : α} (hm : (k, v) ∈ m) : kget m k = some v := by
  induction m with
  | nil => simp at hm
  | cons y r ih =>
    have h1 := List.pairwise_cons.1 h.ne
    unfold kget
    rcases List.mem_cons.1 hm with rfl | hm
    · simp
    · have : (y.1 == k) = false := by simpa using h1.1 _ hm
      simp only [List.find?_cons, this]
      exact ih (List.pairwise_cons.1 h).2 hm
theorem kget_iff {m : List (Key × α)} (h : Rising m) {k : Key} {v : α} : kget m k = some v ↔ (k, v) ∈ m := ⟨kget_some, kget_of_mem h⟩
theorem kget_put_self {m : List (Key × α)} (h : Rising m) (k : Key) (v : α) : kget (kput m k v) k = some v := kget_of_mem (h.put k v) (mem_kput.2 (.inl rfl))
theorem kget_eq_of {m n : List (Key × α)} (hm : Rising m) (hn : Rising n) (k : Key) (h : ∀ v, (k, v) ∈ m ↔ (k, v) ∈ n) : kget m k = kget n k := by
  cases hg : kget m k with
  | none =>
    cases hg2 : kget n k with
    | none => rfl
    | some v => rw [(kget_iff hm).2 ((h v).2 ((kget_iff hn).1 hg2))] at hg; cases hg
  | some v => exact ((kget_iff hn).2 ((h v).1 ((kget_iff hm).1 hg))).symm
theorem kget_del_other {m : List (Key × α)} (h : Rising m) {k j : Key} (hne : j ≠ k) : kget (kdel m k) j = kget m j :=
  kget_eq_of (h.del k) h j fun v => by rw [mem_kdel]; simp [hne]
theorem kget_put_other {m : List (Key × α)} (h : Rising m) {k j : Key} (v : α) (hne : j ≠ k) : kget (kput m k v) j = kget m j :=
  kget_eq_of (h.put k v) h j fun u => by rw [mem_kput]; simp [hne]
theorem mem_kset {m : List (Key × α)} {k : Key} {v : α} {p : Key × α} : p ∈ kset m k v ↔ (∃ q ∈ m, q.1 = k ∧ p = (k, v)) ∨ (p ∈ m ∧ p.1 ≠ k) := by
  unfold kset
  rw [List.mem_map]
  constructor
  · rintro ⟨q, hq, rfl⟩
    by_cases he : q.1 = k
    · subst he; exact .inl ⟨q, hq, rfl, by simp⟩
    · have : (q.1 == k) = false := by simpa using he
      simp only [this]
      exact .inr ⟨hq, he⟩
  · rintro (⟨q, hq, he, rfl⟩ | ⟨hp, hne⟩)
    · exact ⟨q, hq, by simp [he]⟩
    · exact ⟨p, hp, by simp [hne]⟩
theorem kget_set_self {m : List (Key × α)} (h : Rising m) {k : Key} (v : α) {u : α} (hg : kget m k = some u) : kget (kset m k v) k = some v :=
  kget_of_mem (h.set k v) (mem_kset.2 (.inl ⟨(k, u), kget_some hg, rfl, rfl⟩))
theorem kget_set_other {m : List (Key × α)} (h : Rising m) {k j : Key} (v : α) (hne : j ≠ k) : kget (kset m k v) j = kget m j :=
  kget_eq_of (h.set k v) h j fun u => by
    rw [mem_kset]
    constructor
    · rintro (⟨q, _, _, hq⟩ | h1)
      · injection hq with h1 _; exact absurd h1 hne
      · exact h1.1
    · intro h1; exact .inr ⟨h1, hne⟩

/-! ### sums -/
variable (f : α → Nat)
def ksum (m : List (Key × α)) : Nat := (m.map fun p => f p.2).sum
theorem ksum_ins (k : Key) (v : α) (m : List (Key × α)) : ksum f (kins k v m) = f v + ksum f m := by
  induction m with
  | nil => simp [ksum, kins]
  | cons y r ih =>
    unfold kins
    split
    · simp [ksum]
    · simp only [ksum, List.map_cons, List.sum_cons] at ih ⊢; omega
theorem ksum_del {m : List (Key × α)} (h : Rising m) {k : Key} {v : α} (hg : kget m k = some v) : ksum f m = f v + ksum f (kdel m k) := by
  induction m with
  | nil => simp [kget] at hg
  | cons y r ih =>
    have h1 := List.pairwise_cons.1 h.ne
    have h2 := (List.pairwise_cons.1 h).2
    by_cases he : y.1 = k
    · have hv : y.2 = v := by
        unfold kget at hg
        simp [he] at hg
        exact hg
      have hr : kdel r k = r := by
        unfold kdel
        rw [List.filter_eq_self]
        intro p hp
        have := h1.1 p hp
        rw [he] at this
        simpa using Ne.symm this
      have : kdel (y :: r) k = r := by
        unfold kdel at hr ⊢
        simp [he, hr]
      rw [this]
      simp [ksum, hv]
    · have hb : (y.1 == k) = false := by simpa using he
      have hg2 : kget r k = some v := by
        unfold kget at hg ⊢
        simpa [List.find?_cons, hb] using hg
      have := ih h2 hg2
      have hd : kdel (y :: r) k = y :: kdel r k := by
        unfold kdel
        simp [hb]
      rw [hd]
      simp only [ksum, List.map_cons, List.sum_cons] at this ⊢
      omega
theorem ksum_put (k : Key) (v : α) (m : List (Key × α)) : ksum f (kput m k v) = f v + ksum f (kdel m k) := ksum_ins f k v _
theorem ksum_set {m : List (Key × α)} (h : Rising m) {k : Key} {v u : α} (hg : kget m k = some u) : ksum f (kset m k v) = f v + ksum f (kdel m k) := by
  have h1 := ksum_del f (h.set k v) (kget_set_self h v hg)
  have h2 : kdel (kset m k v) k = kdel m k := by
    unfold kdel kset
    rw [List.filter_map]
    have : ((fun p : Key × α => !(p.1 == k)) ∘ fun p => if p.1 == k then (p.1, v) else p) = fun p => !(p.1 == k) := by
      funext p
      simp only [Function.comp_apply]
      split <;> rfl
    rw [this]
    refine Eq.trans (List.map_congr_left (g := id) ?_) (List.map_id _)
    intro p hp
    have := (List.mem_filter.1 hp).2
    simp at this
    simp [this]
  rw [h1, h2]
end
theorem Dr.used_eq (d : Dr) : d.used = (ksum (fun f : File => f.all.length) d.files : Nat) := rfl
end Go.Proofs.YtiabfngiibabcaaGreatDoor

set_option linter.unusedVariables false
set_option linter.unusedSimpArgs false
namespace Go.Proofs.YtiabfngiibabcaaGreatDoor
open Go.RowKit Go.WideMaps Go.ChangeMaps Go.WideAt Go.WideShapes

structure Wr where
  key : List UInt8
  val : List UInt8
  gone : Bool
/-- A number's bytes, the lowest first. -/
def lowB (n : Nat) : Nat → List UInt8
  | 0 => []
  | k + 1 => lowB n k ++ [UInt8.ofNat (n / 2 ^ (8 * k))]
theorem lowB_len (n k : Nat) : (lowB n k).length = k := by
  induction k with
  | zero => rfl
  | succ k ih => simp [lowB, ih]
def wrB (x : Wr) : List UInt8 := lowB (if x.gone then 1 else 0) 1 ++ lowB x.key.length 2 ++ lowB x.val.length 4 ++ x.key ++ x.val
theorem wrB_len (x : Wr) : (wrB x).length = 7 + x.key.length + x.val.length := by
  simp [wrB, lowB_len]; omega
def bodyB (b : List Wr) : List UInt8 := (b.map wrB).flatten
theorem bodyB_nil : bodyB [] = [] := rfl
theorem bodyB_app (a b : List Wr) : bodyB (a ++ b) = bodyB a ++ bodyB b := by simp [bodyB]
theorem bodyB_snoc (b : List Wr) (x : Wr) : bodyB (b ++ [x]) = bodyB b ++ wrB x := by simp [bodyB]
def frameB (b : List Wr) : List UInt8 := lowB (bodyB b).length 4 ++ bodyB b
theorem frameB_len (b : List Wr) : (frameB b).length = 4 + (bodyB b).length := by simp [frameB, lowB_len]
def okW (x : Wr) : Bool := !(x.key == []) && decide (x.key.length ≤ 200) && decide (x.val.length ≤ 1048576) && !(x.gone && !(x.val == []))
def mayB (b : List Wr) : Bool := b.all okW
abbrev KM := List (Key × List UInt8)
def doW (m : KM) (x : Wr) : KM := if x.gone then kdel m x.key else kput m x.key x.val
def doB (m : KM) (b : List Wr) : KM := b.foldl doW m
theorem doB_snoc (m : KM) (b : List Wr) (x : Wr) : doB m (b ++ [x]) = doW (doB m b) x := by simp [doB]
theorem doW_len (m : KM) (x : Wr) : (doW m x).length ≤ m.length + 1 := by
  unfold doW
  split
  · unfold kdel
    have := List.length_filter_le (fun p : Key × List UInt8 => !(p.1 == x.key)) m
    omega
  · exact length_kput_le _ _ _
theorem doB_len (m : KM) (b : List Wr) : (doB m b).length ≤ m.length + b.length := by
  induction b generalizing m with
  | nil => simp [doB]
  | cons x b ih =>
    have h1 := ih (doW m x)
    have h2 := doW_len m x
    simp only [doB, List.foldl_cons, List.length_cons] at *
    omega
/-- A write, cut. -/
def cutW (x : Wr) : Wr := ⟨x.key.take 210, x.val.take 100, x.gone⟩
def cutB (b : List Wr) : List Wr := (b.take 5).map cutW
theorem cutB_len (b : List Wr) : (cutB b).length ≤ 5 := by simp [cutB]; omega
theorem cutB_mem {b : List Wr} {x : Wr} (h : x ∈ cutB b) : x.key.length ≤ 210 ∧ x.val.length ≤ 100 := by
  simp only [cutB, List.mem_map] at h
  obtain ⟨y, -, rfl⟩ := h
  simp [cutW]
  omega
theorem bodyB_le {b : List Wr} {k v : Nat} (h : ∀ x ∈ b, x.key.length ≤ k ∧ x.val.length ≤ v) : (bodyB b).length ≤ b.length * (7 + k + v) := by
  induction b with
  | nil => simp [bodyB]
  | cons x b ih =>
    have h1 := h x (by simp)
    have h2 := ih fun y hy => h y (by simp [hy])
    have h3 := wrB_len x
    have e : (bodyB (x :: b)).length = (wrB x).length + (bodyB b).length := by simp [bodyB]
    rw [e, List.length_cons, Nat.succ_mul]
    omega
/-! the document's list: keys rising -/
def wOf (p : Key × List UInt8) : Wr := ⟨p.1, p.2, false⟩
def oneR (l : List Wr) (w : Wr) (dn : Bool) : List Wr := match l with
  | [] => if dn then [] else [w]
  | y :: r =>
    let ins := !dn && !bytesBefore y.key w.key
    (if ins then [w] else []) ++ (if y.key = w.key then [] else [y]) ++ oneR r w (dn || ins)
def doR (l : List Wr) (b : List Wr) : List Wr := b.foldl (fun l w => oneR l w w.gone) l
theorem oneR_true (w : Wr) (m : KM) : oneR (m.map wOf) w true = (kdel m w.key).map wOf := by
  induction m with
  | nil => rfl
  | cons y r ih =>
    rw [List.map_cons]
    unfold oneR
    simp only [Bool.not_true, Bool.false_and, Bool.false_eq_true, if_false, List.nil_append, Bool.true_or]
    rw [ih]
    unfold kdel
    by_cases h : y.1 = w.key
    · simp [wOf, h]
    · simp [wOf, h]
theorem kins_first {k : Key} {v : List UInt8} {m : KM} (h : ∀ p ∈ m, bytesBefore k p.1 = true) : kins k v m = (k, v) :: m := by
  cases m with
  | nil => rfl
  | cons y r => unfold kins; rw [if_pos (h y (by simp))]
theorem oneR_put (k v : List UInt8) (m : KM) (hr : Rising m) : oneR (m.map wOf) ⟨k, v, false⟩ false = (kput m k v).map wOf := by
  induction m with
  | nil => rfl
  | cons y r ih =>
    have hr' := List.pairwise_cons.1 hr
    rw [List.map_cons]
    unfold oneR
    by_cases hb : bytesBefore y.1 k = true
    · have hne : y.1 ≠ k := by
        intro e
        rw [e, bytes_irrefl] at hb
        cases hb
      have hnb : ¬ bytesBefore k y.1 = true := fun h => by
        have := bytes_trans _ _ _ hb h
        rw [bytes_irrefl] at this
        cases this
      have e1 : kput (y :: r) k v = y :: kput r k v := by
        unfold kput kdel
        rw [List.filter_cons_of_pos (by simp [hne])]
        conv => lhs; unfold kins
        rw [if_neg hnb]
      have hb' : bytesBefore (wOf y).key k = true := hb
      have hne' : ¬ (wOf y).key = k := hne
      simp only [hb', Bool.not_true, Bool.and_false, Bool.false_eq_true, if_false, List.nil_append, Bool.false_or, hne', ih hr'.2, e1, List.map_cons]
      rfl
    · have hb' : bytesBefore (wOf y).key k = false := by cases h : bytesBefore (wOf y).key k with | false => rfl | true => exact absurd h hb
      have hall : ∀ p ∈ kdel (y :: r) k, bytesBefore k p.1 = true := by
        intro p hp
        obtain ⟨h1, h2⟩ := mem_kdel.1 hp
        rcases List.mem_cons.1 h1 with rfl | h1
        · rcases bytes_total k p.1 (fun e => h2 e.symm) with h | h
          · exact h
          · exact absurd h hb
        · have h3 := hr'.1 p h1
          by_cases he : y.1 = k
          · rw [← he]; exact h3
          · rcases bytes_total k y.1 (fun e => he e.symm) with h | h
            · exact bytes_trans _ _ _ h h3
            · exact absurd h hb
      have e1 : kput (y :: r) k v = (k, v) :: kdel (y :: r) k := by unfold kput; exact kins_first hall
      simp only [hb', Bool.not_false, Bool.and_self, if_true, Bool.or_true, e1, List.map_cons, oneR_true]
      unfold kdel
      by_cases he : y.1 = k
      · simp [wOf, he]
      · simp [wOf, he]
theorem oneR_do (m : KM) (hr : Rising m) (w : Wr) : oneR (m.map wOf) w w.gone = (doW m w).map wOf := by
  unfold doW
  cases hg : w.gone with
  | true => exact oneR_true w m
  | false =>
    have : w = ⟨w.key, w.val, false⟩ := by cases w; simp_all
    rw [this]
    exact oneR_put _ _ m hr
theorem doW_rising {m : KM} (hr : Rising m) (w : Wr) : Rising (doW m w) := by
  unfold doW
  split
  · exact hr.del _
  · exact hr.put _ _
theorem doR_do (b : List Wr) : ∀ m : KM, Rising m → doR (m.map wOf) b = (doB m b).map wOf ∧ Rising (doB m b) := by
  induction b with
  | nil => intro m hr; exact ⟨rfl, hr⟩
  | cons x b ih =>
    intro m hr
    have := ih (doW m x) (doW_rising hr x)
    simp only [doR, doB, List.foldl_cons] at *
    rw [oneR_do m hr x]
    exact this
end Go.Proofs.YtiabfngiibabcaaGreatDoor
