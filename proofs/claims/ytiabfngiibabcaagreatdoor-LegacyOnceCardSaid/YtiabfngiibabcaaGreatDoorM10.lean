/- Walks of package kv: load where there is no file. Walks of package kv: what Open calls. strings.Trim at a store's letters. Walk of kv.Open on a drive without the store's files. Walk of kv.load where there is a file of frames. -/
import Derived.Test.YtiabfngiibabcaaGreatDoorM09
import Derived.Deep.RegionHeld3
import Derived.Test.YtiabfngiibabcaaGreatDoorM05
import Derived.Test.YtiabfngiibabcaaGreatDoorM01
import Derived.Test.YtiabfngiibabcaaGreatDoorM04
import Derived.Stop.RegionWithIn
import Derived.Maps.AppendAt
set_option linter.unusedVariables false
set_option linter.unusedSimpArgs false
set_option maxHeartbeats 6400000
set_option maxRecDepth 100000
namespace Go.Proofs.YtiabfngiibabcaaGreatDoor
open Go.RowKit

def storeCells (g : Nat) (name : Key) (mb : Nat) (dead : Bool) : Array Value := #[.pointer (some ⟨g, 0, none⟩), .string (S name), .map (some mb), .bool dead]
theorem below_drew1 {w w' : World} {n : Nat} (h : Below n w w') : Below n w w'.drew := below_drewN h 1
theorem box1 {W : World} {x : Nat} {t : TypeId} {a : Value} (h : Blk W x t #[a]) : W.cell? ⟨x, 0, none⟩ = some a := h.cell 0
theorem store4 {W : World} {sb g mb : Nat} {name : Key} {dead : Bool} (h : Blk W sb 140 (storeCells g name mb dead)) :
    W.cell? ⟨sb, 0, none⟩ = some (.pointer (some ⟨g, 0, none⟩)) ∧ W.cell? ⟨sb, 1, none⟩ = some (.string (S name)) ∧ W.cell? ⟨sb, 2, none⟩ = some (.map (some mb)) ∧ W.cell? ⟨sb, 3, none⟩ = some (.bool dead) :=
  ⟨h.cell 0, h.cell 1, h.cell 2, h.cell 3⟩
section
variable {w0 : Fr} {W : World} {g N mb sb : Nat} {d : Dr} {X : List Xc} {m : KM} {name : Key} {dead : Bool}
theorem kv_load_none (h : MW w0 g d N X mb m W) (hs : (sb, 140, storeCells g name mb dead) ∈ X) (en : List UInt8) (hN : N ≤ 1000000000) (hn : name.length ≤ 1000) (he : en.length ≤ 1000) (hE : d.readE (fileN name en) = 10) :
    Calls Tryz.prog 76 #[.pointer (some ⟨sb, 0, none⟩), .string (S en)] W fun e w' => e = .returned (.int .i64 0) ∧ Below W.heap.size W w' ∧ MW w0 g d N X mb m w' := by
  have hb2 : Below W.heap.size W ((W.alloc (.cells #[.pointer (some ⟨sb, 0, none⟩)] 43)).alloc (.cells #[.int .i64 0] 26)) := ((Below.refl _ _).alloc (Nat.le_refl _) _).alloc (by simp) _
  have hbd := below_drew1 hb2
  have M2 := h.below hbd
  have RD := M2.read hN (fileN name en) (by unfold fileN; simp; omega)
  rw [hE] at RD
  obtain ⟨s0, s1, s2, s3⟩ := store4 (M2.blk hs)
  have hB := (((Blk.new W 43 #[.pointer (some ⟨sb, 0, none⟩)]).alloc (.cells #[.int .i64 0] 26)).drew)
  have hbox := box1 hB
  have HBX := hid hB
  have hres := hid ((Blk.new (W.alloc (.cells #[.pointer (some ⟨sb, 0, none⟩)] 43)) 26 #[.int .i64 0]).drew)
  have RDH := hid RD
  have HB2 := hid hbd
  have HSB := hid (fun (W' : World) (h : MW w0 g d N X mb m W') => store4 (h.blk hs))
  have HMW := hid h
  clear hB RD M2 hb2 hbd h hE
  go_enter Tryz.func76, Tryz.ntmps76
  go_wp2
  go_region_held3 (fun w' => w'.cell? ⟨W.heap.size, 0, none⟩ = some (.pointer (some ⟨sb, 0, none⟩)) ∧ w'.cell? ⟨sb, 0, none⟩ = some (.pointer (some ⟨g, 0, none⟩))) (simp [*, go_sem, World.cell?_alloc_past]) (first
    | (go_at_call 80; refine (kv_file _ sb name en (by assumption) hn he).mono ?_; rintro e w' ⟨rfl, rfl⟩)
    | (go_at_call 139; refine RDH.out.mono ?_; rintro e w3 ⟨v, rfl, hr3, hb3, hM3⟩; have hq := box1 (HBX.out.below hb3 HBX.out.lt); obtain ⟨s0', s1', s2', s3'⟩ := HSB.out _ hM3))
  have hR3 := hres.out.below hb3 hres.out.lt
  have hr0 : w3.cell? ⟨W.heap.size + 1, 0, none⟩ = some (.int .i64 0) := by simpa using box1 hR3
  have hf0 : w3.frozen? ⟨W.heap.size + 1, 0, none⟩ = false := by simpa using hR3.frozen 0
  have hS3 : Blk (w3.setCell ⟨W.heap.size + 1, 0, none⟩ (.int .i64 0)) (W.heap.size + 1) 26 #[.int .i64 0] := by simpa using hR3.set_ 0 (.int .i64 0)
  have e0 := box1 hS3
  have hbb : Below W.heap.size W (w3.setCell ⟨W.heap.size + 1, 0, none⟩ (.int .i64 0)) := (bt HB2.out hb3).setCell (p := ⟨W.heap.size + 1, 0, none⟩) (by simp) _
  have HF := hid hbb
  clear hbb hS3 hR3 hr3
  go_wp2
  refine bodyPost_ret (v := .int .i64 0) (by simp [results, Tryz.results76, go_sem, e0]) rfl ⟨rfl, HF.out, HMW.out.below HF.out⟩
end
end Go.Proofs.YtiabfngiibabcaaGreatDoor

set_option linter.unusedVariables false
set_option linter.unusedSimpArgs false
set_option maxHeartbeats 6400000
set_option maxRecDepth 100000
namespace Go.Proofs.YtiabfngiibabcaaGreatDoor
open Go.RowKit

def baseN : List UInt8 := [98, 97, 115, 101]
def logN : List UInt8 := [108, 111, 103]
section
variable {w0 : Fr} {W : World} {g N mb sb b7 b2 : Nat} {d : Dr} {X : List Xc} {m : KM} {name : Key} {dead : Bool}
theorem kv_open1 (h : MW w0 g d N X mb m W) (hs : (sb, 140, storeCells g name mb dead) ∈ X) (h7 : (b7, 43, #[.pointer (some ⟨sb, 0, none⟩)]) ∈ X) (hN : N ≤ 1000000000) (hn : name.length ≤ 1000) (hE : d.readE (fileN name baseN) = 10) :
    Calls Tryz.prog 75 #[.pointer (some ⟨b7, 0, none⟩)] W fun e w' => e = .returned (.int .i64 0) ∧ Below W.heap.size W w' ∧ MW w0 g d N X mb m w' := by
  have c7 := box1 (h.blk h7)
  have L := hid (kv_load_none h hs baseN hN hn (by decide) hE)
  unfold baseN at L
  go_enter Tryz.func75, Tryz.ntmps75
  go_wp2_with fail
  refine L.out.mono ?_
  rintro e w' ⟨rfl, hb, hM⟩
  go_wp2
  go_ret
  exact ⟨rfl, hb, hM⟩
theorem kv_open2 (h : MW w0 g d N X mb m W) (hs : (sb, 140, storeCells g name mb dead) ∈ X) (h7 : (b7, 43, #[.pointer (some ⟨sb, 0, none⟩)]) ∈ X) (hN : N ≤ 1000000000) (hn : name.length ≤ 1000) (hE : d.readE (fileN name logN) = 10) :
    Calls Tryz.prog 77 #[.pointer (some ⟨b7, 0, none⟩)] W fun e w' => e = .returned (.int .i64 0) ∧ Below W.heap.size W w' ∧ MW w0 g d N X mb m w' := by
  have c7 := box1 (h.blk h7)
  have L := hid (kv_load_none h hs logN hN hn (by decide) hE)
  unfold logN at L
  go_enter Tryz.func77, Tryz.ntmps77
  go_wp2_with fail
  refine L.out.mono ?_
  rintro e w' ⟨rfl, hb, hM⟩
  go_wp2
  go_ret
  exact ⟨rfl, hb, hM⟩
theorem kv_open3 (h : MW w0 g d N X mb m W) (hs : (sb, 140, storeCells g name mb dead) ∈ X) (h7 : (b7, 43, #[.pointer (some ⟨sb, 0, none⟩)]) ∈ X) (h2 : (b2, 23, #[.pointer (some ⟨g, 0, none⟩)]) ∈ X) (hn : name.length ≤ 1000) (hE : (d.create (fileN name logN)).2 ≠ 11) :
    Calls Tryz.prog 78 #[.pointer (some ⟨b2, 0, none⟩), .pointer (some ⟨b7, 0, none⟩)] W fun e w' => e = .returned (.int .i64 (d.create (fileN name logN)).2) ∧ MW w0 g (d.create (fileN name logN)).1 N X mb m w' := by
  have M2 : MW w0 g d N X mb m W.drew := h.below (below_drew1 (Below.refl _ _))
  have c7 := box1 (M2.blk h7)
  have c2 := box1 (M2.blk h2)
  obtain ⟨s0, s1, s2, s3⟩ := store4 (M2.blk hs)
  have CR := hid (M2.create (fileN name logN) (by unfold fileN logN; simp; omega))
  have k0 : ((d.create (fileN name logN)).2 == 11) = false := beq_eq_false_iff_ne.2 hE
  have FL := hid (fun W' (hc : W'.cell? ⟨sb, 1, none⟩ = some (.string (S name))) => kv_file W' sb name logN hc hn (by decide))
  generalize (d.create (fileN name logN)).1 = d' at *
  generalize (d.create (fileN name logN)).2 = x at *
  generalize fileN name logN = fl at *
  unfold logN at FL
  clear h M2 hE
  go_enter Tryz.func78, Tryz.ntmps78
  go_wp2
  go_region_held3 (fun w' => w'.cell? ⟨b2, 0, none⟩ = some (.pointer (some ⟨g, 0, none⟩)) ∧ w'.cell? ⟨b7, 0, none⟩ = some (.pointer (some ⟨sb, 0, none⟩))) (simp [*, go_sem, World.cell?_alloc_past]) (first
    | (go_at_call 80; refine (FL.out _ (by assumption)).mono ?_; rintro e w' ⟨rfl, rfl⟩)
    | (go_at_call 79; refine CR.out.mono ?_; rintro e w3 ⟨rfl, hM3⟩; have y1 := box1 (hM3.blk h2); have y2 := box1 (hM3.blk h7)))
  all_goals
    go_wp2
    go_ret
    exact ⟨rfl, hM3⟩
end
end Go.Proofs.YtiabfngiibabcaaGreatDoor

set_option linter.unusedVariables false
set_option linter.unusedSimpArgs false
set_option maxHeartbeats 1600000
set_option maxRecDepth 100000
namespace Go.Proofs.YtiabfngiibabcaaGreatDoor
open Go.RowKit

def abcT : List UInt8 := [97, 98, 99, 100, 101, 102, 103, 104, 105, 106, 107, 108, 109, 110, 111, 112, 113, 114, 115, 116, 117, 118, 119, 120, 121, 122]
theorem str_Trim_abc (l : List UInt8) (hl : l.length ≤ 1000) (w : World) : Calls Tryz.prog 73 #[.string (S l), .string (S abcT)] w fun e w' => e = .returned (.string (S (Lib.trimS l abcT))) ∧ Below w.heap.size w w' := by
  refine (Any.strings_Trim_laid layTrim (by kernel_rfl) (S l) (S abcT) w (by rw [S_size]; omega) (by rw [S_size]; decide) ?_).mono ?_
  · intro j b hb
    have hm : b ∈ abcT := by
      rw [S_toList] at hb
      exact List.mem_of_getElem? hb
    have : ∀ x ∈ abcT, x.toNat < 128 := by decide
    exact this b hm
  · rintro e w' ⟨rfl, h⟩
    rw [S_toList, S_toList]
    exact ⟨rfl, h⟩
theorem dropAll {α : Type} {p : α → Bool} {l : List α} (h : ∀ c ∈ l, p c = true) : l.dropWhile p = [] := by
  induction l with
  | nil => rfl
  | cons a r ih =>
    rw [List.dropWhile_cons, if_pos (h a (by simp))]
    exact ih fun c hc => h c (by simp [hc])
theorem trimS_all {l : List UInt8} (h : ∀ c ∈ l, abcT.contains c = true) : Lib.trimS l abcT = [] := by
  have h1 : Lib.trimRightS l abcT = [] := by
    unfold Lib.trimRightS
    rw [List.reverse_eq_nil_iff]
    exact dropAll fun c hc => h c (List.mem_reverse.1 hc)
  unfold Lib.trimS
  rw [h1]
  rfl
end Go.Proofs.YtiabfngiibabcaaGreatDoor

set_option linter.unusedVariables false
set_option linter.unusedSimpArgs false
set_option maxHeartbeats 6400000
set_option maxRecDepth 100000
namespace Go.Proofs.YtiabfngiibabcaaGreatDoor
open Go.RowKit

section
variable {w0 : Fr} {W : World} {g N : Nat} {d : Dr} {X : List Xc} {name : Key}
theorem kv_Open_new (h : FW w0 g d N X W) (hN : N ≤ 1000000000) (hn : name ≠ []) (hl : name.length ≤ 20) (ha : ∀ c ∈ name, abcT.contains c = true) (hd : d.down = false) (hB : d.readE (fileN name baseN) = 10) (hL : d.readE (fileN name logN) = 10) (hC : (d.create (fileN name logN)).2 = 0) :
    Calls Tryz.prog 27 #[.pointer (some ⟨g, 0, none⟩), .string (S name)] W fun e w' => ∃ sb mb, e = .returned (.tuple #[.pointer (some ⟨sb, 0, none⟩), .int .i64 0]) ∧ W.heap.size ≤ sb ∧ MW w0 g (d.create (fileN name logN)).1 N ((sb, 140, storeCells g name mb false) :: X) mb [] w' := by
  have TR := hid (fun W' => str_Trim_abc name (by omega) W')
  rw [trimS_all ha] at TR
  unfold abcT at TR
  have H1 := hid (h.with_ 23 #[.pointer (some ⟨g, 0, none⟩)])
  have k0 : (name == []) = false := beq_eq_false_iff_ne.2 hn
  have hl' : (name.length : Int) ≤ 20 := by omega
  clear h ha hn
  have hmm := @run_makeMap Tryz.prog
  go_enter Tryz.func27, Tryz.ntmps27
  go_wp2_with fail
  refine (TR.out _).mono ?_
  rintro e w2 ⟨rfl, hb2⟩
  have H2 := hid (H1.out.below hb2)
  have HSZ := hid (show W.heap.size ≤ w2.heap.size by have := hb2.size; simp at this; omega)
  have c2 := box1 (H2.out.blk (x := (W.heap.size, 23, #[.pointer (some ⟨g, 0, none⟩)])) (by simp))
  obtain ⟨fp, D2, -⟩ := H2.out
  have AL := hid (drive_Alive D2)
  rw [hd] at AL
  go_wp2_with fail
  refine AL.out.mono ?_
  rintro e w3 ⟨rfl, rfl⟩
  have H3 := H2.out.newMap
  have H4 : MW w0 g d N ((w3.heap.size + 1, 140, storeCells g name w3.heap.size false) :: (W.heap.size, 23, #[.pointer (some ⟨g, 0, none⟩)]) :: X) w3.heap.size [] ((w3.alloc (.map #[] 0)).alloc (.cells (storeCells g name w3.heap.size false) 140)) := by
    simpa using H3.with_ 140 (storeCells g name w3.heap.size false)
  have H5 := H4.with_ 43 #[.pointer (some ⟨w3.heap.size + 1, 0, none⟩)]
  have H6 := H5.with_ 143 #[.func (.func 75) #[] #[.pointer (some ⟨w3.heap.size + 1 + 1, 0, none⟩)], .func (.func 77) #[] #[.pointer (some ⟨w3.heap.size + 1 + 1, 0, none⟩)], .func (.func 78) #[] #[.pointer (some ⟨W.heap.size, 0, none⟩), .pointer (some ⟨w3.heap.size + 1 + 1, 0, none⟩)]]
  simp only [show ((w3.alloc (.map #[] 0)).alloc (.cells (storeCells g name w3.heap.size false) 140)).heap.size = w3.heap.size + 1 + 1 by simp, show (((w3.alloc (.map #[] 0)).alloc (.cells (storeCells g name w3.heap.size false) 140)).alloc (.cells #[.pointer (some ⟨w3.heap.size + 1, 0, none⟩)] 43)).heap.size = w3.heap.size + 1 + 1 + 1 by simp] at H6
  have H6H := hid H6
  have HH := hid (show d.readE (fileN name baseN) = 10 ∧ d.readE (fileN name logN) = 10 ∧ (d.create (fileN name logN)).2 = 0 from ⟨hB, hL, hC⟩)
  clear H3 H4 H5 H6 hB hL hC
  have FI := hid (kv_first _ (some ⟨w3.heap.size + 1 + 1 + 1, 0, none⟩) 3 [(75, #[.pointer (some ⟨w3.heap.size + 1 + 1, 0, none⟩)]), (77, #[.pointer (some ⟨w3.heap.size + 1 + 1, 0, none⟩)]), (78, #[.pointer (some ⟨W.heap.size, 0, none⟩), .pointer (some ⟨w3.heap.size + 1 + 1, 0, none⟩)])]
    (fun i W' => MW w0 g (if i = 3 then (d.create (fileN name logN)).1 else d) N _ w3.heap.size [] W') (fun _ _ => False) (by simp) H6H.out
    (fun i hi W' => by
      have : i = 0 ∨ i = 1 ∨ i = 2 := by simp at hi; omega
      rcases this with rfl | rfl | rfl
      · exact Go.MuLone.run_callFunc_enter Tryz.func75 (by kernel_rfl) rfl _ W'
      · exact Go.MuLone.run_callFunc_enter Tryz.func77 (by kernel_rfl) rfl _ W'
      · exact Go.MuLone.run_callFunc_enter Tryz.func78 (by kernel_rfl) rfl _ W')
    (fun i W' hi hI => by
      have hb := hI.blk (List.mem_cons_self ..)
      have : i = 0 ∨ i = 1 ∨ i = 2 := by simp at hi; omega
      rcases this with rfl | rfl | rfl
      · exact ⟨_, _, rfl, hb.cell 0⟩
      · exact ⟨_, _, rfl, hb.cell 1⟩
      · exact ⟨_, _, rfl, hb.cell 2⟩)
    (fun i W' hi hI => by
      have : i = 0 ∨ i = 1 ∨ i = 2 := by simp at hi; omega
      rcases this with rfl | rfl | rfl
      · refine (kv_open1 (sb := w3.heap.size + 1) (name := name) (dead := false) hI (by simp) (by simp) hN (by omega) HH.out.1).mono ?_
        rintro e w' ⟨rfl, -, hM⟩
        exact ⟨0, rfl, .inl ⟨rfl, hM⟩⟩
      · refine (kv_open2 (sb := w3.heap.size + 1) (name := name) (dead := false) hI (by simp) (by simp) hN (by omega) HH.out.2.1).mono ?_
        rintro e w' ⟨rfl, -, hM⟩
        exact ⟨0, rfl, .inl ⟨rfl, hM⟩⟩
      · refine (kv_open3 (sb := w3.heap.size + 1) (name := name) (dead := false) hI (by simp) (by simp) (by simp) (by omega) (by rw [show (if (2 : Nat) = 3 then (d.create (fileN name logN)).1 else d) = d from rfl, HH.out.2.2]; decide)).mono ?_
        rintro e w' ⟨rfl, hM⟩
        exact ⟨0, by rw [show (if (2 : Nat) = 3 then (d.create (fileN name logN)).1 else d) = d from rfl, HH.out.2.2], .inl ⟨rfl, hM⟩⟩))
  go_wp2_with fail
  refine FI.out.mono ?_
  rintro e w4 ⟨x, rfl, hx⟩
  rcases hx with ⟨rfl, hM⟩ | ⟨-, hF⟩
  · have HM := hid hM
    have c7 := box1 (hM.blk (x := (w3.heap.size + 1 + 1, 43, #[.pointer (some ⟨w3.heap.size + 1, 0, none⟩)])) (by simp))
    clear hM
    go_wp2
    go_ret2
    exact ⟨_, _, rfl, by have := HSZ.out; omega, HM.out.sub fun x hx => by
      rcases List.mem_cons.1 hx with rfl | hx
      · simp
      · simp [hx]⟩
  · cases hF
end
end Go.Proofs.YtiabfngiibabcaaGreatDoor

set_option linter.unusedVariables false
set_option linter.unusedSimpArgs false
set_option maxHeartbeats 6400000
set_option maxRecDepth 100000
namespace Go.Proofs.YtiabfngiibabcaaGreatDoor
open Go Go.RowKit
attribute [local go_sem] Oper.semAt_some

/-- A row of bytes, as the iterator reads it. -/
theorem left_row {w : World} {base n c : Nat} {A : Option Addr} {l : List UInt8} (h : w.ownsRow base 5 1 (.slice A n c) l.length (l.map B8)) (hl : l.length ≤ 100000000) (x : Nat) {tx : TypeId} {cx : Array Value} (hx : Blk w x tx cx) :
    n = l.length ∧ ∃ dk, dk < w.heap.size ∧ (∃ t cs, Blk w dk t cs) ∧ Left w.heap.size dk (w.alloc (.cells #[.slice A n c] 85)) A c l := by
  have hB := bytesAt_row h
  obtain ⟨rfl, hat⟩ := hB
  refine ⟨rfl, ?_⟩
  have hb : Below w.heap.size w (w.alloc (.cells #[.slice A l.length c] 85)) := (Below.refl _ _).alloc (Nat.le_refl _) _
  rcases h.2 with ⟨h1, h2⟩ | ⟨g, cap, cur, hv, hbg, hh, hnc, hm, r⟩
  · simp only [Value.slice.injEq] at h1
    obtain ⟨rfl, h1, rfl⟩ := h1
    exact ⟨x, hx.lt, ⟨_, _, hx⟩, Blk.new _ _ _, hat.below hb, fun p hp => by simp at hp, by omega, hl⟩
  · simp only [Value.slice.injEq] at hv
    obtain ⟨rfl, -, rfl⟩ := hv
    exact ⟨g, (Array.getElem?_eq_some_iff.1 hh).1, ⟨_, _, hh⟩, Blk.new _ _ _, hat.below hb, fun p hp => by injection hp with hp; rw [← hp], by unfold maxLen at hm; omega, hl⟩
/-- A drive, blocks beside it and a map, the drive's blocks named. -/
structure LI (w0 : Fr) (g : Nat) (d : Dr) (fp : Nat → Prop) (X : List Xc) (mb : Nat) (m : KM) (A : World) : Prop where
  dr : IsDrive A g d fp
  ke : w0.kept A
  xs : ∀ x ∈ X, Blk A x.1 x.2.1 x.2.2
  mp : OwnS Tryz.prog 9 A mb m
section
variable {w0 : Fr} {g mb : Nat} {d : Dr} {fp : Nat → Prop} {X : List Xc} {m : KM} {A C : World}
theorem LI.low (h : LI w0 g d fp X mb m A) {Z : Nat} (hw : w0.w.heap.size ≤ Z) (hf : ∀ k, fp k → k < Z) (hX : ∀ x ∈ X, x.1 < Z) (hm : mb < Z) (ho : C.os = A.os) (ht : C.tape = A.tape) (hu : C.output = A.output) (hs : A.heap.size ≤ C.heap.size) (hk : ∀ k, k < Z → C.heap[k]? = A.heap[k]?) : LI w0 g d fp X mb m C :=
  ⟨h.dr.keep hs (fun k hk' => hk k (hf k hk')), ⟨ho.trans h.ke.os, ht.trans h.ke.tape, hu.trans h.ke.output, Nat.le_trans h.ke.size hs, fun k hk1 hp => (hk k (by omega)).trans (h.ke.block k hk1 hp)⟩, fun x hx => (hk x.1 (hX x hx)).trans (h.xs x hx), h.mp.kept (hk mb hm)⟩
theorem LI.did (h : LI w0 g d fp X mb m A) {m' : KM} (hm : OwnS Tryz.prog 9 C mb m') (ht : Touch A C (fun k => k = mb) (fun k => k = mb)) (hf : ¬ fp mb) (hfr : w0.free mb) : LI w0 g d fp X mb m' C :=
  ⟨h.dr.keep ht.size fun k hk => ht.block k (h.dr.lt k hk) (by rintro rfl; exact hf hk), h.ke.touch ht (fun k hk => by rw [hk]; exact hfr), fun x hx => (ht.block x.1 (h.xs x hx).lt (h.mp.not_blk (h.xs x hx))).trans (h.xs x hx), hm⟩
end
theorem kv_writes (A : Option Addr) (n c : Nat) (w : World) : Calls Tryz.prog 140 #[.slice A n c] w fun e w' => e = .returned (.func (.func 189) #[] #[.pointer (some ⟨w.heap.size, 0, none⟩)]) ∧ w' = w.alloc (.cells #[.slice A n c] 85) := by
  have hmf : ∀ (fn : Fn) (first cap : Array Value) (w : World), (Instr.makeFunc fn first cap).run Tryz.prog w = .ok (.func fn first cap) w := fun _ _ _ _ => rfl
  go_enter Tryz.func140, Tryz.ntmps140
  go_wp2
  go_ret
  exact ⟨rfl, rfl⟩
section
variable {w0 : Fr} {W : World} {g N mb sb : Nat} {d : Dr} {X : List Xc} {m : KM} {name : Key} {dead : Bool}
theorem kv_load_file (h : MW w0 g d N X mb m W) (hs : (sb, 140, storeCells g name mb dead) ∈ X) (en : List UInt8) (hN : N ≤ 1000000000) (hn : name.length ≤ 1000) (he : en.length ≤ 1000) (bs : List (List Wr)) (hE : d.readE (fileN name en) = 0) (hR : d.read (fileN name en) = framesB bs)
    (hk : ∀ x ∈ bs.flatten, 1 ≤ x.key.length ∧ x.key.length < 65536) (hbl : (framesB bs).length ≤ 100000000) (hcnt : m.length + bs.flatten.length ≤ 1000000) :
    Calls Tryz.prog 76 #[.pointer (some ⟨sb, 0, none⟩), .string (S en)] W fun e w' => e = .returned (.int .i64 0) ∧ MW w0 g d N X mb (doB m bs.flatten) w' := by
  have M1 := h.with_ 43 #[.pointer (some ⟨sb, 0, none⟩)]
  have M2a : MW w0 g d N ((W.heap.size + 1, 26, #[.int .i64 0]) :: (W.heap.size, 43, #[.pointer (some ⟨sb, 0, none⟩)]) :: X) mb m ((W.alloc (.cells #[.pointer (some ⟨sb, 0, none⟩)] 43)).alloc (.cells #[.int .i64 0] 26)) := by simpa using M1.with_ 26 #[.int .i64 0]
  have M2 := M2a.below (below_drew1 (Below.refl _ _))
  have RD := M2.read hN (fileN name en) (by unfold fileN; simp; omega)
  rw [hE, hR] at RD
  obtain ⟨s0, s1, s2, s3⟩ := store4 (M2.blk (x := (sb, 140, storeCells g name mb dead)) (by simp [hs]))
  have hbox := box1 (M2.blk (x := (W.heap.size, 43, #[.pointer (some ⟨sb, 0, none⟩)])) (by simp))
  have RDH := hid RD
  have HSB := hid (fun (W' : World) (h : MW w0 g d N ((W.heap.size + 1, 26, #[.int .i64 0]) :: (W.heap.size, 43, #[.pointer (some ⟨sb, 0, none⟩)]) :: X) mb m W') => And.intro (box1 (h.blk (x := (W.heap.size, 43, #[.pointer (some ⟨sb, 0, none⟩)])) (by simp))) (store4 (h.blk (x := (sb, 140, storeCells g name mb dead)) (by simp [hs]))))
  have HK := hid hk
  have HS := hid hs
  clear RD M2 M2a M1 h hE hR hk hs
  refine (callsIn_wide (n := 8)).1 ?_
  refine callsIn_of_wp_marks Tryz.func76 rfl trivial ?_ rfl
  simp only [Tryz.ntmps76, List.size_toArray, List.length_cons, List.length_nil, Nat.reduceAdd, Nat.reduceSub, Array.replicate_succ, Array.replicate_zero, List.push_toArray, List.append_toArray, List.nil_append, List.cons_append]
  refine wpIn_wide.2 ?_
  go_wp2
  go_region_held3 (fun w' => w'.cell? ⟨W.heap.size, 0, none⟩ = some (.pointer (some ⟨sb, 0, none⟩)) ∧ w'.cell? ⟨sb, 0, none⟩ = some (.pointer (some ⟨g, 0, none⟩))) (simp [*, go_sem, World.cell?_alloc_past]) (first
    | (go_at_call 80; refine (kv_file _ sb name en (by assumption) hn he).mono ?_; rintro e w' ⟨rfl, rfl⟩)
    | (go_at_call 139; refine RDH.out.mono ?_; rintro e w3 ⟨v, rfl, hr3, hb3, hM3⟩; obtain ⟨hq, s0', s1', s2', s3'⟩ := HSB.out _ hM3))
  obtain ⟨A, c, rfl⟩ := row_form hr3
  obtain ⟨-, dk, hdk, hdkB, hLf⟩ := left_row hr3 hbl sb (hM3.blk (x := (sb, 140, storeCells g name mb dead)) (by simp [HS.out]))
  have HLF := hid hLf
  have HM3 := hid hM3
  clear hr3 hLf hM3 hb3 RDH HSB hq s0' s1' s2' s3' hbox s0 s1 s2 s3
  go_wp2_with fail
  refine (kv_writes _ _ _ _).mono ?_
  rintro e w4 ⟨rfl, rfl⟩
  go_wp2
  obtain ⟨X', hX'⟩ : ∃ X' : List Xc, X' = ((W.heap.size + 1, 26, #[.int .i64 0]) :: (W.heap.size, 43, #[.pointer (some ⟨sb, 0, none⟩)]) :: X) := ⟨_, rfl⟩
  rw [← hX'] at HM3
  obtain ⟨fp, k1, k2, k3, k4, k5, k6, k7, k8⟩ := HM3.out
  have hb4 : Below w3.heap.size w3 (w3.alloc (.cells #[.slice A (framesB bs).length c] 85)) := (Below.refl _ _).alloc (Nat.le_refl _) _
  have L0 : LI w0 g d fp X' mb m (w3.alloc (.cells #[.slice A (framesB bs).length c] 85)) := ⟨k1.below hb4, k3.below hb4, fun x hx => (k5 x hx).2.below hb4 (k5 x hx).2.lt, k8.kept (hb4.block mb k8.lt)⟩
  have LOW := hid (fun (m' : KM) (B C : World) (hB : LI w0 g d fp X' mb m' B) (ho : C.os = B.os) (ht : C.tape = B.tape) (hu : C.output = B.output) (hs : B.heap.size ≤ C.heap.size) (hkk : ∀ k, k < w3.heap.size → C.heap[k]? = B.heap[k]?) => hB.low (Z := w3.heap.size) k3.size k1.lt (fun x hx => (k5 x hx).2.lt) k8.lt ho ht hu hs hkk)
  obtain ⟨tdk, cdk, hdkB⟩ := hdkB
  have hdm : dk ≠ mb := k8.not_blk hdkB
  have hbm : mb < w3.heap.size := k8.lt
  have hXm := hid (show (W.heap.size, 43, #[.pointer (some ⟨sb, 0, none⟩)]) ∈ X' ∧ (sb, 140, storeCells g name mb dead) ∈ X' by rw [hX']; simp [HS.out])
  have hne : dk ≠ w3.heap.size := by omega
  have LH0 := hid L0
  have HLD := hid (fun (m' : KM) (B C : World) (hB : LI w0 g d fp X' mb m' B) (m'' : KM) (hm : OwnS Tryz.prog 9 C mb m'') (ht : Touch B C (fun k => k = mb) (fun k => k = mb)) => hB.did hm ht k6 k7)
  have HKE := hid (And.intro k2 (And.intro k4 (And.intro (fun x hx => (k5 x hx).1) (And.intro k6 k7))))
  clear L0 k1 k2 k3 k4 k5 k6 k7 k8 hb4 hdkB HM3
  refine (wpIn_wide (n := 8)).1 ?_
  refine wpIn_rangeFunc_run (F := Fence.wide) rfl (by omega) (gf := 189) (lb := #[.pointer (some ⟨w3.heap.size, 0, none⟩)]) rfl trivial (enters_of Tryz.func189 (by kernel_rfl) rfl) (encs := wEnc) (bb := w3.heap.size) (Kp := WKp w3.heap.size dk) (S := fun xs => xs = bs.flatten) (Sp := fun _ => True) (Nx := fun pre x => bs.flatten[pre.length]? = some x) (by simp)
    (fun o => kv_writes1 w3.heap.size dk c A bs _ (HLF.out.keep (by simp) ((Below.heap_alloc _ _ _ (by simp; omega)).trans (Below.heap_alloc _ _ _ (by simp))) ((Below.heap_alloc _ _ _ (by simp; omega)).trans (Below.heap_alloc _ _ _ (by simp; omega)))) hne (by simp; omega) HK.out _)
    (fun h k => ⟨Nat.le_trans h.1 k.1, k.2.1.trans h.2.1, k.2.2.trans h.2.2⟩) (fun Wz l o' hl => ⟨by simp, World.putObj_heap_other (by simp at hl; omega), World.putObj_heap_other (by simp at hl; omega)⟩) (fun x => rfl)
    (fun pre Wz => LI w0 g d fp X' mb (doB m pre) Wz ∧ pre <+: bs.flatten) (fun _ _ _ => False)
    (fun p B C hB hs => ⟨LOW.out _ _ _ hB.1 hs.os hs.tape hs.output hs.size (fun k hk => hs.block k (by simp; omega) (by omega)), hB.2⟩) (fun _ _ _ _ h _ => h) ⟨LH0.out, List.nil_prefix⟩
    (fun x a' Wz => ∃ Bx, w3.heap.size + 2 < Bx ∧ Blk Wz Bx 104 #[.string (S x.key), .string (S x.val), .bool x.gone] ∧ a' = { tmps := #[.pointer (some ⟨sb, 0, none⟩), .string (S en), .pointer (some ⟨W.heap.size, 0, none⟩), undef, .pointer (some ⟨W.heap.size + 1, 0, none⟩), .slice A (framesB bs).length c, .int .i64 0, .pointer (some ⟨Bx, 0, none⟩), .bool true, .tuple #[.slice A (framesB bs).length c, .int .i64 0], .pointer (some ⟨sb, 0, none⟩), .pointer (some ⟨sb, 0, none⟩), .pointer (some ⟨sb, 0, none⟩), .pointer (some ⟨g, 0, none⟩), .pointer (some ⟨sb, 0, none⟩), .string (S en), .string (S (fileN name en)), .tuple #[.slice A (framesB bs).length c, .int .i64 0], .slice A (framesB bs).length c, .int .i64 0, .int .i64 0, .bool false, undef, undef, undef, .slice A (framesB bs).length c, .func (.func 189) #[] #[.pointer (some ⟨w3.heap.size, 0, none⟩)], .agg #[.string (S x.key), .string (S x.val), .bool x.gone], .bool true, undef, undef, undef, undef, undef, undef, undef, undef], defers := [] })
    ?hAx ?assign ?body ?done ?stop
  case hAx =>
    rintro x a' Bw r o' ⟨Bx, h1, h2, h3⟩ hl
    refine ⟨Bx, h1, ?_, h3⟩
    exact (World.putObj_heap_other (by simp at hl ⊢; omega)).trans h2
  case assign =>
    rintro l pre ⟨xk, xv, xg⟩ Wz K hsz hI hnx hK
    simp at hsz
    simp only [wEnc]
    gi_wp2
    have hbl : Below Wz.heap.size Wz (Wz.alloc (.cells #[.string (S xk), .string (S xv), .bool xg] 104)) := (Below.refl _ _).alloc (Nat.le_refl _) _
    refine hK _ _ ((KeepsOthers.alloc _ _).from _) ⟨by simp, hbl.block _ (by omega), hbl.block _ (by omega)⟩ ⟨LOW.out _ _ _ hI.1 rfl rfl rfl (by simp) (fun k hk => hbl.block k (by omega)), hI.2⟩ ⟨Wz.heap.size, by omega, Blk.new _ _ _, rfl⟩
  case body =>
    rintro l pre ⟨xk, xv, xg⟩ a' Wz hsz ⟨hLI, hpre⟩ ⟨Bx, hBx, hBk, rfl⟩ hnx
    simp at hsz
    have hc0 := box1 (hLI.xs _ hXm.out.1)
    obtain ⟨y0, y1, y2, y3⟩ := store4 (hLI.xs _ hXm.out.2)
    have z0 := hBk.cell 0
    have z1 := hBk.cell 1
    have z2 := hBk.cell 2
    simp at z0 z1 z2
    have hmem : (⟨xk, xv, xg⟩ : Wr) ∈ bs.flatten := List.mem_of_getElem? hnx
    have hkl := HK.out _ hmem
    simp only [] at hkl
    have hpl : pre.length ≤ bs.flatten.length := hpre.length_le
    have hdl := doB_len m pre
    have DO := hid (fun (Wy : World) (hy : OwnS Tryz.prog 9 Wy mb (doB m pre)) => kv_do Wy mb (doB m pre) ⟨xk, xv, xg⟩ hy (by omega) (by simp only []; omega))
    have HLI := hid hLI
    have HSN := hid (show doB m (pre ++ [⟨xk, xv, xg⟩]) = doW (doB m pre) ⟨xk, xv, xg⟩ from doB_snoc _ _ _)
    have HPN := hid (show pre ++ [(⟨xk, xv, xg⟩ : Wr)] <+: bs.flatten by
      obtain ⟨r, hr⟩ := hpre
      rw [← hr] at hnx ⊢
      rw [List.getElem?_append_right (Nat.le_refl _), Nat.sub_self] at hnx
      cases r with
      | nil => simp at hnx
      | cons y r =>
        simp at hnx
        subst hnx
        exact ⟨r, by simp⟩)
    clear hLI hpre hBk hmem hnx hdl hpl hkl y1 y3
    gi_wp2
    have hfw : Fence.wide.fn 104 := trivial
    have hfd : Fence.wide.depth.isSome = false := rfl
    have DOX := hid (CallsIn.inRound l ((callsIn_wide (n := 5)).2 (DO.out Wz.drew (HLI.out.mp.kept rfl))))
    gi_region_with (gi_at_call 104; refine DOX.out.mono ?_; rintro e w9 ⟨rfl, ho9, ht9⟩)
    all_goals
      have hsz9 := ht9.size
      have hz : Wz.drew.heap.size = Wz.heap.size := rfl
      have L9 := hid (HLD.out _ Wz.drew w9 (LOW.out _ Wz Wz.drew HLI.out rfl rfl rfl (Nat.le_refl _) (fun _ _ => rfl)) _ ho9 ht9)
      have K9 := hid (show KeepsFrom (w3.alloc (.cells #[.slice A (framesB bs).length c] 85)).heap.size Wz w9 ∧ WKp w3.heap.size dk Wz w9 from ⟨⟨hsz9, fun k o hk ho _ => (ht9.block k (Array.getElem?_eq_some_iff.1 ho).1 (by rintro rfl; simp at hk; omega)).trans ho⟩, hsz9, ht9.block _ (by omega) (by omega), ht9.block _ (by omega) (by omega)⟩)
      clear ho9 ht9
      gi_wp2
      exact ⟨K9.out.1, K9.out.2, by rw [HSN.out]; exact L9.out, HPN.out⟩
  case done =>
    rintro D ys Wz hD hys ⟨hLI, -⟩ hK
    have hbE : Blk Wz (W.heap.size + 1) 26 #[.int .i64 0] := hLI.xs (W.heap.size + 1, 26, #[.int .i64 0]) (by rw [hX']; simp)
    have r0 := hbE.cell 0
    have f0 := hbE.frozen 0
    simp at r0
    have hbS : Blk (Wz.setCell ⟨W.heap.size + 1, 0, none⟩ (.int .i64 0)) (W.heap.size + 1) 26 #[.int .i64 0] := by simpa using hbE.set_ 0 (.int .i64 0)
    have hall : ∀ k, (Wz.setCell ⟨W.heap.size + 1, 0, none⟩ (.int .i64 0)).heap[k]? = Wz.heap[k]? := fun k => by
      by_cases hk : k = W.heap.size + 1
      · rw [hk]; exact hbS.trans hbE.symm
      · exact Below.heap_setCell _ _ _ _ hk
    have hKf := (hall D).trans hK
    have hLf := hid (LOW.out _ Wz ((Wz.setCell ⟨W.heap.size + 1, 0, none⟩ (.int .i64 0)).putObj D (.deferred none)) hLI rfl rfl rfl (by simp [World.setCell]) (fun k hk => (World.putObj_heap_other (by simp at hD; omega)).trans (hall k)))
    have hrc : ((Wz.setCell ⟨W.heap.size + 1, 0, none⟩ (.int .i64 0)).putObj D (.deferred none)).cell? ⟨W.heap.size + 1, 0, none⟩ = some (.int .i64 0) := by
      have hne : D ≠ W.heap.size + 1 := by rintro rfl; rw [hbE] at hK; cases hK
      exact (World.cell?_of_block (a := ⟨W.heap.size + 1, 0, none⟩) (World.putObj_heap_other (Ne.symm hne))).trans (hbS.cell 0)
    have HHI := hid hLI
    have hrun := hid (run_takeDeferred (P := Tryz.prog) hKf)
    clear hLI hK hall hKf hbS hbE
    go_wp2
    refine ⟨by simp, .inl ⟨_, _, rfl, hrun.out, ?_⟩⟩
    obtain ⟨q2, q4, q5, q6, q7⟩ := HKE.out
    refine ⟨.int .i64 0, by simp [results, Tryz.results76, go_sem, hrc], rfl, fp, hLf.out.dr, q2, hLf.out.ke, q4, fun x hx => ?_, q6, q7, by rw [← hys]; exact hLf.out.mp⟩
    have hx' : x ∈ X' := by rw [hX']; simp [hx]
    exact ⟨q5 x hx', hLf.out.xs x hx'⟩
  case stop =>
    rintro D cc pre Wz _ _ hh _
    exact hh.elim
end
end Go.Proofs.YtiabfngiibabcaaGreatDoor
