/- Walks of package kv: load where there is no file. Walks of package kv: what Open calls. -/
import Derived.Test.YtbjimikppdfmgaaGreatDoorKv5
import Derived.Test.YtbjimikppdfmgaaGreatDoorKv4
import Derived.Deep.RegionHeld3
set_option linter.unusedVariables false
set_option linter.unusedSimpArgs false
set_option maxHeartbeats 6400000
set_option maxRecDepth 100000
namespace Go.Proofs.YtbjimikppdfmgaaGreatDoor
open Go.RowKit

def storeCells (g : Nat) (name : Key) (mb : Nat) (dead : Bool) : Array Value := #[.pointer (some ⟨g, 0, none⟩), .string (S name), .map (some mb), .bool dead]
theorem below_drew1 {w w' : World} {n : Nat} (h : Below n w w') : Below n w w'.drew := below_drewN h 1
theorem box1 {W : World} {x : Nat} {t : TypeId} {a : Value} (h : Blk W x t #[a]) : W.cell? ⟨x, 0, none⟩ = some a := h.cell 0
theorem store4 {W : World} {sb g mb : Nat} {name : Key} {dead : Bool} (h : Blk W sb 52 (storeCells g name mb dead)) :
    W.cell? ⟨sb, 0, none⟩ = some (.pointer (some ⟨g, 0, none⟩)) ∧ W.cell? ⟨sb, 1, none⟩ = some (.string (S name)) ∧ W.cell? ⟨sb, 2, none⟩ = some (.map (some mb)) ∧ W.cell? ⟨sb, 3, none⟩ = some (.bool dead) :=
  ⟨h.cell 0, h.cell 1, h.cell 2, h.cell 3⟩
section
variable {w0 : Fr} {W : World} {g N mb sb : Nat} {d : Dr} {X : List Xc} {m : KM} {name : Key} {dead : Bool}
theorem kv_load_none (h : MW w0 g d N X mb m W) (hs : (sb, 52, storeCells g name mb dead) ∈ X) (en : List UInt8) (hN : N ≤ 1000000000) (hn : name.length ≤ 1000) (he : en.length ≤ 1000) (hE : d.readE (fileN name en) = 10) :
    Calls Tryz.prog 22 #[.pointer (some ⟨sb, 0, none⟩), .string (S en)] W fun e w' => e = .returned (.int .i64 0) ∧ Below W.heap.size W w' ∧ MW w0 g d N X mb m w' := by
  have hb2 : Below W.heap.size W ((W.alloc (.cells #[.pointer (some ⟨sb, 0, none⟩)] 24)).alloc (.cells #[.int .i64 0] 25)) := ((Below.refl _ _).alloc (Nat.le_refl _) _).alloc (by simp) _
  have hbd := below_drew1 hb2
  have M2 := h.below hbd
  have RD := M2.read hN (fileN name en) (by unfold fileN; simp; omega)
  rw [hE] at RD
  obtain ⟨s0, s1, s2, s3⟩ := store4 (M2.blk hs)
  have hB := (((Blk.new W 24 #[.pointer (some ⟨sb, 0, none⟩)]).alloc (.cells #[.int .i64 0] 25)).drew)
  have hbox := box1 hB
  have HBX := hid hB
  have hres := hid ((Blk.new (W.alloc (.cells #[.pointer (some ⟨sb, 0, none⟩)] 24)) 25 #[.int .i64 0]).drew)
  have RDH := hid RD
  have HB2 := hid hbd
  have HSB := hid (fun (W' : World) (h : MW w0 g d N X mb m W') => store4 (h.blk hs))
  have HMW := hid h
  clear hB RD M2 hb2 hbd h hE
  go_enter Tryz.func22, Tryz.ntmps22
  go_wp2
  go_region_held3 (fun w' => w'.cell? ⟨W.heap.size, 0, none⟩ = some (.pointer (some ⟨sb, 0, none⟩)) ∧ w'.cell? ⟨sb, 0, none⟩ = some (.pointer (some ⟨g, 0, none⟩))) (simp [*, go_sem, World.cell?_alloc_past]) (first
    | (go_at_call 26; refine (kv_file _ sb name en (by assumption) hn he).mono ?_; rintro e w' ⟨rfl, rfl⟩)
    | (go_at_call 51; refine RDH.out.mono ?_; rintro e w3 ⟨v, rfl, hr3, hb3, hM3⟩; have hq := box1 (HBX.out.below hb3 HBX.out.lt); obtain ⟨s0', s1', s2', s3'⟩ := HSB.out _ hM3))
  have hR3 := hres.out.below hb3 hres.out.lt
  have hr0 : w3.cell? ⟨W.heap.size + 1, 0, none⟩ = some (.int .i64 0) := by simpa using box1 hR3
  have hf0 : w3.frozen? ⟨W.heap.size + 1, 0, none⟩ = false := by simpa using hR3.frozen 0
  have hS3 : Blk (w3.setCell ⟨W.heap.size + 1, 0, none⟩ (.int .i64 0)) (W.heap.size + 1) 25 #[.int .i64 0] := by simpa using hR3.set_ 0 (.int .i64 0)
  have e0 := box1 hS3
  have hbb : Below W.heap.size W (w3.setCell ⟨W.heap.size + 1, 0, none⟩ (.int .i64 0)) := (bt HB2.out hb3).setCell (p := ⟨W.heap.size + 1, 0, none⟩) (by simp) _
  have HF := hid hbb
  clear hbb hS3 hR3 hr3
  go_wp2
  refine bodyPost_ret (v := .int .i64 0) (by simp [results, Tryz.results22, go_sem, e0]) rfl ⟨rfl, HF.out, HMW.out.below HF.out⟩
end
end Go.Proofs.YtbjimikppdfmgaaGreatDoor

set_option linter.unusedVariables false
set_option linter.unusedSimpArgs false
set_option maxHeartbeats 6400000
set_option maxRecDepth 100000
namespace Go.Proofs.YtbjimikppdfmgaaGreatDoor
open Go.RowKit

def baseN : List UInt8 := [98, 97, 115, 101]
def logN : List UInt8 := [108, 111, 103]
section
variable {w0 : Fr} {W : World} {g N mb sb b7 b2 : Nat} {d : Dr} {X : List Xc} {m : KM} {name : Key} {dead : Bool}
theorem kv_open1 (h : MW w0 g d N X mb m W) (hs : (sb, 52, storeCells g name mb dead) ∈ X) (h7 : (b7, 24, #[.pointer (some ⟨sb, 0, none⟩)]) ∈ X) (hN : N ≤ 1000000000) (hn : name.length ≤ 1000) (hE : d.readE (fileN name baseN) = 10) :
    Calls Tryz.prog 21 #[.pointer (some ⟨b7, 0, none⟩)] W fun e w' => e = .returned (.int .i64 0) ∧ Below W.heap.size W w' ∧ MW w0 g d N X mb m w' := by
  have c7 := box1 (h.blk h7)
  have L := hid (kv_load_none h hs baseN hN hn (by decide) hE)
  unfold baseN at L
  go_enter Tryz.func21, Tryz.ntmps21
  go_wp2_with fail
  refine L.out.mono ?_
  rintro e w' ⟨rfl, hb, hM⟩
  go_wp2
  go_ret
  exact ⟨rfl, hb, hM⟩
theorem kv_open2 (h : MW w0 g d N X mb m W) (hs : (sb, 52, storeCells g name mb dead) ∈ X) (h7 : (b7, 24, #[.pointer (some ⟨sb, 0, none⟩)]) ∈ X) (hN : N ≤ 1000000000) (hn : name.length ≤ 1000) (hE : d.readE (fileN name logN) = 10) :
    Calls Tryz.prog 23 #[.pointer (some ⟨b7, 0, none⟩)] W fun e w' => e = .returned (.int .i64 0) ∧ Below W.heap.size W w' ∧ MW w0 g d N X mb m w' := by
  have c7 := box1 (h.blk h7)
  have L := hid (kv_load_none h hs logN hN hn (by decide) hE)
  unfold logN at L
  go_enter Tryz.func23, Tryz.ntmps23
  go_wp2_with fail
  refine L.out.mono ?_
  rintro e w' ⟨rfl, hb, hM⟩
  go_wp2
  go_ret
  exact ⟨rfl, hb, hM⟩
theorem kv_open3 (h : MW w0 g d N X mb m W) (hs : (sb, 52, storeCells g name mb dead) ∈ X) (h7 : (b7, 24, #[.pointer (some ⟨sb, 0, none⟩)]) ∈ X) (h2 : (b2, 22, #[.pointer (some ⟨g, 0, none⟩)]) ∈ X) (hn : name.length ≤ 1000) (hE : (d.create (fileN name logN)).2 ≠ 11) :
    Calls Tryz.prog 24 #[.pointer (some ⟨b2, 0, none⟩), .pointer (some ⟨b7, 0, none⟩)] W fun e w' => e = .returned (.int .i64 (d.create (fileN name logN)).2) ∧ MW w0 g (d.create (fileN name logN)).1 N X mb m w' := by
  have M2 : MW w0 g d N X mb m W.drew := h.below (below_drew1 (Below.refl _ _))
  have c7 := box1 (M2.blk h7)
  have c2 := box1 (M2.blk h2)
  obtain ⟨s0, s1, s2, s3⟩ := store4 (M2.blk hs)
  have CR := hid (M2.create (fileN name logN) (by unfold fileN logN; simp; omega))
  have k0 : ((d.create (fileN name logN)).2 == 11) = false := beq_eq_false_iff_ne.2 hE
  have FL := hid (fun W' (hc : W'.cell? ⟨sb, 1, none⟩ = some (.string (S name))) => kv_file W' sb name logN hc hn (by decide))
  generalize (d.create (fileN name logN)).1 = d' at *
  generalize (d.create (fileN name logN)).2 = x at *
  generalize fileN name logN = fl at *
  unfold logN at FL
  clear h M2 hE
  go_enter Tryz.func24, Tryz.ntmps24
  go_wp2
  go_region_held3 (fun w' => w'.cell? ⟨b2, 0, none⟩ = some (.pointer (some ⟨g, 0, none⟩)) ∧ w'.cell? ⟨b7, 0, none⟩ = some (.pointer (some ⟨sb, 0, none⟩))) (simp [*, go_sem, World.cell?_alloc_past]) (first
    | (go_at_call 26; refine (FL.out _ (by assumption)).mono ?_; rintro e w' ⟨rfl, rfl⟩)
    | (go_at_call 25; refine CR.out.mono ?_; rintro e w3 ⟨rfl, hM3⟩; have y1 := box1 (hM3.blk h2); have y2 := box1 (hM3.blk h7)))
  all_goals
    go_wp2
    go_ret
    exact ⟨rfl, hM3⟩
end
end Go.Proofs.YtbjimikppdfmgaaGreatDoor
