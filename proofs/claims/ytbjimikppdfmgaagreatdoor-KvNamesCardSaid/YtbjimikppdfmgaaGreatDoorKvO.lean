/- Walk of kv.Open on a drive that has the store's files. -/
import Derived.Test.YtbjimikppdfmgaaGreatDoorKv8
import Derived.Test.YtbjimikppdfmgaaGreatDoorKvL
import Derived.Test.YtbjimikppdfmgaaGreatDoorKvC
set_option linter.unusedVariables false
set_option linter.unusedSimpArgs false
set_option maxHeartbeats 6400000
set_option maxRecDepth 100000
namespace Go.Proofs.YtbjimikppdfmgaaGreatDoor
open Go.RowKit

/-- A file's frames, or there is no such file. -/
structure Loads (d : Dr) (f : Key) (bs : List (List Wr)) : Prop where
  file : (d.readE f = 10 ∧ bs = []) ∨ (d.readE f = 0 ∧ d.read f = framesB bs)
  keys : ∀ x ∈ bs.flatten, 1 ≤ x.key.length ∧ x.key.length < 65536
  len : (framesB bs).length ≤ 100000000
section
variable {w0 : Fr} {W : World} {g N mb sb b7 b2 : Nat} {d : Dr} {X : List Xc} {m : KM} {name : Key} {dead : Bool}
theorem kv_load (h : MW w0 g d N X mb m W) (hs : (sb, 52, storeCells g name mb dead) ∈ X) (en : List UInt8) (hN : N ≤ 1000000000) (hn : name.length ≤ 1000) (he : en.length ≤ 1000) (bs : List (List Wr)) (hL : Loads d (fileN name en) bs) (hcnt : m.length + bs.flatten.length ≤ 1000000) :
    Calls Tryz.prog 22 #[.pointer (some ⟨sb, 0, none⟩), .string (S en)] W fun e w' => e = .returned (.int .i64 0) ∧ MW w0 g d N X mb (doB m bs.flatten) w' := by
  rcases hL.file with ⟨h1, rfl⟩ | ⟨h1, h2⟩
  · exact (kv_load_none h hs en hN hn he h1).mono fun e w' hh => ⟨hh.1, hh.2.2⟩
  · exact kv_load_file h hs en hN hn he bs h1 h2 hL.keys hL.len hcnt
theorem kv_open1g (h : MW w0 g d N X mb m W) (hs : (sb, 52, storeCells g name mb dead) ∈ X) (h7 : (b7, 24, #[.pointer (some ⟨sb, 0, none⟩)]) ∈ X) (hN : N ≤ 1000000000) (hn : name.length ≤ 1000) (bs : List (List Wr)) (hL : Loads d (fileN name baseN) bs) (hcnt : m.length + bs.flatten.length ≤ 1000000) :
    Calls Tryz.prog 21 #[.pointer (some ⟨b7, 0, none⟩)] W fun e w' => e = .returned (.int .i64 0) ∧ MW w0 g d N X mb (doB m bs.flatten) w' := by
  have c7 := box1 (h.blk h7)
  have L := hid (kv_load h hs baseN hN hn (by decide) bs hL hcnt)
  unfold baseN at L
  go_enter Tryz.func21, Tryz.ntmps21
  go_wp2_with fail
  refine L.out.mono ?_
  rintro e w' ⟨rfl, hM⟩
  go_wp2
  go_ret
  exact ⟨rfl, hM⟩
theorem kv_open2g (h : MW w0 g d N X mb m W) (hs : (sb, 52, storeCells g name mb dead) ∈ X) (h7 : (b7, 24, #[.pointer (some ⟨sb, 0, none⟩)]) ∈ X) (hN : N ≤ 1000000000) (hn : name.length ≤ 1000) (bs : List (List Wr)) (hL : Loads d (fileN name logN) bs) (hcnt : m.length + bs.flatten.length ≤ 1000000) :
    Calls Tryz.prog 23 #[.pointer (some ⟨b7, 0, none⟩)] W fun e w' => e = .returned (.int .i64 0) ∧ MW w0 g d N X mb (doB m bs.flatten) w' := by
  have c7 := box1 (h.blk h7)
  have L := hid (kv_load h hs logN hN hn (by decide) bs hL hcnt)
  unfold logN at L
  go_enter Tryz.func23, Tryz.ntmps23
  go_wp2_with fail
  refine L.out.mono ?_
  rintro e w' ⟨rfl, hM⟩
  go_wp2
  go_ret
  exact ⟨rfl, hM⟩
/-- The log is there: it is synced. -/
theorem kv_open3x (h : MW w0 g d N X mb m W) (hs : (sb, 52, storeCells g name mb dead) ∈ X) (h7 : (b7, 24, #[.pointer (some ⟨sb, 0, none⟩)]) ∈ X) (h2 : (b2, 22, #[.pointer (some ⟨g, 0, none⟩)]) ∈ X) (hN : N ≤ 1000000000) (hn : name.length ≤ 1000) (hE : d.create (fileN name logN) = (d, 11)) (hS : (d.sync (fileN name logN)).2 = 0) :
    Calls Tryz.prog 24 #[.pointer (some ⟨b2, 0, none⟩), .pointer (some ⟨b7, 0, none⟩)] W fun e w' => e = .returned (.int .i64 0) ∧ MW w0 g (d.sync (fileN name logN)).1 N X mb m w' := by
  have M2 : MW w0 g d N X mb m W.drew := h.below (below_drew1 (Below.refl _ _))
  have c7 := box1 (M2.blk h7)
  have c2 := box1 (M2.blk h2)
  obtain ⟨s0, s1, s2, s3⟩ := store4 (M2.blk hs)
  have CR := M2.create (fileN name logN) (by unfold fileN logN; simp; omega)
  rw [hE] at CR
  have CRH := hid CR
  have SY := hid (fun (W' : World) (hM : MW w0 g d N X mb m W') => by
    have := (hM.below (below_drew1 (Below.refl _ _))).sync hN (fileN name logN) (by unfold fileN logN; simp; omega)
    rw [hS] at this
    exact this)
  have HC := hid (fun (W' : World) (hM : MW w0 g d N X mb m W') => And.intro (box1 (hM.blk h7)) (And.intro (box1 (hM.blk h2)) (store4 (hM.blk hs)).2.1))
  have HD := hid (fun (W' : World) (hM : MW w0 g (d.sync (fileN name logN)).1 N X mb m W') => And.intro (box1 (hM.blk h7)) (box1 (hM.blk h2)))
  have FL := hid (fun W' (hc : W'.cell? ⟨sb, 1, none⟩ = some (.string (S name))) => kv_file W' sb name logN hc hn (by decide))
  generalize (d.sync (fileN name logN)).1 = d' at *
  generalize fileN name logN = fl at *
  unfold logN at FL
  clear h M2 hE hS CR
  go_enter Tryz.func24, Tryz.ntmps24
  go_wp2
  go_region_held3 (fun w' => w'.cell? ⟨b2, 0, none⟩ = some (.pointer (some ⟨g, 0, none⟩)) ∧ w'.cell? ⟨b7, 0, none⟩ = some (.pointer (some ⟨sb, 0, none⟩))) (simp [*, go_sem, World.cell?_alloc_past]) (first
    | (go_at_call 26; refine (FL.out _ (by assumption)).mono ?_; rintro e w' ⟨rfl, rfl⟩)
    | (go_at_call 25; refine CRH.out.mono ?_; rintro e w3 ⟨rfl, hM3⟩; obtain ⟨y1, y2, y3⟩ := HC.out _ hM3))
  all_goals
    have SY3 := hid (SY.out _ hM3)
    clear c7 c2 s0 s1 s2 s3 hM3
  all_goals
    go_wp2
  all_goals
    go_region_held3 (fun w' => w'.cell? ⟨b2, 0, none⟩ = some (.pointer (some ⟨g, 0, none⟩)) ∧ w'.cell? ⟨b7, 0, none⟩ = some (.pointer (some ⟨sb, 0, none⟩))) (simp [*, go_sem, World.cell?_alloc_past]) (first
    | (go_at_call 26; refine (FL.out _ (by assumption)).mono ?_; rintro e w' ⟨rfl, rfl⟩)
    | (go_at_call 27; refine SY3.out.mono ?_; rintro e w5 ⟨rfl, hM5⟩; obtain ⟨z1, z2⟩ := HD.out _ hM5))
  all_goals
    go_wp2
    go_ret
    exact ⟨rfl, hM5⟩
end
section
variable {w0 : Fr} {W : World} {g N : Nat} {d : Dr} {X : List Xc} {name : Key}
theorem kv_Open_old (h : FW w0 g d N X W) (hN : N ≤ 1000000000) (hn : name ≠ []) (hl : name.length ≤ 20) (ha : ∀ c ∈ name, abcT.contains c = true) (hd : d.down = false) (bB bL : List (List Wr)) (hB : Loads d (fileN name baseN) bB) (hL : Loads d (fileN name logN) bL) (hcnt : bB.flatten.length + bL.flatten.length ≤ 100000) (hC : d.create (fileN name logN) = (d, 11)) (hS : (d.sync (fileN name logN)).2 = 0) :
    Calls Tryz.prog 7 #[.pointer (some ⟨g, 0, none⟩), .string (S name)] W fun e w' => ∃ sb mb, e = .returned (.tuple #[.pointer (some ⟨sb, 0, none⟩), .int .i64 0]) ∧ W.heap.size ≤ sb ∧ MW w0 g (d.sync (fileN name logN)).1 N ((sb, 52, storeCells g name mb false) :: X) mb (doB (doB [] bB.flatten) bL.flatten) w' := by
  have TR := hid (fun W' => str_Trim_abc name (by omega) W')
  rw [trimS_all ha] at TR
  unfold abcT at TR
  have H1 := hid (h.with_ 22 #[.pointer (some ⟨g, 0, none⟩)])
  have k0 : (name == []) = false := beq_eq_false_iff_ne.2 hn
  have hl' : (name.length : Int) ≤ 20 := by omega
  clear h ha hn
  have hmm := @run_makeMap Tryz.prog
  go_enter Tryz.func7, Tryz.ntmps7
  go_wp2_with fail
  refine (TR.out _).mono ?_
  rintro e w2 ⟨rfl, hb2⟩
  have H2 := hid (H1.out.below hb2)
  have HSZ := hid (show W.heap.size ≤ w2.heap.size by have := hb2.size; simp at this; omega)
  have c2 := box1 (H2.out.blk (x := (W.heap.size, 22, #[.pointer (some ⟨g, 0, none⟩)])) (by simp))
  obtain ⟨fp, D2, -⟩ := H2.out
  have AL := hid (drive_Alive D2)
  rw [hd] at AL
  go_wp2_with fail
  refine AL.out.mono ?_
  rintro e w3 ⟨rfl, rfl⟩
  have H3 := H2.out.newMap
  have H4 : MW w0 g d N ((w3.heap.size + 1, 52, storeCells g name w3.heap.size false) :: (W.heap.size, 22, #[.pointer (some ⟨g, 0, none⟩)]) :: X) w3.heap.size [] ((w3.alloc (.map #[] 0)).alloc (.cells (storeCells g name w3.heap.size false) 52)) := by
    simpa using H3.with_ 52 (storeCells g name w3.heap.size false)
  have H5 := H4.with_ 24 #[.pointer (some ⟨w3.heap.size + 1, 0, none⟩)]
  have H6 := H5.with_ 33 #[.func (.func 21) #[] #[.pointer (some ⟨w3.heap.size + 1 + 1, 0, none⟩)], .func (.func 23) #[] #[.pointer (some ⟨w3.heap.size + 1 + 1, 0, none⟩)], .func (.func 24) #[] #[.pointer (some ⟨W.heap.size, 0, none⟩), .pointer (some ⟨w3.heap.size + 1 + 1, 0, none⟩)]]
  simp only [show ((w3.alloc (.map #[] 0)).alloc (.cells (storeCells g name w3.heap.size false) 52)).heap.size = w3.heap.size + 1 + 1 by simp, show (((w3.alloc (.map #[] 0)).alloc (.cells (storeCells g name w3.heap.size false) 52)).alloc (.cells #[.pointer (some ⟨w3.heap.size + 1, 0, none⟩)] 24)).heap.size = w3.heap.size + 1 + 1 + 1 by simp] at H6
  have H6H := hid H6
  have HH := hid (And.intro hB (And.intro hL (And.intro hC hS)))
  have HD1 := hid (doB_len [] bB.flatten)
  clear H3 H4 H5 H6 hB hL hC hS
  have FI := hid (kv_first _ (some ⟨w3.heap.size + 1 + 1 + 1, 0, none⟩) 3 [(21, #[.pointer (some ⟨w3.heap.size + 1 + 1, 0, none⟩)]), (23, #[.pointer (some ⟨w3.heap.size + 1 + 1, 0, none⟩)]), (24, #[.pointer (some ⟨W.heap.size, 0, none⟩), .pointer (some ⟨w3.heap.size + 1 + 1, 0, none⟩)])]
    (fun i W' => MW w0 g (if i = 3 then (d.sync (fileN name logN)).1 else d) N _ w3.heap.size (if i = 0 then [] else if i = 1 then doB [] bB.flatten else doB (doB [] bB.flatten) bL.flatten) W') (fun _ _ => False) (by simp) H6H.out
    (fun i hi W' => by
      have : i = 0 ∨ i = 1 ∨ i = 2 := by simp at hi; omega
      rcases this with rfl | rfl | rfl
      · exact Go.MuLone.run_callFunc_enter Tryz.func21 (by kernel_rfl) rfl _ W'
      · exact Go.MuLone.run_callFunc_enter Tryz.func23 (by kernel_rfl) rfl _ W'
      · exact Go.MuLone.run_callFunc_enter Tryz.func24 (by kernel_rfl) rfl _ W')
    (fun i W' hi hI => by
      have hb := hI.blk (List.mem_cons_self ..)
      have : i = 0 ∨ i = 1 ∨ i = 2 := by simp at hi; omega
      rcases this with rfl | rfl | rfl
      · exact ⟨_, _, rfl, hb.cell 0⟩
      · exact ⟨_, _, rfl, hb.cell 1⟩
      · exact ⟨_, _, rfl, hb.cell 2⟩)
    (fun i W' hi hI => by
      have : i = 0 ∨ i = 1 ∨ i = 2 := by simp at hi; omega
      rcases this with rfl | rfl | rfl
      · refine (kv_open1g (sb := w3.heap.size + 1) (name := name) (dead := false) (m := []) hI (by simp) (by simp) hN (by omega) bB HH.out.1 (by rw [List.length_nil]; omega)).mono ?_
        rintro e w' ⟨rfl, hM⟩
        exact ⟨0, rfl, .inl ⟨rfl, hM⟩⟩
      · refine (kv_open2g (sb := w3.heap.size + 1) (name := name) (dead := false) (m := doB [] bB.flatten) hI (by simp) (by simp) hN (by omega) bL HH.out.2.1 (by have := HD1.out; rw [List.length_nil] at this; omega)).mono ?_
        rintro e w' ⟨rfl, hM⟩
        exact ⟨0, rfl, .inl ⟨rfl, hM⟩⟩
      · refine (kv_open3x (sb := w3.heap.size + 1) (name := name) (dead := false) (m := doB (doB [] bB.flatten) bL.flatten) hI (by simp) (by simp) (by simp) hN (by omega) HH.out.2.2.1 HH.out.2.2.2).mono ?_
        rintro e w' ⟨rfl, hM⟩
        exact ⟨0, rfl, .inl ⟨rfl, hM⟩⟩))
  go_wp2_with fail
  refine FI.out.mono ?_
  rintro e w4 ⟨x, rfl, hx⟩
  rcases hx with ⟨rfl, hM⟩ | ⟨-, hF⟩
  · have HM := hid hM
    have c7 := box1 (hM.blk (x := (w3.heap.size + 1 + 1, 24, #[.pointer (some ⟨w3.heap.size + 1, 0, none⟩)])) (by simp))
    clear hM
    go_wp2
    go_ret2
    exact ⟨_, _, rfl, by have := HSZ.out; omega, HM.out.sub fun x hx => by
      rcases List.mem_cons.1 hx with rfl | hx
      · simp
      · simp [hx]⟩
  · cases hF
end
end Go.Proofs.YtbjimikppdfmgaaGreatDoor
