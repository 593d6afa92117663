/- Walk of kv.Open on a drive that has the store's files. Stores side by side: what a call on one leaves of the others. A drive whose power is there, step by step; the drive of a store (the first part of KvSp). The log as it was, plainly: bytes of leaves, keys, decimals, digits of sixteen. No program in it. -/
import Derived.Test.YtiabfngiibabcaaGreatDoorM10
import Derived.Test.YtiabfngiibabcaaGreatDoorM12
import Derived.Deep.QuietTactic
import Derived.Test.YtiabfngiibabcaaGreatDoorM01
import Derived.WideAt
import Derived.Lib.AtoiAll
import Derived.Lib.ItoaNum
import Derived.Lib.Repeat
set_option linter.unusedVariables false
set_option linter.unusedSimpArgs false
set_option maxHeartbeats 6400000
set_option maxRecDepth 100000
namespace Go.Proofs.YtiabfngiibabcaaGreatDoor
open Go.RowKit

/-- A file's frames, or there is no such file. -/
structure Loads (d : Dr) (f : Key) (bs : List (List Wr)) : Prop where
  file : (d.readE f = 10 ∧ bs = []) ∨ (d.readE f = 0 ∧ d.read f = framesB bs)
  keys : ∀ x ∈ bs.flatten, 1 ≤ x.key.length ∧ x.key.length < 65536
  len : (framesB bs).length ≤ 100000000
section
variable {w0 : Fr} {W : World} {g N mb sb b7 b2 : Nat} {d : Dr} {X : List Xc} {m : KM} {name : Key} {dead : Bool}
theorem kv_load (h : MW w0 g d N X mb m W) (hs : (sb, 140, storeCells g name mb dead) ∈ X) (en : List UInt8) (hN : N ≤ 1000000000) (hn : name.length ≤ 1000) (he : en.length ≤ 1000) (bs : List (List Wr)) (hL : Loads d (fileN name en) bs) (hcnt : m.length + bs.flatten.length ≤ 1000000) :
    Calls Tryz.prog 76 #[.pointer (some ⟨sb, 0, none⟩), .string (S en)] W fun e w' => e = .returned (.int .i64 0) ∧ MW w0 g d N X mb (doB m bs.flatten) w' := by
  rcases hL.file with ⟨h1, rfl⟩ | ⟨h1, h2⟩
  · exact (kv_load_none h hs en hN hn he h1).mono fun e w' hh => ⟨hh.1, hh.2.2⟩
  · exact kv_load_file h hs en hN hn he bs h1 h2 hL.keys hL.len hcnt
theorem kv_open1g (h : MW w0 g d N X mb m W) (hs : (sb, 140, storeCells g name mb dead) ∈ X) (h7 : (b7, 43, #[.pointer (some ⟨sb, 0, none⟩)]) ∈ X) (hN : N ≤ 1000000000) (hn : name.length ≤ 1000) (bs : List (List Wr)) (hL : Loads d (fileN name baseN) bs) (hcnt : m.length + bs.flatten.length ≤ 1000000) :
    Calls Tryz.prog 75 #[.pointer (some ⟨b7, 0, none⟩)] W fun e w' => e = .returned (.int .i64 0) ∧ MW w0 g d N X mb (doB m bs.flatten) w' := by
  have c7 := box1 (h.blk h7)
  have L := hid (kv_load h hs baseN hN hn (by decide) bs hL hcnt)
  unfold baseN at L
  go_enter Tryz.func75, Tryz.ntmps75
  go_wp2_with fail
  refine L.out.mono ?_
  rintro e w' ⟨rfl, hM⟩
  go_wp2
  go_ret
  exact ⟨rfl, hM⟩
theorem kv_open2g (h : MW w0 g d N X mb m W) (hs : (sb, 140, storeCells g name mb dead) ∈ X) (h7 : (b7, 43, #[.pointer (some ⟨sb, 0, none⟩)]) ∈ X) (hN : N ≤ 1000000000) (hn : name.length ≤ 1000) (bs : List (List Wr)) (hL : Loads d (fileN name logN) bs) (hcnt : m.length + bs.flatten.length ≤ 1000000) :
    Calls Tryz.prog 77 #[.pointer (some ⟨b7, 0, none⟩)] W fun e w' => e = .returned (.int .i64 0) ∧ MW w0 g d N X mb (doB m bs.flatten) w' := by
  have c7 := box1 (h.blk h7)
  have L := hid (kv_load h hs logN hN hn (by decide) bs hL hcnt)
  unfold logN at L
  go_enter Tryz.func77, Tryz.ntmps77
  go_wp2_with fail
  refine L.out.mono ?_
  rintro e w' ⟨rfl, hM⟩
  go_wp2
  go_ret
  exact ⟨rfl, hM⟩
/-- The log is there: it is synced. -/
theorem kv_open3x (h : MW w0 g d N X mb m W) (hs : (sb, 140, storeCells g name mb dead) ∈ X) (h7 : (b7, 43, #[.pointer (some ⟨sb, 0, none⟩)]) ∈ X) (h2 : (b2, 23, #[.pointer (some ⟨g, 0, none⟩)]) ∈ X) (hN : N ≤ 1000000000) (hn : name.length ≤ 1000) (hE : d.create (fileN name logN) = (d, 11)) (hS : (d.sync (fileN name logN)).2 = 0) :
    Calls Tryz.prog 78 #[.pointer (some ⟨b2, 0, none⟩), .pointer (some ⟨b7, 0, none⟩)] W fun e w' => e = .returned (.int .i64 0) ∧ MW w0 g (d.sync (fileN name logN)).1 N X mb m w' := by
  have M2 : MW w0 g d N X mb m W.drew := h.below (below_drew1 (Below.refl _ _))
  have c7 := box1 (M2.blk h7)
  have c2 := box1 (M2.blk h2)
  obtain ⟨s0, s1, s2, s3⟩ := store4 (M2.blk hs)
  have CR := M2.create (fileN name logN) (by unfold fileN logN; simp; omega)
  rw [hE] at CR
  have CRH := hid CR
  have SY := hid (fun (W' : World) (hM : MW w0 g d N X mb m W') => by
    have := (hM.below (below_drew1 (Below.refl _ _))).sync hN (fileN name logN) (by unfold fileN logN; simp; omega)
    rw [hS] at this
    exact this)
  have HC := hid (fun (W' : World) (hM : MW w0 g d N X mb m W') => And.intro (box1 (hM.blk h7)) (And.intro (box1 (hM.blk h2)) (store4 (hM.blk hs)).2.1))
  have HD := hid (fun (W' : World) (hM : MW w0 g (d.sync (fileN name logN)).1 N X mb m W') => And.intro (box1 (hM.blk h7)) (box1 (hM.blk h2)))
  have FL := hid (fun W' (hc : W'.cell? ⟨sb, 1, none⟩ = some (.string (S name))) => kv_file W' sb name logN hc hn (by decide))
  generalize (d.sync (fileN name logN)).1 = d' at *
  generalize fileN name logN = fl at *
  unfold logN at FL
  clear h M2 hE hS CR
  go_enter Tryz.func78, Tryz.ntmps78
  go_wp2
  go_region_held3 (fun w' => w'.cell? ⟨b2, 0, none⟩ = some (.pointer (some ⟨g, 0, none⟩)) ∧ w'.cell? ⟨b7, 0, none⟩ = some (.pointer (some ⟨sb, 0, none⟩))) (simp [*, go_sem, World.cell?_alloc_past]) (first
    | (go_at_call 80; refine (FL.out _ (by assumption)).mono ?_; rintro e w' ⟨rfl, rfl⟩)
    | (go_at_call 79; refine CRH.out.mono ?_; rintro e w3 ⟨rfl, hM3⟩; obtain ⟨y1, y2, y3⟩ := HC.out _ hM3))
  all_goals
    have SY3 := hid (SY.out _ hM3)
    clear c7 c2 s0 s1 s2 s3 hM3
  all_goals
    go_wp2
  all_goals
    go_region_held3 (fun w' => w'.cell? ⟨b2, 0, none⟩ = some (.pointer (some ⟨g, 0, none⟩)) ∧ w'.cell? ⟨b7, 0, none⟩ = some (.pointer (some ⟨sb, 0, none⟩))) (simp [*, go_sem, World.cell?_alloc_past]) (first
    | (go_at_call 80; refine (FL.out _ (by assumption)).mono ?_; rintro e w' ⟨rfl, rfl⟩)
    | (go_at_call 81; refine SY3.out.mono ?_; rintro e w5 ⟨rfl, hM5⟩; obtain ⟨z1, z2⟩ := HD.out _ hM5))
  all_goals
    go_wp2
    go_ret
    exact ⟨rfl, hM5⟩
end
section
variable {w0 : Fr} {W : World} {g N : Nat} {d : Dr} {X : List Xc} {name : Key}
theorem kv_Open_old (h : FW w0 g d N X W) (hN : N ≤ 1000000000) (hn : name ≠ []) (hl : name.length ≤ 20) (ha : ∀ c ∈ name, abcT.contains c = true) (hd : d.down = false) (bB bL : List (List Wr)) (hB : Loads d (fileN name baseN) bB) (hL : Loads d (fileN name logN) bL) (hcnt : bB.flatten.length + bL.flatten.length ≤ 100000) (hC : d.create (fileN name logN) = (d, 11)) (hS : (d.sync (fileN name logN)).2 = 0) :
    Calls Tryz.prog 27 #[.pointer (some ⟨g, 0, none⟩), .string (S name)] W fun e w' => ∃ sb mb, e = .returned (.tuple #[.pointer (some ⟨sb, 0, none⟩), .int .i64 0]) ∧ W.heap.size ≤ sb ∧ MW w0 g (d.sync (fileN name logN)).1 N ((sb, 140, storeCells g name mb false) :: X) mb (doB (doB [] bB.flatten) bL.flatten) w' := by
  have TR := hid (fun W' => str_Trim_abc name (by omega) W')
  rw [trimS_all ha] at TR
  unfold abcT at TR
  have H1 := hid (h.with_ 23 #[.pointer (some ⟨g, 0, none⟩)])
  have k0 : (name == []) = false := beq_eq_false_iff_ne.2 hn
  have hl' : (name.length : Int) ≤ 20 := by omega
  clear h ha hn
  have hmm := @run_makeMap Tryz.prog
  go_enter Tryz.func27, Tryz.ntmps27
  go_wp2_with fail
  refine (TR.out _).mono ?_
  rintro e w2 ⟨rfl, hb2⟩
  have H2 := hid (H1.out.below hb2)
  have HSZ := hid (show W.heap.size ≤ w2.heap.size by have := hb2.size; simp at this; omega)
  have c2 := box1 (H2.out.blk (x := (W.heap.size, 23, #[.pointer (some ⟨g, 0, none⟩)])) (by simp))
  obtain ⟨fp, D2, -⟩ := H2.out
  have AL := hid (drive_Alive D2)
  rw [hd] at AL
  go_wp2_with fail
  refine AL.out.mono ?_
  rintro e w3 ⟨rfl, rfl⟩
  have H3 := H2.out.newMap
  have H4 : MW w0 g d N ((w3.heap.size + 1, 140, storeCells g name w3.heap.size false) :: (W.heap.size, 23, #[.pointer (some ⟨g, 0, none⟩)]) :: X) w3.heap.size [] ((w3.alloc (.map #[] 0)).alloc (.cells (storeCells g name w3.heap.size false) 140)) := by
    simpa using H3.with_ 140 (storeCells g name w3.heap.size false)
  have H5 := H4.with_ 43 #[.pointer (some ⟨w3.heap.size + 1, 0, none⟩)]
  have H6 := H5.with_ 143 #[.func (.func 75) #[] #[.pointer (some ⟨w3.heap.size + 1 + 1, 0, none⟩)], .func (.func 77) #[] #[.pointer (some ⟨w3.heap.size + 1 + 1, 0, none⟩)], .func (.func 78) #[] #[.pointer (some ⟨W.heap.size, 0, none⟩), .pointer (some ⟨w3.heap.size + 1 + 1, 0, none⟩)]]
  simp only [show ((w3.alloc (.map #[] 0)).alloc (.cells (storeCells g name w3.heap.size false) 140)).heap.size = w3.heap.size + 1 + 1 by simp, show (((w3.alloc (.map #[] 0)).alloc (.cells (storeCells g name w3.heap.size false) 140)).alloc (.cells #[.pointer (some ⟨w3.heap.size + 1, 0, none⟩)] 43)).heap.size = w3.heap.size + 1 + 1 + 1 by simp] at H6
  have H6H := hid H6
  have HH := hid (And.intro hB (And.intro hL (And.intro hC hS)))
  have HD1 := hid (doB_len [] bB.flatten)
  clear H3 H4 H5 H6 hB hL hC hS
  have FI := hid (kv_first _ (some ⟨w3.heap.size + 1 + 1 + 1, 0, none⟩) 3 [(75, #[.pointer (some ⟨w3.heap.size + 1 + 1, 0, none⟩)]), (77, #[.pointer (some ⟨w3.heap.size + 1 + 1, 0, none⟩)]), (78, #[.pointer (some ⟨W.heap.size, 0, none⟩), .pointer (some ⟨w3.heap.size + 1 + 1, 0, none⟩)])]
    (fun i W' => MW w0 g (if i = 3 then (d.sync (fileN name logN)).1 else d) N _ w3.heap.size (if i = 0 then [] else if i = 1 then doB [] bB.flatten else doB (doB [] bB.flatten) bL.flatten) W') (fun _ _ => False) (by simp) H6H.out
    (fun i hi W' => by
      have : i = 0 ∨ i = 1 ∨ i = 2 := by simp at hi; omega
      rcases this with rfl | rfl | rfl
      · exact Go.MuLone.run_callFunc_enter Tryz.func75 (by kernel_rfl) rfl _ W'
      · exact Go.MuLone.run_callFunc_enter Tryz.func77 (by kernel_rfl) rfl _ W'
      · exact Go.MuLone.run_callFunc_enter Tryz.func78 (by kernel_rfl) rfl _ W')
    (fun i W' hi hI => by
      have hb := hI.blk (List.mem_cons_self ..)
      have : i = 0 ∨ i = 1 ∨ i = 2 := by simp at hi; omega
      rcases this with rfl | rfl | rfl
      · exact ⟨_, _, rfl, hb.cell 0⟩
      · exact ⟨_, _, rfl, hb.cell 1⟩
      · exact ⟨_, _, rfl, hb.cell 2⟩)
    (fun i W' hi hI => by
      have : i = 0 ∨ i = 1 ∨ i = 2 := by simp at hi; omega
      rcases this with rfl | rfl | rfl
      · refine (kv_open1g (sb := w3.heap.size + 1) (name := name) (dead := false) (m := []) hI (by simp) (by simp) hN (by omega) bB HH.out.1 (by rw [List.length_nil]; omega)).mono ?_
        rintro e w' ⟨rfl, hM⟩
        exact ⟨0, rfl, .inl ⟨rfl, hM⟩⟩
      · refine (kv_open2g (sb := w3.heap.size + 1) (name := name) (dead := false) (m := doB [] bB.flatten) hI (by simp) (by simp) hN (by omega) bL HH.out.2.1 (by have := HD1.out; rw [List.length_nil] at this; omega)).mono ?_
        rintro e w' ⟨rfl, hM⟩
        exact ⟨0, rfl, .inl ⟨rfl, hM⟩⟩
      · refine (kv_open3x (sb := w3.heap.size + 1) (name := name) (dead := false) (m := doB (doB [] bB.flatten) bL.flatten) hI (by simp) (by simp) (by simp) hN (by omega) HH.out.2.2.1 HH.out.2.2.2).mono ?_
        rintro e w' ⟨rfl, hM⟩
        exact ⟨0, rfl, .inl ⟨rfl, hM⟩⟩))
  go_wp2_with fail
  refine FI.out.mono ?_
  rintro e w4 ⟨x, rfl, hx⟩
  rcases hx with ⟨rfl, hM⟩ | ⟨-, hF⟩
  · have HM := hid hM
    have c7 := box1 (hM.blk (x := (w3.heap.size + 1 + 1, 43, #[.pointer (some ⟨w3.heap.size + 1, 0, none⟩)])) (by simp))
    clear hM
    go_wp2
    go_ret2
    exact ⟨_, _, rfl, by have := HSZ.out; omega, HM.out.sub fun x hx => by
      rcases List.mem_cons.1 hx with rfl | hx
      · simp
      · simp [hx]⟩
  · cases hF
end
end Go.Proofs.YtiabfngiibabcaaGreatDoor

set_option linter.unusedVariables false
set_option linter.unusedSimpArgs false
set_option maxHeartbeats 6400000
set_option maxRecDepth 100000
namespace Go.Proofs.YtiabfngiibabcaaGreatDoor
open Go.RowKit

/-- A step that turns blocks of T, and makes new ones. -/
structure Turn (T : Nat → Prop) (W W' : World) : Prop where
  os : W'.os = W.os
  tape : W'.tape = W.tape
  output : W'.output = W.output
  size : W.heap.size ≤ W'.heap.size
  block : ∀ k, k < W.heap.size → ¬ T k → W'.heap[k]? = W.heap[k]?
def foot (Z : Nat → Prop) (sb mb k : Nat) : Prop := Z k ∨ k = sb ∨ k = mb
/-- A store on its drive: the drive's blocks are Z. -/
structure St (W : World) (g : Nat) (d : Dr) (N : Nat) (name : Key) (sb mb : Nat) (m : KM) (Z : Nat → Prop) : Prop where
  dr : IsDrive W g d Z
  ok : d.Ok N
  blk : Blk W sb 140 (storeCells g name mb false)
  map : OwnS Tryz.prog 9 W mb m
  nsb : ¬ Z sb
  nmb : ¬ Z mb
section
variable {W W' : World} {g N sb mb : Nat} {d : Dr} {name : Key} {m : KM} {Z T : Nat → Prop} {X1 : List Xc}
theorem Turn.blk (h : Turn T W W') {k : Nat} {t : TypeId} {cs : Array Value} (hB : Blk W k t cs) (hk : ¬ T k) : Blk W' k t cs := (h.block k hB.lt hk).trans hB
theorem Turn.of_below (h : Below W.heap.size W W') (T : Nat → Prop) : Turn T W W' := ⟨h.os, h.tape, h.output, h.size, fun k hk _ => h.block k hk⟩
theorem Turn.below {w : World} (h : Turn T W W') (hb : Below w.heap.size w W) (hT : ∀ k, T k → w.heap.size ≤ k) : Below w.heap.size w W' :=
  ⟨h.os.trans hb.os, h.tape.trans hb.tape, h.output.trans hb.output, Nat.le_trans hb.size h.size, fun k hk => (h.block k (Nat.lt_of_lt_of_le hk hb.size) (fun ht => by have := hT k ht; omega)).trans (hb.block k hk)⟩
theorem St.lt (h : St W g d N name sb mb m Z) {k : Nat} (hk : foot Z sb mb k) : k < W.heap.size := by
  rcases hk with hk | rfl | rfl
  · exact h.dr.lt k hk
  · exact h.blk.lt
  · exact h.map.lt
theorem St.keep (h : St W g d N name sb mb m Z) (ht : Turn T W W') (hT : ∀ k, foot Z sb mb k → ¬ T k) : St W' g d N name sb mb m Z :=
  ⟨h.dr.keep ht.size fun k hk => ht.block k (h.dr.lt k hk) (hT k (.inl hk)), h.ok, ht.blk h.blk (hT _ (.inr (.inl rfl))), h.map.kept (ht.block mb h.map.lt (hT _ (.inr (.inr rfl)))), h.nsb, h.nmb⟩
theorem St.mw (h : St W g d N name sb mb m Z) (hX : ∀ x ∈ X1, ¬ foot Z sb mb x.1 ∧ Blk W x.1 x.2.1 x.2.2) : MW ⟨W, fun k => ¬ foot Z sb mb k⟩ g d N ((sb, 140, storeCells g name mb false) :: X1) mb m W := by
  refine ⟨Z, h.dr, h.ok, Fr.kept_self _, fun k hk _ hn => hn (.inl hk), fun x hx => ?_, h.nmb, fun _ hn => hn (.inr (.inr rfl)), h.map⟩
  rcases List.mem_cons.1 hx with rfl | hx
  · exact ⟨h.nsb, h.blk⟩
  · exact ⟨fun hz => (hX x hx).1 (.inl hz), (hX x hx).2⟩
theorem MW.st (h : MW ⟨W, fun k => ¬ T k⟩ g d N ((sb, 140, storeCells g name mb false) :: X1) mb m W') (hsb : T sb ∨ W.heap.size ≤ sb) :
    ∃ Z, St W' g d N name sb mb m Z ∧ Turn T W W' ∧ ∀ k, foot Z sb mb k → T k ∨ W.heap.size ≤ k := by
  obtain ⟨fp, h1, h2, h3, h4, h5, h6, h7, h8⟩ := h
  have conv : ∀ k, (⟨W, fun k => ¬ T k⟩ : Fr).free k → T k ∨ W.heap.size ≤ k := fun k hk => by
    rcases Nat.lt_or_ge k W.heap.size with hlt | hge
    · exact .inl (Classical.not_not.1 (hk hlt))
    · exact .inr hge
  refine ⟨fp, ⟨h1, h2, (h5 (sb, 140, storeCells g name mb false) (by simp)).2, h8, (h5 (sb, 140, storeCells g name mb false) (by simp)).1, h6⟩, ⟨h3.os, h3.tape, h3.output, h3.size, fun k hk hn => h3.block k hk hn⟩, fun k hk => ?_⟩
  rcases hk with hk | rfl | rfl
  · exact conv k (h4 k hk)
  · exact hsb
  · exact conv k h7
/-- Another store on the same drive. -/
theorem St.other {N' sb' mb' : Nat} {d' : Dr} {nm' : Key} {m' : KM} {Z' : Nat → Prop} (h : St W g d N name sb mb m Z) (hu : St W' g d' N' nm' sb' mb' m' Z') (ht : Turn T W W') (h1 : ¬ T sb) (h2 : ¬ T mb) (hf : ∀ k, foot Z' sb' mb' k → T k ∨ W.heap.size ≤ k) : St W' g d' N' name sb mb m Z' :=
  ⟨hu.dr, hu.ok, ht.blk h.blk h1, h.map.kept (ht.block mb h.map.lt h2), fun hz => by
    rcases hf _ (.inl hz) with hh | hh
    · exact h1 hh
    · have := h.blk.lt; omega, fun hz => by
    rcases hf _ (.inl hz) with hh | hh
    · exact h2 hh
    · have := h.map.lt; omega⟩
def StPost (W : World) (T : Nat → Prop) (g : Nat) (d : Dr) (N : Nat) (name : Key) (sb : Nat) (m : KM) (x : Int) (e : Ending) (w' : World) : Prop :=
  e = .returned (.int .i64 x) ∧ ∃ mb Z, St w' g d N name sb mb m Z ∧ Turn T W w' ∧ ∀ k, foot Z sb mb k → T k ∨ W.heap.size ≤ k
theorem st_Apply_ok (h : St W g d N name sb mb m Z) (hX : ∀ x ∈ X1, ¬ foot Z sb mb x.1 ∧ Blk W x.1 x.2.1 x.2.2) (hd : d.down = false) (A : Option Addr) (c : Nat) (l : List Wr) (hw : ∀ W', (∀ x ∈ X1, Blk W' x.1 x.2.1 x.2.2) → WsAt W' A l)
    (hl : l.length ≤ 1000) (hm : mayB l = true) (hbl : (bodyB l).length ≤ 800000) (hml : m.length ≤ 100000) (hN : N < 1000000) (hn : name.length ≤ 20) (hA : (d.append (fileN name logN) (frameB l)).2 = 0) (hS : ((d.append (fileN name logN) (frameB l)).1.sync (fileN name logN)).2 = 0) :
    Calls Tryz.prog 42 #[.pointer (some ⟨sb, 0, none⟩), .slice A l.length c] W (StPost W (foot Z sb mb) g ((d.append (fileN name logN) (frameB l)).1.sync (fileN name logN)).1 (N + 1) name sb (doB m l) 0) := by
  refine (kv_Apply_ok (h.mw hX) (fun _ hn => hn (.inr (.inl rfl))) (fun x hx e => (hX x hx).1 (.inr (.inl e))) hd A c l hw hl hm hbl hml hN hn hA hS).mono ?_
  rintro e w' ⟨rfl, mb', hM⟩
  exact ⟨rfl, mb', hM.st (.inl (.inr (.inl rfl)))⟩
theorem st_Apply_arg (h : St W g d N name sb mb m Z) (hd : d.down = false) (A : Option Addr) (c : Nat) (l : List Wr) (hw : WsAt W A l) (hl : l.length ≤ 1000) (hm : mayB l = false) :
    Calls Tryz.prog 42 #[.pointer (some ⟨sb, 0, none⟩), .slice A l.length c] W (StPost W (foot Z sb mb) g d N name sb m 1) := by
  refine (kv_Apply_arg (h.mw (X1 := []) (by simp)) hd A c l hw hl hm).mono ?_
  rintro e w' ⟨rfl, hM⟩
  exact ⟨rfl, mb, hM.st (.inl (.inr (.inl rfl)))⟩
def OpenPost14 (W : World) (T : Nat → Prop) (g : Nat) (d : Dr) (N : Nat) (name : Key) (m : KM) (e : Ending) (w' : World) : Prop :=
  ∃ sb mb Z, e = .returned (.tuple #[.pointer (some ⟨sb, 0, none⟩), .int .i64 0]) ∧ W.heap.size ≤ sb ∧ St w' g d N name sb mb m Z ∧ Turn T W w' ∧ ∀ k, foot Z sb mb k → T k ∨ W.heap.size ≤ k
theorem fw_of (hd : IsDrive W g d Z) (ho : d.Ok N) : FW ⟨W, fun k => ¬ Z k⟩ g d N [] W := ⟨Z, hd, ho, Fr.kept_self _, fun k hk _ hn => hn hk, by simp⟩
theorem st_Open_new (hd : IsDrive W g d Z) (ho : d.Ok N) (hN : N ≤ 1000000000) (hn : name ≠ []) (hl : name.length ≤ 20) (ha : ∀ c ∈ name, abcT.contains c = true) (hdn : d.down = false) (hB : d.readE (fileN name baseN) = 10) (hL : d.readE (fileN name logN) = 10) (hC : (d.create (fileN name logN)).2 = 0) :
    Calls Tryz.prog 27 #[.pointer (some ⟨g, 0, none⟩), .string (S name)] W (OpenPost14 W Z g (d.create (fileN name logN)).1 N name []) := by
  refine (kv_Open_new (fw_of hd ho) hN hn hl ha hdn hB hL hC).mono ?_
  rintro e w' ⟨sb, mb, rfl, hsb, hM⟩
  obtain ⟨Z', h1, h2, h3⟩ := hM.st (.inr hsb)
  exact ⟨sb, mb, Z', rfl, hsb, h1, h2, h3⟩
theorem st_Open_old (hd : IsDrive W g d Z) (ho : d.Ok N) (hN : N ≤ 1000000000) (hn : name ≠ []) (hl : name.length ≤ 20) (ha : ∀ c ∈ name, abcT.contains c = true) (hdn : d.down = false) (bB bL : List (List Wr)) (hB : Loads d (fileN name baseN) bB) (hL : Loads d (fileN name logN) bL) (hcnt : bB.flatten.length + bL.flatten.length ≤ 100000) (hC : d.create (fileN name logN) = (d, 11)) (hS : (d.sync (fileN name logN)).2 = 0) :
    Calls Tryz.prog 27 #[.pointer (some ⟨g, 0, none⟩), .string (S name)] W (OpenPost14 W Z g (d.sync (fileN name logN)).1 N name (doB (doB [] bB.flatten) bL.flatten)) := by
  refine (kv_Open_old (fw_of hd ho) hN hn hl ha hdn bB bL hB hL hcnt hC hS).mono ?_
  rintro e w' ⟨sb, mb, rfl, hsb, hM⟩
  obtain ⟨Z', h1, h2, h3⟩ := hM.st (.inr hsb)
  exact ⟨sb, mb, Z', rfl, hsb, h1, h2, h3⟩
end
end Go.Proofs.YtiabfngiibabcaaGreatDoor

set_option linter.unusedVariables false
set_option linter.unusedSimpArgs false
set_option maxHeartbeats 1600000
set_option maxRecDepth 100000
namespace Go.Proofs.YtiabfngiibabcaaGreatDoor
open Go.RowKit Go.WideMaps Go.ChangeMaps Go.WideAt Go.WideShapes

abbrev Fs := List (Key × File)
/-- A drive at which nothing is armed, and whose power is there. -/
def U (fs : Fs) (q k : Int) : Dr := ⟨fs, q, k, false, -1⟩
def usedF (fs : Fs) : Nat := (fs.map fun p => p.2.all.length).sum
theorem U_used (fs : Fs) (q k : Int) : (U fs q k).used = (usedF fs : Nat) := rfl
theorem U_may0 (fs : Fs) (q k : Int) : (U fs q k).may 0 = (U fs q (wrap1 k), 0) := rfl
theorem U_deed0 (fs : Fs) (q k : Int) (f : Dr → Dr) : (U fs q k).deed 0 f = (f (U fs q (wrap1 k)), 0) := rfl
theorem U_deed (fs : Fs) (q k e : Int) (f : Dr → Dr) (he : e ≠ 0) : (U fs q k).deed e f = (U fs q k, e) := by
  have h : (U fs q k).may e = (U fs q k, e) := by
    unfold Dr.may
    rw [show (U fs q k).down = false from rfl]
    simp [he]
  unfold Dr.deed
  rw [h]
  simp [he]
section
variable {fs : Fs} {q k : Int} {n m : Key} {f : File} {x : List UInt8}
theorem U_create (hn : namedB n = true) (hg : kget fs n = none) (hl : fs.length < 65536) : (U fs q k).create n = (U (kput fs n ⟨[], []⟩) q (wrap1 k), 0) := by
  have hE : (U fs q k).createE n = 0 := by
    unfold Dr.createE
    rw [hn, show (U fs q k).files = fs from rfl, hg]
    simp
    omega
  unfold Dr.create
  rw [hE]
  rfl
theorem U_create_ex (hn : namedB n = true) (hg : kget fs n = some f) : (U fs q k).create n = (U fs q k, 11) := by
  have hE : (U fs q k).createE n = 11 := by
    unfold Dr.createE
    rw [hn, show (U fs q k).files = fs from rfl, hg]
    simp
  unfold Dr.create
  rw [hE, U_deed _ _ _ _ _ (by decide)]
theorem U_append (hg : kget fs n = some f) (hu : ((usedF fs + x.length : Nat) : Int) ≤ q) : (U fs q k).append n x = (U (kset fs n ⟨f.safe, f.pieces ++ [x]⟩) q (wrap1 k), 0) := by
  have hT : (U fs q k).thereE n = 0 := by
    unfold Dr.thereE
    rw [show (U fs q k).files = fs from rfl, hg]
    rfl
  have hE : (U fs q k).appendE n x.length = 0 := by
    unfold Dr.appendE
    rw [hT, U_used, show (U fs q k).quota = q from rfl, if_neg (by omega)]
  have hf : ∀ k', fileOf (U fs q k') n = f := fun k' => by
    unfold fileOf
    rw [show (U fs q k').files = fs from rfl, hg]
    rfl
  unfold Dr.append
  rw [hE, U_deed0, hf]
  rfl
theorem U_sync (hg : kget fs n = some f) : (U fs q k).sync n = (U (kput fs n ⟨f.all, []⟩) q (wrap1 k), 0) := by
  have hT : (U fs q k).thereE n = 0 := by
    unfold Dr.thereE
    rw [show (U fs q k).files = fs from rfl, hg]
    rfl
  have hf : ∀ k', fileOf (U fs q k') n = f := fun k' => by
    unfold fileOf
    rw [show (U fs q k').files = fs from rfl, hg]
    rfl
  unfold Dr.sync
  rw [hT, U_deed0, hf]
  rfl
theorem U_remove_none (hg : kget fs n = none) : (U fs q k).remove n = (U fs q k, 10) := by
  have hT : (U fs q k).thereE n = 10 := by
    unfold Dr.thereE
    rw [show (U fs q k).files = fs from rfl, hg]
    rfl
  unfold Dr.remove
  rw [hT, U_deed _ _ _ _ _ (by decide)]
theorem U_rename (hm : namedB m = true) (hg : kget fs n = some f) : (U fs q k).rename n m = (U (kput (kdel fs n) m f) q (wrap1 k), 0) := by
  have hT : (U fs q k).thereE n = 0 := by
    unfold Dr.thereE
    rw [show (U fs q k).files = fs from rfl, hg]
    rfl
  have hE : (U fs q k).renameE n m = 0 := by
    unfold Dr.renameE
    rw [hT, hm]
    simp
  have hf : ∀ k', fileOf (U fs q k') n = f := fun k' => by
    unfold fileOf
    rw [show (U fs q k').files = fs from rfl, hg]
    rfl
  unfold Dr.rename
  rw [hE, U_deed0, hf]
  rfl
theorem U_readE (hg : kget fs n = some f) : (U fs q k).readE n = 0 ∧ (U fs q k).read n = f.all := by
  have hE : (U fs q k).readE n = 0 := by
    unfold Dr.readE Dr.thereE
    rw [show (U fs q k).down = false from rfl, show (U fs q k).files = fs from rfl, hg]
    rfl
  refine ⟨hE, ?_⟩
  unfold Dr.read fileOf
  rw [hE, show (U fs q k).files = fs from rfl, hg]
  rfl
theorem U_readE_none (hg : kget fs n = none) : (U fs q k).readE n = 10 := by
  unfold Dr.readE Dr.thereE
  rw [show (U fs q k).down = false from rfl, show (U fs q k).files = fs from rfl, hg]
  rfl
/-- replace, all of it: what the files are. -/
theorem U_repl {name en data : Key} (ht : namedB (fileN name tmpN) = true) (he : namedB (fileN name en) = true) (hg : kget fs (fileN name tmpN) = none) (hl : fs.length < 65536) (hr : Rising fs)
    (hu : ((usedF (kput fs (fileN name tmpN) ⟨[], []⟩) + data.length : Nat) : Int) ≤ q) :
    ReplOk (U fs q k) name en data ∧ ∃ k', replD (U fs q k) name en data = U (kput (kdel (kput (kset (kput fs (fileN name tmpN) ⟨[], []⟩) (fileN name tmpN) ⟨[], [data]⟩) (fileN name tmpN) ⟨data, []⟩) (fileN name tmpN)) (fileN name en) ⟨data, []⟩) q k' := by
  have r1 : Rising (kput fs (fileN name tmpN) ⟨[], []⟩) := hr.put _ _
  have g1 : kget (kput fs (fileN name tmpN) ⟨[], []⟩) (fileN name tmpN) = some ⟨[], []⟩ := kget_put_self hr _ _
  have g2 : kget (kset (kput fs (fileN name tmpN) ⟨[], []⟩) (fileN name tmpN) ⟨[], [data]⟩) (fileN name tmpN) = some ⟨[], [data]⟩ := kget_set_self r1 _ g1
  have r2 : Rising (kset (kput fs (fileN name tmpN) ⟨[], []⟩) (fileN name tmpN) ⟨[], [data]⟩) := r1.set _ _
  have g3 : kget (kput (kset (kput fs (fileN name tmpN) ⟨[], []⟩) (fileN name tmpN) ⟨[], [data]⟩) (fileN name tmpN) ⟨data, []⟩) (fileN name tmpN) = some ⟨data, []⟩ := kget_put_self r2 _ _
  have e0 := U_remove_none (q := q) (k := k) hg
  have e1 := U_create (q := q) (k := k) ht hg hl
  have e2 := U_append (q := q) (k := wrap1 k) g1 hu
  have e3 := U_sync (q := q) (k := wrap1 (wrap1 k)) g2
  rw [show File.all ⟨[], [data]⟩ = data by simp [File.all]] at e3
  have e4 := U_rename (q := q) (k := wrap1 (wrap1 (wrap1 k))) he g3
  rw [List.nil_append] at e2
  refine ⟨⟨?_, ?_, ?_, ?_, ?_⟩, wrap1 (wrap1 (wrap1 (wrap1 k))), ?_⟩
  · rw [e0]
    show (10 : Int) ≠ 13
    decide
  · rw [e0, e1]
  · rw [e0, e1, e2]
  · rw [e0, e1, e2, e3]
  · rw [e0, e1, e2, e3, e4]
  · unfold replD
    rw [e0, e1, e2, e3, e4]
end
/-! the store "a" -/
def aN : Key := [97]
/-- A drive that has the store's files, all synced. -/
def fsA (base : Option (List UInt8)) (log : List UInt8) : Fs := match base with
  | none => [(fileN aN logN, ⟨log, []⟩)]
  | some b => [(fileN aN baseN, ⟨b, []⟩), (fileN aN logN, ⟨log, []⟩)]
def lenO (b : Option (List UInt8)) : Nat := match b with
  | none => 0
  | some b => b.length
theorem fsA_used (b : Option (List UInt8)) (l : List UInt8) : usedF (fsA b l) = lenO b + l.length := by
  cases b <;> simp [fsA, usedF, lenO, File.all]
theorem fsA_log (b : Option (List UInt8)) (l : List UInt8) : kget (fsA b l) (fileN aN logN) = some ⟨l, []⟩ := by cases b <;> rfl
theorem fsA_tmp (b : Option (List UInt8)) (l : List UInt8) : kget (fsA b l) (fileN aN tmpN) = none := by cases b <;> rfl
theorem fsA_rising (b : Option (List UInt8)) (l : List UInt8) : Rising (fsA b l) := by
  cases b with
  | none => exact List.pairwise_singleton _ _
  | some b => exact List.Pairwise.cons (by intro p hp; simp only [List.mem_singleton] at hp; subst hp; show bytesBefore (fileN aN baseN) (fileN aN logN) = true; decide) (List.pairwise_singleton _ _)
theorem fsA_len (b : Option (List UInt8)) (l : List UInt8) : (fsA b l).length < 65536 := by cases b <;> simp [fsA]
theorem fsA_new (q : Int) : (Dr.new q).create (fileN aN logN) = (U (fsA none []) q (wrap1 0), 0) := rfl
theorem fsA_apply {q k : Int} {b : Option (List UInt8)} {l x : List UInt8} (h : ((lenO b + l.length + x.length : Nat) : Int) ≤ q) :
    ((U (fsA b l) q k).append (fileN aN logN) x).2 = 0 ∧ (((U (fsA b l) q k).append (fileN aN logN) x).1.sync (fileN aN logN)).2 = 0 ∧ ∃ k', (((U (fsA b l) q k).append (fileN aN logN) x).1.sync (fileN aN logN)).1 = U (fsA b (l ++ x)) q k' := by
  have e1 := U_append (k := k) (fsA_log b l) (q := q) (x := x) (by rw [fsA_used]; exact h)
  have g2 := kget_set_self (fsA_rising b l) (⟨l, [] ++ [x]⟩ : File) (fsA_log b l)
  have e2 := U_sync (q := q) (k := wrap1 k) g2
  rw [show File.all ⟨l, [] ++ [x]⟩ = l ++ x by simp [File.all]] at e2
  rw [e1, e2]
  refine ⟨rfl, rfl, wrap1 (wrap1 k), ?_⟩
  cases b <;> rfl
theorem fsA_base {q k : Int} {b : Option (List UInt8)} {l x : List UInt8} (h : ((lenO b + l.length + x.length : Nat) : Int) ≤ q) :
    ReplOk (U (fsA b l) q k) aN baseN x ∧ ∃ k', replD (U (fsA b l) q k) aN baseN x = U (fsA (some x) l) q k' := by
  have hu : usedF (kput (fsA b l) (fileN aN tmpN) ⟨[], []⟩) = lenO b + l.length := by
    cases b with
    | none => simp [fsA, lenO, usedF, kput, kdel, kins, fileN, aN, logN, tmpN, bytesBefore, File.all]
    | some b => simp [fsA, lenO, usedF, kput, kdel, kins, fileN, aN, logN, tmpN, baseN, bytesBefore, File.all]
  obtain ⟨h1, k', h2⟩ := U_repl (k := k) (name := aN) (en := baseN) (data := x) (by decide) (by decide) (fsA_tmp b l) (fsA_len b l) (fsA_rising b l) (by rw [hu]; exact h)
  refine ⟨h1, k', h2.trans ?_⟩
  cases b <;> rfl
theorem fsA_logR {q k : Int} {b l : List UInt8} (h : ((b.length + l.length : Nat) : Int) ≤ q) :
    ReplOk (U (fsA (some b) l) q k) aN logN [] ∧ ∃ k', replD (U (fsA (some b) l) q k) aN logN [] = U (fsA (some b) []) q k' := by
  have hu : usedF (kput (fsA (some b) l) (fileN aN tmpN) ⟨[], []⟩) = b.length + l.length := by
    simp [fsA, usedF, kput, kdel, kins, fileN, aN, logN, tmpN, baseN, bytesBefore, File.all]
  obtain ⟨h1, k', h2⟩ := U_repl (k := k) (name := aN) (en := logN) (data := []) (by decide) (by decide) (fsA_tmp (some b) l) (fsA_len (some b) l) (fsA_rising (some b) l) (by rw [hu]; simpa using h)
  exact ⟨h1, k', h2.trans rfl⟩
/-! what a map is made of -/
/-- At most so many keys, each of 1 to 210 bytes, values of at most 100. -/
def Small (m : KM) (n : Nat) : Prop := m.length ≤ n ∧ ∀ p ∈ m, 1 ≤ p.1.length ∧ p.1.length ≤ 210 ∧ p.2.length ≤ 100
theorem Small.doW {m : KM} {n : Nat} (h : Small m n) {x : Wr} (h1 : 1 ≤ x.key.length) (h2 : x.key.length ≤ 210) (h3 : x.val.length ≤ 100) : Small (doW m x) (n + 1) := by
  refine ⟨Nat.le_trans (doW_len m x) (by have := h.1; omega), fun p hp => ?_⟩
  unfold Go.Proofs.YtiabfngiibabcaaGreatDoor.doW at hp
  split at hp
  · exact h.2 p (mem_kdel.1 hp).1
  · rcases mem_kput.1 hp with rfl | hp
    · exact ⟨h1, h2, h3⟩
    · exact h.2 p hp.1
theorem Small.doB {n : Nat} (b : List Wr) : ∀ {m : KM} {n : Nat}, Small m n → (∀ x ∈ b, 1 ≤ x.key.length ∧ x.key.length ≤ 210 ∧ x.val.length ≤ 100) → Small (doB m b) (n + b.length) := by
  induction b with
  | nil => intro m n h _; exact h
  | cons x b ih =>
    intro m n h hx
    obtain ⟨q1, q2, q3⟩ := hx x (by simp)
    have := ih (h.doW q1 q2 q3) fun y hy => hx y (by simp [hy])
    rw [List.length_cons]
    rw [show n + (b.length + 1) = n + 1 + b.length by omega]
    exact this
theorem Small.body {m : KM} {n : Nat} (h : Small m n) : (bodyB (m.map wOf)).length ≤ n * 317 := by
  have := bodyB_le (b := m.map wOf) (k := 210) (v := 100) (fun x hx => by
    obtain ⟨p, hp, rfl⟩ := List.mem_map.1 hx
    exact ⟨(h.2 p hp).2.1, (h.2 p hp).2.2⟩)
  rw [List.length_map] at this
  exact Nat.le_trans this (Nat.mul_le_mul_right _ h.1)
theorem small_nil : Small [] 0 := ⟨Nat.le_refl _, by simp⟩
theorem may_keys {b : List Wr} (h : mayB b = true) : ∀ x ∈ b, 1 ≤ x.key.length ∧ x.key.length ≤ 200 := fun x hx => by
  have := List.all_eq_true.1 h x hx
  simp only [okW, Bool.and_eq_true, Bool.not_eq_true', decide_eq_true_eq] at this
  obtain ⟨⟨⟨h1, h2⟩, -⟩, -⟩ := this
  refine ⟨?_, h2⟩
  have : x.key ≠ [] := by simpa using h1
  exact List.length_pos_iff.2 this
theorem doB_wOf {m : KM} (hr : Rising m) : doB [] (m.map wOf) = m := by
  have aux : ∀ (m' m : KM), Rising (m' ++ m) → doB m' (m.map wOf) = m' ++ m := by
    intro m' m
    induction m generalizing m' with
    | nil => intro _; simp [doB]
    | cons p r ih =>
      intro hrr
      have hall : ∀ y ∈ m', bytesBefore y.1 p.1 = true := fun y hy => (List.pairwise_append.1 hrr).2.2 y hy p (by simp)
      have hstep : doW m' (wOf p) = m' ++ [p] := by
        unfold doW
        rw [if_neg (by simp [wOf])]
        have hd : kdel m' p.1 = m' := by
          unfold kdel
          rw [List.filter_eq_self]
          intro y hy
          have := hall y hy
          have hne : y.1 ≠ p.1 := by
            intro e
            rw [e, bytes_irrefl] at this
            cases this
          simpa using hne
        show kput m' p.1 p.2 = m' ++ [p]
        unfold kput
        rw [hd]
        clear hrr hd ih
        induction m' with
        | nil => rfl
        | cons y t iht =>
          have hy := hall y (by simp)
          have hnb : ¬ bytesBefore p.1 y.1 = true := fun h => by
            have := bytes_trans _ _ _ hy h
            rw [bytes_irrefl] at this
            cases this
          unfold kins
          rw [if_neg hnb, iht fun z hz => hall z (by simp [hz])]
          rfl
      rw [List.map_cons]
      show doB (doW m' (wOf p)) (r.map wOf) = _
      rw [hstep, ih _ (by simpa using hrr)]
      simp
  have := aux [] m (by simpa using hr)
  simpa using this
theorem doB_app (m : KM) (a b : List Wr) : doB m (a ++ b) = doB (doB m a) b := by simp [doB]
end Go.Proofs.YtiabfngiibabcaaGreatDoor

set_option linter.unusedVariables false
set_option linter.unusedSimpArgs false
namespace Go.Proofs.YtiabfngiibabcaaGreatDoor
open Go.RowKit Go.WideAt

/-! ### numbers as bytes, the highest first -/
def hiB (n : Nat) : Nat → List UInt8
  | 0 => []
  | k + 1 => UInt8.ofNat (n / 2 ^ (8 * k)) :: hiB n k
theorem hiB_len (n k : Nat) : (hiB n k).length = k := by
  induction k with
  | zero => rfl
  | succ k ih => simp [hiB, ih]
def numH (l : List UInt8) : Nat := l.foldl (fun n c => n * 256 + c.toNat) 0
theorem numH_snoc (l : List UInt8) (c : UInt8) : numH (l ++ [c]) = numH l * 256 + c.toNat := by simp [numH]
theorem fold_lt (l : List UInt8) : ∀ acc : Nat, l.foldl (fun n c => n * 256 + c.toNat) acc < (acc + 1) * 256 ^ l.length := by
  induction l with
  | nil => intro acc; simp
  | cons c r ih =>
    intro acc
    rw [List.foldl_cons, List.length_cons, Nat.pow_succ]
    have h1 := ih (acc * 256 + c.toNat)
    have := c.toNat_lt
    refine Nat.lt_of_lt_of_le h1 ?_
    have e : (acc + 1) * (256 ^ r.length * 256) = ((acc + 1) * 256) * 256 ^ r.length := by rw [Nat.mul_assoc, Nat.mul_comm 256]
    rw [e]
    exact Nat.mul_le_mul_right _ (by omega)
theorem numH_lt (l : List UInt8) : numH l < 256 ^ l.length := by
  have := fold_lt l 0
  rw [Nat.zero_add, Nat.one_mul] at this
  exact this
theorem fold_hiB (n k : Nat) : ∀ acc : Nat, (hiB n k).foldl (fun n c => n * 256 + c.toNat) acc = acc * 256 ^ k + n % 256 ^ k := by
  induction k with
  | zero => intro acc; simp [hiB, Nat.mod_one]
  | succ k ih =>
    intro acc
    rw [hiB, List.foldl_cons, ih, Nat.pow_succ, Nat.mod_mul, show (2 : Nat) ^ (8 * k) = 256 ^ k by rw [Nat.pow_mul], UInt8.toNat_ofNat', Nat.add_mul]
    have e : acc * 256 * 256 ^ k = acc * (256 ^ k * 256) := by rw [Nat.mul_assoc, Nat.mul_comm 256]
    have e2 : n / 256 ^ k % 2 ^ 8 * 256 ^ k = 256 ^ k * (n / 256 ^ k % 256) := Nat.mul_comm _ _
    omega
theorem numH_hiB (n k : Nat) (h : n < 256 ^ k) : numH (hiB n k) = n := by
  unfold numH
  rw [fold_hiB, Nat.mod_eq_of_lt h]
  omega

/-! ### leaves -/
structure Lf where
  time : Int
  cert : List UInt8
def okL (x : Lf) : Bool := decide (0 ≤ x.time) && decide (x.time ≤ 1125899906842624) && !(x.cert == []) && decide (x.cert.length ≤ 1000)
def leafB (x : Lf) : List UInt8 := [0, 0] ++ (hiB x.time.toNat 8 ++ (hiB 0 2 ++ (hiB x.cert.length 3 ++ (x.cert ++ hiB 0 2))))
theorem leafB_len (x : Lf) : (leafB x).length = 17 + x.cert.length := by
  simp [leafB, hiB_len]; omega
theorem okL_of {x : Lf} (h : okL x = true) : (0 ≤ x.time ∧ x.time ≤ 1125899906842624) ∧ x.cert ≠ [] ∧ x.cert.length ≤ 1000 := by
  unfold okL at h
  simp only [Bool.and_eq_true, decide_eq_true_eq, Bool.not_eq_true', beq_eq_false_iff_ne] at h
  exact ⟨h.1.1, h.1.2, h.2⟩

/-! ### decimals of a width -/
def dgs (u : Nat) : Nat → List UInt8
  | 0 => []
  | k + 1 => dgs (u / 10) k ++ [UInt8.ofNat (48 + u % 10)]
theorem dgs_len (u k : Nat) : (dgs u k).length = k := by
  induction k generalizing u with
  | zero => rfl
  | succ k ih => simp [dgs, ih]
theorem dgs_zero (k : Nat) : dgs 0 k = List.replicate k 48 := by
  induction k with
  | zero => rfl
  | succ k ih => rw [dgs, Nat.zero_div, ih, List.replicate_succ']; rfl
theorem dgs_pad (z : Nat) : ∀ (k u : Nat), u < 10 ^ k → dgs u (z + k) = List.replicate z 48 ++ dgs u k
  | 0, u, h => by
    obtain rfl : u = 0 := by simpa using h
    rw [Nat.add_zero, dgs_zero, dgs, List.append_nil]
  | k + 1, u, h => by
    rw [Nat.pow_succ] at h
    rw [← Nat.add_assoc, dgs, dgs_pad z k (u / 10) (by omega), dgs, List.append_assoc]
theorem dec_dgs (u : Nat) : Lib.decDigits u = dgs u (Lib.nDigits u) := by
  induction u using Nat.strongRecOn with
  | _ u ih =>
    by_cases h : u < 10
    · rw [Lib.decDigits, dif_pos h, Lib.nDigits_small h]
      simp [dgs, Nat.mod_eq_of_lt h]
    · rw [Lib.decDigits, dif_neg h, Lib.nDigits_big h, ih (u / 10) (by omega)]
      rfl
/-- A number, at least so many digits. -/
def padL (n w : Nat) : List UInt8 := List.replicate (w - (Lib.decDigits n).length) 48 ++ Lib.decDigits n
theorem padL_dgs (n w : Nat) : padL n w = dgs n (max w (Lib.nDigits n)) := by
  unfold padL
  have h := dgs_pad (w - Lib.nDigits n) (Lib.nDigits n) n (Lib.lt_pow_nDigits n)
  rw [Lib.decDigits_length, dec_dgs, ← h]
  congr 1
  omega
theorem nDigits_le : ∀ (k u : Nat), u < 10 ^ (k + 1) → Lib.nDigits u ≤ k + 1
  | 0, u, h => by rw [Lib.nDigits_small (by simpa using h)]; omega
  | k + 1, u, h => by
    by_cases h1 : u < 10
    · rw [Lib.nDigits_small h1]; omega
    · rw [Nat.pow_succ] at h
      rw [Lib.nDigits_big h1]
      have := nDigits_le k (u / 10) (by omega)
      omega
theorem padL_fix (n w : Nat) (hw : 1 ≤ w) (h : n < 10 ^ w) : padL n w = dgs n w := by
  obtain ⟨k, rfl⟩ : ∃ k, w = k + 1 := ⟨w - 1, by omega⟩
  rw [padL_dgs, Nat.max_eq_left (nDigits_le k n h)]
theorem padL_len (n w : Nat) : (padL n w).length = max w (Lib.nDigits n) := by rw [padL_dgs, dgs_len]
theorem dig_val (u : Nat) : (UInt8.ofNat (48 + u % 10)).toNat = 48 + u % 10 := by
  rw [UInt8.toNat_ofNat']; omega
theorem parse_dgs : ∀ (k u acc : Nat) (r : List UInt8), u < 10 ^ k → acc * 10 ^ k + u < 100000000000000000 → Lib.parseUint10 acc (dgs u k ++ r) = Lib.parseUint10 (acc * 10 ^ k + u) r
  | 0, u, acc, r, h, _ => by
    obtain rfl : u = 0 := by simpa using h
    simp [dgs]
  | k + 1, u, acc, r, h, hb => by
    rw [Nat.pow_succ] at h hb
    have e : acc * (10 ^ k * 10) = acc * 10 ^ k * 10 := by rw [Nat.mul_assoc]
    rw [e] at hb
    rw [dgs, List.append_assoc, parse_dgs k (u / 10) acc _ (by omega) (by omega), List.singleton_append]
    have hd := dig_val u
    conv => lhs; unfold Lib.parseUint10
    rw [hd, if_pos (by omega), if_neg (by omega), if_neg (by omega), Nat.pow_succ, e]
    congr 1
    omega
theorem parse_dgs_all (k u : Nat) (h : u < 10 ^ k) (hb : u < 100000000000000000) : Lib.parseUint10 0 (dgs u k) = .ok u := by
  have := parse_dgs k u 0 [] h (by omega)
  rw [List.append_nil] at this
  rw [this]
  simp [Lib.parseUint10]
theorem atoi_dgs (k u : Nat) (hk : 1 ≤ k) (h : u < 10 ^ k) (hb : u < 100000000000000000) : Lib.atoiAll (dgs u k) = .ok u := by
  have hp := parse_dgs_all k u h hb
  have hne : dgs u k ≠ [] := fun e => by
    have := congrArg List.length e
    rw [dgs_len] at this
    simp at this
    omega
  have hm : Lib.parseMag (dgs u k) = .ok u := by unfold Lib.parseMag; rw [if_neg hne, hp]
  have hall : ∀ c ∈ dgs u k, 48 ≤ c.toNat ∧ c.toNat ≤ 57 := by
    clear hp hne hm h hb hk
    induction k generalizing u with
    | zero => simp [dgs]
    | succ k ih =>
      intro c hc
      rw [dgs] at hc
      rcases List.mem_append.1 hc with hc | hc
      · exact ih _ c hc
      · rw [List.mem_singleton] at hc
        subst hc
        have := dig_val u
        omega
  cases hd : dgs u k with
  | nil => exact absurd hd hne
  | cons c r =>
    rw [hd] at hm hall
    have hc := hall c (by simp)
    unfold Lib.atoiAll
    have n1 : ¬ (c.toNat = 43 ∨ c.toNat = 45) := by omega
    have n2 : ¬ c.toNat = 45 := by omega
    have n3 : (if c.toNat = 43 ∨ c.toNat = 45 then r else c :: r) = c :: r := if_neg n1
    simp only [n3, hm]
    rw [if_neg (by omega), if_neg (by omega), if_neg n2]
theorem atoi_padL (n w : Nat) (hb : n < 100000000000000000) : Lib.atoiAll (padL n w) = .ok n := by
  rw [padL_dgs]
  have := Lib.nDigits_pos n
  refine atoi_dgs _ n (by omega) (Nat.lt_of_lt_of_le (Lib.lt_pow_nDigits n) (Nat.pow_le_pow_right (by omega) (by omega))) hb
theorem dgs_digits (u k : Nat) : ∀ c ∈ dgs u k, 48 ≤ c.toNat ∧ c.toNat ≤ 57 := by
  induction k generalizing u with
  | zero => simp [dgs]
  | succ k ih =>
    intro c hc
    rw [dgs] at hc
    rcases List.mem_append.1 hc with hc | hc
    · exact ih _ c hc
    · rw [List.mem_singleton] at hc
      subst hc
      have := dig_val u
      omega

/-! ### their order -/
theorem before_left {x y : List UInt8} (h : bytesBefore x y = true) (hl : x.length = y.length) (s t : List UInt8) : bytesBefore (x ++ s) (y ++ t) = true := by
  induction x generalizing y with
  | nil =>
    obtain rfl : y = [] := List.eq_nil_of_length_eq_zero hl.symm
    simp [bytesBefore] at h
  | cons a x ih =>
    cases y with
    | nil => simp at hl
    | cons b y =>
      simp only [List.cons_append, bytesBefore, Bool.or_eq_true, decide_eq_true_eq, Bool.and_eq_true, beq_iff_eq] at h ⊢
      rcases h with h | ⟨h1, h2⟩
      · exact .inl h
      · exact .inr ⟨h1, ih h2 (by simpa using hl)⟩
theorem before_right (x : List UInt8) {s t : List UInt8} (h : bytesBefore s t = true) : bytesBefore (x ++ s) (x ++ t) = true := by
  induction x with
  | nil => exact h
  | cons a x ih => simp [bytesBefore, ih]
theorem dgs_before : ∀ (k a b : Nat), a < b → b < 10 ^ k → bytesBefore (dgs a k) (dgs b k) = true
  | 0, a, b, h, hb => by simp at hb; omega
  | k + 1, a, b, h, hb => by
    rw [Nat.pow_succ] at hb
    rw [dgs, dgs]
    by_cases he : a / 10 = b / 10
    · rw [he]
      refine before_right _ ?_
      have h1 := dig_val a
      have h2 := dig_val b
      have : UInt8.ofNat (48 + a % 10) < UInt8.ofNat (48 + b % 10) := by
        rw [UInt8.lt_iff_toNat_lt]; omega
      simp only [bytesBefore, Bool.or_eq_true, decide_eq_true_eq]
      exact .inl this
    · exact before_left (dgs_before k _ _ (by omega) (by omega)) (by rw [dgs_len, dgs_len]) _ _

/-! ### keys -/
def numK (n : Nat) : List UInt8 := padL n 7
def lK (i : Nat) : Key := [108, 47] ++ numK i
def pK (i : Nat) : Key := [112, 47] ++ numK i
def hK (i : Nat) : Key := [104, 47] ++ numK i
def nK (lv i : Nat) : Key := [110, 47] ++ (padL lv 2 ++ ([47] ++ numK i))
def hxd (n : Nat) : UInt8 := if n < 10 then UInt8.ofNat (48 + n) else UInt8.ofNat (87 + n)
def hexB (l : List UInt8) : List UInt8 := l.flatMap fun c => [hxd (c.toNat / 16), hxd (c.toNat % 16)]
theorem hexB_len (l : List UInt8) : (hexB l).length = 2 * l.length := by
  induction l with
  | nil => rfl
  | cons c r ih => simp [hexB] at ih ⊢; omega
theorem hexB_cons (c : UInt8) (r : List UInt8) : hexB (c :: r) = hxd (c.toNat / 16) :: hxd (c.toNat % 16) :: hexB r := rfl
theorem hexB_snoc (l : List UInt8) (c : UInt8) : hexB (l ++ [c]) = hexB l ++ [hxd (c.toNat / 16), hxd (c.toNat % 16)] := by simp [hexB]
def iK (h : List UInt8) : Key := [105, 47] ++ hexB h
theorem numK_fix {n : Nat} (h : n < 10000000) : numK n = dgs n 7 := padL_fix n 7 (by omega) (by simpa using h)
theorem numK_len {n : Nat} (h : n < 10000000) : (numK n).length = 7 := by rw [numK_fix h, dgs_len]
theorem numK_before {a b : Nat} (h : a < b) (hb : b < 10000000) : bytesBefore (numK a) (numK b) = true := by
  rw [numK_fix hb, numK_fix (by omega)]
  exact dgs_before 7 a b h (by simpa using hb)
theorem numK_inj {a b : Nat} (ha : a < 10000000) (hb : b < 10000000) (h : numK a = numK b) : a = b := by
  rcases Nat.lt_trichotomy a b with h1 | h1 | h1
  · have := numK_before h1 hb
    rw [h, bytes_irrefl] at this
    cases this
  · exact h1
  · have := numK_before h1 ha
    rw [h, bytes_irrefl] at this
    cases this
theorem atoi_numK {n : Nat} (hb : n < 100000000000000000) : Lib.atoiAll (numK n) = .ok n := atoi_padL n 7 hb

/-! ### heads -/
structure Hd where
  size : Nat
  time : Nat
  root : List UInt8
def headV (h : Hd) : List UInt8 := numK h.time ++ ([32] ++ hexB h.root)
end Go.Proofs.YtiabfngiibabcaaGreatDoor
