/- Walks of package kv: replace. Walk of kv.Compact where all goes well. -/
import Derived.Test.YtbjimikppdfmgaaGreatDoorKvG
set_option linter.unusedVariables false
set_option linter.unusedSimpArgs false
set_option maxHeartbeats 6400000
set_option maxRecDepth 100000
namespace Go.Proofs.YtbjimikppdfmgaaGreatDoor
open Go.RowKit

def tmpN : List UInt8 := [116, 109, 112]
section
variable {w0 : Fr} {W : World} {g N mb sb b3 b4 b5 b7 b8 : Nat} {d : Dr} {X : List Xc} {m : KM} {name : Key} {dead : Bool}
theorem MW.remove (h : MW w0 g d N X mb m W) (hN : N ≤ 1000000000) (nm : Key) (hl : nm.length ≤ 1000000) : Calls Tryz.prog 68 #[.pointer (some ⟨g, 0, none⟩), .string (S nm)] W fun e w' => e = .returned (.int .i64 (d.remove nm).2) ∧ MW w0 g (d.remove nm).1 N X mb m w' := by
  obtain ⟨fp, h1, h2, h3, h4, h5, h6, h7, h8⟩ := h
  refine (drive_Remove h1 h2 hN nm hl).mono ?_
  rintro e w' ⟨rfl, ht⟩
  exact ⟨rfl, MW.turned h1 h3 h4 h5 h6 h7 h8 ht (h2.remove nm)⟩
theorem MW.rename (h : MW w0 g d N X mb m W) (hN : N ≤ 1000000000) (a b : Key) (ha : a.length ≤ 1000000) (hb : b.length ≤ 1000000) : Calls Tryz.prog 73 #[.pointer (some ⟨g, 0, none⟩), .string (S a), .string (S b)] W fun e w' => e = .returned (.int .i64 (d.rename a b).2) ∧ MW w0 g (d.rename a b).1 N X mb m w' := by
  obtain ⟨fp, h1, h2, h3, h4, h5, h6, h7, h8⟩ := h
  refine (drive_Rename h1 h2 hN a b ha hb).mono ?_
  rintro e w' ⟨rfl, ht⟩
  exact ⟨rfl, MW.turned h1 h3 h4 h5 h6 h7 h8 ht (h2.rename a b)⟩
theorem MW.append_kept (h : MW w0 g d N X mb m W) (hN : N < 1000000000) (nm : Key) (hl : nm.length ≤ 1000000) (A : Option Addr) (data : List UInt8) (c : Nat) (hB : BytesAt W A data) (hA : ∀ p, A = some p → ∃ x ∈ X, x.1 = p.block) (hdl : data.length ≤ 1000000000) :
    Calls Tryz.prog 34 #[.pointer (some ⟨g, 0, none⟩), .string (S nm), .slice A data.length c] W fun e w' => e = .returned (.int .i64 (d.append nm data).2) ∧ MW w0 g (d.append nm data).1 (N + 1) X mb m w' := by
  obtain ⟨fp, h1, h2, h3, h4, h5, h6, h7, h8⟩ := h
  refine (drive_Append h1 h2 hN nm hl A data c hB (fun p hp hk => ?_) hdl).mono ?_
  · obtain ⟨x, hx, he⟩ := hA p hp
    rw [← he] at hk
    exact (h5 x hx).1 hk
  · rintro e w' ⟨rfl, ht⟩
    exact ⟨rfl, MW.turned h1 h3 h4 h5 h6 h7 h8 ht (h2.append nm data)⟩
theorem kv_replace1 (h : MW w0 g d N X mb m W) (t : Key) (ht : t.length ≤ 1000) (h7 : (b7, 22, #[.pointer (some ⟨g, 0, none⟩)]) ∈ X) (h8 : (b8, 9, #[.string (S t)]) ∈ X) :
    Calls Tryz.prog 69 #[.pointer (some ⟨b7, 0, none⟩), .pointer (some ⟨b8, 0, none⟩)] W fun e w' => e = .returned (.int .i64 (d.create t).2) ∧ MW w0 g (d.create t).1 N X mb m w' := by
  have c7 := box1 (h.blk h7)
  have c8 := box1 (h.blk h8)
  have OP := hid (h.create t (by omega))
  clear h
  go_enter Tryz.func69, Tryz.ntmps69
  go_wp2_with fail
  refine OP.out.mono ?_
  rintro e w1 ⟨rfl, hM⟩
  go_wp2
  go_ret
  exact ⟨rfl, hM⟩
theorem kv_replace2 (h : MW w0 g d N X mb m W) (hN : N < 1000000000) (t : Key) (ht : t.length ≤ 1000) (h7 : (b7, 22, #[.pointer (some ⟨g, 0, none⟩)]) ∈ X) (h8 : (b8, 9, #[.string (S t)]) ∈ X) (A : Option Addr) (data : List UInt8) (c : Nat) (h5 : (b5, 60, #[.slice A data.length c]) ∈ X)
    (hB : BytesAt W A data) (hA : ∀ p, A = some p → ∃ x ∈ X, x.1 = p.block) (hdl : data.length ≤ 1000000000) :
    Calls Tryz.prog 70 #[.pointer (some ⟨b7, 0, none⟩), .pointer (some ⟨b8, 0, none⟩), .pointer (some ⟨b5, 0, none⟩)] W fun e w' => e = .returned (.int .i64 (d.append t data).2) ∧ MW w0 g (d.append t data).1 (N + 1) X mb m w' := by
  have c7 := box1 (h.blk h7)
  have c8 := box1 (h.blk h8)
  have c5 := box1 (h.blk h5)
  have OP := hid (h.append_kept hN t (by omega) A data c hB hA hdl)
  clear h hB hA
  go_enter Tryz.func70, Tryz.ntmps70
  go_wp2_with fail
  refine OP.out.mono ?_
  rintro e w1 ⟨rfl, hM⟩
  go_wp2
  go_ret
  exact ⟨rfl, hM⟩
theorem kv_replace3 (h : MW w0 g d N X mb m W) (hN : N ≤ 1000000000) (t : Key) (ht : t.length ≤ 1000) (h7 : (b7, 22, #[.pointer (some ⟨g, 0, none⟩)]) ∈ X) (h8 : (b8, 9, #[.string (S t)]) ∈ X) :
    Calls Tryz.prog 71 #[.pointer (some ⟨b7, 0, none⟩), .pointer (some ⟨b8, 0, none⟩)] W fun e w' => e = .returned (.int .i64 (d.sync t).2) ∧ MW w0 g (d.sync t).1 N X mb m w' := by
  have c7 := box1 (h.blk h7)
  have c8 := box1 (h.blk h8)
  have OP := hid (h.sync hN t (by omega))
  clear h
  go_enter Tryz.func71, Tryz.ntmps71
  go_wp2_with fail
  refine OP.out.mono ?_
  rintro e w1 ⟨rfl, hM⟩
  go_wp2
  go_ret
  exact ⟨rfl, hM⟩
theorem kv_replace4 (h : MW w0 g d N X mb m W) (hs : (sb, 52, storeCells g name mb dead) ∈ X) (hN : N ≤ 1000000000) (hn : name.length ≤ 1000) (en : List UInt8) (he : en.length ≤ 1000) (t : Key) (ht : t.length ≤ 1000) (h7 : (b7, 22, #[.pointer (some ⟨g, 0, none⟩)]) ∈ X) (h8 : (b8, 9, #[.string (S t)]) ∈ X)
    (h3 : (b3, 24, #[.pointer (some ⟨sb, 0, none⟩)]) ∈ X) (h4 : (b4, 9, #[.string (S en)]) ∈ X) :
    Calls Tryz.prog 72 #[.pointer (some ⟨b7, 0, none⟩), .pointer (some ⟨b8, 0, none⟩), .pointer (some ⟨b3, 0, none⟩), .pointer (some ⟨b4, 0, none⟩)] W fun e w' => e = .returned (.int .i64 (d.rename t (fileN name en)).2) ∧ MW w0 g (d.rename t (fileN name en)).1 N X mb m w' := by
  have M2 : MW w0 g d N X mb m W.drew := h.below (below_drew1 (Below.refl _ _))
  have c7 := box1 (M2.blk h7)
  have c8 := box1 (M2.blk h8)
  have c3 := box1 (M2.blk h3)
  have c4 := box1 (M2.blk h4)
  obtain ⟨s0, s1, s2, s3⟩ := store4 (M2.blk hs)
  have OP := hid (M2.rename hN t (fileN name en) (by omega) (by unfold fileN; simp; omega))
  have FL := hid (fun W' (hc : W'.cell? ⟨sb, 1, none⟩ = some (.string (S name))) => kv_file W' sb name en hc hn he)
  generalize fileN name en = fl at *
  clear h M2
  go_enter Tryz.func72, Tryz.ntmps72
  go_wp2
  go_region_held3 (fun w' => w'.cell? ⟨b7, 0, none⟩ = some (.pointer (some ⟨g, 0, none⟩)) ∧ w'.cell? ⟨b8, 0, none⟩ = some (.string (S t)) ∧ w'.cell? ⟨b3, 0, none⟩ = some (.pointer (some ⟨sb, 0, none⟩)) ∧ w'.cell? ⟨b4, 0, none⟩ = some (.string (S en))) (simp [*, go_sem, World.cell?_alloc_past]) (first
    | (go_at_call 26; refine (FL.out _ (by assumption)).mono ?_; rintro e w' ⟨rfl, rfl⟩)
    | (go_at_call 73; refine OP.out.mono ?_; rintro e w3 ⟨rfl, hM3⟩; have y1 := box1 (hM3.blk h7); have y2 := box1 (hM3.blk h8); have y3 := box1 (hM3.blk h3); have y4 := box1 (hM3.blk h4)))
  all_goals
    go_wp2
    go_ret
    exact ⟨rfl, hM3⟩
/-- What replace makes of a drive. -/
def replD (d : Dr) (name : Key) (en data : List UInt8) : Dr := (((((d.remove (fileN name tmpN)).1.create (fileN name tmpN)).1.append (fileN name tmpN) data).1.sync (fileN name tmpN)).1.rename (fileN name tmpN) (fileN name en)).1
structure ReplOk (d : Dr) (name : Key) (en data : List UInt8) : Prop where
  rm : (d.remove (fileN name tmpN)).2 ≠ 13
  cr : ((d.remove (fileN name tmpN)).1.create (fileN name tmpN)).2 = 0
  ap : (((d.remove (fileN name tmpN)).1.create (fileN name tmpN)).1.append (fileN name tmpN) data).2 = 0
  sy : ((((d.remove (fileN name tmpN)).1.create (fileN name tmpN)).1.append (fileN name tmpN) data).1.sync (fileN name tmpN)).2 = 0
  rn : (((((d.remove (fileN name tmpN)).1.create (fileN name tmpN)).1.append (fileN name tmpN) data).1.sync (fileN name tmpN)).1.rename (fileN name tmpN) (fileN name en)).2 = 0
theorem kv_replace (h : MW w0 g d N X mb m W) (hs : (sb, 52, storeCells g name mb dead) ∈ X) (hN : N < 1000000) (hn : name.length ≤ 100) (en : List UInt8) (he : en.length ≤ 100) (A : Option Addr) (data : List UInt8) (c : Nat) (hw : ∀ W', (∀ x ∈ X, Blk W' x.1 x.2.1 x.2.2) → BytesAt W' A data) (hA : ∀ p, A = some p → ∃ x ∈ X, x.1 = p.block) (hdl : data.length ≤ 1000000) (ok : ReplOk d name en data) :
    Calls Tryz.prog 40 #[.pointer (some ⟨sb, 0, none⟩), .string (S en), .slice A data.length c] W fun e w' => e = .returned (.int .i64 0) ∧ MW w0 g (replD d name en data) (N + 1) X mb m w' := by
  have M1 := h.with_ 24 #[.pointer (some ⟨sb, 0, none⟩)]
  have M2 : MW w0 g d N ((W.heap.size + 1, 9, #[.string (S en)]) :: (W.heap.size, 24, #[.pointer (some ⟨sb, 0, none⟩)]) :: X) mb m ((W.alloc (.cells #[.pointer (some ⟨sb, 0, none⟩)] 24)).alloc (.cells #[.string (S en)] 9)) := by simpa using M1.with_ 9 #[.string (S en)]
  have M3 : MW w0 g d N ((W.heap.size + 1 + 1, 60, #[.slice A data.length c]) :: (W.heap.size + 1, 9, #[.string (S en)]) :: (W.heap.size, 24, #[.pointer (some ⟨sb, 0, none⟩)]) :: X) mb m (((W.alloc (.cells #[.pointer (some ⟨sb, 0, none⟩)] 24)).alloc (.cells #[.string (S en)] 9)).alloc (.cells #[.slice A data.length c] 60)) := by simpa using M2.with_ 60 #[.slice A data.length c]
  have M4 := M3
  have c3 := box1 (M4.blk (x := (W.heap.size, 24, #[.pointer (some ⟨sb, 0, none⟩)])) (by simp))
  obtain ⟨s0, s1, s2, s3⟩ := store4 (M4.blk (x := (sb, 52, storeCells g name mb dead)) (by simp [hs]))
  have FL := hid (fun W' (hc : W'.cell? ⟨sb, 1, none⟩ = some (.string (S name))) => kv_file W' sb name tmpN hc (by omega) (by decide))
  have HM4 := hid M4
  have HS := hid hs
  have HW := hid hw
  have HA := hid hA
  obtain ⟨o1, o2, o3, o4, o5⟩ := ok
  have htl : (fileN name tmpN).length ≤ 1000 := by unfold fileN tmpN; simp; omega
  clear h M1 M2 M3 M4 hs hw hA
  unfold replD
  generalize fileN name tmpN = t at *
  have OK := hid (And.intro o1 (And.intro o2 (And.intro o3 (And.intro o4 o5))))
  clear o1 o2 o3 o4 o5
  unfold tmpN at FL
  go_enter Tryz.func40, Tryz.ntmps40
  go_wp2
  generalize (((W.alloc (.cells #[.pointer (some ⟨sb, 0, none⟩)] 24)).alloc (.cells #[.string (S en)] 9)).alloc (.cells #[.slice A data.length c] 60)) = Wb at *
  have n1 := World.new_ne _ _ c3
  have n2 := World.new_ne _ _ s0
  have n3 := World.new_ne _ _ s1
  obtain ⟨X3, hX3⟩ : ∃ X3 : List Xc, X3 = ((W.heap.size + 1 + 1, 60, #[.slice A data.length c]) :: (W.heap.size + 1, 9, #[.string (S en)]) :: (W.heap.size, 24, #[.pointer (some ⟨sb, 0, none⟩)]) :: X) := ⟨_, rfl⟩
  rw [← hX3] at HM4
  have HX3 := hid hX3
  clear hX3
  have R1 := hid (show ∃ b7 b8, b7 = Wb.heap.size ∧ b8 = Wb.heap.size + 1 ∧ MW w0 g d N ((b7, 22, #[.pointer (some ⟨g, 0, none⟩)]) :: (b8, 9, #[.string (S t)]) :: X3) mb m ((Wb.alloc (.cells #[.pointer (some ⟨g, 0, none⟩)] 22)).alloc (.cells #[.string (S t)] 9)).drew from
    ⟨_, _, rfl, rfl, by simpa using ((((HM4.out.with_ 22 #[.pointer (some ⟨g, 0, none⟩)]).with_ 9 #[.string (S t)]).below (below_drew1 (Below.refl _ _))).sub (Y := (Wb.heap.size, 22, #[.pointer (some ⟨g, 0, none⟩)]) :: (Wb.heap.size + 1, 9, #[.string (S t)]) :: X3) (fun x hx => by
      rcases List.mem_cons.1 hx with rfl | hx
      · simp
      rcases List.mem_cons.1 hx with rfl | hx
      · simp
      simp [hx]))⟩)
  have R2 := hid (show ∃ b7 b8, b8 = Wb.heap.size ∧ b7 = Wb.heap.size + 1 ∧ MW w0 g d N ((b7, 22, #[.pointer (some ⟨g, 0, none⟩)]) :: (b8, 9, #[.string (S t)]) :: X3) mb m ((Wb.alloc (.cells #[.string (S t)] 9)).alloc (.cells #[.pointer (some ⟨g, 0, none⟩)] 22)).drew from
    ⟨_, _, rfl, rfl, by simpa using ((((HM4.out.with_ 9 #[.string (S t)]).with_ 22 #[.pointer (some ⟨g, 0, none⟩)]).below (below_drew1 (Below.refl _ _))).sub (Y := (Wb.heap.size + 1, 22, #[.pointer (some ⟨g, 0, none⟩)]) :: (Wb.heap.size, 9, #[.string (S t)]) :: X3) (fun x hx => by
      rcases List.mem_cons.1 hx with rfl | hx
      · simp
      rcases List.mem_cons.1 hx with rfl | hx
      · simp
      simp [hx]))⟩)
  go_region_held3 (fun w' => w'.cell? ⟨W.heap.size, 0, none⟩ = some (.pointer (some ⟨sb, 0, none⟩)) ∧ w'.cell? ⟨sb, 0, none⟩ = some (.pointer (some ⟨g, 0, none⟩)) ∧ w'.cell? ⟨sb, 1, none⟩ = some (.string (S name))) (go_keep) (first
    | (go_at_call 26; refine (FL.out _ (by first | assumption | go_keep)).mono ?_; rintro e w' ⟨rfl, rfl⟩))
  all_goals
    clear c3 s0 s1 s2 s3 n1 n2 n3
  all_goals
    first
    | (obtain ⟨b7, b8, h7, h8, HR⟩ := R1.out
       rw [← h8, ← h7]
       obtain ⟨Wr, hWr⟩ : ∃ Wr : World, Wr = ((Wb.alloc (.cells #[.pointer (some ⟨g, 0, none⟩)] 22)).alloc (.cells #[.string (S t)] 9)).drew := ⟨_, rfl⟩
       rw [← hWr] at HR ⊢)
    | (obtain ⟨b7, b8, h8, h7, HR⟩ := R2.out
       rw [← h7, ← h8]
       obtain ⟨Wr, hWr⟩ : ∃ Wr : World, Wr = ((Wb.alloc (.cells #[.string (S t)] 9)).alloc (.cells #[.pointer (some ⟨g, 0, none⟩)] 22)).drew := ⟨_, rfl⟩
       rw [← hWr] at HR ⊢)
  all_goals
    clear R1 R2 hWr h7 h8
    have HRH := hid HR
    have c7 := box1 (HR.blk (x := (b7, 22, #[.pointer (some ⟨g, 0, none⟩)])) (by simp))
    have c8 := box1 (HR.blk (x := (b8, 9, #[.string (S t)])) (by simp))
    clear HR
  all_goals
    have RM := hid (HRH.out.remove (by omega) t (by omega))
    have k13 : ((d.remove t).2 == 13) = false := beq_eq_false_iff_ne.2 OK.out.1
    clear HRH
    go_wp2_with fail
    refine RM.out.mono ?_
    rintro e wm ⟨rfl, hMm⟩
    have M9 := hid (hMm.with_ 33 #[.func (.func 69) #[] #[.pointer (some ⟨b7, 0, none⟩), .pointer (some ⟨b8, 0, none⟩)], .func (.func 70) #[] #[.pointer (some ⟨b7, 0, none⟩), .pointer (some ⟨b8, 0, none⟩), .pointer (some ⟨W.heap.size + 1 + 1, 0, none⟩)], .func (.func 71) #[] #[.pointer (some ⟨b7, 0, none⟩), .pointer (some ⟨b8, 0, none⟩)], .func (.func 72) #[] #[.pointer (some ⟨b7, 0, none⟩), .pointer (some ⟨b8, 0, none⟩), .pointer (some ⟨W.heap.size, 0, none⟩), .pointer (some ⟨W.heap.size + 1, 0, none⟩)]])
    have HO2 := hid OK.out.2
    generalize (d.remove t).2 = xr at *
    generalize hd0 : (d.remove t).1 = d0 at *
    have HD0 := hid hd0
    clear hd0
    obtain ⟨X9, hX9⟩ : ∃ X9 : List Xc, X9 = ((wm.heap.size, 33, #[.func (.func 69) #[] #[.pointer (some ⟨b7, 0, none⟩), .pointer (some ⟨b8, 0, none⟩)], .func (.func 70) #[] #[.pointer (some ⟨b7, 0, none⟩), .pointer (some ⟨b8, 0, none⟩), .pointer (some ⟨W.heap.size + 1 + 1, 0, none⟩)], .func (.func 71) #[] #[.pointer (some ⟨b7, 0, none⟩), .pointer (some ⟨b8, 0, none⟩)], .func (.func 72) #[] #[.pointer (some ⟨b7, 0, none⟩), .pointer (some ⟨b8, 0, none⟩), .pointer (some ⟨W.heap.size, 0, none⟩), .pointer (some ⟨W.heap.size + 1, 0, none⟩)]]) :: (b7, 22, #[.pointer (some ⟨g, 0, none⟩)]) :: (b8, 9, #[.string (S t)]) :: X3) := ⟨_, rfl⟩
    rw [← hX9] at M9
    have y0 : (wm.heap.size, 33, #[.func (.func 69) #[] #[.pointer (some ⟨b7, 0, none⟩), .pointer (some ⟨b8, 0, none⟩)], .func (.func 70) #[] #[.pointer (some ⟨b7, 0, none⟩), .pointer (some ⟨b8, 0, none⟩), .pointer (some ⟨W.heap.size + 1 + 1, 0, none⟩)], .func (.func 71) #[] #[.pointer (some ⟨b7, 0, none⟩), .pointer (some ⟨b8, 0, none⟩)], .func (.func 72) #[] #[.pointer (some ⟨b7, 0, none⟩), .pointer (some ⟨b8, 0, none⟩), .pointer (some ⟨W.heap.size, 0, none⟩), .pointer (some ⟨W.heap.size + 1, 0, none⟩)]]) ∈ X9 := by rw [hX9]; simp
    have y7 : (b7, 22, #[.pointer (some ⟨g, 0, none⟩)]) ∈ X9 := by rw [hX9]; simp
    have y8 : (b8, 9, #[.string (S t)]) ∈ X9 := by rw [hX9]; simp
    have y5 : (W.heap.size + 1 + 1, 60, #[.slice A data.length c]) ∈ X9 := by rw [hX9, HX3.out]; simp
    have y4 : (W.heap.size + 1, 9, #[.string (S en)]) ∈ X9 := by rw [hX9, HX3.out]; simp
    have y3 : (W.heap.size, 24, #[.pointer (some ⟨sb, 0, none⟩)]) ∈ X9 := by rw [hX9, HX3.out]; simp
    have yx : ∀ x ∈ X, x ∈ X9 := fun x hx => by rw [hX9, HX3.out]; simp [hx]
    have YS := hid (And.intro y0 (And.intro y7 (And.intro y8 (And.intro y5 (And.intro y4 (And.intro y3 yx))))))
    clear hMm RM y0 y7 y8 y5 y4 y3 yx hX9 c7 c8 OK
    have FI := hid (kv_first _ (some ⟨wm.heap.size, 0, none⟩) 4 [(69, #[.pointer (some ⟨b7, 0, none⟩), .pointer (some ⟨b8, 0, none⟩)]), (70, #[.pointer (some ⟨b7, 0, none⟩), .pointer (some ⟨b8, 0, none⟩), .pointer (some ⟨W.heap.size + 1 + 1, 0, none⟩)]), (71, #[.pointer (some ⟨b7, 0, none⟩), .pointer (some ⟨b8, 0, none⟩)]), (72, #[.pointer (some ⟨b7, 0, none⟩), .pointer (some ⟨b8, 0, none⟩), .pointer (some ⟨W.heap.size, 0, none⟩), .pointer (some ⟨W.heap.size + 1, 0, none⟩)])]
      (fun i W' => MW w0 g (if i = 0 then d0 else if i = 1 then (d0.create t).1 else if i = 2 then ((d0.create t).1.append t data).1 else if i = 3 then (((d0.create t).1.append t data).1.sync t).1 else ((((d0.create t).1.append t data).1.sync t).1.rename t (fileN name en)).1) (if i = 0 ∨ i = 1 then N else N + 1) X9 mb m W') (fun _ _ => False) (by simp) M9.out
      (fun i hi W' => by
        have : i = 0 ∨ i = 1 ∨ i = 2 ∨ i = 3 := by simp at hi; omega
        rcases this with rfl | rfl | rfl | rfl
        · exact Go.MuLone.run_callFunc_enter Tryz.func69 (by kernel_rfl) rfl _ W'
        · exact Go.MuLone.run_callFunc_enter Tryz.func70 (by kernel_rfl) rfl _ W'
        · exact Go.MuLone.run_callFunc_enter Tryz.func71 (by kernel_rfl) rfl _ W'
        · exact Go.MuLone.run_callFunc_enter Tryz.func72 (by kernel_rfl) rfl _ W')
      (fun i W' hi hI => by
        have hb := hI.blk YS.out.1
        have : i = 0 ∨ i = 1 ∨ i = 2 ∨ i = 3 := by simp at hi; omega
        rcases this with rfl | rfl | rfl | rfl
        · exact ⟨_, _, rfl, hb.cell 0⟩
        · exact ⟨_, _, rfl, hb.cell 1⟩
        · exact ⟨_, _, rfl, hb.cell 2⟩
        · exact ⟨_, _, rfl, hb.cell 3⟩)
      (fun i W' hi hI => by
        obtain ⟨z0, z7, z8, z5, z4, z3, zx⟩ := YS.out
        obtain ⟨o2, o3, o4, o5⟩ := HO2.out
        have : i = 0 ∨ i = 1 ∨ i = 2 ∨ i = 3 := by simp at hi; omega
        rcases this with rfl | rfl | rfl | rfl
        · refine (kv_replace1 (d := d0) (N := N) hI t htl z7 z8).mono ?_
          rintro e w' ⟨rfl, hM⟩
          exact ⟨0, by rw [o2], .inl ⟨rfl, hM⟩⟩
        · refine (kv_replace2 (d := (d0.create t).1) (N := N) hI (by omega) t htl z7 z8 A data c z5 (HW.out W' fun x hx => hI.blk (zx x hx)) (fun p hp => by obtain ⟨x, hx, he⟩ := HA.out p hp; exact ⟨x, zx x hx, he⟩) (by omega)).mono ?_
          rintro e w' ⟨rfl, hM⟩
          exact ⟨0, by rw [o3], .inl ⟨rfl, hM⟩⟩
        · refine (kv_replace3 (d := ((d0.create t).1.append t data).1) (N := N + 1) hI (by omega) t htl z7 z8).mono ?_
          rintro e w' ⟨rfl, hM⟩
          exact ⟨0, by rw [o4], .inl ⟨rfl, hM⟩⟩
        · refine (kv_replace4 (d := (((d0.create t).1.append t data).1.sync t).1) (N := N + 1) (sb := sb) (name := name) (dead := dead) hI (zx _ HS.out) (by omega) (by omega) en (by omega) t htl z7 z8 z3 z4).mono ?_
          rintro e w' ⟨rfl, hM⟩
          exact ⟨0, by rw [o5], .inl ⟨rfl, hM⟩⟩))
    clear M9
    go_wp2_with fail
    refine FI.out.mono ?_
    rintro e w5 ⟨x, rfl, hx⟩
    rcases hx with ⟨rfl, hM⟩ | ⟨-, hF⟩
    rotate_left
    · cases hF
    have M5 : MW w0 g ((((d0.create t).1.append t data).1.sync t).1.rename t (fileN name en)).1 (N + 1) X9 mb m w5 := hM
    have M6 := hid (M5.sub YS.out.2.2.2.2.2.2)
    clear M5
    clear hM FI
    go_wp2
    go_ret
    exact ⟨rfl, by rw [HD0.out]; exact M6.out⟩
end
end Go.Proofs.YtbjimikppdfmgaaGreatDoor

set_option linter.unusedVariables false
set_option linter.unusedSimpArgs false
set_option maxHeartbeats 6400000
set_option maxRecDepth 100000
namespace Go.Proofs.YtbjimikppdfmgaaGreatDoor
open Go.RowKit

/-- A row of bytes, as blocks beside a store. -/
theorem bytes_row_blk {w : World} {base n c : Nat} {A : Option Addr} {l : List UInt8} (h : w.ownsRow base 5 1 (.slice A n c) l.length (l.map B8)) :
    ∃ X1 : List Xc, (∀ x ∈ X1, base ≤ x.1 ∧ Blk w x.1 x.2.1 x.2.2) ∧ (∀ W', (∀ x ∈ X1, Blk W' x.1 x.2.1 x.2.2) → BytesAt W' A l) ∧ ∀ p, A = some p → ∃ x ∈ X1, x.1 = p.block := by
  rcases h.2 with ⟨h1, h2⟩ | ⟨g, cap, cur, hv, hb, hh, r1, r2, r3, r4⟩
  · simp only [Value.slice.injEq] at h1
    obtain ⟨rfl, -, -⟩ := h1
    exact ⟨[], by simp, fun W' _ h0 => by omega, fun p hp => by cases hp⟩
  · simp only [Value.slice.injEq] at hv
    obtain ⟨rfl, -, rfl⟩ := hv
    refine ⟨[(g, 5, cur)], by simpa using ⟨hb, hh⟩, fun W' hW h0 => ?_, fun p hp => ⟨_, List.mem_singleton.2 rfl, by injection hp with hp; rw [← hp]⟩⟩
    have hB := hW _ (List.mem_singleton.2 rfl)
    refine ⟨g, 0, rfl, hB.lt, fun i hi => ?_⟩
    rw [Nat.zero_add, hB.cell i]
    have key : cur[i]? = (l.map B8)[i]? := by
      rw [← r4, List.getElem?_take, if_pos (by omega)]
      simp
    show cur[i]? = _
    rw [key]
    simp [hi]
section
variable {w0 : Fr} {W : World} {g N mb sb b1 : Nat} {d : Dr} {X : List Xc} {m : KM} {name : Key} {dead : Bool}
theorem kv_compact1 (h : MW w0 g d N X mb m W) (hs : (sb, 52, storeCells g name mb dead) ∈ X) (h1 : (b1, 24, #[.pointer (some ⟨sb, 0, none⟩)]) ∈ X) (hN : N < 1000000) (hn : name.length ≤ 100) (hr : Rising m) (hml : m.length ≤ 1000) (hkl : ∀ p ∈ m, p.1.length ≤ 1000000) (hbl : (bodyB (m.map wOf)).length ≤ 800000)
    (ok : ReplOk d name baseN (frameB (m.map wOf))) :
    Calls Tryz.prog 39 #[.pointer (some ⟨b1, 0, none⟩)] W fun e w' => e = .returned (.int .i64 0) ∧ MW w0 g (replD d name baseN (frameB (m.map wOf))) (N + 1) X mb m w' := by
  have M2 : MW w0 g d N X mb m W.drew := h.below (below_drew1 (Below.refl _ _))
  have c1 := box1 (M2.blk h1)
  have WH := hid (kv_whole M2 hs hr (by omega) hkl)
  have FR := hid (fun (W' : World) A c (hw : WsAt W' A (m.map wOf)) => kv_frame W' A c (m.map wOf) hw (by simpa using hml) hbl)
  have HX := hid (fun (W' : World) (hb : Below W.drew.heap.size W.drew W') => box1 ((M2.below hb).blk h1))
  have RP := hid (fun (W' : World) (hb : Below W.drew.heap.size W.drew W') A n c (hrow : W'.ownsRow W.drew.heap.size 5 1 (.slice A n c) (frameB (m.map wOf)).length ((frameB (m.map wOf)).map B8)) => by
    obtain ⟨X1, q1, q2, q3⟩ := bytes_row_blk hrow
    have := kv_replace (M2.pushL hb q1) (sb := sb) (name := name) (dead := dead) (List.mem_append_right _ hs) hN hn baseN (by decide) A (frameB (m.map wOf)) c (fun W'' hW => q2 W'' fun x hx => hW x (List.mem_append_left _ hx)) (fun p hp => by obtain ⟨x, hx, he⟩ := q3 p hp; exact ⟨x, List.mem_append_left _ hx, he⟩) (by rw [frameB_len]; omega) ok
    exact this.mono fun e w' hh => And.intro hh.1 (hh.2.sub (Y := X) fun x hx => List.mem_append_right _ hx))
  have HK := hid (fun (W' : World) (d' : Dr) (N' : Nat) (hM : MW w0 g d' N' X mb m W') => box1 (hM.blk h1))
  unfold baseN at RP
  unfold baseN
  generalize frameB (m.map wOf) = fb at *
  have hlw : (m.map wOf).length = m.length := by simp
  clear h M2 hbl ok hkl hr
  generalize m.map wOf = lw at *
  have HLW := hid hlw
  clear hlw
  go_enter Tryz.func39, Tryz.ntmps39
  go_wp2
  go_region_held3 (fun w' => w'.cell? ⟨b1, 0, none⟩ = some (.pointer (some ⟨sb, 0, none⟩))) (simp [*, go_sem, World.cell?_alloc_past]) (first
    | (go_at_call 41; refine WH.out.mono ?_; rintro e wa ⟨A1, ca, rfl, hra, hba⟩; have ya := HX.out _ hba)
    | (go_at_call 35; refine (FR.out _ _ _ (ws_row hra)).mono ?_; rintro e wb ⟨A2, cb, rfl, hrb, hbb⟩; have yb := HX.out _ (bt hba hbb))
    | (go_at_call 40; refine (RP.out _ (bt hba hbb) _ _ _ (row_base hrb hba.size)).mono ?_; rintro e wc ⟨rfl, hM⟩; have yc := HK.out _ _ _ hM))
  all_goals
    go_wp2
    go_ret
    exact ⟨rfl, hM⟩
theorem kv_compact2 (h : MW w0 g d N X mb m W) (hs : (sb, 52, storeCells g name mb dead) ∈ X) (h1 : (b1, 24, #[.pointer (some ⟨sb, 0, none⟩)]) ∈ X) (hN : N < 1000000) (hn : name.length ≤ 100) (ok : ReplOk d name logN []) :
    Calls Tryz.prog 42 #[.pointer (some ⟨b1, 0, none⟩)] W fun e w' => e = .returned (.int .i64 0) ∧ MW w0 g (replD d name logN []) (N + 1) X mb m w' := by
  have c1 := box1 (h.blk h1)
  have RP := hid (kv_replace h hs hN hn logN (by decide) none [] 0 (fun W' hW h0 => absurd h0 (by simp)) (fun p hp => by cases hp) (by simp) ok)
  unfold logN at RP
  unfold logN
  clear h ok
  go_enter Tryz.func42, Tryz.ntmps42
  go_wp2_with fail
  refine RP.out.mono ?_
  rintro e w1 ⟨rfl, hM⟩
  go_wp2
  go_ret
  exact ⟨rfl, hM⟩
theorem kv_Compact_ok (h : MW w0 g d N ((sb, 52, storeCells g name mb false) :: X) mb m W) (hfr : w0.free sb) (hne : ∀ y ∈ X, y.1 ≠ sb) (hd : d.down = false) (hN : N < 100000) (hn : name.length ≤ 100) (hr : Rising m) (hml : m.length ≤ 1000) (hkl : ∀ p ∈ m, p.1.length ≤ 1000000) (hbl : (bodyB (m.map wOf)).length ≤ 800000)
    (ok1 : ReplOk d name baseN (frameB (m.map wOf))) (ok2 : ReplOk (replD d name baseN (frameB (m.map wOf))) name logN []) :
    Calls Tryz.prog 10 #[.pointer (some ⟨sb, 0, none⟩)] W fun e w' => e = .returned (.int .i64 0) ∧ MW w0 g (replD (replD d name baseN (frameB (m.map wOf))) name logN []) (N + 2) ((sb, 52, storeCells g name mb false) :: X) mb m w' := by
  have hslt := (h.blk (x := (sb, 52, storeCells g name mb false)) (by simp)).lt
  simp only [] at hslt
  have M1 := h.with_ 24 #[.pointer (some ⟨sb, 0, none⟩)]
  have c1 := box1 (M1.blk (x := (W.heap.size, 24, #[.pointer (some ⟨sb, 0, none⟩)])) (by simp))
  have AL := hid (kv_Alive (sb := sb) (name := name) (dead := false) M1 (by simp))
  rw [hd] at AL
  have HM1 := hid M1
  have HNE := hid hne
  have HOK := hid (And.intro ok1 ok2)
  have HKL := hid hkl
  have HR := hid hr
  clear h M1 hne ok1 ok2 hkl hr
  obtain ⟨w2, hw2⟩ : ∃ w2 : World, w2 = W.alloc (.cells #[.pointer (some ⟨sb, 0, none⟩)] 24) := ⟨_, rfl⟩
  have M5 := (HM1.out.with_ 33 #[.func (.func 39) #[] #[.pointer (some ⟨W.heap.size, 0, none⟩)], .func (.func 42) #[] #[.pointer (some ⟨W.heap.size, 0, none⟩)]]).below (below_drew1 (Below.refl _ _))
  rw [← hw2] at M5 c1
  simp only [] at c1
  have c1H := hid c1
  obtain ⟨X9, hX9⟩ : ∃ X9 : List Xc, X9 = ((w2.heap.size, 33, #[.func (.func 39) #[] #[.pointer (some ⟨W.heap.size, 0, none⟩)], .func (.func 42) #[] #[.pointer (some ⟨W.heap.size, 0, none⟩)]]) :: (W.heap.size, 24, #[.pointer (some ⟨sb, 0, none⟩)]) :: (sb, 52, storeCells g name mb false) :: X) := ⟨_, rfl⟩
  rw [← hX9] at M5
  have YS := hid (show (w2.heap.size, 33, #[.func (.func 39) #[] #[.pointer (some ⟨W.heap.size, 0, none⟩)], .func (.func 42) #[] #[.pointer (some ⟨W.heap.size, 0, none⟩)]]) ∈ X9 ∧ (W.heap.size, 24, #[.pointer (some ⟨sb, 0, none⟩)]) ∈ X9 ∧ (sb, 52, storeCells g name mb false) ∈ X9 ∧ ∀ x ∈ (sb, 52, storeCells g name mb false) :: X, x ∈ X9 by
    rw [hX9]
    refine ⟨by simp, by simp, by simp, fun x hx => ?_⟩
    exact List.mem_cons_of_mem _ (List.mem_cons_of_mem _ hx))
  have FI := hid (kv_first _ (some ⟨w2.heap.size, 0, none⟩) 2 [(39, #[.pointer (some ⟨W.heap.size, 0, none⟩)]), (42, #[.pointer (some ⟨W.heap.size, 0, none⟩)])]
    (fun i W' => MW w0 g (if i = 0 then d else if i = 1 then replD d name baseN (frameB (m.map wOf)) else replD (replD d name baseN (frameB (m.map wOf))) name logN []) (N + i) X9 mb m W') (fun _ _ => False) (by simp) M5
    (fun i hi W' => by
      have : i = 0 ∨ i = 1 := by simp at hi; omega
      rcases this with rfl | rfl
      · exact Go.MuLone.run_callFunc_enter Tryz.func39 (by kernel_rfl) rfl _ W'
      · exact Go.MuLone.run_callFunc_enter Tryz.func42 (by kernel_rfl) rfl _ W')
    (fun i W' hi hI => by
      have hb := hI.blk YS.out.1
      have : i = 0 ∨ i = 1 := by simp at hi; omega
      rcases this with rfl | rfl
      · exact ⟨_, _, rfl, hb.cell 0⟩
      · exact ⟨_, _, rfl, hb.cell 1⟩)
    (fun i W' hi hI => by
      have : i = 0 ∨ i = 1 := by simp at hi; omega
      rcases this with rfl | rfl
      · refine (kv_compact1 (d := d) (N := N) (sb := sb) (name := name) (dead := false) hI YS.out.2.2.1 YS.out.2.1 (by omega) hn HR.out hml HKL.out hbl HOK.out.1).mono ?_
        rintro e w' ⟨rfl, hM⟩
        exact ⟨0, rfl, .inl ⟨rfl, hM⟩⟩
      · refine (kv_compact2 (d := replD d name baseN (frameB (m.map wOf))) (N := N + 1) (sb := sb) (name := name) (dead := false) hI YS.out.2.2.1 YS.out.2.1 (by omega) hn HOK.out.2).mono ?_
        rintro e w' ⟨rfl, hM⟩
        exact ⟨0, rfl, .inl ⟨rfl, hM⟩⟩))
  have HH := hid (fun (W' : World) (hM : MW w0 g (replD (replD d name baseN (frameB (m.map wOf))) name logN []) (N + 2) X9 mb m W') => And.intro (box1 (hM.blk YS.out.2.1)) (kv_ended (hM.sub (Y := (sb, 52, storeCells g name mb false) :: (W.heap.size, 24, #[.pointer (some ⟨sb, 0, none⟩)]) :: X) (fun x hx => by
      rcases List.mem_cons.1 hx with rfl | hx
      · exact YS.out.2.2.1
      rcases List.mem_cons.1 hx with rfl | hx
      · exact YS.out.2.1
      · exact YS.out.2.2.2 _ (List.mem_cons_of_mem _ hx))) 0 (by decide) hfr (fun y hy => by
      rcases List.mem_cons.1 hy with rfl | hy
      · simp only []; omega
      · exact HNE.out y hy)))
  have n1 := World.new_ne _ _ c1
  clear M5 hX9 HM1 hbl
  generalize replD (replD d name baseN (frameB (m.map wOf))) name logN [] = dz at *
  go_enter Tryz.func10, Tryz.ntmps10
  have HW2 := hid hw2
  clear hw2 c1 n1
  go_wp2_with fail
  refine AL.out.mono ?_
  rintro e w3 ⟨rfl, hw3⟩
  rw [← HW2.out] at hw3
  subst hw3
  have c1 := c1H.out
  have n1 := World.new_ne _ _ c1
  go_wp2
  go_region_held3 (fun w' => w'.cell? ⟨W.heap.size, 0, none⟩ = some (.pointer (some ⟨sb, 0, none⟩))) (go_keep) (first
    | (go_at_call 20; refine FI.out.mono ?_; rintro e wa ⟨xa, rfl, hxa⟩; rcases hxa with ⟨rfl, hMa⟩ | ⟨-, hFa⟩; rotate_left; (cases hFa); obtain ⟨ya, EN⟩ := HH.out wa hMa)
    | (go_at_call 31; refine EN.mono ?_; rintro e wb ⟨rfl, hMb⟩; have yb := box1 (hMb.blk (x := (W.heap.size, 24, #[.pointer (some ⟨sb, 0, none⟩)])) (by simp))))
  all_goals
    have HMB := hid (hMb.sub (Y := (sb, 52, storeCells g name mb false) :: X) (fun x hx => by
      rcases List.mem_cons.1 hx with rfl | hx
      · simp
      · simp [hx]))
    clear hMb hMa EN
    go_wp2
    go_ret
    exact ⟨rfl, HMB.out⟩
end
end Go.Proofs.YtbjimikppdfmgaaGreatDoor
