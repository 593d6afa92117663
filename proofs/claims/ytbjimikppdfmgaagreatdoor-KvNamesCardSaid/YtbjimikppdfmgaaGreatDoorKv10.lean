/- Walk of kv.Len. Walk of kv.Apply: where all goes well; where the batch may not be. -/
import Derived.Test.YtbjimikppdfmgaaGreatDoorKv7
import Derived.Test.YtbjimikppdfmgaaGreatDoorKv9
import Derived.Test.YtbjimikppdfmgaaGreatDoorLayK
set_option linter.unusedVariables false
set_option linter.unusedSimpArgs false
set_option maxHeartbeats 1600000
set_option maxRecDepth 100000
namespace Go.Proofs.YtbjimikppdfmgaaGreatDoor
open Go.RowKit

section
variable {w0 : Fr} {W : World} {g N mb sb : Nat} {d : Dr} {X : List Xc} {m : KM} {name : Key} {dead : Bool}
theorem kv_Len (h : MW w0 g d N X mb m W) (hs : (sb, 52, storeCells g name mb dead) ∈ X) :
    Calls Tryz.prog 29 #[.pointer (some ⟨sb, 0, none⟩)] W fun e w' => e = .returned (.int .i64 m.length) ∧ w' = W := by
  obtain ⟨s0, s1, s2, s3⟩ := store4 (h.blk hs)
  have hlen := fun ty => h.map.len (t := 50) (e := 9) (by kernel_rfl) ty
  clear h
  go_enter Tryz.func29, Tryz.ntmps29
  go_wp2
  go_ret
  exact ⟨rfl, rfl⟩
end
end Go.Proofs.YtbjimikppdfmgaaGreatDoor

set_option linter.unusedVariables false
set_option linter.unusedSimpArgs false
set_option maxHeartbeats 6400000
set_option maxRecDepth 100000
namespace Go.Proofs.YtbjimikppdfmgaaGreatDoor
open Go.RowKit

section
variable {w0 : Fr} {W : World} {g N mb sb : Nat} {d : Dr} {X : List Xc} {m : KM} {name : Key}
/-- A cell of a block beside it is written. -/
theorem MW.set_head {q : Nat} {t : TypeId} {cs : Array Value} (h : MW w0 g d N ((q, t, cs) :: X) mb m W) (hq : w0.free q) (hne : ∀ x ∈ X, x.1 ≠ q) (i : Nat) (v : Value) : MW w0 g d N ((q, t, cs.setIfInBounds i v) :: X) mb m (W.setCell ⟨q, i, none⟩ v) := by
  obtain ⟨fp, h1, h2, h3, h4, h5, h6, h7, h8⟩ := h
  obtain ⟨q1, q2⟩ := h5 (q, t, cs) (by simp)
  have hmb : mb ≠ q := fun e => h8.not_blk q2 e.symm
  refine ⟨fp, h1.keep (by rw [set_size]; exact Nat.le_refl _) (fun k hk => set_other _ _ _ _ k (by rintro rfl; exact q1 hk)), h2, h3.setCell (p := ⟨q, i, none⟩) hq _, h4, fun x hx => ?_, h6, h7, h8.kept (set_other _ _ _ _ mb hmb)⟩
  rcases List.mem_cons.1 hx with rfl | hx
  · exact ⟨q1, q2.set_ i v⟩
  · obtain ⟨r1, r2⟩ := h5 x (List.mem_cons_of_mem _ hx)
    exact ⟨r1, r2.far (hne x hx) v⟩
theorem kv_Apply_arg (h : MW w0 g d N ((sb, 52, storeCells g name mb false) :: X) mb m W) (hd : d.down = false) (A : Option Addr) (c : Nat) (l : List Wr) (hw : WsAt W A l) (hl : l.length ≤ 1000) (hm : mayB l = false) :
    Calls Tryz.prog 9 #[.pointer (some ⟨sb, 0, none⟩), .slice A l.length c] W fun e w' => e = .returned (.int .i64 1) ∧ MW w0 g d N ((sb, 52, storeCells g name mb false) :: X) mb m w' := by
  have M1 := h.with_ 24 #[.pointer (some ⟨sb, 0, none⟩)]
  have M2 := M1.with_ 32 #[.slice A l.length c]
  have AL := hid (kv_Alive (sb := sb) (name := name) (dead := false) M2 (by simp))
  rw [hd] at AL
  have b2 : Below W.heap.size W ((W.alloc (.cells #[.pointer (some ⟨sb, 0, none⟩)] 24)).alloc (.cells #[.slice A l.length c] 32)) := ((Below.refl _ _).alloc (Nat.le_refl _) _).alloc (by simp) _
  have MA := hid (kv_may _ A c l (hw.below b2) hl)
  rw [hm] at MA
  have MM := hid M2
  clear h M1 M2 hw hm b2
  go_enter Tryz.func9, Tryz.ntmps9
  go_wp2_with fail
  refine AL.out.mono ?_
  rintro e w2 ⟨rfl, rfl⟩
  go_wp2_with fail
  refine MA.out.mono ?_
  rintro e w3 ⟨rfl, hb3⟩
  have M3 := hid ((MM.out.below hb3).sub (Y := (sb, 52, storeCells g name mb false) :: X) (fun x hx => by
    rcases List.mem_cons.1 hx with rfl | hx
    · simp
    · simp [hx]))
  clear hb3
  go_wp2
  go_ret
  exact ⟨rfl, M3.out⟩
/-- All goes well. -/
theorem kv_Apply_ok (h : MW w0 g d N ((sb, 52, storeCells g name mb false) :: X) mb m W) (hsb : w0.free sb) (hne : ∀ x ∈ X, x.1 ≠ sb) (hd : d.down = false) (A : Option Addr) (c : Nat) (l : List Wr) (hw : ∀ W', (∀ x ∈ X, Blk W' x.1 x.2.1 x.2.2) → WsAt W' A l)
    (hl : l.length ≤ 1000) (hm : mayB l = true) (hbl : (bodyB l).length ≤ 800000) (hml : m.length ≤ 100000) (hN : N < 1000000) (hn : name.length ≤ 20) (hA : (d.append (fileN name logN) (frameB l)).2 = 0) (hS : ((d.append (fileN name logN) (frameB l)).1.sync (fileN name logN)).2 = 0) :
    Calls Tryz.prog 9 #[.pointer (some ⟨sb, 0, none⟩), .slice A l.length c] W fun e w' => e = .returned (.int .i64 0) ∧ ∃ mb', MW w0 g ((d.append (fileN name logN) (frameB l)).1.sync (fileN name logN)).1 (N + 1) ((sb, 52, storeCells g name mb' false) :: X) mb' (doB m l) w' := by
  have M1 := h.with_ 24 #[.pointer (some ⟨sb, 0, none⟩)]
  have M2 : MW w0 g d N ((W.heap.size + 1, 32, #[.slice A l.length c]) :: (W.heap.size, 24, #[.pointer (some ⟨sb, 0, none⟩)]) :: (sb, 52, storeCells g name mb false) :: X) mb m ((W.alloc (.cells #[.pointer (some ⟨sb, 0, none⟩)] 24)).alloc (.cells #[.slice A l.length c] 32)) := by
    simpa using M1.with_ 32 #[.slice A l.length c]
  have HX := hid (show ∀ (d' : Dr) (N' mb' : Nat) (m' : KM) (Y : List Xc) (W' : World), (∀ x ∈ X, x ∈ Y) → MW w0 g d' N' Y mb' m' W' → WsAt W' A l from fun d' N' mb' m' Y W' hY hM => hw W' fun x hx => hM.blk (hY x hx))
  have AL := hid (kv_Alive (sb := sb) (name := name) (dead := false) M2 (by simp))
  rw [hd] at AL
  have MA := hid (kv_may _ A c l (HX.out _ _ _ _ _ _ (fun x hx => by simp [hx]) M2) hl)
  rw [hm] at MA
  have MM := hid M2
  have HK := hid (show ∀ x ∈ l, x.key.length ≤ 1000000 from fun x hx => by
    obtain ⟨a, b, rfl⟩ := List.append_of_mem hx
    have e : bodyB (a ++ x :: b) = bodyB a ++ (wrB x ++ bodyB b) := by rw [bodyB_app]; simp [bodyB]
    have := wrB_len x
    rw [e, List.length_append, List.length_append] at hbl
    omega)
  have HAS := hid (And.intro hA hS)
  have HN := hid hne
  have hfl1 : (fileN name logN).length ≤ 1000 := by unfold fileN logN; simp; omega
  have HFL := hid (fun W' (hc : W'.cell? ⟨sb, 1, none⟩ = some (.string (S name))) => kv_file W' sb name logN hc (by omega) (by decide))
  clear h M1 M2 hw hm hA hS hne
  generalize fileN name logN = fl at *
  unfold logN at HFL
  go_enter Tryz.func9, Tryz.ntmps9
  go_wp2_with fail
  refine AL.out.mono ?_
  rintro e w2 ⟨rfl, rfl⟩
  go_wp2_with fail
  refine MA.out.mono ?_
  rintro e w3 ⟨rfl, hb3⟩
  have M3 := hid (MM.out.below hb3)
  have c2 := box1 (M3.out.blk (x := (W.heap.size, 24, #[.pointer (some ⟨sb, 0, none⟩)])) (by simp))
  obtain ⟨s0, s1, s2, s3⟩ := store4 (M3.out.blk (x := (sb, 52, storeCells g name mb false)) (by simp))
  have FL := hid (HFL.out w3 s1)
  clear hb3
  go_wp2_with fail
  refine FL.out.mono ?_
  rintro e w4 ⟨rfl, rfl⟩
  have M4 := M3.out.with_ 9 #[.string (S fl)]
  have M5 : MW w0 g d N ((w4.heap.size + 1, 33, #[.func (.func 33) #[] #[.pointer (some ⟨W.heap.size, 0, none⟩), .pointer (some ⟨w4.heap.size, 0, none⟩), .pointer (some ⟨W.heap.size + 1, 0, none⟩)], .func (.func 36) #[] #[.pointer (some ⟨W.heap.size, 0, none⟩), .pointer (some ⟨w4.heap.size, 0, none⟩)]]) ::
      (w4.heap.size, 9, #[.string (S fl)]) :: (W.heap.size + 1, 32, #[.slice A l.length c]) :: (W.heap.size, 24, #[.pointer (some ⟨sb, 0, none⟩)]) :: (sb, 52, storeCells g name mb false) :: X) mb m
      ((w4.alloc (.cells #[.string (S fl)] 9)).alloc (.cells #[.func (.func 33) #[] #[.pointer (some ⟨W.heap.size, 0, none⟩), .pointer (some ⟨w4.heap.size, 0, none⟩), .pointer (some ⟨W.heap.size + 1, 0, none⟩)], .func (.func 36) #[] #[.pointer (some ⟨W.heap.size, 0, none⟩), .pointer (some ⟨w4.heap.size, 0, none⟩)]] 33)) := by
    simpa using M4.with_ 33 #[.func (.func 33) #[] #[.pointer (some ⟨W.heap.size, 0, none⟩), .pointer (some ⟨w4.heap.size, 0, none⟩), .pointer (some ⟨W.heap.size + 1, 0, none⟩)], .func (.func 36) #[] #[.pointer (some ⟨W.heap.size, 0, none⟩), .pointer (some ⟨w4.heap.size, 0, none⟩)]]
  have M5H := hid M5
  clear M4 M5
  obtain ⟨Y, hY⟩ : ∃ Y : List Xc, Y = ((w4.heap.size + 1, 33, #[.func (.func 33) #[] #[.pointer (some ⟨W.heap.size, 0, none⟩), .pointer (some ⟨w4.heap.size, 0, none⟩), .pointer (some ⟨W.heap.size + 1, 0, none⟩)], .func (.func 36) #[] #[.pointer (some ⟨W.heap.size, 0, none⟩), .pointer (some ⟨w4.heap.size, 0, none⟩)]]) ::
      (w4.heap.size, 9, #[.string (S fl)]) :: (W.heap.size + 1, 32, #[.slice A l.length c]) :: (W.heap.size, 24, #[.pointer (some ⟨sb, 0, none⟩)]) :: (sb, 52, storeCells g name mb false) :: X) := ⟨_, rfl⟩
  rw [← hY] at M5H
  have y0 : (w4.heap.size + 1, 33, #[.func (.func 33) #[] #[.pointer (some ⟨W.heap.size, 0, none⟩), .pointer (some ⟨w4.heap.size, 0, none⟩), .pointer (some ⟨W.heap.size + 1, 0, none⟩)], .func (.func 36) #[] #[.pointer (some ⟨W.heap.size, 0, none⟩), .pointer (some ⟨w4.heap.size, 0, none⟩)]]) ∈ Y := by rw [hY]; simp
  have y5 : (w4.heap.size, 9, #[.string (S fl)]) ∈ Y := by rw [hY]; simp
  have y3 : (W.heap.size + 1, 32, #[.slice A l.length c]) ∈ Y := by rw [hY]; simp
  have y2 : (W.heap.size, 24, #[.pointer (some ⟨sb, 0, none⟩)]) ∈ Y := by rw [hY]; simp
  have ys : (sb, 52, storeCells g name mb false) ∈ Y := by rw [hY]; simp
  have yx : ∀ x ∈ X, x ∈ Y := fun x hx => by rw [hY]; simp [hx]
  have YS := hid (And.intro y0 (And.intro y5 (And.intro y3 (And.intro y2 (And.intro ys yx)))))
  clear hY y0 y5 y3 y2 ys yx
  have FI := hid (kv_first _ (some ⟨w4.heap.size + 1, 0, none⟩) 2 [(33, #[.pointer (some ⟨W.heap.size, 0, none⟩), .pointer (some ⟨w4.heap.size, 0, none⟩), .pointer (some ⟨W.heap.size + 1, 0, none⟩)]), (36, #[.pointer (some ⟨W.heap.size, 0, none⟩), .pointer (some ⟨w4.heap.size, 0, none⟩)])]
    (fun i W' => MW w0 g (if i = 0 then d else if i = 1 then (d.append fl (frameB l)).1 else ((d.append fl (frameB l)).1.sync fl).1) (if i = 0 then N else N + 1) Y mb m W') (fun _ _ => False) (by simp) M5H.out
    (fun i hi W' => by
      have : i = 0 ∨ i = 1 := by simp at hi; omega
      rcases this with rfl | rfl
      · exact Go.MuLone.run_callFunc_enter Tryz.func33 (by kernel_rfl) rfl _ W'
      · exact Go.MuLone.run_callFunc_enter Tryz.func36 (by kernel_rfl) rfl _ W')
    (fun i W' hi hI => by
      have hb := hI.blk YS.out.1
      have : i = 0 ∨ i = 1 := by simp at hi; omega
      rcases this with rfl | rfl
      · exact ⟨_, _, rfl, hb.cell 0⟩
      · exact ⟨_, _, rfl, hb.cell 1⟩)
    (fun i W' hi hI => by
      have : i = 0 ∨ i = 1 := by simp at hi; omega
      rcases this with rfl | rfl
      · refine (kv_apply1 (sb := sb) (name := name) (dead := false) (d := d) (N := N) hI YS.out.2.2.2.2.1 YS.out.2.2.2.1 fl YS.out.2.1 A c l YS.out.2.2.1 (fun W'' hM => HX.out _ _ _ _ _ _ YS.out.2.2.2.2.2 hM) (by omega) hfl1 hl hbl).mono ?_
        rintro e w' ⟨rfl, hM⟩
        exact ⟨0, by rw [HAS.out.1], .inl ⟨rfl, hM⟩⟩
      · refine (kv_apply2 (sb := sb) (name := name) (dead := false) (d := (d.append fl (frameB l)).1) (N := N + 1) hI YS.out.2.2.2.2.1 YS.out.2.2.2.1 fl YS.out.2.1 (by omega) hfl1).mono ?_
        rintro e w' ⟨rfl, hM⟩
        exact ⟨0, by rw [HAS.out.2], .inl ⟨rfl, hM⟩⟩))
  go_wp2_with fail
  refine FI.out.mono ?_
  rintro e w5 ⟨x, rfl, hx⟩
  rcases hx with ⟨rfl, hM⟩ | ⟨-, hF⟩
  rotate_left
  · cases hF
  have M6 : Hid (MW w0 g ((d.append fl (frameB l)).1.sync fl).1 (N + 1) Y mb m w5) := hM
  obtain ⟨es, ck, he⟩ := M6.out.map.isMap
  have CL : Calls Tryz.prog 37 #[.map (some mb)] w5 fun e w' => e = .returned (.map (some w5.heap.size)) ∧ w' = w5.alloc (.map es ck) := AnyW.maps_Clone layClone mb es ck w5 he
  have CLH := hid CL
  have c2' := box1 (M6.out.blk YS.out.2.2.2.1)
  obtain ⟨s0', s1', s2', s3'⟩ := store4 (M6.out.blk YS.out.2.2.2.2.1)
  have M7 := hid (M6.out.clone he)
  clear hM CL he
  go_wp2_with fail
  refine CLH.out.mono ?_
  rintro e w6 ⟨rfl, rfl⟩
  have c3 := box1 (M7.out.blk YS.out.2.2.1)
  generalize hw7 : w5.alloc (.map es ck) = w7 at *
  go_wp2
  go_loopw [38] (fun i wr => ∃ k : Nat, k ≤ l.length ∧ i = .int .i64 k ∧ Hid (MW w0 g ((d.append fl (frameB l)).1.sync fl).1 (N + 1) Y w5.heap.size (doB m (l.take k)) wr)) (fun i _ => l.length - (intOf i).toNat)
  case atStart => exact ⟨0, Nat.zero_le _, rfl, M7⟩
  case round =>
    obtain ⟨k, hk, rfl, hM⟩ := hrel
    by_cases h : k < l.length
    · obtain ⟨bb, off, rfl, hbb, hc⟩ := (HX.out _ _ _ _ _ _ YS.out.2.2.2.2.2 hM.out) (by omega)
      obtain ⟨c1, c2x, c3x⟩ := hc k h
      clear hc
      have hx := HK.out l[k] (List.getElem_mem h)
      have HD := hid (show doB m (l.take (k + 1)) = doW (doB m (l.take k)) l[k] by rw [List.take_succ_eq_append_getElem h, doB_snoc])
      have hlen := doB_len m (l.take k)
      rw [List.length_take] at hlen
      generalize l[k] = x at *
      obtain ⟨xk, xv, xg⟩ := x
      simp only [] at c1 c2x c3x hx
      have b1 : Below wr.heap.size wr (wr.alloc (.cells #[.string (S xk), .string (S xv), .bool xg] 31)) := (Below.refl _ _).alloc (Nat.le_refl _) _
      have DO := hid ((hM.out.below b1).do_ ⟨xk, xv, xg⟩ (by omega) hx)
      go_wp2_with fail
      refine DO.out.mono ?_
      rintro e w8 ⟨rfl, hM8⟩
      have HM8 := hid hM8
      clear hM8
      go_wp2
      go_roundw
      case rel => exact ⟨k + 1, by omega, by go_num, by rw [HD.out]; exact HM8⟩
      case measure => simp [intOf]; omega
    · have hk' : k = l.length := by omega
      subst hk'
      rw [List.take_length] at hM
      have c2y := box1 (hM.out.blk YS.out.2.2.2.1)
      obtain ⟨z0, z1, z2, z3⟩ := store4 (hM.out.blk YS.out.2.2.2.2.1)
      have zf := (hM.out.blk YS.out.2.2.2.2.1).frozen 2
      have M9 := hid ((hM.out.sub (Y := (sb, 52, storeCells g name mb false) :: X) (fun x hx => by
        rcases List.mem_cons.1 hx with rfl | hx
        · exact YS.out.2.2.2.2.1
        · exact YS.out.2.2.2.2.2 x hx)).set_head hsb HN.out 2 (.map (some w5.heap.size)))
      go_wp2
      go_ret
      exact ⟨rfl, _, M9.out⟩
end
end Go.Proofs.YtbjimikppdfmgaaGreatDoor
