/-
  Walks of (*legacy.Log).Last at no head, and of (*legacy.Log).Sequence at the first head. Printed by genLg4.py.
-/
import Derived.Test.YtiabfngiibabcaaGreatDoorLg10
import Derived.Test.YtiabfngiibabcaaGreatDoorLg7
set_option linter.unusedVariables false
set_option linter.unusedSimpArgs false
set_option maxHeartbeats 12800000
set_option maxRecDepth 100000
namespace Go.Proofs.YtiabfngiibabcaaGreatDoor
open Go.RowKit

theorem legacy_Last_none {W : World} {lb sb size cm ch : Nat} {st : Value} {Ah : Option Addr} (h : Blk W lb 49 (logCells sb size st (.slice Ah 0 ch) cm)) :
    Calls Tryz.prog 46 #[.pointer (some ⟨lb, 0, none⟩)] W fun e w' => e = .returned (.tuple #[.agg #[.int .i64 0, .int .i64 0, .string (S [])], .bool false]) ∧ Below W.heap.size W w' := by
  obtain ⟨W1, HW1⟩ : ∃ W1, Hid (W1 = W.alloc (.cells #[.int .i64 0, .int .i64 0, .string (S [])] 97)) := ⟨_, hid rfl⟩
  have b1 : Below W.heap.size W W1 := by rw [HW1.out]; exact (Below.refl _ _).alloc (Nat.le_refl _) _
  have hR : Blk W1 W.heap.size 97 #[.int .i64 0, .int .i64 0, .string (S [])] := by rw [HW1.out]; exact Blk.new _ _ _
  have k3 : W1.cell? ⟨lb, 3, none⟩ = some (.slice Ah 0 ch) := (h.below b1 h.lt).cell 3
  have k3' : (W.alloc (.cells #[.int .i64 0, .int .i64 0, .string (S [])] 97)).cell? ⟨lb, 3, none⟩ = some (.slice Ah 0 ch) := by rw [← HW1.out]; exact k3
  have n0 := hR.cell 0
  have n1 := hR.cell 1
  have n2 := hR.cell 2
  simp at n0 n1 n2
  have HB := hid b1
  clear hR h b1
  go_enter Tryz.func46, Tryz.ntmps46
  go_wp2
  rw [← HW1.out]
  exact bodyPost_ret (v := .tuple #[.agg #[.int .i64 0, .int .i64 0, .string (S [])], .bool false]) (by simp [results, Tryz.results46, go_sem, n0, n1, n2]) rfl ⟨rfl, HB.out⟩
theorem slice_lf_rest {W0 : World} {bp c : Nat} {A : Option Addr} {P : List Lf} (h : W0.ownsRow bp 30 2 (.slice A P.length c) P.length (P.flatMap lCells)) :
    (∀ W : World, (Instr.slice 35 (.slice A P.length c) none (some (.int .i64 (P.length : Nat))) none).run Tryz.prog W = .ok (.slice A P.length c) W) ∧ ∃ A2, (A2 = none ∨ ∃ g off, A2 = some ⟨g, off, none⟩) ∧ ∀ W : World, (Instr.slice 35 (.slice A P.length c) (some (.int .i64 (P.length : Nat))) none none).run Tryz.prog W = .ok (.slice A2 0 (c - P.length)) W := by
  have hsz : ∀ W : World, (sizeOf 30).run Tryz.prog W = .ok 2 W := fun W => by kernel_rfl
  have hel : (Tryz.prog).elem 35 = 30 := by kernel_rfl
  rcases h.2 with ⟨h1, h2⟩ | ⟨g, cap, cur, hv, hb, hh, r⟩
  · simp only [Value.slice.injEq] at h1
    obtain ⟨rfl, -, rfl⟩ := h1
    rw [h2]
    refine ⟨fun W => ?_, none, .inl rfl, fun W => ?_⟩
    · rw [Go.run_slice_h (P := Tryz.prog) (w := W) _ _ _ _ (by kernel_rfl) .i64 ((0 : Nat) : Int) (by omega) (by omega), hel, hsz]
      simp [Result.andThen, sliced]
    · rw [Go.run_slice_l (P := Tryz.prog) (w := W) _ _ _ _ (by kernel_rfl) .i64 ((0 : Nat) : Int) (by omega) (by omega), hel, hsz]
      simp [Result.andThen, sliced]
  · simp only [Value.slice.injEq] at hv
    obtain ⟨rfl, -, rfl⟩ := hv
    have hc : P.length ≤ c := by have := r.1; omega
    refine ⟨fun W => ?_, ?_⟩
    · rw [Go.run_slice_h (P := Tryz.prog) (w := W) _ _ _ _ (by kernel_rfl) .i64 (P.length : Int) (by omega) (by omega), hel, hsz]
      simp [Result.andThen, sliced, add_plain']
    · by_cases hcc : P.length = c
      · refine ⟨some ⟨g, 0, none⟩, .inr ⟨_, _, rfl⟩, fun W => ?_⟩
        rw [Go.run_slice_l (P := Tryz.prog) (w := W) _ _ _ _ (by kernel_rfl) .i64 (P.length : Int) (by omega) (by omega), hel, hsz]
        simp [Result.andThen, sliced, hcc, add_plain']
      · refine ⟨some ⟨g, 0 + P.length * 2, none⟩, .inr ⟨_, _, rfl⟩, fun W => ?_⟩
        rw [Go.run_slice_l (P := Tryz.prog) (w := W) _ _ _ _ (by kernel_rfl) .i64 (P.length : Int) (by omega) (by omega), hel, hsz]
        have hn : ¬ c - P.length = 0 := by omega
        simp [Result.andThen, sliced, add_plain', hn]
        intro h
        omega
theorem lf_row {W : World} {bp c : Nat} {A : Option Addr} {P : List Lf} (h : W.ownsRow bp 30 2 (.slice A P.length c) P.length (P.flatMap lCells)) : LfAt W A P := fun hne => by
  have hl : 0 < P.length := List.length_pos_iff.2 hne
  rcases h.2 with ⟨h1, h2⟩ | ⟨g, cap, cur, hv, hb, hh, r⟩
  · omega
  · simp only [Value.slice.injEq] at hv
    obtain ⟨rfl, -, rfl⟩ := hv
    have key : ∀ (Q : List Lf) (k : Nat) (hk : k < Q.length), (Q.flatMap lCells)[k * 2]? = some (.int .i64 Q[k].time) ∧ (Q.flatMap lCells)[k * 2 + 1]? = some (.string (S Q[k].cert)) := by
      intro Q
      induction Q with
      | nil => intro k hk; simp at hk
      | cons a r ih =>
        intro k hk
        cases k with
        | zero => exact ⟨rfl, rfl⟩
        | succ k =>
          have := ih k (by simpa using hk)
          rw [List.flatMap_cons, show (k + 1) * 2 = k * 2 + 1 + 1 by omega]
          simpa [lCells] using this
    refine ⟨g, 0, rfl, (Array.getElem?_eq_some_iff.1 hh).1, fun k hk => ?_⟩
    rw [Nat.zero_add]
    exact ⟨(h.cellAt (k * 2) (by omega)).trans (key P k hk).1, (h.cellAt (k * 2 + 1) (by omega)).trans (key P k hk).2⟩
section
variable {W : World} {g N sb mb lb size cm c bp bh ch : Nat} {d : Dr} {m : KM} {Z : Nat → Prop} {A Ah : Option Addr} {P : List Lf} {C : KMapI}
theorem legacy_Sequence_first (hst : St W g d N lgN sb mb m Z) (hdn : d.down = false) (hB : Blk W lb 49 (logCells sb size (.slice A P.length c) (.slice Ah 0 ch) cm)) (hP : W.ownsRow bp 30 2 (.slice A P.length c) P.length (P.flatMap lCells)) (hH : W.ownsRow bh 97 3 (.slice Ah 0 ch) 0 []) (hbh : bh ≤ W.heap.size) (hC : OwnI Tryz.prog 9 W cm C)
    (hF : ∀ k, k = lb ∨ k = cm ∨ OwnBy (.slice A P.length c) k ∨ OwnBy (.slice Ah 0 ch) k → ¬ foot Z sb mb k) (hP0 : P ≠ []) (hok : ∀ x ∈ P, okL x = true) (now most : Nat) (hnow : now ≤ 1125899906842624) (hm1 : 1 ≤ most) (hm2 : most ≤ 64) (hPm : P.length ≤ most) (hn : size + P.length < 2047)
    (hpl : (peaksP m size (Lib.bitLen size + 1)).length = popN size) (hp1 : ∀ t ∈ peaksP m size (Lib.bitLen size + 1), t.length ≤ 100) (hf : ∀ x ∈ P, ∃ o : Option Nat, kget m (iK (leafH (leafB x))) = o.map numK ∧ ∀ j, o = some j → j < 10000000)
    (hrl : (growL m size P).2.length ≤ 100) (hgl : (growL m size P).1.length ≤ 900) (hmy : mayB (seqB m size P now) = true) (hbl : (bodyB (seqB m size P now)).length ≤ 800000) (hml : m.length ≤ 100000) (hN : N < 1000000) (hL : LibL W)
    (hAp : (d.append (fileN lgN logN) (frameB (seqB m size P now))).2 = 0) (hSy : ((d.append (fileN lgN logN) (frameB (seqB m size P now))).1.sync (fileN lgN logN)).2 = 0) :
    Calls Tryz.prog 10 #[.pointer (some ⟨lb, 0, none⟩), .int .i64 now, .int .i64 most] W fun e w' => e = .returned (.int .i64 0) ∧ ∃ mb' Z' A' c' Ah' ch', St w' g (((d.append (fileN lgN logN) (frameB (seqB m size P now))).1.sync (fileN lgN logN)).1) (N + 1) lgN sb mb' (doB m (seqB m size P now)) Z' ∧
      Blk w' lb 49 (logCells sb (size + P.length) (.slice A' 0 c') (.slice Ah' 1 ch') cm) ∧ w'.ownsRow bh 97 3 (.slice Ah' 1 ch') 1 (dCells ⟨size + P.length, now, (growL m size P).2⟩) ∧ OwnI Tryz.prog 9 w' cm C ∧ Turn (fun k => foot Z sb mb k ∨ k = lb ∨ OwnBy (.slice Ah 0 ch) k) W w' ∧ (∀ k, foot Z' sb mb' k → foot Z sb mb k ∨ W.heap.size ≤ k) ∧ (∀ k, k = lb ∨ k = cm ∨ OwnBy (.slice Ah' 1 ch') k → ¬ foot Z' sb mb' k) ∧ (A' = none ∨ ∃ g off, A' = some ⟨g, off, none⟩) := by
  have hfl : ∀ k, foot Z sb mb k → k < W.heap.size := fun k hk => hst.lt hk
  have hlbW := hB.lt
  have hcmW := hC.lt
  obtain ⟨k0, k1, k2, k3, k4⟩ := log5 hB
  have AL := kv_Alive (hst.mw (X1 := []) (by simp)) (name := lgN) (dead := false) (List.Mem.head _)
  rw [hdn] at AL
  have HAL := hid AL
  have htb : timeB (now : Int) = true := by unfold timeB; simp; omega
  have TM := hid (fun w => legacy_time (now : Int) w)
  rw [htb] at TM
  have GRW := hid (legacy_grow hB hst.rd P A c (lf_row hP) hok hn hpl hp1 (.inr hP0) hf hL)
  obtain ⟨hs1, A2, hA2, hs2⟩ := slice_lf_rest hP
  have HA2 := hid hA2
  clear hA2
  have hPpos : 0 < P.length := List.length_pos_iff.2 hP0
  have d1 : decide ((most : Int) < 1) = false := by simp; omega
  have d2 : decide ((64 : Int) < (most : Int)) = false := by simp; omega
  have d3 : ((P.length : Int) == 0) = false := by simp; omega
  have d4 : min (most : Int) (P.length : Int) = (P.length : Int) := by omega
  have hw1 : IntKind.i64.wrap ((size : Int) + (P.length : Int)) = ((size + P.length : Nat) : Int) := by rw [IntWalk.i64_in _ (by omega)]; omega
  have d5 : decide ((1048576 : Int) < (size : Int) + (P.length : Int)) = false := by simp; omega
  have hSQ := hid (show seqB m size P now = (growL m size P).1 ++ (List.range P.length).map (fun i => ⟨pK (size + i), [], true⟩) ++ [⟨hK (size + P.length), headV ⟨size + P.length, now, (growL m size P).2⟩, false⟩] from rfl)
  have HH := hid hB
  have HL := hid hL
  generalize growL m size P = GL at *
  obtain ⟨GB, rt⟩ := GL
  simp only [] at *
  have hsz6 : size + P.length < 2047 := hn
  clear hB hok hn hpl hp1 hf hL AL hP0
  go_enter Tryz.func10, Tryz.ntmps10
  go_wp2_with (first
    | (go_at_call 39; refine HAL.out.mono ?_; rintro e w1 ⟨rfl, hw⟩; rw [hw]; clear hw w1)
    | (go_at_call 44; refine (TM.out _).mono ?_; rintro e w1 ⟨rfl, hw⟩; rw [hw]; clear hw w1)
    | (go_at_call 45; refine GRW.out.mono ?_; rintro e w1 ⟨A1, c1, rfl, hr1, hb1⟩; have y1 : w1.cell? ⟨lb, 1, none⟩ = some (.int .i64 size) := (hb1.cell hlbW).trans k1; have HR1 := hid hr1; have HB1 := hid hb1; clear hr1 hb1)
    | (go_at_call 46; refine (legacy_Last_none (HH.out.below (HB1.out.alloc HB1.out.size _) hlbW)).mono ?_; rintro e w3 ⟨rfl, hb3⟩; have hX3 : Blk w3 w1.heap.size 97 #[.int .i64 ((size + P.length : Nat) : Int), .int .i64 now, .string (S rt)] := (Blk.new w1 97 #[.int .i64 ((size + P.length : Nat) : Int), .int .i64 now, .string (S rt)]).below hb3 (by simp); have hb13 : Below w1.heap.size w1 w3 := bt ((Below.refl _ _).alloc (Nat.le_refl _) _) hb3; have HX3 := hid hX3; have HB13 := hid hb13; clear hX3 hb13 hb3))
  have hb4 : Below w1.heap.size w1 (w3.alloc (.cells #[.int .i64 0, .int .i64 0, .string (S [])] 97)) := HB13.out.alloc HB13.out.size _
  have hbW4 : Below W.heap.size W (w3.alloc (.cells #[.int .i64 0, .int .i64 0, .string (S [])] 97)) := bt HB1.out hb4
  have hX4 : Blk (w3.alloc (.cells #[.int .i64 0, .int .i64 0, .string (S [])] 97)) w1.heap.size 97 #[.int .i64 ((size + P.length : Nat) : Int), .int .i64 now, .string (S rt)] := HX3.out.alloc _
  have hr4 := row_under HR1.out hb4
  have HR4 := hid hr4
  have HBW4 := hid hbW4
  have HX4 := hid hX4
  have HZ1 := hid HB1.out.size
  clear hb4 hbW4 hX4 hr4
  go_loopw [8, 13, 88] (fun b' _ i wr => ∃ (k : Nat) (os : List Wr) (Ab : Option Addr) (cb : Nat), k ≤ P.length ∧ b' = .slice Ab os.length cb ∧ i = .int .i64 k ∧ os.length ≤ GB.length + k ∧ Hid (os = GB ++ (List.range k).map (fun i => ⟨pK (size + i), [], true⟩)) ∧ Hid (wr.ownsRow W.heap.size 104 3 (.slice Ab os.length cb) os.length (os.flatMap wCells)) ∧ Hid (Below W.heap.size W wr) ∧ Hid (Blk wr w1.heap.size 97 #[.int .i64 ((size + P.length : Nat) : Int), .int .i64 now, .string (S rt)])) (fun _ _ i _ => P.length - (intOf i).toNat)
  case atStart => exact ⟨0, GB, A1, c1, Nat.zero_le _, rfl, rfl, Nat.le_refl _, hid (by simp), HR4, HBW4, HX4⟩
  case round =>
    obtain ⟨k, os, Ab, cb, hk, rfl, rfl, hol, hos, hrw, hbw, hbx⟩ := hrel
    have y1' : wr.cell? ⟨lb, 1, none⟩ = some (.int .i64 size) := (hbw.out.cell hlbW).trans k1
    have y0' : wr.cell? ⟨lb, 0, none⟩ = some (.pointer (some ⟨sb, 0, none⟩)) := (hbw.out.cell hlbW).trans k0
    by_cases hlt : k < P.length
    · have hwk : IntKind.i64.wrap ((size : Int) + k) = ((size + k : Nat) : Int) := by rw [IntWalk.i64_in _ (by omega)]; omega
      have SG := hid (nodes_Staged (size + k) (by omega) wr (HL.out.below hbw.out))
      have HOS := hid (show os ++ [⟨pK (size + k), [], true⟩] = GB ++ (List.range (k + 1)).map (fun i => (⟨pK (size + i), [], true⟩ : Wr)) by rw [hos.out, List.range_succ]; simp)
      have AW := hid (fun (w5 : World) (hb5 : Below wr.heap.size wr w5) => append_wr w5 ⟨pK (size + k), [], true⟩ (row_under hrw.out hb5) (by omega) (Nat.le_trans hbw.out.size hb5.size))
      have HKB := hid (show ∀ (w5 w6 : World) (A6 : Option Addr) (c6 : Nat), Below wr.heap.size wr w5 → Touch w5 w6 (OwnBy (.slice Ab os.length cb)) (OwnBy (.slice A6 (os.length + 1) c6)) → Below W.heap.size W w6 ∧ Blk w6 w1.heap.size 97 #[.int .i64 ((size + P.length : Nat) : Int), .int .i64 now, .string (S rt)] from fun w5 w6 A6 c6 h5 h6 => ⟨below_touch hbw.out ((Touch.of_below h5 (OwnBy (.slice Ab os.length cb))).trans h6) fun j hj => row_base_le hrw.out hj, (h6.block _ (Nat.lt_of_lt_of_le hbx.out.lt h5.size) (fun hj => by
        obtain ⟨cs, hcs⟩ := row_heap hrw.out hj
        exact Blk.ne_ (w := wr) (t := 104) (cs := cs) hcs hbx.out (by decide) rfl)).trans (hbx.out.below h5 hbx.out.lt)⟩)
      clear hos hrw hbw hbx
      go_wp2_with (first
        | (go_at_call 43; refine SG.out.mono ?_; rintro e w5 ⟨rfl, hb5⟩; obtain ⟨A6, c6, w6, hrun6, hr6, ht6⟩ := AW.out w5 hb5; obtain ⟨q1, q2⟩ := HKB.out w5 w6 A6 c6 hb5 ht6; have HR6 := hid hr6; have HB6 := hid q1; have HX6 := hid q2; clear hr6 ht6 q1 q2 hb5)
        | (at_builtin; refine wpList_append_run rfl _ _ _ (by rfl) _ _ _ _ (by rfl) (by rfl) hrun6 ?_))
      go_roundw
      case rel => exact ⟨k + 1, os ++ [⟨pK (size + k), [], true⟩], A6, c6, by omega, by rw [List.length_append]; rfl, by go_num, by rw [List.length_append]; simp; omega, HOS, HR6, HB6, HX6⟩
      case measure => simp [intOf]; omega
    · have hke : k = P.length := by omega
      subst hke
      have x0 : wr.cell? ⟨w1.heap.size, 0, none⟩ = some (.int .i64 ((size + P.length : Nat) : Int)) := hbx.out.cell 0
      have x1 : wr.cell? ⟨w1.heap.size, 1, none⟩ = some (.int .i64 now) := hbx.out.cell 1
      have x2 : wr.cell? ⟨w1.heap.size, 2, none⟩ = some (.string (S rt)) := hbx.out.cell 2
      have HD := legacy_head ⟨size + P.length, now, rt⟩ (by simp only []; omega) hnow hrl wr.drew (HL.out.below (below_drewN hbw.out 1))
      simp only [hdV, wrV] at HD
      have HHD := hid HD
      clear HD
      have hBS : seqB m size P now = os ++ [⟨hK (size + P.length), headV ⟨size + P.length, now, rt⟩, false⟩] := by rw [hSQ.out, hos.out]
      have AW := hid (fun (w5 : World) (hb5 : Below wr.heap.size wr w5) => append_wr w5 ⟨hK (size + P.length), headV ⟨size + P.length, now, rt⟩, false⟩ (row_under hrw.out hb5) (by omega) (Nat.le_trans hbw.out.size hb5.size))
      have HKB := hid (show ∀ (w5 w6 : World) (A6 : Option Addr) (c6 : Nat), Below wr.heap.size wr w5 → Touch w5 w6 (OwnBy (.slice Ab os.length cb)) (OwnBy (.slice A6 (os.length + 1) c6)) → Below W.heap.size W w6 ∧ Blk w6 w1.heap.size 97 #[.int .i64 ((size + P.length : Nat) : Int), .int .i64 now, .string (S rt)] from fun w5 w6 A6 c6 h5 h6 => ⟨below_touch hbw.out ((Touch.of_below h5 (OwnBy (.slice Ab os.length cb))).trans h6) fun j hj => row_base_le hrw.out hj, (h6.block _ (Nat.lt_of_lt_of_le hbx.out.lt h5.size) (fun hj => by
        obtain ⟨cs, hcs⟩ := row_heap hrw.out hj
        exact Blk.ne_ (w := wr) (t := 104) (cs := cs) hcs hbx.out (by decide) rfl)).trans (hbx.out.below h5 hbx.out.lt)⟩)
      have SS := hid (show ∀ w5, Below W.heap.size W w5 → Blk w5 w1.heap.size 97 #[.int .i64 ((size + P.length : Nat) : Int), .int .i64 now, .string (S rt)] → w5.cell? ⟨lb, 0, none⟩ = some (.pointer (some ⟨sb, 0, none⟩)) ∧ w5.cell? ⟨w1.heap.size, 0, none⟩ = some (.int .i64 ((size + P.length : Nat) : Int)) ∧ w5.cell? ⟨w1.heap.size, 1, none⟩ = some (.int .i64 now) ∧ w5.cell? ⟨w1.heap.size, 2, none⟩ = some (.string (S rt)) from fun w5 h1 h2 => ⟨(h1.cell hlbW).trans k0, h2.cell 0, h2.cell 1, h2.cell 2⟩)
      have hlen : (os ++ [(⟨hK (size + P.length), headV ⟨size + P.length, now, rt⟩, false⟩ : Wr)]).length = os.length + 1 := by simp
      have AP := hid (show ∀ (w6 : World) (A6 : Option Addr) (c6 : Nat), Below W.heap.size W w6 → w6.ownsRow W.heap.size 104 3 (.slice A6 (os ++ [(⟨hK (size + P.length), headV ⟨size + P.length, now, rt⟩, false⟩ : Wr)]).length c6) (os ++ [(⟨hK (size + P.length), headV ⟨size + P.length, now, rt⟩, false⟩ : Wr)]).length ((os ++ [(⟨hK (size + P.length), headV ⟨size + P.length, now, rt⟩, false⟩ : Wr)]).flatMap wCells) → Calls Tryz.prog 42 #[.pointer (some ⟨sb, 0, none⟩), .slice A6 (os.length + 1) c6] w6 (StPost w6 (foot Z sb mb) g ((d.append (fileN lgN logN) (frameB (seqB m size P now))).1.sync (fileN lgN logN)).1 (N + 1) lgN sb (doB m (seqB m size P now)) 0) by
        intro w6 A6 c6 hb6 hr6
        rw [← hBS] at hr6 hlen
        have s6 : St w6 g d N lgN sb mb m Z := hst.keep (Turn.of_below hb6 (fun _ => False)) (fun _ _ h => h)
        obtain ⟨X1, hX1, hW1⟩ := ws_row_blk hr6
        have := st_Apply_ok s6 (X1 := X1) (fun y hy => ⟨fun hf => by have h1 := hfl _ hf; have h2 := (hX1 y hy).1; omega, (hX1 y hy).2⟩) hdn A6 c6 (seqB m size P now) hW1 (by rw [hlen]; omega) hmy hbl hml hN (by decide) hAp hSy
        rw [hlen] at this
        exact this)
      have PAST := hid (show ∀ w6 w7, Below W.heap.size W w6 → Blk w6 w1.heap.size 97 #[.int .i64 ((size + P.length : Nat) : Int), .int .i64 now, .string (S rt)] → Turn (foot Z sb mb) w6 w7 → (w7.cell? ⟨lb, 0, none⟩ = some (.pointer (some ⟨sb, 0, none⟩)) ∧ w7.cell? ⟨w1.heap.size, 0, none⟩ = some (.int .i64 ((size + P.length : Nat) : Int)) ∧ w7.cell? ⟨w1.heap.size, 1, none⟩ = some (.int .i64 now) ∧ w7.cell? ⟨w1.heap.size, 2, none⟩ = some (.string (S rt))) ∧ Turn (foot Z sb mb) W w7 ∧ Blk w7 w1.heap.size 97 #[.int .i64 ((size + P.length : Nat) : Int), .int .i64 now, .string (S rt)] by
        intro w6 w7 h6 hx6 ht
        have h0 : Turn (foot Z sb mb) W w7 := (Turn.of_below h6 _).trans ht
        have hB7 := h0.blk HH.out (hF lb (.inl rfl))
        have hx7 := ht.blk hx6 fun hf => by have h1 := hfl _ hf; have h2 := HZ1.out; omega
        exact ⟨⟨hB7.cell 0, hx7.cell 0, hx7.cell 1, hx7.cell 2⟩, h0, hx7⟩)
      have FIN := hid (show ∀ w7, Turn (foot Z sb mb) W w7 → Blk w7 w1.heap.size 97 #[.int .i64 ((size + P.length : Nat) : Int), .int .i64 now, .string (S rt)] → w7.cell? ⟨lb, 2, none⟩ = some (.slice A P.length c) ∧ w7.cell? ⟨lb, 3, none⟩ = some (.slice Ah 0 ch) ∧ ∃ A8 c8 w8, (Builtin.append_ #[46, 46] 46 #[.slice Ah 0 ch, .slice (some ⟨w7.heap.size, 0, none⟩) 1 1]).run Tryz.prog (w7.drew.alloc (.cells #[.int .i64 ((size + P.length : Nat) : Int), .int .i64 now, .string (S rt)] 97)) = .ok (.slice A8 1 c8) w8 ∧ Blk w8 lb 49 (logCells sb size (.slice A P.length c) (.slice Ah 0 ch) cm) ∧ Blk w8 w1.heap.size 97 #[.int .i64 ((size + P.length : Nat) : Int), .int .i64 now, .string (S rt)] ∧
          ∀ mb' Z' N' d' m', St w7 g d' N' lgN sb mb' m' Z' → (∀ k, foot Z' sb mb' k → foot Z sb mb k ∨ W.heap.size ≤ k) → ∀ w9, w9 = ((w8.setCell ⟨lb, 1, none⟩ (.int .i64 ((size + P.length : Nat) : Int))).setCell ⟨lb, 2, none⟩ (.slice A2 0 (c - P.length))).setCell ⟨lb, 3, none⟩ (.slice A8 1 c8) →
            St w9 g d' N' lgN sb mb' m' Z' ∧ Blk w9 lb 49 (logCells sb (size + P.length) (.slice A2 0 (c - P.length)) (.slice A8 1 c8) cm) ∧ w9.ownsRow bh 97 3 (.slice A8 1 c8) 1 (dCells ⟨size + P.length, now, rt⟩) ∧ OwnI Tryz.prog 9 w9 cm C ∧ Turn (fun k => foot Z sb mb k ∨ k = lb ∨ OwnBy (.slice Ah 0 ch) k) W w9 ∧ (∀ k, k = lb ∨ k = cm ∨ OwnBy (.slice A8 1 c8) k → ¬ foot Z' sb mb' k) by
        intro w7 ht hx7
        have hB7 := ht.blk HH.out (hF lb (.inl rfl))
        have hr7 := ht.row hH fun k hk => hF k (.inr (.inr (.inr hk)))
        have hncm : lb ≠ cm := hC.not_blk HH.out
        have hz7 := ht.size
        have hzh := HZ1.out
        have hrw2 : ∀ k, OwnBy (.slice Ah 0 ch) k → k < W.heap.size ∧ k ≠ cm ∧ k ≠ lb := fun k hk => by
          obtain ⟨cs, hcs⟩ := row_heap hH hk
          exact ⟨row_lt hH hk, hC.not_blk (x := k) (tx := 97) (cs := cs) hcs, Blk.ne_ (w := W) (t := 97) (cs := cs) hcs HH.out (by decide)⟩
        obtain ⟨A8, c8, w8, hrun8, hr8, ht8⟩ := append_head w7.drew (os := []) ⟨size + P.length, now, rt⟩ (row_drew hr7 1) (by simp) (show bh ≤ w7.heap.size by omega)
        have ht8n : ∀ k, OwnBy (.slice A8 1 c8) k → OwnBy (.slice Ah 0 ch) k ∨ w7.heap.size ≤ k := fun k hk => ht8.new k hk
        have tt8 : Turn (OwnBy (.slice Ah 0 ch)) w7 w8 := ⟨ht8.os, ht8.tape, ht8.output, ht8.size, ht8.block⟩
        have hB8 := tt8.blk hB7 fun hk => (hrw2 _ hk).2.2 rfl
        have hX8 := tt8.blk hx7 fun hk => by have := (hrw2 _ hk).1; omega
        refine ⟨hB7.cell 2, hB7.cell 3, A8, c8, w8, hrun8, hB8, hX8, ?_⟩
        rintro mb' Z' N' d' m' hs hfp w9 rfl
        have far : ∀ k, k ≠ lb → (((w8.setCell ⟨lb, 1, none⟩ (.int .i64 ((size + P.length : Nat) : Int))).setCell ⟨lb, 2, none⟩ (.slice A2 0 (c - P.length))).setCell ⟨lb, 3, none⟩ (.slice A8 1 c8)).heap[k]? = w8.heap[k]? := fun k h2 => (Below.heap_setCell _ _ _ _ h2).trans ((Below.heap_setCell _ _ _ _ h2).trans (Below.heap_setCell _ _ _ _ h2))
        have t9 : Turn (fun k => OwnBy (.slice Ah 0 ch) k ∨ k = lb) w7 (((w8.setCell ⟨lb, 1, none⟩ (.int .i64 ((size + P.length : Nat) : Int))).setCell ⟨lb, 2, none⟩ (.slice A2 0 (c - P.length))).setCell ⟨lb, 3, none⟩ (.slice A8 1 c8)) :=
          (((tt8.more fun k h => .inl h).setCell ⟨lb, 1, none⟩ (.inl (.inr rfl)) _).setCell ⟨lb, 2, none⟩ (.inl (.inr rfl)) _).setCell ⟨lb, 3, none⟩ (.inl (.inr rfl)) _
        have hlb3 := HH.out.lt
        have hfd : ∀ k, foot Z' sb mb' k → k ≠ lb ∧ k ≠ cm ∧ ¬ OwnBy (.slice Ah 0 ch) k ∧ k < w7.heap.size := fun k hk => by
          refine ⟨?_, ?_, ?_, hs.lt hk⟩
          · rintro rfl
            rcases hfp _ hk with h | h
            · exact hF _ (.inl rfl) h
            · omega
          · rintro rfl
            rcases hfp _ hk with h | h
            · exact hF _ (.inr (.inl rfl)) h
            · omega
          · intro h0
            rcases hfp _ hk with h | h
            · exact hF _ (.inr (.inr (.inr h0))) h
            · have := (hrw2 k h0).1; omega
        refine ⟨hs.keep t9 (fun k hk h => ?_), ?_, ?_, ?_, (ht.more fun k h => .inl h).trans (t9.more fun k h => ?_), fun k hk hf => ?_⟩
        · obtain ⟨n1, n2, n3, -⟩ := hfd k hk
          rcases h with h | h
          · exact n3 h
          · exact n1 h
        · have := ((hB8.set_ 1 (.int .i64 ((size + P.length : Nat) : Int))).set_ 2 (.slice A2 0 (c - P.length))).set_ 3 (.slice A8 1 c8)
          simpa [logCells] using this
        · exact row_keep hr8 fun k hk => far k (by
            rcases ht8n k hk with h | h
            · exact (hrw2 k h).2.2
            · omega)
        · exact hC.kept ((far cm (Ne.symm hncm)).trans ((tt8.block cm (by omega) fun hk => (hrw2 _ hk).2.1 rfl).trans (ht.block cm hcmW (hF cm (.inr (.inl rfl))))))
        · rcases h with h | h
          · exact .inr (.inr h)
          · exact .inr (.inl h)
        · obtain ⟨n1, n2, n3, n4⟩ := hfd k hf
          rcases hk with h | h | h
          · exact n1 h
          · exact n2 h
          · rcases ht8n k h with h | h
            · exact n3 h
            · omega)
      generalize hn' : size + P.length = n' at *
      have HN' := hid hn'
      generalize headV ⟨n', now, rt⟩ = hv at *
      generalize hK n' = hk9 at *
      have HBW := hid hbw.out
      have HBX := hid hbx.out
      have hz1 := HZ1.out
      have S0 := SS.out wr.drew (below_drewN hbw.out 1) hbx.out.drew
      clear hos hrw hbx hbw hBS hn'
      go_wp2
      go_region_held3 (fun w' => w'.cell? ⟨lb, 0, none⟩ = some (.pointer (some ⟨sb, 0, none⟩)) ∧ w'.cell? ⟨w1.heap.size, 0, none⟩ = some (.int .i64 n') ∧ w'.cell? ⟨w1.heap.size, 1, none⟩ = some (.int .i64 now) ∧ w'.cell? ⟨w1.heap.size, 2, none⟩ = some (.string (S rt))) (first | assumption | simp [*, go_sem, World.cell?_alloc_past]) (first
        | (go_at_call 47; refine HHD.out.mono ?_; rintro e w5 ⟨rfl, hb5⟩; have hb5' := below_from (n := 1) hb5; have S5 := SS.out w5 (bt HBW.out hb5') (HBX.out.below hb5' HBX.out.lt); have S5a := SS.out (w5.alloc (.cells #[.string (S hk9), .string (S hv), .bool false] 104)) (bt HBW.out (hb5'.alloc hb5'.size _)) ((HBX.out.below hb5' HBX.out.lt).alloc _); obtain ⟨A6, c6, w6, hrun6, hr6, ht6⟩ := AW.out w5 hb5'; obtain ⟨q1, q2⟩ := HKB.out w5 w6 A6 c6 hb5' ht6; have S6 := SS.out w6 q1 q2; have AP6 := hid (AP.out w6 A6 c6 q1 hr6); have Q1 := hid q1; have Q2 := hid q2; clear hb5 hb5' hr6 ht6 q1 q2)
        | (go_at_call 42; refine AP6.out.mono ?_; rintro e w7 ⟨rfl, mb7, Z7, hs7, ht7, hf7⟩; obtain ⟨S7, q3, q4⟩ := PAST.out w6 w7 Q1.out Q2.out ht7; have Q3 := hid q3; have Q4 := hid q4; have HS7 := hid hs7; have HF7 := hid hf7; clear q3 q4 hs7 ht7 hf7)
        | (refine step_append_run rfl _ _ _ (by rfl) _ _ _ _ (by rfl) (by rfl) hrun6 ?_))
      obtain ⟨u2, u3, A8, c8, w8, hrun8, hB8, hX8, hfin⟩ := FIN.out w7 Q3.out Q4.out
      have HFIN := hid hfin
      obtain ⟨x70, x71, x72⟩ := S7.2
      obtain ⟨-, l1, l2, l3, -⟩ := log5 hB8
      have f1 := hB8.frozen 1
      have f2 := hB8.frozen 2
      have f3 := hB8.frozen 3
      have v0 : w8.cell? ⟨w1.heap.size, 0, none⟩ = some (.int .i64 n') := hX8.cell 0
      have v1 : w8.cell? ⟨w1.heap.size, 1, none⟩ = some (.int .i64 now) := hX8.cell 1
      have v2 : w8.cell? ⟨w1.heap.size, 2, none⟩ = some (.string (S rt)) := hX8.cell 2
      have hlb7 : lb < w7.heap.size := World.block_lt_of_cell? w7 _ u2
      have hhb7 : w1.heap.size < w7.heap.size := World.block_lt_of_cell? w7 _ x70
      have hne7 : w1.heap.size ≠ lb := by omega
      have hne8 : lb ≠ w1.heap.size := by omega
      clear hB8 hX8 hfin S7 S6 S5 S5a
      go_wp2
      refine wp_thenF ?_
      refine region_anyK (fun w' => w'.cell? ⟨lb, 2, none⟩ = some (.slice A P.length c) ∧ w'.cell? ⟨lb, 3, none⟩ = some (.slice Ah 0 ch) ∧ w'.cell? ⟨w1.heap.size, 0, none⟩ = some (.int .i64 n') ∧ w'.cell? ⟨w1.heap.size, 1, none⟩ = some (.int .i64 now) ∧ w'.cell? ⟨w1.heap.size, 2, none⟩ = some (.string (S rt))) 23 (by kernel_rfl) (by ((try dsimp only); first | assumption | simp [*, go_sem, World.cell?_alloc_past])) (fun hSk => ?_)
      refine anyK_takeW 2 (v := ?_) rfl (by kernel_rfl) (by kernel_rfl) (fun _ _ _ h => h) (Or.inl ⟨by rfl, ?_⟩) hSk ?_
      rotate_left
      · intro w' _; go_simp; try with_reducible rfl
      try simp only [List.getElem_toArray, List.getElem_cons_succ, List.getElem_cons_zero, Act.put, List.setIfInBounds_toArray, List.set_cons_zero, List.set_cons_succ]
      refine anyK_take 0 [0] (v := ?_) rfl (by kernel_rfl) (by kernel_rfl) (fun _ _ _ h => h) (Or.inl ⟨by rfl, ?_⟩) hSk ?_
      rotate_left
      · intro w' hSw; (try dsimp only at hSw); go_simp; try with_reducible rfl
      try simp only [List.getElem_toArray, List.getElem_cons_succ, List.getElem_cons_zero, Act.put, List.setIfInBounds_toArray, List.set_cons_zero, List.set_cons_succ]
      refine anyK_take 1 [1] (v := ?_) rfl (by kernel_rfl) (by kernel_rfl) (fun _ _ _ h => h) (Or.inl ⟨by rfl, ?_⟩) hSk ?_
      rotate_left
      · intro w' hSw; (try dsimp only at hSw); go_simp; try with_reducible rfl
      try simp only [List.getElem_toArray, List.getElem_cons_succ, List.getElem_cons_zero, Act.put, List.setIfInBounds_toArray, List.set_cons_zero, List.set_cons_succ]
      refine anyK_take 3 [3] (v := ?_) rfl (by kernel_rfl) (by kernel_rfl) (fun _ _ _ h => h) (Or.inl ⟨by rfl, ?_⟩) hSk ?_
      rotate_left
      · intro w' hSw; (try dsimp only at hSw); go_simp; try with_reducible rfl
      try simp only [List.getElem_toArray, List.getElem_cons_succ, List.getElem_cons_zero, Act.put, List.setIfInBounds_toArray, List.set_cons_zero, List.set_cons_succ]
      refine anyK_take 4 [4] (v := ?_) rfl (by kernel_rfl) (by kernel_rfl) (fun _ _ _ h => h) (Or.inl ⟨by rfl, ?_⟩) hSk ?_
      rotate_left
      · intro w' hSw; (try dsimp only at hSw); go_simp; try with_reducible rfl
      try simp only [List.getElem_toArray, List.getElem_cons_succ, List.getElem_cons_zero, Act.put, List.setIfInBounds_toArray, List.set_cons_zero, List.set_cons_succ]
      refine anyK_take 5 [5] (v := ?_) rfl (by kernel_rfl) (by kernel_rfl) (fun _ _ _ h => h) (Or.inl ⟨by rfl, ?_⟩) hSk ?_
      rotate_left
      · intro w' hSw; (try dsimp only at hSw); go_simp; try with_reducible rfl
      try simp only [List.getElem_toArray, List.getElem_cons_succ, List.getElem_cons_zero, Act.put, List.setIfInBounds_toArray, List.set_cons_zero, List.set_cons_succ]
      refine anyK_take 6 [6] (v := ?_) rfl (by kernel_rfl) (by kernel_rfl) (fun _ _ _ h => h) (Or.inl ⟨by rfl, ?_⟩) hSk ?_
      rotate_left
      · intro w' hSw; (try dsimp only at hSw); go_simp; try with_reducible rfl
      try simp only [List.getElem_toArray, List.getElem_cons_succ, List.getElem_cons_zero, Act.put, List.setIfInBounds_toArray, List.set_cons_zero, List.set_cons_succ]
      refine anyK_take 7 [7] (v := ?_) rfl (by kernel_rfl) (by kernel_rfl) (fun _ _ _ h => h) (Or.inl ⟨by rfl, ?_⟩) hSk ?_
      rotate_left
      · intro w' hSw; (try dsimp only at hSw); go_simp; try with_reducible rfl
      try simp only [List.getElem_toArray, List.getElem_cons_succ, List.getElem_cons_zero, Act.put, List.setIfInBounds_toArray, List.set_cons_zero, List.set_cons_succ]
      refine anyK_take 8 [8] (v := ?_) rfl (by kernel_rfl) (by kernel_rfl) (fun _ _ _ h => h) (Or.inl ⟨by rfl, ?_⟩) hSk ?_
      rotate_left
      · intro w' hSw; (try dsimp only at hSw); go_simp; try with_reducible rfl
      try simp only [List.getElem_toArray, List.getElem_cons_succ, List.getElem_cons_zero, Act.put, List.setIfInBounds_toArray, List.set_cons_zero, List.set_cons_succ]
      refine anyK_take 9 [9] (v := ?_) rfl (by kernel_rfl) (by kernel_rfl) (fun _ _ _ h => h) (Or.inl ⟨by rfl, ?_⟩) hSk ?_
      rotate_left
      · intro w' hSw; (try dsimp only at hSw); go_simp; try with_reducible rfl
      try simp only [List.getElem_toArray, List.getElem_cons_succ, List.getElem_cons_zero, Act.put, List.setIfInBounds_toArray, List.set_cons_zero, List.set_cons_succ]
      refine anyK_take 10 [10] (v := ?_) rfl (by kernel_rfl) (by kernel_rfl) (fun _ _ _ h => h) (Or.inl ⟨by rfl, ?_⟩) hSk ?_
      rotate_left
      · intro w' hSw; (try dsimp only at hSw); go_simp; try with_reducible rfl
      try simp only [List.getElem_toArray, List.getElem_cons_succ, List.getElem_cons_zero, Act.put, List.setIfInBounds_toArray, List.set_cons_zero, List.set_cons_succ]
      refine anyK_take 11 [14, 13, 12, 11] (v := ?_) rfl (by kernel_rfl) (by kernel_rfl) (fun _ _ _ h => h) (Or.inl ⟨by rfl, ?_⟩) hSk ?_
      rotate_left
      · intro w' hSw; (try dsimp only at hSw); go_simp; try with_reducible rfl
      try simp only [List.getElem_toArray, List.getElem_cons_succ, List.getElem_cons_zero, Act.put, List.setIfInBounds_toArray, List.set_cons_zero, List.set_cons_succ]
      refine anyK_take 12 [14, 13, 12] (v := ?_) rfl (by kernel_rfl) (by kernel_rfl) (fun _ _ _ h => h) (Or.inl ⟨by rfl, ?_⟩) hSk ?_
      rotate_left
      · intro w' hSw; (try dsimp only at hSw); go_simp; try with_reducible rfl
      try simp only [List.getElem_toArray, List.getElem_cons_succ, List.getElem_cons_zero, Act.put, List.setIfInBounds_toArray, List.set_cons_zero, List.set_cons_succ]
      refine anyK_take 13 [14, 13] (v := ?_) rfl (by kernel_rfl) (by kernel_rfl) (fun _ _ _ h => h) (Or.inl ⟨by rfl, ?_⟩) hSk ?_
      rotate_left
      · intro w' hSw; (try dsimp only at hSw); go_simp; try with_reducible rfl
      try simp only [List.getElem_toArray, List.getElem_cons_succ, List.getElem_cons_zero, Act.put, List.setIfInBounds_toArray, List.set_cons_zero, List.set_cons_succ]
      refine anyK_take 14 [14] (v := ?_) rfl (by kernel_rfl) (by kernel_rfl) (fun _ _ _ h => h) (Or.inl ⟨by rfl, ?_⟩) hSk ?_
      rotate_left
      · intro w' hSw; (try dsimp only at hSw); go_simp; try with_reducible rfl
      try simp only [List.getElem_toArray, List.getElem_cons_succ, List.getElem_cons_zero, Act.put, List.setIfInBounds_toArray, List.set_cons_zero, List.set_cons_succ]
      refine anyK_take 15 [17, 16, 15] (v := ?_) rfl (by kernel_rfl) (by kernel_rfl) (fun _ _ _ h => h) (Or.inl ⟨by rfl, ?_⟩) hSk ?_
      rotate_left
      · intro w' hSw; (try dsimp only at hSw); go_simp; try with_reducible rfl
      try simp only [List.getElem_toArray, List.getElem_cons_succ, List.getElem_cons_zero, Act.put, List.setIfInBounds_toArray, List.set_cons_zero, List.set_cons_succ]
      refine anyK_only 16 (by kernel_rfl) rfl (fun K hK => ?_)
      (first | ((refine step_append_run rfl _ _ _ (by rfl) _ _ _ _ (by rfl) (by rfl) hrun8 ?_)) | go_simp)
      clear hSk
      refine hK.out _ _ (by ((try dsimp only); first | assumption | simp [*, go_sem, World.cell?_alloc_past])) (fun hSk => ?_)
      clear hK K
      try simp only [List.getElem_toArray, List.getElem_cons_succ, List.getElem_cons_zero, Act.put, List.setIfInBounds_toArray, List.set_cons_zero, List.set_cons_succ]
      refine anyK_only 17 (by kernel_rfl) rfl (fun K hK => ?_)
      (first | ((refine step_append_run rfl _ _ _ (by rfl) _ _ _ _ (by rfl) (by rfl) hrun8 ?_)) | go_simp)
      clear hSk
      refine hK.out _ _ (by ((try dsimp only); first | assumption | simp [*, go_sem, World.cell?_alloc_past])) (fun hSk => ?_)
      clear hK K
      try simp only [List.getElem_toArray, List.getElem_cons_succ, List.getElem_cons_zero, Act.put, List.setIfInBounds_toArray, List.set_cons_zero, List.set_cons_succ]
      refine anyK_take 18 [18] (v := ?_) rfl (by kernel_rfl) (by kernel_rfl) (fun _ _ _ h => h) (Or.inl ⟨by rfl, ?_⟩) hSk ?_
      rotate_left
      · intro w' hSw; (try dsimp only at hSw); go_simp; try with_reducible rfl
      try simp only [List.getElem_toArray, List.getElem_cons_succ, List.getElem_cons_zero, Act.put, List.setIfInBounds_toArray, List.set_cons_zero, List.set_cons_succ]
      refine anyK_take 19 [19] (v := ?_) rfl (by kernel_rfl) (by kernel_rfl) (fun _ _ _ h => h) (Or.inl ⟨by rfl, ?_⟩) hSk ?_
      rotate_left
      · intro w' hSw; (try dsimp only at hSw); go_simp; try with_reducible rfl
      try simp only [List.getElem_toArray, List.getElem_cons_succ, List.getElem_cons_zero, Act.put, List.setIfInBounds_toArray, List.set_cons_zero, List.set_cons_succ]
      refine anyK_only 20 (by kernel_rfl) rfl (fun K hK => ?_)
      go_simp
      clear hSk
      refine hK.out _ _ (by ((try dsimp only); first | assumption | simp [*, go_sem, World.cell?_alloc_past])) (fun hSk => ?_)
      clear hK K
      try simp only [List.getElem_toArray, List.getElem_cons_succ, List.getElem_cons_zero, Act.put, List.setIfInBounds_toArray, List.set_cons_zero, List.set_cons_succ]
      refine anyK_take 21 [22, 21] (v := ?_) rfl (by kernel_rfl) (by kernel_rfl) (fun _ _ _ h => h) (Or.inl ⟨by rfl, ?_⟩) hSk ?_
      rotate_left
      · intro w' hSw; (try dsimp only at hSw); go_simp; try with_reducible rfl
      try simp only [List.getElem_toArray, List.getElem_cons_succ, List.getElem_cons_zero, Act.put, List.setIfInBounds_toArray, List.set_cons_zero, List.set_cons_succ]
      refine anyK_take 22 [22] (v := ?_) rfl (by kernel_rfl) (by kernel_rfl) (fun _ _ _ h => h) (Or.inl ⟨by rfl, ?_⟩) hSk ?_
      rotate_left
      · intro w' hSw; (try dsimp only at hSw); go_simp; try with_reducible rfl
      try simp only [List.getElem_toArray, List.getElem_cons_succ, List.getElem_cons_zero, Act.put, List.setIfInBounds_toArray, List.set_cons_zero, List.set_cons_succ]
      refine anyK_last (by kernel_rfl) rfl (by kernel_rfl) (fun K hK => ?_)
      go_simp
      refine hK.out _ _ ?_
      clear hK K
      try simp only [List.getElem_toArray, List.getElem_cons_succ, List.getElem_cons_zero, Act.put, List.setIfInBounds_toArray, List.set_cons_zero, List.set_cons_succ]
      refine anyK_past 24 (by kernel_rfl) rfl (by kernel_rfl) (fun K hK => ?_)
      go_simp
      refine hK.out _ _ ?_
      clear hK K
      try simp only [List.getElem_toArray, List.getElem_cons_succ, List.getElem_cons_zero, Act.put, List.setIfInBounds_toArray, List.set_cons_zero, List.set_cons_succ]
      refine anyK_past 25 (by kernel_rfl) rfl (by kernel_rfl) (fun K hK => ?_)
      go_simp
      refine hK.out _ _ ?_
      clear hK K
      try simp only [List.getElem_toArray, List.getElem_cons_succ, List.getElem_cons_zero, Act.put, List.setIfInBounds_toArray, List.set_cons_zero, List.set_cons_succ]
      refine anyK_past 26 (by kernel_rfl) rfl (by kernel_rfl) (fun K hK => ?_)
      go_simp
      refine hK.out _ _ ?_
      clear hK K
      try simp only [List.getElem_toArray, List.getElem_cons_succ, List.getElem_cons_zero, Act.put, List.setIfInBounds_toArray, List.set_cons_zero, List.set_cons_succ]
      refine anyK_done (by kernel_rfl) ?_ _
      go_wp2
      have hfin := HFIN.out mb7 Z7 _ _ _ HS7.out (fun k hk => (HF7.out k hk).imp id fun h => Nat.le_trans Q1.out.size h) _ rfl
      obtain ⟨r1, r2, r3, r4, r5, r6⟩ := hfin
      have HR := hid (And.intro r1 (And.intro r2 (And.intro r3 (And.intro r4 (And.intro r5 r6)))))
      clear r1 r2 r3 r4 r5 r6
      go_ret
      rw [HN'.out]
      exact ⟨rfl, mb7, Z7, A2, c - P.length, A8, c8, HR.out.1, HR.out.2.1, HR.out.2.2.1, HR.out.2.2.2.1, HR.out.2.2.2.2.1, fun k hk => (HF7.out k hk).imp id fun h => Nat.le_trans Q1.out.size h, HR.out.2.2.2.2.2, HA2.out⟩
end
end Go.Proofs.YtiabfngiibabcaaGreatDoor
