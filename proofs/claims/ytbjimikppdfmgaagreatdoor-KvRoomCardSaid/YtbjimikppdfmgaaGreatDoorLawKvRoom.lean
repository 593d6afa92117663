/- Walk of pantilelaw14.KvRoom. -/
import Derived.Test.YtbjimikppdfmgaaGreatDoorKvRm
set_option linter.unusedVariables false
set_option linter.unusedSimpArgs false
set_option maxHeartbeats 12800000
set_option maxRecDepth 100000
namespace Go.Proofs.YtbjimikppdfmgaaGreatDoor
open Go.RowKit

/-- The list of what stands, apart from a store's blocks. -/
def AllRow (w wr : World) (A : Option Addr) (c : Nat) (al : List Wr) (T : Nat → Prop) : Prop :=
  wr.ownsRow w.heap.size 31 3 (.slice A al.length c) al.length (al.flatMap wCells) ∧ ∀ q, (Value.slice A al.length c).ownBlock = some q → ¬ T q
theorem AllRow.lt {w wr : World} {A : Option Addr} {c : Nat} {al : List Wr} {T : Nat → Prop} (h : AllRow w wr A c al T) {q : Nat} (hq : (Value.slice A al.length c).ownBlock = some q) : q < wr.heap.size := by
  obtain ⟨cs, hcs⟩ := row_heap h.1 hq
  exact (Array.getElem?_eq_some_iff.1 hcs).1
theorem AllRow.turn {w wr w' : World} {A : Option Addr} {c : Nat} {al : List Wr} {T T' : Nat → Prop} (h : AllRow w wr A c al T) (ht : Turn T wr w') (hf : ∀ k, T' k → T k ∨ wr.heap.size ≤ k) : AllRow w w' A c al T' :=
  ⟨row_keep h.1 fun k hk => ht.block k (h.lt hk) (h.2 k hk), fun q hq hT => by
    rcases hf q hT with hh | hh
    · exact h.2 q hq hh
    · have := h.lt hq; omega⟩
theorem AllRow.below {w wr w' : World} {A : Option Addr} {c : Nat} {al : List Wr} {T : Nat → Prop} (h : AllRow w wr A c al T) (hb : Below wr.heap.size wr w') : AllRow w w' A c al T :=
  ⟨row_below h.1 hb, h.2⟩
theorem law_KvRoom (A : Option Addr) (c : Nat) (L : List VB) (w : World) (hL : BatchesAt w A L) (hcl : (L.length : Int) ≤ 9223372036854775807) :
    Calls Tryz.prog 5 #[.slice A L.length c] w fun e w' => e = .returned (.bool true) ∧ Below w.heap.size w w' := by
  have N0 := hid (FW.new (Fr.all w) 1000000 rfl w (Fr.kept_self _))
  have HL := hid hL
  have LV := hid (fun W => law14_lives W)
  clear hL
  go_enter Tryz.func5, Tryz.ntmps5
  go_wp2_with fail
  refine N0.out.mono ?_
  rintro e w1 ⟨g, rfl, hg, hb1, hF⟩
  obtain ⟨Z0, i1, i2, i3, i4, -⟩ := hF
  have I1 := hid (fun k hk => Fr.all_free (i4 k hk))
  have OS := hid (st_Open_new (name := aN) i1 i2 (by omega) (by decide) (by decide) (by decide) rfl rfl rfl rfl)
  have HB1 := hid hb1
  clear i1 i2 i3 i4 hg hb1 N0
  go_wp2_with fail
  refine OS.out.mono ?_
  rintro e w2 ⟨sb, mb, Z, rfl, hsb, hs2, ht2, hf2⟩
  have S2 := hid (show St w2 g (U (fsA none []) 1000000 (wrap1 0)) 0 aN sb mb [] Z from hs2)
  have F2 := hid (show ∀ k, foot Z sb mb k → w.heap.size ≤ k from fun k hk => by
    rcases hf2 k hk with hh | hh
    · exact I1.out k hh
    · exact Nat.le_trans HB1.out.size hh)
  have B2 := hid (ht2.below HB1.out I1.out)
  clear hs2 ht2 hf2 OS hsb I1 HB1
  go_wp2
  go_loopw [6, 7] (fun o i wr => ∃ (k : Nat) (A' : Option Addr) (c' : Nat) (al : List Wr) (mb' Nn : Nat) (Z' : Nat → Prop) (kk : Int), k ≤ L.length ∧ k ≤ 10 ∧ i = .int .i64 k ∧ o = .slice A' al.length c' ∧ Hid (al = (roomMs (L.take k)).map wOf) ∧ Hid (Nn ≤ k) ∧
    Hid (St wr g (U (fsA none (roomLs (L.take k))) 1000000 kk) Nn aN sb mb' (roomMs (L.take k)) Z') ∧ Hid (∀ q, foot Z' sb mb' q → w.heap.size ≤ q) ∧ Hid (Below w.heap.size w wr) ∧ Hid (AllRow w wr A' c' al (foot Z' sb mb'))) (fun _ i _ => 10 - (intOf i).toNat)
  case atStart => exact ⟨0, none, 0, [], mb, 0, Z, wrap1 0, Nat.zero_le _, Nat.zero_le _, rfl, rfl, rfl, hid (Nat.le_refl _), S2, F2, B2, World.ownsRow_nil _ _ _ _, fun q hq => by cases hq⟩
  case round =>
    obtain ⟨k, A', c', al, mb', Nn, Z', kk, hk, hk10, rfl, rfl, hal, hNn, hst, hft, hbw, hrow⟩ := hrel
    by_cases hgo : k < L.length ∧ k < 10
    · obtain ⟨hlt, hlt10⟩ := hgo
      have RO := roomOk (L.take k)
      rw [List.length_take, Nat.min_eq_left (by omega)] at RO
      have HRO := hid RO
      have HMS := hid (roomMs_snoc (L.take k) L[k])
      have HLS := hid (roomLs_snoc (L.take k) L[k])
      have HTK := hid (show L.take (k + 1) = L.take k ++ [L[k]] from List.take_succ_eq_append_getElem hlt)
      obtain ⟨bb, off, rfl, hbb, hc⟩ := HL.out (by omega)
      obtain ⟨e0, e1⟩ := hc k hlt
      have ec := (hbw.out.cell (p := ⟨bb, off + k, none⟩) hbb).trans e0
      have HWB := hid (e1.below hbw.out)
      clear hc e0 e1 RO
      generalize hmm : roomMs (L.take k) = m at *
      generalize hll : roomLs (L.take k) = lg at *
      generalize L[k] = b at *
      obtain ⟨bA, bc, bl⟩ := b
      simp only [] at *
      have CU := hid (ref14_Cut wr bA bc bl HWB.out)
      have hcl5 := cutB_len bl
      clear hmm hll
      have hall : al.length ≤ 50 := by
        rw [hal.out, List.length_map]
        have := HRO.out.len
        omega
      cases hmay : mayB (cutB bl) with
      | false =>
        have HNM := hid (show roomM m bl = m by unfold roomM; rw [hmay]; rfl)
        have HNL := hid (show roomL lg bl = lg by unfold roomL; rw [hmay]; rfl)
        go_wp2_with fail
        refine CU.out.mono ?_
        rintro e w3 ⟨A3, c3, rfl, hr3, hb3⟩
        have MY := ref14_May w3 A3 c3 (cutB bl) (ws_row hr3) (by omega)
        rw [hmay] at MY
        have MYH := hid MY
        have HR3 := hid hr3
        have HB3 := hid hb3
        clear MY hr3 hb3 CU
        go_wp2_with fail
        refine MYH.out.mono ?_
        rintro e w4 ⟨rfl, hb4⟩
        have HB4 := hid (bt HB3.out hb4)
        have AR := hid (st_Apply_arg (hst.out.keep (Turn.of_below HB4.out (fun _ => False)) fun _ _ hh => hh) rfl A3 c3 (cutB bl) ((ws_row HR3.out).below hb4) (by omega) hmay)
        clear hb4 MYH hmay
        go_wp2_with fail
        refine AR.out.mono ?_
        rintro e w5 ⟨rfl, mb5, Z5, hs5, ht5, hf5⟩
        have S5 := hid hs5
        have F5 := hid (show ∀ q, foot Z5 sb mb5 q → w.heap.size ≤ q from fun q hq => by
          rcases hf5 q hq with hh | hh
          · exact hft.out q hh
          · have := hbw.out.size; have := HB4.out.size; omega)
        have B5 := hid (ht5.below (bt hbw.out HB4.out) hft.out)
        have R5 := hid ((hrow.out.below HB4.out).turn ht5 hf5)
        clear hs5 ht5 hf5 AR
        go_wp2
        go_roundw
        case rel => exact ⟨k + 1, A', c', al, mb5, Nn, Z5, kk, by omega, by omega, by go_num, rfl, by rw [HTK.out, HMS.out, HNM.out]; exact hal, hid (by have := hNn.out; omega), by rw [HTK.out, HMS.out, HLS.out, HNM.out, HNL.out]; exact S5, F5, B5, R5⟩
        case measure => simp [intOf]; omega
      | true =>
        have HNM := hid (show roomM m bl = doB m (cutB bl) by unfold roomM; rw [hmay]; rfl)
        have HNL := hid (show roomL lg bl = lg ++ frameB (cutB bl) by unfold roomL; rw [hmay]; rfl)
        have hfb := small_bytes14 (l := cutB bl) (n := 5) (fun x hx => cutB_mem hx) hcl5
        have HDO := hid (show doR al (cutB bl) = (doB m (cutB bl)).map wOf by rw [hal.out]; exact (doR_do (cutB bl) m HRO.out.ris).1)
        obtain ⟨p1, p2, k1, p3⟩ := fsA_apply (q := 1000000) (k := kk) (b := none) (l := lg) (x := frameB (cutB bl)) (by have := HRO.out.log; simp [lenO]; omega)
        have HP := hid (And.intro p1 (And.intro p2 p3))
        clear p1 p2 p3
        go_wp2_with fail
        refine CU.out.mono ?_
        rintro e w3 ⟨A3, c3, rfl, hr3, hb3⟩
        have MY := ref14_May w3 A3 c3 (cutB bl) (ws_row hr3) (by omega)
        rw [hmay] at MY
        have MYH := hid MY
        obtain ⟨X1, hX1, hW1⟩ := ws_row_blk hr3
        have HX1 := hid hX1
        have HW1 := hid hW1
        have HB3 := hid hb3
        clear MY hr3 hb3 CU hX1 hW1
        go_wp2_with fail
        refine MYH.out.mono ?_
        rintro e w4 ⟨rfl, hb4⟩
        have HB4 := hid (bt HB3.out hb4)
        have HX4 := hid (fun x hx => (HX1.out x hx).2.below hb4 (HX1.out x hx).2.lt)
        have AS := st_Apply_ok (X1 := X1) (hst.out.keep (Turn.of_below HB4.out (fun _ => False)) fun _ _ hh => hh) (fun x hx => ⟨fun hf => by have := hst.out.lt hf; have := (HX1.out x hx).1; omega, HX4.out x hx⟩) rfl A3 c3 (cutB bl) HW1.out (by omega) hmay (by omega) (by have := HRO.out.len; omega) (by have := hNn.out; omega) (by decide) HP.out.1 HP.out.2.1
        rw [HP.out.2.2] at AS
        have ASH := hid AS
        clear AS hb4 MYH hmay hfb
        go_wp2_with fail
        refine ASH.out.mono ?_
        rintro e w5 ⟨rfl, mb5, Z5, hs5, ht5, hf5⟩
        have S5 := hid hs5
        have F5 := hid (show ∀ q, foot Z5 sb mb5 q → w.heap.size ≤ q from fun q hq => by
          rcases hf5 q hq with hh | hh
          · exact hft.out q hh
          · have := hbw.out.size; have := HB4.out.size; omega)
        have B5 := hid (ht5.below (bt hbw.out HB4.out) hft.out)
        have R5 := hid ((hrow.out.below HB4.out).turn ht5 hf5)
        have W5 := hid (HW1.out w5 fun x hx => ht5.blk (HX4.out x hx) fun hf => by have := hst.out.lt hf; have := (HX1.out x hx).1; omega)
        have DO := hid (ref14_DoQ w5 w.heap.size A' A3 c' c3 al (cutB bl) R5.out.1 B5.out.size W5.out (by omega))
        clear hs5 ht5 hf5 ASH
        go_wp2_with fail
        refine DO.out.mono ?_
        rintro e w6 ⟨A6, c6, rfl, hr6, hq6, hb6⟩
        have R6 := hid (show AllRow w w6 A6 c6 (doR al (cutB bl)) (foot Z5 sb mb5) from ⟨hr6, fun q hq hf => by
          rcases hq6 q hq with hh | hh
          · exact R5.out.2 q hh hf
          · have := S5.out.lt hf; omega⟩)
        have S6 := hid (S5.out.keep (Turn.of_below hb6 (fun _ => False)) fun _ _ hh => hh)
        have B6 := hid (bt B5.out hb6)
        clear hr6 hq6 hb6 DO
        go_wp2
        go_roundw
        case rel => exact ⟨k + 1, A6, c6, doR al (cutB bl), mb5, Nn + 1, Z5, k1, by omega, by omega, by go_num, rfl, by rw [HTK.out, HMS.out, HNM.out]; exact HDO, hid (by have := hNn.out; omega), by rw [HTK.out, HMS.out, HLS.out, HNM.out, HNL.out]; exact S6, F5, B6, R6⟩
        case measure => simp [intOf]; omega
    · have RO := roomOk (L.take k)
      rw [List.length_take, Nat.min_eq_left (by omega)] at RO
      have HRO := hid RO
      clear RO
      generalize roomMs (L.take k) = m at *
      generalize roomLs (L.take k) = lg at *
      have HBD := hid (show m.length ≤ 50 ∧ lg.length ≤ 15890 by have h1 := HRO.out.len; have h2 := HRO.out.log; omega)
      have hex : L.length ≤ k ∨ (k < L.length ∧ k = 10) := by omega
      clear hgo
      rcases hex with hex | ⟨hlt, rfl⟩
      all_goals
        have hbl : (bodyB (m.map wOf)).length ≤ 50 * 317 := by
          have := bodyB_le (b := m.map wOf) (k := 210) (v := 100) (fun x hx => by
            obtain ⟨p, hp, rfl⟩ := List.mem_map.1 hx
            have := HRO.out.key p hp
            exact ⟨by show p.1.length ≤ 210; omega, this.2.2⟩)
          rw [List.length_map] at this
          exact Nat.le_trans this (Nat.mul_le_mul_right _ HBD.out.1)
        have hfl := frameB_len (m.map wOf)
        have HFB := hid (And.intro hbl hfl)
        obtain ⟨ok1, k3, e3⟩ := fsA_base (q := 1000000) (k := kk) (b := none) (l := lg) (x := frameB (m.map wOf)) (by have := HBD.out.2; simp [lenO]; omega)
        obtain ⟨ok2, k4, e4⟩ := fsA_logR (q := 1000000) (k := k3) (b := frameB (m.map wOf)) (l := lg) (by have := HBD.out.2; omega)
        have CS := st_Compact hst.out rfl (by have := hNn.out; omega) (by decide) HRO.out.ris (by have := HBD.out.1; omega) (fun p hp => by have := (HRO.out.key p hp).2.1; omega) (by omega) ok1 (by rw [e3]; exact ok2)
        rw [e3, e4] at CS
        have CSH := hid CS
        clear CS ok1 ok2 e3 e4 hbl hfl
        go_wp2_with fail
        refine CSH.out.mono ?_
        rintro e w3 ⟨rfl, mb3, Z3, hs3, ht3, hf3⟩
        have S3 := hid hs3
        have F3 := hid (show ∀ q, foot Z3 sb mb3 q → w.heap.size ≤ q from fun q hq => by
          rcases hf3 q hq with hh | hh
          · exact hft.out q hh
          · have := hbw.out.size; omega)
        have B3 := hid (ht3.below hbw.out hft.out)
        have R3 := hid (hrow.out.turn ht3 hf3)
        have N2 := hid (FW.new (Fr.all w3) 1000000 rfl w3 (Fr.kept_self _))
        clear hs3 ht3 hf3 CSH
        go_wp2_with fail
        refine N2.out.mono ?_
        rintro e w4 ⟨gt, rfl, hgt, hb4, hF⟩
        obtain ⟨Zt0, j1, j2, j3, j4, -⟩ := hF
        have J1 := hid (fun k hk => Fr.all_free (j4 k hk))
        have OT := hid (st_Open_new (name := aN) j1 j2 (by omega) (by decide) (by decide) (by decide) rfl rfl rfl rfl)
        have HB4 := hid hb4
        clear j1 j2 j3 j4 hgt hb4 N2
        go_wp2_with fail
        refine OT.out.mono ?_
        rintro e w5 ⟨sbt, mbt, Zt, rfl, hsbt, hs5, ht5, hf5⟩
        have R4 := R3.out.below HB4.out
        have hzr : ∀ q, (Value.slice A' al.length c').ownBlock = some q → ¬ Zt0 q := fun q hq hz => by have := R3.out.lt hq; have := J1.out q hz; omega
        have hrow5 : w5.ownsRow w.heap.size 31 3 (.slice A' al.length c') al.length (al.flatMap wCells) := row_keep R4.1 fun q hq => ht5.block q (R4.lt hq) (hzr q hq)
        obtain ⟨X7, hX7, hW7⟩ := ws_row_own hrow5
        have TW : Two w w5 g (U (fsA (some (frameB (m.map wOf))) []) 1000000 k4) (Nn + 2) sb mb3 m Z3 gt (U (fsA none []) 1000000 (wrap1 0)) 0 sbt mbt [] Zt X7 := by
          have z4 := HB4.out.size
          have zw := B3.out.size
          have dd : ∀ q, foot Z3 sb mb3 q → ¬ Zt0 q := fun q hq hz => by have := S3.out.lt hq; have := J1.out q hz; omega
          have fs : ∀ q, foot Zt sbt mbt q → w3.heap.size ≤ q := fun q hq => by
            rcases hf5 q hq with hh | hh
            · exact J1.out q hh
            · omega
          refine ⟨(S3.out.keep (Turn.of_below HB4.out (fun _ => False)) fun _ _ hh => hh).keep ht5 dd, hs5, fun q hq hq2 => ?_, F3.out, fun q hq => Nat.le_trans zw (fs q hq), ht5.below (bt B3.out HB4.out) (fun q hq => by have := J1.out q hq; omega), fun x hx => ?_⟩
          · have := S3.out.lt hq
            have := fs q hq2
            omega
          · obtain ⟨q1, q2⟩ := hX7 x hx
            exact ⟨q2, R3.out.2 _ q1, fun hf => by have := fs _ hf; have := R3.out.lt q1; omega⟩
        have T5 := hid TW
        have HW7 := hid hW7
        clear TW hs5 ht5 hf5 OT R4 hzr hrow5 hX7 hW7 R3 S3 F3 B3 J1 HB4 hst hft hbw hrow hsbt
        have HD := hid (show doB [] al = m by rw [hal.out]; exact doB_wOf HRO.out.ris)
        have hall : al.length ≤ 50 := by rw [hal.out, List.length_map]; exact HBD.out.1
        have hmayA : mayB al = true := by rw [hal.out]; exact may_wOf HRO.out.key
        have hab : (bodyB al).length ≤ 50 * 317 := by rw [hal.out]; exact HFB.out.1
        have haf := frameB_len al
        obtain ⟨p1, p2, k5, p3⟩ := fsA_apply (q := 1000000) (k := wrap1 0) (b := none) (l := []) (x := frameB al) (by simp [lenO]; omega)
        have AT := st_Apply_ok (X1 := X7) T5.out.t (fun x hx => ⟨(T5.out.xs x hx).2.2, (T5.out.xs x hx).1⟩) rfl A' c' al HW7.out (by omega) hmayA (by omega) (by simp) (by omega) (by decide) p1 p2
        rw [p3, HD.out] at AT
        have ATH := hid AT
        have HAF := hid (And.intro hab haf)
        clear AT p1 p2 p3 hab haf hmayA
        go_wp2_with fail
        refine ATH.out.mono ?_
        rintro e w6 ⟨rfl, mbt6, Zt6, hs6, ht6, hf6⟩
        have T6 := hid (T5.out.afterT hs6 ht6 hf6)
        clear hs6 ht6 hf6 ATH T5
        obtain ⟨ok1, k6, e3⟩ := fsA_base (q := 1000000) (k := k5) (b := none) (l := [] ++ frameB al) (x := frameB (m.map wOf)) (by have h1 := HAF.out; have h2 := HFB.out; simp [lenO]; omega)
        obtain ⟨ok2, k7, e4⟩ := fsA_logR (q := 1000000) (k := k6) (b := frameB (m.map wOf)) (l := [] ++ frameB al) (by have h1 := HAF.out; have h2 := HFB.out; simp; omega)
        have CT := st_Compact T6.out.t rfl (by omega) (by decide) HRO.out.ris (by have := HBD.out.1; omega) (fun p hp => by have := (HRO.out.key p hp).2.1; omega) (by have := HFB.out.1; omega) ok1 (by rw [e3]; exact ok2)
        rw [e3, e4] at CT
        have CTH := hid CT
        clear CT ok1 ok2 e3 e4
        go_wp2_with fail
        refine CTH.out.mono ?_
        rintro e w7 ⟨rfl, mbt7, Zt7, hs7, ht7, hf7⟩
        have T7 := hid (T6.out.afterT hs7 ht7 hf7)
        have HWA := hid (HW7.out w7 fun x hx => (T7.out.xs x hx).1)
        have HML := hid (show m.length ≤ 100000 by have := HBD.out.1; omega)
        have HKL := hid (show ∀ p ∈ m, p.1.length ≤ 1000000 from fun p hp => by have := (HRO.out.key p hp).2.1; omega)
        clear hs7 ht7 hf7 CTH T6
        have K1 := hid (st_like T7.out.s HRO.out.ris HML.out HKL.out al hal.out A' c' HWA.out)
        go_wp2_with fail
        refine K1.out.mono ?_
        rintro e w8 ⟨rfl, hb8⟩
        have T8 := hid (T7.out.below hb8)
        have K2 := hid (st_like T8.out.t HRO.out.ris HML.out HKL.out al hal.out A' c' (HWA.out.below hb8))
        clear hb8 K1 T7
        go_wp2_with fail
        refine K2.out.mono ?_
        rintro e w9 ⟨rfl, hb9⟩
        have T9 := hid (T8.out.below hb9)
        have U1 := drive_Used T9.out.s.dr
        have U2 := drive_Used T9.out.t.dr
        rw [U_used, fsA_used] at U1 U2
        have U1H := hid U1
        have U2H := hid U2
        clear hb9 K2 T8 U1 U2
        go_wp2_with fail
        refine U1H.out.mono ?_
        rintro e wa ⟨rfl, hwa⟩
        have hwa' := hwa.symm
        subst hwa'
        go_wp2_with fail
        refine U2H.out.mono ?_
        rintro e wb ⟨rfl, hwb⟩
        have hwb' := hwb.symm
        subst hwb'
        go_wp2_with fail
        refine (LV.out _).mono ?_
        rintro e wc ⟨rfl, hbc⟩
        go_wp2
        go_ret
        exact ⟨rfl, bt T9.out.bel hbc⟩
theorem row_KvRoom (A : Option Addr) (n c : Nat) (L : List VB) (w : World) (h : n = L.length ∧ L.length ≤ c ∧ (c : Int) ≤ 9223372036854775807 ∧ BatchesAt w A L) :
    Calls Tryz.prog 5 #[.slice A n c] w fun e w' => e = .returned (.bool true) ∧ Below w.heap.size w w' := by
  obtain ⟨rfl, h1, h2, h3⟩ := h
  exact law_KvRoom A c L w h3 (by omega)
end Go.Proofs.YtbjimikppdfmgaaGreatDoor
