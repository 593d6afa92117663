/- Walk of pantilelaw14.KvSplit. -/
import Derived.Test.YtbjimikppdfmgaaGreatDoorKvSp
set_option linter.unusedVariables false
set_option linter.unusedSimpArgs false
set_option maxHeartbeats 12800000
set_option maxRecDepth 100000
namespace Go.Proofs.YtbjimikppdfmgaaGreatDoor
open Go.RowKit

theorem cut_small {b : List Wr} {l : List Wr} (h : ∀ x ∈ l, x ∈ cutB b) (hm : mayB (cutB b) = true) : ∀ x ∈ l, 1 ≤ x.key.length ∧ x.key.length ≤ 210 ∧ x.val.length ≤ 100 := fun x hx => by
  obtain ⟨h1, h2⟩ := may_keys hm x (h x hx)
  exact ⟨h1, by omega, (cutB_mem (h x hx)).2⟩
theorem small_bytes {l : List Wr} {n : Nat} (h : ∀ x ∈ l, x.key.length ≤ 210 ∧ x.val.length ≤ 100) (hl : l.length ≤ n) : (bodyB l).length ≤ n * 317 ∧ (frameB l).length ≤ n * 317 + 4 := by
  have h1 := bodyB_le (b := l) (k := 210) (v := 100) h
  have h2 : l.length * (7 + 210 + 100) ≤ n * 317 := Nat.mul_le_mul_right _ hl
  have h3 := frameB_len l
  omega
theorem loads_base {q k : Int} {m : KM} {n : Nat} {l : List UInt8} (h : Small m n) (hn : n ≤ 100000) : Loads (U (fsA (some (frameB (m.map wOf))) l) q k) (fileN aN baseN) [m.map wOf] := by
  have hg : kget (fsA (some (frameB (m.map wOf))) l) (fileN aN baseN) = some ⟨frameB (m.map wOf), []⟩ := rfl
  obtain ⟨h1, h2⟩ := U_readE (q := q) (k := k) hg
  refine ⟨.inr ⟨h1, ?_⟩, fun x hx => ?_, ?_⟩
  · rw [h2]
    simp [framesB, File.all]
  · simp only [List.flatten_cons, List.flatten_nil, List.append_nil, List.mem_map] at hx
    obtain ⟨p, hp, rfl⟩ := hx
    have := h.2 p hp
    exact ⟨this.1, by show p.1.length < 65536; omega⟩
  · have := h.body
    simp [framesB]
    have := frameB_len (m.map wOf)
    omega
theorem loads_log {q k : Int} {b : Option (List UInt8)} {bs : List (List Wr)} (hk : ∀ x ∈ bs.flatten, 1 ≤ x.key.length ∧ x.key.length ≤ 210) (hl : (framesB bs).length ≤ 100000000) : Loads (U (fsA b (framesB bs)) q k) (fileN aN logN) bs := by
  obtain ⟨h1, h2⟩ := U_readE (q := q) (k := k) (fsA_log b (framesB bs))
  refine ⟨.inr ⟨h1, ?_⟩, fun x hx => ⟨(hk x hx).1, by have := (hk x hx).2; omega⟩, hl⟩
  rw [h2]
  simp [File.all]
theorem fsA_again {q k : Int} (b : Option (List UInt8)) (l : List UInt8) : (U (fsA b l) q k).create (fileN aN logN) = (U (fsA b l) q k, 11) ∧ ((U (fsA b l) q k).sync (fileN aN logN)).2 = 0 ∧ ∃ k', ((U (fsA b l) q k).sync (fileN aN logN)).1 = U (fsA b l) q k' := by
  refine ⟨U_create_ex (by decide) (fsA_log b l), ?_, ?_⟩
  · rw [U_sync (fsA_log b l)]
  · rw [U_sync (fsA_log b l)]
    refine ⟨wrap1 k, ?_⟩
    rw [show File.all ⟨l, []⟩ = l by simp [File.all]]
    cases b <;> rfl
theorem law_KvSplit_no (A : Option Addr) (c : Nat) (b : List Wr) (a : Int) (w : World) (hws : WsAt w A b) (hmay : mayB (cutB b) = false) :
    Calls Tryz.prog 4 #[.slice A b.length c, .int .i64 a] w fun e w' => e = .returned (.bool true) ∧ Below w.heap.size w w' := by
  have CU := hid (ref14_Cut w A c b hws)
  have LV := hid (fun W => law14_lives W)
  go_enter Tryz.func4, Tryz.ntmps4
  go_wp2_with fail
  refine CU.out.mono ?_
  rintro e w1 ⟨A1, c1, rfl, hr1, hb1⟩
  have MY := ref14_May w1 A1 c1 (cutB b) (ws_row hr1) (by have := cutB_len b; omega)
  rw [hmay] at MY
  have MYH := hid MY
  have HB1 := hid hb1
  clear MY hr1 hb1
  go_wp2_with fail
  refine MYH.out.mono ?_
  rintro e w2 ⟨rfl, hb2⟩
  have HB2 := hid (bt HB1.out hb2)
  clear hb2
  go_wp2_with fail
  refine (LV.out _).mono ?_
  rintro e w3 ⟨rfl, hb3⟩
  go_wp2
  go_ret
  exact ⟨rfl, bt HB2.out hb3⟩
theorem law_KvSplit_yes (A : Option Addr) (c : Nat) (b : List Wr) (a : Int) (w : World) (hws : WsAt w A b) (ha : In64 a) (hmay : mayB (cutB b) = true) :
    Calls Tryz.prog 4 #[.slice A b.length c, .int .i64 a] w fun e w' => e = .returned (.bool true) ∧ Below w.heap.size w w' := by
  have CU := hid (ref14_Cut w A c b hws)
  have LV := hid (fun W => law14_lives W)
  have HMAY := hid hmay
  have hbl := cutB_len b
  obtain ⟨hal, hau⟩ := ha
  clear hws hmay
  have hsg : (∃ n : Nat, a = -(n : Int) - 1) ∨ ∃ n : Nat, a = n := by
    by_cases hneg : a < 0
    · exact .inl ⟨(-(a + 1)).toNat, by omega⟩
    · exact .inr ⟨a.toNat, by omega⟩
  rcases hsg with ⟨n, rfl⟩ | ⟨n, rfl⟩
  all_goals
    go_enter Tryz.func4, Tryz.ntmps4
    go_wp2_with fail
    refine CU.out.mono ?_
    rintro e w1 ⟨A1, c1, rfl, hr1, hb1⟩
    have MY := ref14_May w1 A1 c1 (cutB b) (ws_row hr1) (by omega)
    rw [HMAY.out] at MY
    have MYH := hid MY
    have HB1 := hid hb1
    have HR1 := hid hr1
    have HSM := hid (fun (l : List Wr) (hl : ∀ x ∈ l, x ∈ cutB b) => cut_small hl HMAY.out)
    clear MY hr1 hb1
    go_wp2_with fail
    refine MYH.out.mono ?_
    rintro e w2 ⟨rfl, hb2⟩
    generalize cutB b = cb at *
    have q0 : (0 : Int) < (cb.length : Int) + 1 := by omega
    obtain ⟨hcc, hcM, hA1⟩ := row_addr HR1.out
    obtain ⟨X1, hX1, hW1⟩ := ws_row_blk HR1.out
    have HX1 := hid (fun x hx => And.intro ((hX1 x hx).2.below hb2 (hX1 x hx).2.lt) (Nat.lt_of_lt_of_le (hX1 x hx).2.lt hb2.size))
    have HW1 := hid hW1
    have HA1 := hid hA1
    have HB2 := hid (bt HB1.out hb2)
    have HWS := hid ((ws_row HR1.out).below hb2)
    have hkl : n % (cb.length + 1) ≤ cb.length := by have := Nat.mod_lt n (show 0 < cb.length + 1 by omega); omega
    have hk : (n : Int) % ((cb.length : Int) + 1) = ((n % (cb.length + 1) : Nat) : Int) := by simp
    have HHK := hid hk
    have N1 := hid (FW.new (Fr.all w2) 100000 rfl w2 (Fr.kept_self _))
    clear hb2 HR1 hX1 hW1 hA1 MYH CU HB1 hk
    go_wp2_with fail
    rw [HHK.out]
    clear HHK q0
    generalize n % (cb.length + 1) = k at *
    refine N1.out.mono ?_
    rintro e w3 ⟨gt, rfl, hgt, hb3, hF⟩
    obtain ⟨Zt0, i1, i2, i3, i4, -⟩ := hF
    have I1 := hid (And.intro i1 (And.intro i2 (fun k hk => Fr.all_free (i4 k hk))))
    have N2 := hid (FW.new (Fr.all w3) 100000 rfl w3 (Fr.kept_self _))
    have HB3 := hid hb3
    clear i1 i2 i3 i4 hgt hb3 N1
    go_wp2_with fail
    refine N2.out.mono ?_
    rintro e w4 ⟨gs, rfl, hgs, hb4, hF⟩
    obtain ⟨Zs0, j1, j2, j3, j4, -⟩ := hF
    have J1 := hid (And.intro j1 (And.intro j2 (fun k hk => Fr.all_free (j4 k hk))))
    have OS := hid (st_Open_new (name := aN) j1 j2 (by omega) (by decide) (by decide) (by decide) rfl rfl rfl rfl)
    have HB4 := hid hb4
    clear j1 j2 j3 j4 hgs hb4 N2
    go_wp2_with fail
    refine OS.out.mono ?_
    rintro e w5 ⟨sbs, mbs, Zs, rfl, hsbs, hs5, ht5, hf5⟩
    have HTd : IsDrive w5 gt (Dr.new 100000) Zt0 := (I1.out.1.below HB4.out).keep ht5.size fun k hk => ht5.block k (by have := I1.out.1.lt k hk; have := HB4.out.size; omega) (fun hz => by have := J1.out.2.2 k hz; have := I1.out.1.lt k hk; omega)
    have OT := hid (st_Open_new (name := aN) HTd I1.out.2.1 (by omega) (by decide) (by decide) (by decide) rfl rfl rfl rfl)
    have HZ3 := I1.out.1.lt
    have S5 := hid (And.intro hs5 (And.intro ht5 hf5))
    clear OS hs5 ht5 hf5 HTd
    go_wp2_with fail
    refine OT.out.mono ?_
    rintro e w6 ⟨sbt, mbt, Zt, rfl, hsbt, hs6, ht6, hf6⟩
    have TW : Two w w6 gs (U (fsA none []) 100000 (wrap1 0)) 0 sbs mbs [] Zs gt (U (fsA none []) 100000 (wrap1 0)) 0 sbt mbt [] Zt X1 := by
      obtain ⟨s1, s2, s3⟩ := S5.out
      have z3 := HB3.out.size
      have z4 := HB4.out.size
      have z5 := s2.size
      have zw := HB2.out.size
      have dd : ∀ k, foot Zs sbs mbs k → ¬ Zt0 k := fun k hk hz => by
        have h3 := HZ3 k hz
        rcases s3 k hk with hh | hh
        · have := J1.out.2.2 k hh; omega
        · omega
      have ss := s1.keep ht6 dd
      refine ⟨ss, hs6, fun k hk hk2 => ?_, fun k hk => ?_, fun k hk => ?_, ?_, fun x hx => ?_⟩
      · rcases hf6 k hk2 with hh | hh
        · exact dd k hk hh
        · have := s1.lt hk; omega
      · rcases s3 k hk with hh | hh
        · have := J1.out.2.2 k hh; omega
        · omega
      · rcases hf6 k hk with hh | hh
        · have := I1.out.2.2 k hh; omega
        · omega
      · refine ht6.below (s2.below (bt HB2.out (bt HB3.out HB4.out)) (fun k hk => by have := J1.out.2.2 k hk; omega)) (fun k hk => by have := I1.out.2.2 k hk; omega)
      · obtain ⟨q1, q2⟩ := HX1.out x hx
        refine ⟨ht6.blk (s2.blk ((q1.below HB3.out q2).below HB4.out (by omega)) (fun hz => by have := J1.out.2.2 _ hz; omega)) (fun hz => by have := I1.out.2.2 _ hz; omega), fun hk => ?_, fun hk => ?_⟩
        · rcases s3 _ hk with hh | hh
          · have := J1.out.2.2 _ hh; omega
          · omega
        · rcases hf6 _ hk with hh | hh
          · have := I1.out.2.2 _ hh; omega
          · omega
    have TW6 := hid TW
    clear TW hs6 ht6 hf6 OT S5 HZ3 I1 J1 HX1 HB4 HB3 HB2 hsbt hsbs HWS
    have DO := ref14_DoR w6 w6.heap.size none A1 0 c1 [] cb (World.ownsRow_nil _ _ _ _) (Nat.le_refl _) (HW1.out w6 fun x hx => (TW6.out.xs x hx).1) (by simp; omega)
    have hdo := (doR_do cb [] List.Pairwise.nil).1
    rw [List.map_nil] at hdo
    rw [hdo] at DO
    obtain ⟨al, hal0⟩ : ∃ al : List Wr, al = (doB [] cb).map wOf := ⟨_, rfl⟩
    rw [← hal0] at DO
    have HAL := hid hal0
    have DOH := hid DO
    clear DO hdo hal0
    go_wp2_with fail
    refine DOH.out.mono ?_
    rintro e w7 ⟨A7, c7, rfl, hr7, hb7⟩
    obtain ⟨X7, hX7, hW7⟩ := ws_row_blk hr7
    have T7 := hid (TW6.out.addX hb7 hX7)
    have HW7 := hid hW7
    have sml := HSM.out cb (fun x hx => hx)
    have hsb := small_bytes (l := cb) (n := 5) (fun x hx => ⟨(sml x hx).2.1, (sml x hx).2.2⟩) hbl
    obtain ⟨p1, p2, k1, p3⟩ := fsA_apply (q := 100000) (k := wrap1 0) (b := none) (l := []) (x := frameB cb) (by simp [lenO]; omega)
    have AS := st_Apply_ok (X1 := X1) T7.out.s (fun x hx => ⟨(T7.out.xs x (List.mem_append_right _ hx)).2.1, (T7.out.xs x (List.mem_append_right _ hx)).1⟩) rfl A1 c1 cb HW1.out (by omega) HMAY.out (by omega) (by simp) (by omega) (by decide) p1 p2
    rw [show fileN aN logN = fileN [97] logN from rfl] at *
    rw [p3] at AS
    have ASH := hid AS
    have HP := hid (And.intro sml hsb)
    clear AS p1 p2 p3 hr7 hb7 hX7 hW7 sml hsb TW6 DOH
    go_wp2_with fail
    refine ASH.out.mono ?_
    rintro e w8 ⟨rfl, mbs8, Zs8, hs8, ht8, hf8⟩
    have T8 := hid (T7.out.afterS hs8 ht8 hf8)
    clear hs8 ht8 hf8 ASH T7
    have SL1 := fun W => ws_head A1 cb.length c1 k (by omega) HA1.out W
    obtain ⟨A2, c2, SL2, hSL2⟩ := ws_tail A1 cb.length c1 k hkl hcc HA1.out
    have HSL2 := hid hSL2
    have hl1 : (cb.take k).length = k := by simp; omega
    have hl2 : (cb.drop k).length = cb.length - k := by simp
    have hmay1 : mayB (cb.take k) = true := List.all_eq_true.2 fun x hx => List.all_eq_true.1 HMAY.out x (List.mem_of_mem_take hx)
    have hmay2 : mayB (cb.drop k) = true := List.all_eq_true.2 fun x hx => List.all_eq_true.1 HMAY.out x (List.mem_of_mem_drop hx)
    have sml1 : ∀ x ∈ cb.take k, 1 ≤ x.key.length ∧ x.key.length ≤ 210 ∧ x.val.length ≤ 100 := fun x hx => HP.out.1 x (List.mem_of_mem_take hx)
    have sml2 : ∀ x ∈ cb.drop k, 1 ≤ x.key.length ∧ x.key.length ≤ 210 ∧ x.val.length ≤ 100 := fun x hx => HP.out.1 x (List.mem_of_mem_drop hx)
    have hsb1 := small_bytes (l := cb.take k) (n := 5) (fun x hx => ⟨(sml1 x hx).2.1, (sml1 x hx).2.2⟩) (by omega)
    have hsb2 := small_bytes (l := cb.drop k) (n := 5) (fun x hx => ⟨(sml2 x hx).2.1, (sml2 x hx).2.2⟩) (by omega)
    have hdoB : doB (doB [] (cb.take k)) (cb.drop k) = doB [] cb := by rw [← doB_app, List.take_append_drop]
    have hWt : ∀ W', WsAt W' A1 cb → WsAt W' A1 (cb.take k) := fun W' h => h.take k
    have hWd : ∀ W', WsAt W' A1 cb → WsAt W' A2 (cb.drop k) := fun W' h => HSL2.out W' cb rfl h
    have HWT := hid (And.intro hWt hWd)
    have HMM := hid (And.intro hmay1 (And.intro hmay2 (And.intro sml1 (And.intro sml2 (And.intro hsb1 (And.intro hsb2 hdoB))))))
    have SL1H := hid SL1
    have SL2H := hid SL2
    have SM1 := hid (Small.doB (n := 0) (cb.take k) small_nil sml1)
    have HL12 := hid (And.intro hl1 hl2)
    clear hSL2 HSL2 hmay1 hmay2 sml1 sml2 hsb1 hsb2 hdoB hWt hWd hl1 hl2 SL1 SL2
    generalize cb.take k = b1 at *
    generalize cb.drop k = b2 at *
    obtain ⟨p1, p2, k2, p3⟩ := fsA_apply (q := 100000) (k := wrap1 0) (b := none) (l := []) (x := frameB b1) (by have := HMM.out.2.2.2.2.1; simp [lenO]; omega)
    have AT := st_Apply_ok (X1 := X1) T8.out.t (fun x hx => ⟨(T8.out.xs x (List.mem_append_right _ hx)).2.2, (T8.out.xs x (List.mem_append_right _ hx)).1⟩) rfl A1 c1 b1 (fun W' hW' => HWT.out.1 W' (HW1.out W' hW')) (by have := HL12.out; omega) HMM.out.1 (by have := HMM.out.2.2.2.2.1; omega) (by simp) (by omega) (by decide) p1 p2
    rw [p3, HL12.out.1] at AT
    have ATH := hid AT
    have SLX := SL1H.out
    clear AT p1 p2 p3
    go_wp2_with fail
    refine ATH.out.mono ?_
    rintro e w9 ⟨rfl, mbt9, Zt9, hs9, ht9, hf9⟩
    have T9 := hid (T8.out.afterT hs9 ht9 hf9)
    clear hs9 ht9 hf9 ATH T8 SLX
    have hk5 : k ≤ 5 := by omega
    have hm1l := SM1.out.1
    have hm1b : (bodyB ((doB [] b1).map wOf)).length ≤ 5 * 317 := Nat.le_trans SM1.out.body (Nat.mul_le_mul_right _ (by have := HL12.out.1; omega))
    have hF1 := frameB_len ((doB [] b1).map wOf)
    obtain ⟨ok1, k3, e3⟩ := fsA_base (q := 100000) (k := k2) (b := none) (l := [] ++ frameB b1) (x := frameB ((doB [] b1).map wOf)) (by have := HMM.out.2.2.2.2.1; simp [lenO]; omega)
    obtain ⟨ok2, k4, e4⟩ := fsA_logR (q := 100000) (k := k3) (b := frameB ((doB [] b1).map wOf)) (l := [] ++ frameB b1) (by have := HMM.out.2.2.2.2.1; simp; omega)
    have CT := st_Compact T9.out.t rfl (by omega) (by decide) (doB_rising b1) (by have := HL12.out.1; omega) (fun p hp => by have := (SM1.out.2 p hp).2.1; omega) (by omega) ok1 (by rw [e3]; exact ok2)
    rw [e3, e4] at CT
    have CTH := hid CT
    clear CT ok1 ok2 e3 e4
    go_wp2_with fail
    refine CTH.out.mono ?_
    rintro e w10 ⟨rfl, mbt10, Zt10, hs10, ht10, hf10⟩
    have T10 := hid (T9.out.afterT hs10 ht10 hf10)
    clear hs10 ht10 hf10 CTH T9
    obtain ⟨p1, p2, k5, p3⟩ := fsA_apply (q := 100000) (k := k4) (b := some (frameB ((doB [] b1).map wOf))) (l := []) (x := frameB b2) (by have := HMM.out.2.2.2.2.2.1; simp [lenO]; omega)
    have AT := st_Apply_ok (X1 := X1) T10.out.t (fun x hx => ⟨(T10.out.xs x (List.mem_append_right _ hx)).2.2, (T10.out.xs x (List.mem_append_right _ hx)).1⟩) rfl A2 c2 b2 (fun W' hW' => HWT.out.2 W' (HW1.out W' hW')) (by have := HL12.out; omega) HMM.out.2.1 (by have := HMM.out.2.2.2.2.2.1; omega) (by have := HL12.out; omega) (by omega) (by decide) p1 p2
    rw [p3, HL12.out.2, HMM.out.2.2.2.2.2.2] at AT
    have ATH := hid AT
    have SLX := SL2H.out
    clear AT p1 p2 p3
    go_wp2_with fail
    refine ATH.out.mono ?_
    rintro e w11 ⟨rfl, mbt11, Zt11, hs11, ht11, hf11⟩
    have T11 := hid (T10.out.afterT hs11 ht11 hf11)
    clear hs11 ht11 hf11 ATH T10 SLX
    have hfr : frameB b2 = framesB [b2] := by simp [framesB]
    obtain ⟨g1, g2, k6, g3⟩ := fsA_again (q := 100000) (k := k5) (some (frameB ((doB [] b1).map wOf))) ([] ++ frameB b2)
    have LB := loads_base (q := 100000) (k := k5) (l := [] ++ frameB b2) SM1.out (by have := HL12.out.1; omega)
    have LL : Loads (U (fsA (some (frameB ((doB [] b1).map wOf))) ([] ++ frameB b2)) 100000 k5) (fileN aN logN) [b2] := by
      rw [List.nil_append, hfr]
      refine loads_log (fun x hx => ?_) ?_
      · simp only [List.flatten_cons, List.flatten_nil, List.append_nil] at hx
        exact ⟨(HMM.out.2.2.2.1 x hx).1, (HMM.out.2.2.2.1 x hx).2.1⟩
      · rw [← hfr]
        have := HMM.out.2.2.2.2.2.1
        omega
    have OU := st_Open_old (name := aN) T11.out.t.dr T11.out.t.ok (by omega) (by decide) (by decide) (by decide) rfl [(doB [] b1).map wOf] [b2] LB LL (by
      have h1 := HL12.out
      simp only [List.flatten_cons, List.flatten_nil, List.append_nil, List.length_map]
      omega) g1 g2
    have e1 : doB (doB [] [(doB [] b1).map wOf].flatten) [b2].flatten = doB [] cb := by
      simp only [List.flatten_cons, List.flatten_nil, List.append_nil]
      rw [doB_wOf (doB_rising b1), HMM.out.2.2.2.2.2.2]
    rw [g3, e1] at OU
    have OUH := hid OU
    clear OU g1 g2 g3 LB LL e1 hfr
    go_wp2_with fail
    refine OUH.out.mono ?_
    rintro e w12 ⟨sbu, mbu, Zu, rfl, hsbu, hu, htu, hfu⟩
    have HSs := hid (T11.out.s.keep htu fun k hk hz => T11.out.dis k hk (.inl hz))
    have HSt := hid (T11.out.t.other hu htu T11.out.t.nsb T11.out.t.nmb hfu)
    have HSu := hid hu
    have HBW := hid (htu.below T11.out.bel fun k hk => T11.out.lt k (.inl hk))
    have HWA := hid (HW7.out w12 fun x hx => htu.blk (T11.out.xs x (List.mem_append_left _ hx)).1 fun hz => (T11.out.xs x (List.mem_append_left _ hx)).2.2 (.inl hz))
    have HRI := hid (doB_rising cb)
    have SMM := Small.doB (n := 0) cb small_nil HP.out.1
    have HML := hid (show (doB [] cb).length ≤ 100000 by have := SMM.1; omega)
    have HKL := hid (show ∀ p ∈ doB [] cb, p.1.length ≤ 1000000 from fun p hp => by have := (SMM.2 p hp).2.1; omega)
    clear hu htu hfu SMM T11 OUH HMM SM1 HW7 HP
    have K1 := hid (st_like HSs.out HRI.out HML.out HKL.out al HAL.out A7 c7 HWA.out)
    go_wp2_with fail
    refine K1.out.mono ?_
    rintro e w13 ⟨rfl, hb13⟩
    have K2 := hid (st_like (HSt.out.keep (Turn.of_below hb13 (fun _ => False)) fun _ _ hh => hh) HRI.out HML.out HKL.out al HAL.out A7 c7 (HWA.out.below hb13))
    have HB13 := hid hb13
    clear hb13 K1
    go_wp2_with fail
    refine K2.out.mono ?_
    rintro e w14 ⟨rfl, hb14⟩
    have HB14 := hid (bt HB13.out hb14)
    have K3 := hid (st_like (HSu.out.keep (Turn.of_below HB14.out (fun _ => False)) fun _ _ hh => hh) HRI.out HML.out HKL.out al HAL.out A7 c7 (HWA.out.below HB14.out))
    clear hb14 K2
    go_wp2_with fail
    refine K3.out.mono ?_
    rintro e w15 ⟨rfl, hb15⟩
    have HB15 := hid (bt HBW.out (bt HB14.out hb15))
    clear hb15 K3
    go_wp2_with fail
    refine (LV.out _).mono ?_
    rintro e w16 ⟨rfl, hb16⟩
    go_wp2
    go_ret
    exact ⟨rfl, bt HB15.out hb16⟩
theorem row_KvSplit (A : Option Addr) (n c : Nat) (b : List Wr) (a : Int) (w : World) (h : n = b.length ∧ b.length ≤ c ∧ (c : Int) ≤ 9223372036854775807 ∧ WsAt w A b) (ha : (Lit.int .i64 a).wf = true) :
    Calls Tryz.prog 4 #[.slice A n c, .int .i64 a] w fun e w' => e = .returned (.bool true) ∧ Below w.heap.size w w' := by
  obtain ⟨rfl, h1, h2, h3⟩ := h
  cases hm : mayB (cutB b) with
  | false => exact law_KvSplit_no A c b a w h3 hm
  | true =>
    have hi : In64 a := wf64 ha
    exact law_KvSplit_yes A c b a w h3 hi hm
end Go.Proofs.YtbjimikppdfmgaaGreatDoor
