/- Walks of pantileref07.Same, of the laws TextQueries and TextMakes. -/
import Derived.Test.YtecekflooihkoaaDoorQW5
import Derived.Test.YtecekflooihkoaaDoorQMakes
set_option linter.unusedVariables false
set_option linter.unusedSimpArgs false
set_option maxHeartbeats 6400000
set_option maxRecDepth 100000
namespace Go.Proofs.YtecekflooihkoaaDoor
open Go.RowKit

theorem ref_SameP (ps : List SPair) (hn : ps.length ≤ 1000000) (A B : Option Addr) (c c' : Nat) (w : World) (hA : PairsAt w A ps) (hB : PairsAt w B ps) :
    Calls Tryd.prog 13 #[.slice A ps.length c, .slice B ps.length c'] w fun e w' => e = .returned (.bool true) ∧ Below w.heap.size w w' := by
  have HA := hid hA
  have HB := hid hB
  clear hA hB
  go_enter Tryd.func13, Tryd.ntmps13
  go_wp2
  go_loopw [5] (fun i wr => ∃ k : Nat, k ≤ ps.length ∧ i = .int .i64 k ∧ Hid (Below w.heap.size w wr)) (fun i _ => ps.length - (intOf i).toNat)
  case atStart => exact ⟨0, Nat.zero_le _, rfl, hid (Below.refl _ _)⟩
  case round =>
    obtain ⟨k, hk, rfl, hb⟩ := hrel
    by_cases h : k < ps.length
    · obtain ⟨b, off, rfl, hbl, hc⟩ := HA.out (by omega)
      obtain ⟨b2, off2, rfl, hbl2, hc2⟩ := HB.out (by omega)
      have c1 := (hb.out.cell (p := ⟨b, off + k * 2, none⟩) hbl).trans (hc k h).1
      have c2 := (hb.out.cell (p := ⟨b, off + k * 2 + 1, none⟩) hbl).trans (hc k h).2
      have d1 := (hb.out.cell (p := ⟨b2, off2 + k * 2, none⟩) hbl2).trans (hc2 k h).1
      have d2 := (hb.out.cell (p := ⟨b2, off2 + k * 2 + 1, none⟩) hbl2).trans (hc2 k h).2
      clear hc hc2
      generalize ps[k] = x at *
      go_wp2
      go_quiet (fail)
      go_wp2
      go_roundw
      case rel => exact ⟨k + 1, by omega, by go_num, by first | exact hid (below_drewN hb.out _) | exact hid hb.out⟩
      case measure => simp [intOf]; omega
    · have hk' : k = ps.length := by omega
      subst hk'
      go_wp2
      go_ret
      exact ⟨rfl, hb.out⟩

theorem get_facts (nm : List UInt8) (ps : List SPair) : (getV nm ps = [] ∧ getB nm ps = false ∧ ∀ j, (h : j < ps.length) → (ps[j].1 == nm) = false) ∨ (getB nm ps = true ∧ ∀ j, (h : j < ps.length) → (∀ i, (h' : i < j) → (ps[i].1 == nm) = false) → (ps[j].1 == nm) = true → getV nm ps = ps[j].2) := by
  rcases findN_spec (fun x => x.1 == nm) ps 0 with ⟨h1, h2⟩ | ⟨i, hi, h1, h2, h3, h4⟩
  · refine .inl ⟨by simp [getV, h2], by simp [getB, h2], fun j hj => ?_⟩
    have := List.find?_eq_none.1 h2 ps[j] (List.getElem_mem hj)
    simpa using this
  · refine .inr ⟨by simp [getB, h2], fun j hj hlow hq => ?_⟩
    have e : i = j := by
      rcases Nat.lt_trichotomy i j with h | h | h
      · rw [hlow i h] at h3; simp at h3
      · exact h
      · have := h4 j hj h; rw [this] at hq; simp at hq
    subst e
    simp [getV, h2]
theorem get_there (nm : List UInt8) (ps : List SPair) (h : getB nm ps = true) : ∃ j, ∃ h : j < ps.length, (ps[j].1 == nm) = true := by
  rcases findN_spec (fun x => x.1 == nm) ps 0 with ⟨h1, h2⟩ | ⟨i, hi, h1, h2, h3, h4⟩
  · simp [getB, h2] at h
  · exact ⟨i, hi, h3⟩
theorem law_TextQueries (l nm : List UInt8) (w : World) (hm : HasMax w) :
    Calls Tryd.prog 3 #[.string (S l), .string (S nm)] w fun e w' => e = .returned (.bool true) ∧ Below w.heap.size w w' := by
  have FE := hid (law07_few l w)
  have hl : (l.take 200).length ≤ 200 := by simp; omega
  generalize l.take 200 = s at *
  have TQ := hid (text_Query s hl w hm)
  have RQ := hid (fun W => ref_Query s hl W)
  have hql : (queryV s).length ≤ 201 := by
    unfold queryV
    cases h : queryR s with
    | none => simp
    | some r =>
      unfold queryR at h
      split at h
      · simp at h; subst h; simp
      · have := queryO_len _ _ _ h
        have := wordsC_len 38 s
        simp at *
        omega
  cases hqb : queryB s
  · have hE : queryE s = 2 := by unfold queryE; rw [hqb]; rfl
    unfold QueryPost at TQ
    unfold QRPost at RQ
    rw [hE] at TQ
    rw [hqb] at RQ
    clear hqb hE
    generalize queryV s = ps at *
    have HQ' := hid (get_facts nm ps)
    have HGB := hid (get_there nm ps)
    go_enter Tryd.func3, Tryd.ntmps3
    go_wp2_with fail
    refine FE.out.mono ?_
    rintro e w' ⟨rfl, rfl⟩
    go_wp2_with fail
    refine TQ.out.mono ?_
    rintro e w1 ⟨A, c, rfl, hrow1, hb1⟩
    go_wp2_with fail
    refine (RQ.out _).mono ?_
    rintro e w2 ⟨A2, c2, rfl, hrow2, hb2⟩
    have B2 := hid (bt hb1 hb2)
    have P1 := hid (pairs_row (row_below hrow1 hb2))
    have P2 := hid (pairs_row hrow2)
    clear hrow1 hrow2 hb1 hb2 TQ RQ FE
    go_wp2_with fail
    refine (ref_SameP ps (by omega) A A2 c c2 w2 P1.out P2.out).mono ?_
    rintro e w3 ⟨rfl, hb3⟩
    have B3 := hid (bt B2.out hb3)
    have P3 := hid (P2.out.below hb3)
    clear hb3
    go_wp2_with fail
    refine (text_Get nm A2 ps c2 w3 (by omega) P3.out).mono ?_
    rintro e w4 ⟨rfl, hb4⟩
    have B4 := hid (bt B3.out hb4)
    have P4 := hid (P3.out.below hb4)
    clear hb4
    go_wp2
    go_loopw [12] (fun i wr => ∃ k : Nat, k ≤ ps.length ∧ i = .int .i64 k ∧ Hid (∀ j, (h : j < k) → (h' : j < ps.length) → (ps[j].1 == nm) = false) ∧ wr = w4) (fun i _ => ps.length - (intOf i).toNat)
    case atStart => exact ⟨0, Nat.zero_le _, rfl, fun j h => absurd h (by omega), rfl⟩
    case round =>
      obtain ⟨k, hk, rfl, hlow, rfl⟩ := hrel
      by_cases h : k < ps.length
      · obtain ⟨b, off, rfl, hbl, hc⟩ := P4.out (by omega)
        obtain ⟨c1, c2⟩ := hc k h
        clear hc
        by_cases hq : (ps[k].1 == nm) = true
        · rcases HQ'.out with ⟨h1, h2, h3⟩ | ⟨h1, h2⟩
          · exact absurd hq (by rw [h3 k h]; simp)
          · have hv : (getV nm ps == ps[k].2) = true := by
              rw [beq_iff_eq]
              exact h2 k h (fun i hi => hlow.out i hi (by omega)) hq
            clear h2
            go_wp2_with fail
            refine (law07_lives _).mono ?_
            rintro e w5 ⟨rfl, hb5⟩
            go_wp2
            go_ret
            exact ⟨rfl, bt B4.out hb5⟩
        · have hq' : (ps[k].1 == nm) = false := by simpa using hq
          have hlow' := hid (show ∀ j, (h : j < k + 1) → (h' : j < ps.length) → (ps[j].1 == nm) = false from fun j hj hj' => by
            rcases Nat.lt_or_ge j k with h1 | h1
            · exact hlow.out j h1 hj'
            · obtain rfl : j = k := by omega
              exact hq')
          clear hq hlow
          go_wp2
          go_roundw
          case rel => exact ⟨k + 1, by omega, by go_num, hlow', by first | rfl | trivial⟩
          case measure => simp [intOf]; omega
      · have hk' : k = ps.length := by omega
        subst hk'
        rcases HQ'.out with ⟨h1, h2, h3⟩ | ⟨h1, h2⟩
        · clear h3
          go_wp2_with fail
          refine (law07_lives _).mono ?_
          rintro e w5 ⟨rfl, hb5⟩
          go_wp2
          go_ret
          exact ⟨rfl, bt B4.out hb5⟩
        · exfalso
          obtain ⟨j, hj, hjq⟩ := HGB.out h1
          rw [hlow.out j hj hj] at hjq
          cases hjq
  · have hE : queryE s = 0 := by unfold queryE; rw [hqb]; rfl
    unfold QueryPost at TQ
    unfold QRPost at RQ
    rw [hE] at TQ
    rw [hqb] at RQ
    clear hqb hE
    generalize queryV s = ps at *
    have HQ' := hid (get_facts nm ps)
    have HGB := hid (get_there nm ps)
    go_enter Tryd.func3, Tryd.ntmps3
    go_wp2_with fail
    refine FE.out.mono ?_
    rintro e w' ⟨rfl, rfl⟩
    go_wp2_with fail
    refine TQ.out.mono ?_
    rintro e w1 ⟨A, c, rfl, hrow1, hb1⟩
    go_wp2_with fail
    refine (RQ.out _).mono ?_
    rintro e w2 ⟨A2, c2, rfl, hrow2, hb2⟩
    have B2 := hid (bt hb1 hb2)
    have P1 := hid (pairs_row (row_below hrow1 hb2))
    have P2 := hid (pairs_row hrow2)
    clear hrow1 hrow2 hb1 hb2 TQ RQ FE
    go_wp2_with fail
    refine (ref_SameP ps (by omega) A A2 c c2 w2 P1.out P2.out).mono ?_
    rintro e w3 ⟨rfl, hb3⟩
    have B3 := hid (bt B2.out hb3)
    have P3 := hid (P2.out.below hb3)
    clear hb3
    go_wp2_with fail
    refine (text_Get nm A2 ps c2 w3 (by omega) P3.out).mono ?_
    rintro e w4 ⟨rfl, hb4⟩
    have B4 := hid (bt B3.out hb4)
    have P4 := hid (P3.out.below hb4)
    clear hb4
    go_wp2
    go_loopw [12] (fun i wr => ∃ k : Nat, k ≤ ps.length ∧ i = .int .i64 k ∧ Hid (∀ j, (h : j < k) → (h' : j < ps.length) → (ps[j].1 == nm) = false) ∧ wr = w4) (fun i _ => ps.length - (intOf i).toNat)
    case atStart => exact ⟨0, Nat.zero_le _, rfl, fun j h => absurd h (by omega), rfl⟩
    case round =>
      obtain ⟨k, hk, rfl, hlow, rfl⟩ := hrel
      by_cases h : k < ps.length
      · obtain ⟨b, off, rfl, hbl, hc⟩ := P4.out (by omega)
        obtain ⟨c1, c2⟩ := hc k h
        clear hc
        by_cases hq : (ps[k].1 == nm) = true
        · rcases HQ'.out with ⟨h1, h2, h3⟩ | ⟨h1, h2⟩
          · exact absurd hq (by rw [h3 k h]; simp)
          · have hv : (getV nm ps == ps[k].2) = true := by
              rw [beq_iff_eq]
              exact h2 k h (fun i hi => hlow.out i hi (by omega)) hq
            clear h2
            go_wp2_with fail
            refine (law07_lives _).mono ?_
            rintro e w5 ⟨rfl, hb5⟩
            go_wp2
            go_ret
            exact ⟨rfl, bt B4.out hb5⟩
        · have hq' : (ps[k].1 == nm) = false := by simpa using hq
          have hlow' := hid (show ∀ j, (h : j < k + 1) → (h' : j < ps.length) → (ps[j].1 == nm) = false from fun j hj hj' => by
            rcases Nat.lt_or_ge j k with h1 | h1
            · exact hlow.out j h1 hj'
            · obtain rfl : j = k := by omega
              exact hq')
          clear hq hlow
          go_wp2
          go_roundw
          case rel => exact ⟨k + 1, by omega, by go_num, hlow', by first | rfl | trivial⟩
          case measure => simp [intOf]; omega
      · have hk' : k = ps.length := by omega
        subst hk'
        rcases HQ'.out with ⟨h1, h2, h3⟩ | ⟨h1, h2⟩
        · clear h3
          go_wp2_with fail
          refine (law07_lives _).mono ?_
          rintro e w5 ⟨rfl, hb5⟩
          go_wp2
          go_ret
          exact ⟨rfl, bt B4.out hb5⟩
        · exfalso
          obtain ⟨j, hj, hjq⟩ := HGB.out h1
          rw [hlow.out j hj hj] at hjq
          cases hjq
theorem dec_bounds {a : Int} (h0 : 0 ≤ a) (h1 : a ≤ 9007199254740992) : (decI a).length ≤ 20 ∧ ∀ x ∈ decI a, 48 ≤ x.toNat ∧ x.toNat ≤ 57 := ⟨decI_len a (by omega) (by omega), decI_digits h0⟩
def firstT : List UInt8 := [102, 105, 114, 115, 116]
def secondT : List UInt8 := [115, 101, 99, 111, 110, 100]
theorem law_TextMakes_yes (a b : Int) (w : World) (hm : HasMax w) (ha0 : 0 ≤ a) (ha1 : a ≤ 9007199254740992) (hb0 : 0 ≤ b) (hb1 : b ≤ 9007199254740992) :
    Calls Tryd.prog 4 #[.int .i64 a, .int .i64 b] w fun e w' => e = .returned (.bool true) ∧ Below w.heap.size w w' := by
  obtain ⟨la, da⟩ := dec_bounds ha0 ha1
  obtain ⟨lb, db⟩ := dec_bounds hb0 hb1
  have q1 := queryR_two (n := firstT) (m := secondT) (u := decI a) (v := decI b) (by decide) (by decide) (by decide) da db (by omega) (by omega)
  have q2 := queryR_two (n := secondT) (m := firstT) (u := decI b) (v := decI a) (by decide) (by decide) (by decide) db da (by omega) (by omega)
  have hn := isNum_dec ha0 ha1
  have DA := hid (fun W => text_Decimal a W (by omega) (by omega))
  have DB := hid (fun W => text_Decimal b W (by omega) (by omega))
  have NU := hid (fun W => text_Number (decI a) W)
  rw [hn.2.1, hn.2.2] at NU
  have T1 := fun W (h : HasMax W) => text_Query ((firstT ++ 61 :: decI a) ++ 38 :: (secondT ++ 61 :: decI b)) (by simp [firstT, secondT]; omega) W h
  have T2 := fun W (h : HasMax W) => text_Query ((secondT ++ 61 :: decI b) ++ 38 :: (firstT ++ 61 :: decI a)) (by simp [firstT, secondT]; omega) W h
  unfold QueryPost queryE queryB queryV at T1 T2
  rw [q1] at T1
  rw [q2] at T2
  simp only [Option.isSome_some, if_true, Option.getD_some] at T1 T2
  have HG1 := hid (show getV firstT [(firstT, decI a), (secondT, decI b)] = decI a ∧ getB firstT [(firstT, decI a), (secondT, decI b)] = true from ⟨rfl, rfl⟩)
  have HG2 := hid (show getV firstT [(secondT, decI b), (firstT, decI a)] = decI a ∧ getB firstT [(secondT, decI b), (firstT, decI a)] = true from ⟨rfl, rfl⟩)
  have HM := hid hm
  have HT1 : Hid (∀ W : World, HasMax W → Calls Tryd.prog 11 #[.string (S (102 :: 105 :: 114 :: 115 :: 116 :: 61 :: (decI a ++ 38 :: 115 :: 101 :: 99 :: 111 :: 110 :: 100 :: 61 :: decI b)))] W fun e w' => ∃ A c, e = .returned (.tuple #[.slice A 2 c, .int .i64 0]) ∧ MadeP W [(firstT, decI a), (secondT, decI b)] (.slice A 2 c) w') := T1
  have HT2 : Hid (∀ W : World, HasMax W → Calls Tryd.prog 11 #[.string (S (115 :: 101 :: 99 :: 111 :: 110 :: 100 :: 61 :: (decI b ++ 38 :: 102 :: 105 :: 114 :: 115 :: 116 :: 61 :: decI a)))] W fun e w' => ∃ A c, e = .returned (.tuple #[.slice A 2 c, .int .i64 0]) ∧ MadeP W [(secondT, decI b), (firstT, decI a)] (.slice A 2 c) w') := T2
  clear q1 q2 hn da db hm T1 T2
  generalize decI a = u at *
  generalize decI b = v at *
  have hP1 : ∃ ps : List SPair, ps = [(firstT, u), (secondT, v)] := ⟨_, rfl⟩
  have hP2 : ∃ ps : List SPair, ps = [(secondT, v), (firstT, u)] := ⟨_, rfl⟩
  obtain ⟨ps, hps⟩ := hP1
  obtain ⟨qs, hqs⟩ := hP2
  have l1 := hid (show ps.length = 2 by rw [hps]; rfl)
  have l2 := hid (show qs.length = 2 by rw [hqs]; rfl)
  rw [← hps] at HT1 HG1
  rw [← hqs] at HT2 HG2
  clear hps hqs
  have t1 : ¬ (a < 0) := by omega
  have t2 : ¬ (b < 0) := by omega
  go_enter Tryd.func4, Tryd.ntmps4
  go_wp2_with fail
  refine (DA.out _).mono ?_
  rintro e w1 ⟨rfl, hb1⟩
  go_wp2_with fail
  refine (DB.out _).mono ?_
  rintro e w2 ⟨rfl, hb2⟩
  have B2 := hid (bt hb1 hb2)
  clear hb1 hb2
  go_wp2_with fail
  refine (HT1.out _ (HM.out.below B2.out)).mono ?_
  rintro e w3 ⟨A1, c1, rfl, hr3, hb3⟩
  have B3 := hid (bt B2.out hb3)
  have R3 := hid (pairs_row (A := A1) (c := c1) (ps := ps) (by rw [l1.out] at hr3 ⊢; exact hr3))
  clear hr3 hb3
  go_wp2_with fail
  refine (HT2.out _ (HM.out.below B3.out)).mono ?_
  rintro e w4 ⟨A2, c2, rfl, hr4, hb4⟩
  have B4 := hid (bt B3.out hb4)
  have P4 := hid (R3.out.below hb4)
  have R4 := hid (pairs_row (A := A2) (c := c2) (ps := qs) (by rw [l2.out] at hr4 ⊢; exact hr4))
  clear hr4 hb4
  have GA := text_Get firstT A1 ps c1 w4 (by rw [l1.out]; omega) P4.out
  rw [HG1.out.1, HG1.out.2, l1.out] at GA
  have HGA := hid GA
  clear GA
  go_wp2_with fail
  refine HGA.out.mono ?_
  rintro e w5 ⟨rfl, hb5⟩
  have B5 := hid (bt B4.out hb5)
  have GB := text_Get firstT A2 qs c2 w5 (by rw [l2.out]; omega) (R4.out.below hb5)
  rw [HG2.out.1, HG2.out.2, l2.out] at GB
  have HGB := hid GB
  clear GB hb5
  go_wp2_with fail
  refine HGB.out.mono ?_
  rintro e w6 ⟨rfl, hb6⟩
  have B6 := hid (bt B5.out hb6)
  clear hb6
  go_wp2_with fail
  refine (NU.out _).mono ?_
  rintro e w7 ⟨rfl, hb7⟩
  have B7 := hid (bt B6.out hb7)
  clear hb7
  go_wp2_with fail
  refine (law07_lives _).mono ?_
  rintro e w8 ⟨rfl, hb8⟩
  go_wp2
  go_ret
  exact ⟨rfl, bt B7.out hb8⟩
theorem law_TextMakes (a b : Int) (w : World) (hm : HasMax w) :
    Calls Tryd.prog 4 #[.int .i64 a, .int .i64 b] w fun e w' => e = .returned (.bool true) ∧ Below w.heap.size w w' := by
  by_cases h1 : a < 0
  · go_enter Tryd.func4, Tryd.ntmps4
    go_wp2_with fail
    refine (law07_lives _).mono ?_
    rintro e w8 ⟨rfl, hb8⟩
    go_wp2
    go_ret
    exact ⟨rfl, hb8⟩
  · by_cases h2 : b < 0
    · go_enter Tryd.func4, Tryd.ntmps4
      go_wp2_with fail
      refine (law07_lives _).mono ?_
      rintro e w8 ⟨rfl, hb8⟩
      go_wp2
      go_ret
      exact ⟨rfl, hb8⟩
    · by_cases h3 : 9007199254740992 < a
      · go_enter Tryd.func4, Tryd.ntmps4
        go_wp2_with fail
        refine (law07_lives _).mono ?_
        rintro e w8 ⟨rfl, hb8⟩
        go_wp2
        go_ret
        exact ⟨rfl, hb8⟩
      · by_cases h4 : 9007199254740992 < b
        · go_enter Tryd.func4, Tryd.ntmps4
          go_wp2_with fail
          refine (law07_lives _).mono ?_
          rintro e w8 ⟨rfl, hb8⟩
          go_wp2
          go_ret
          exact ⟨rfl, hb8⟩
        · exact law_TextMakes_yes a b w hm (by omega) (by omega) (by omega) (by omega)
theorem row_TextQueries (s nm : ByteArray) (w : World) (h1 : s.size ≤ maxLen) (h2 : nm.size ≤ maxLen) (hm : HasMax w) :
    Calls Tryd.prog 3 #[.string s, .string nm] w fun e w' => e = .returned (.bool true) ∧ Below w.heap.size w w' := by
  rw [← S_of s, ← S_of nm]
  exact law_TextQueries s.data.toList nm.data.toList w hm
theorem row_TextMakes (a b : Int) (w : World) (ha : (Lit.int .i64 a).wf = true) (hb : (Lit.int .i64 b).wf = true) (hm : HasMax w) :
    Calls Tryd.prog 4 #[.int .i64 a, .int .i64 b] w fun e w' => e = .returned (.bool true) ∧ Below w.heap.size w w' := law_TextMakes a b w hm
end Go.Proofs.YtecekflooihkoaaDoor
