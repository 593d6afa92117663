/- Walk of pantilelaw14.KvNames, where the name is one. -/
import Derived.Test.YtbjimikppdfmgaaGreatDoorLawKvNames
set_option linter.unusedVariables false
set_option linter.unusedSimpArgs false
set_option maxHeartbeats 12800000
set_option maxRecDepth 100000
namespace Go.Proofs.YtbjimikppdfmgaaGreatDoor
open Go.RowKit

def otherN : Key := [111, 116, 104, 101, 114]
def kw (v : UInt8) : List Wr := [⟨[107], [v], false⟩]
theorem kw_row (v : UInt8) (q : Nat) (W' : World) (hB : Blk W' q 31 #[.string (S [107]), .string (S [v]), .bool false]) : WsAt W' (some ⟨q, 0, none⟩) (kw v) := fun h0 => by
  refine ⟨q, 0, rfl, hB.lt, fun i hi => ?_⟩
  have : i = 0 := by simp [kw] at hi; omega
  subst this
  exact ⟨hB.cell 0, hB.cell 1, hB.cell 2⟩
theorem kw_len (v : UInt8) : (frameB (kw v)).length = 13 ∧ (bodyB (kw v)).length = 9 := by
  have := frameB_len (kw v)
  have h2 : (bodyB (kw v)).length = 9 := by
    show ((wrB ⟨[107], [v], false⟩) ++ []).length = 9
    rw [List.append_nil, wrB_len]
    rfl
  omega
theorem kw_do (v : UInt8) : doB [] (kw v) = [([107], [v])] := rfl
theorem kw_map (v : UInt8) : ((doB [] (kw v)).map wOf) = kw v := rfl
theorem plan (nm : Key) (h : ∀ c ∈ nm, lettB c = true) (hl : nm.length ≤ 20) (h1 : 1 ≤ nm.length) (hne : nm ≠ otherN) :
    ∃ d1 d2 d3 d4 d5 d6 d7 : Dr,
      ((Dr.new 10000).readE (fileN nm baseN) = 10 ∧ (Dr.new 10000).readE (fileN nm logN) = 10 ∧ ((Dr.new 10000).create (fileN nm logN)).2 = 0 ∧ ((Dr.new 10000).create (fileN nm logN)).1 = d1) ∧
      (d1.down = false ∧ d1.readE (fileN otherN baseN) = 10 ∧ d1.readE (fileN otherN logN) = 10 ∧ (d1.create (fileN otherN logN)).2 = 0 ∧ (d1.create (fileN otherN logN)).1 = d2) ∧
      (d2.down = false ∧ (d2.append (fileN nm logN) (frameB (kw 49))).2 = 0 ∧ ((d2.append (fileN nm logN) (frameB (kw 49))).1.sync (fileN nm logN)).2 = 0 ∧ ((d2.append (fileN nm logN) (frameB (kw 49))).1.sync (fileN nm logN)).1 = d3) ∧
      (d3.down = false ∧ (d3.append (fileN otherN logN) (frameB (kw 50))).2 = 0 ∧ ((d3.append (fileN otherN logN) (frameB (kw 50))).1.sync (fileN otherN logN)).2 = 0 ∧ ((d3.append (fileN otherN logN) (frameB (kw 50))).1.sync (fileN otherN logN)).1 = d4) ∧
      (d4.down = false ∧ ReplOk d4 otherN baseN (frameB (kw 50)) ∧ replD d4 otherN baseN (frameB (kw 50)) = d5) ∧
      (d5.down = false ∧ ReplOk d5 otherN logN [] ∧ replD d5 otherN logN [] = d6) ∧
      (d6.down = false ∧ Loads d6 (fileN nm baseN) [] ∧ Loads d6 (fileN nm logN) [kw 49] ∧ d6.create (fileN nm logN) = (d6, 11) ∧ (d6.sync (fileN nm logN)).2 = 0 ∧ (d6.sync (fileN nm logN)).1 = d7) := by
  have ho : ∀ c ∈ otherN, lettB c = true := by decide
  have D1 : ∀ e1 e2, fileN nm e1 ≠ fileN otherN e2 := fun e1 e2 he => hne (fileN_inj h ho he).1
  have D2 : fileN nm baseN ≠ fileN nm logN := fun he => absurd (fileN_inj h h he).2 (by decide)
  have D3 : fileN otherN tmpN ≠ fileN otherN baseN := by decide
  have D4 : fileN otherN tmpN ≠ fileN otherN logN := by decide
  have D5 : fileN otherN logN ≠ fileN otherN baseN := by decide
  have m1 : namedB (fileN nm logN) = true := fileN_named h hl (by decide) (by decide)
  have m2 : namedB (fileN otherN logN) = true := by decide
  have m3 : namedB (fileN otherN tmpN) = true := by decide
  have m4 : namedB (fileN otherN baseN) = true := by decide
  have f1 := (kw_len 49).1
  have f2 := (kw_len 50).1
  have hfr : framesB [kw 49] = frameB (kw 49) := by simp [framesB]
  have hkk : ∀ x ∈ [kw 49].flatten, 1 ≤ x.key.length ∧ x.key.length < 65536 := by
    intro x hx
    simp only [kw, List.flatten_cons, List.flatten_nil, List.append_nil, List.mem_singleton] at hx
    subst hx
    decide
  generalize frameB (kw 49) = F1 at *
  generalize frameB (kw 50) = F2 at *
  have E1 : ∀ e, fileN nm logN ≠ fileN otherN e := fun e => D1 _ _
  have E2 : ∀ e, fileN nm baseN ≠ fileN otherN e := fun e => D1 _ _
  have E1a := E1 logN
  have E1b := E1 baseN
  have E1t := E1 tmpN
  have E2a := E2 logN
  have E2b := E2 baseN
  have E2t := E2 tmpN
  clear D1 E1 E2
  generalize fileN nm logN = n1 at *
  generalize fileN nm baseN = nb at *
  have r0 : Rising ([] : Fs) := List.Pairwise.nil
  have z0 : ∀ j : Key, kget ([] : Fs) j = none := fun j => rfl
  -- the first store's log
  have r1 := r0.put n1 (⟨[], []⟩ : File)
  have g1 := kget_put_self r0 n1 (⟨[], []⟩ : File)
  have o1' : ∀ j, j ≠ n1 → kget (kput ([] : Fs) n1 ⟨[], []⟩) j = none := fun j hj => (kget_put_other r0 _ hj).trans (z0 j)
  have u1 := usedF_put n1 ⟨[], []⟩ []
  have l1 := length_kput_le n1 (⟨[], []⟩ : File) []
  have c1 := U_create (fs := []) (q := 10000) (k := 0) m1 (z0 n1) (by simp)
  generalize kput ([] : Fs) n1 ⟨[], []⟩ = fs1 at *
  -- the other's
  have r2 := r1.put (fileN otherN logN) (⟨[], []⟩ : File)
  have g2 := kget_put_self r1 (fileN otherN logN) (⟨[], []⟩ : File)
  have g2n := (kget_put_other r1 (⟨[], []⟩ : File) E1a).trans g1
  have o2' : ∀ j, j ≠ n1 → j ≠ (fileN otherN logN) → kget (kput fs1 (fileN otherN logN) ⟨[], []⟩) j = none := fun j hj hj2 => (kget_put_other r1 _ hj2).trans (o1' j hj)
  have u2 := usedF_put (fileN otherN logN) ⟨[], []⟩ fs1
  have l2 := length_kput_le (fileN otherN logN) (⟨[], []⟩ : File) fs1
  have c2 := U_create (fs := fs1) (q := 10000) (k := wrap1 0) m2 (o1' (fileN otherN logN) E1a.symm) (by simp at l1; omega)
  generalize kput fs1 (fileN otherN logN) ⟨[], []⟩ = fs2 at *
  have hz : usedF ([] : Fs) = 0 := rfl
  have hy : (File.all ⟨[], []⟩).length = 0 := rfl
  rw [hz, hy] at u1
  rw [hy] at u2
  -- a batch each
  have a3 := addF_ok (q := 10000) (k := wrap1 (wrap1 0)) (x := F1) r2 g2n (by omega)
  have r3 := addF_rising (n := n1) r2 [] F1
  have g3n := addF_self (n := n1) r2 [] F1
  have g3 := (addF_other r2 [] F1 E1a.symm).trans g2
  have o3' : ∀ j, j ≠ n1 → j ≠ (fileN otherN logN) → kget (addF fs2 n1 [] F1) j = none := fun j hj hj2 => (addF_other r2 [] F1 hj).trans (o2' j hj hj2)
  have u3 := addF_used r2 F1 g2n
  have l3 := addF_len (fs := fs2) (n := n1) [] F1
  generalize addF fs2 n1 [] F1 = fs3 at *
  have a4 := addF_ok (q := 10000) (k := wrap1 (wrap1 (wrap1 (wrap1 0)))) (x := F2) r3 g3 (by simp at u3; omega)
  have r4 := addF_rising (n := (fileN otherN logN)) r3 [] F2
  have g4n := (addF_other r3 [] F2 E1a).trans g3n
  have o4' : ∀ j, j ≠ n1 → j ≠ (fileN otherN logN) → kget (addF fs3 (fileN otherN logN) [] F2) j = none := fun j hj hj2 => (addF_other r3 [] F2 hj2).trans (o3' j hj hj2)
  have u4 := addF_used r3 F2 g3
  have l4 := addF_len (fs := fs3) (n := (fileN otherN logN)) [] F2
  generalize addF fs3 (fileN otherN logN) [] F2 = fs4 at *
  -- Compact
  have v4 := usedF_put (fileN otherN tmpN) ⟨[], []⟩ fs4
  rw [hy] at v4
  simp at u3 u4
  have b5 := U_repl (fs := fs4) (q := 10000) (k := wrap1 (wrap1 (wrap1 (wrap1 (wrap1 (wrap1 0)))))) (name := otherN) (en := baseN) (data := F2) m3 m4 (o4' _ E1t.symm D4) (by simp at l1; omega) r4 (by omega)
  obtain ⟨ok5, k5, e5⟩ := b5
  rw [show kput (kdel (kput (kset (kput fs4 (fileN otherN tmpN) ⟨[], []⟩) (fileN otherN tmpN) ⟨[], [F2]⟩) (fileN otherN tmpN) ⟨F2, []⟩) (fileN otherN tmpN)) (fileN otherN baseN) ⟨F2, []⟩ = repF fs4 (fileN otherN tmpN) (fileN otherN baseN) F2 from rfl] at e5
  have r5 := repF_rising r4 (fileN otherN tmpN) (fileN otherN baseN) F2
  have g5n := (repF_other r4 F2 E1t E1b).trans g4n
  have g5b := (repF_other r4 F2 E2t E2b).trans (o4' nb D2 E2a)
  have g5t := repF_tmp r4 F2 D3
  have u5 := repF_used r4 (fileN otherN tmpN) (fileN otherN baseN) F2
  have l5 := repF_len (fs := fs4) (fileN otherN tmpN) (fileN otherN baseN) F2
  generalize repF fs4 (fileN otherN tmpN) (fileN otherN baseN) F2 = fs5 at *
  have v5 := usedF_put (fileN otherN tmpN) ⟨[], []⟩ fs5
  rw [hy] at v5
  have b6 := U_repl (fs := fs5) (q := 10000) (k := k5) (name := otherN) (en := logN) (data := []) m3 m2 g5t (by simp at l1; omega) r5 (by simp; omega)
  obtain ⟨ok6, k6, e6⟩ := b6
  rw [show kput (kdel (kput (kset (kput fs5 (fileN otherN tmpN) ⟨[], []⟩) (fileN otherN tmpN) ⟨[], [[]]⟩) (fileN otherN tmpN) ⟨[], []⟩) (fileN otherN tmpN)) (fileN otherN logN) ⟨[], []⟩ = repF fs5 (fileN otherN tmpN) (fileN otherN logN) [] from rfl] at e6
  have g6n := (repF_other r5 [] E1t E1a).trans g5n
  have g6b := (repF_other r5 [] E2t E2a).trans g5b
  generalize repF fs5 (fileN otherN tmpN) (fileN otherN logN) [] = fs6 at *
  have z7 := U_readE (q := 10000) (k := k6) g6n
  have z7b := U_readE_none (q := 10000) (k := k6) g6b
  have y7 := U_create_ex (q := 10000) (k := k6) m1 g6n
  have y8 := U_sync (q := 10000) (k := k6) g6n
  have w0 : Dr.new 10000 = U [] 10000 0 := rfl
  refine ⟨U fs1 10000 (wrap1 0), U fs2 10000 (wrap1 (wrap1 0)), U fs3 10000 (wrap1 (wrap1 (wrap1 (wrap1 0)))), U fs4 10000 (wrap1 (wrap1 (wrap1 (wrap1 (wrap1 (wrap1 0)))))), U fs5 10000 k5, U fs6 10000 k6, _, ⟨U_readE_none (q := 10000) (k := 0) (z0 nb), U_readE_none (q := 10000) (k := 0) (z0 n1), ?_, ?_⟩, ⟨rfl, U_readE_none (o1' _ E1b.symm), U_readE_none (o1' _ E1a.symm), ?_, ?_⟩, ⟨rfl, a3.1, a3.2.1, a3.2.2⟩, ⟨rfl, a4.1, a4.2.1, a4.2.2⟩, ⟨rfl, ok5, e5⟩, ⟨rfl, ok6, e6⟩, rfl, ⟨.inl ⟨z7b, rfl⟩, by simp, by simp [framesB]⟩, ⟨.inr ⟨z7.1, ?_⟩, hkk, ?_⟩, y7, ?_, rfl⟩
  · rw [w0, c1]
  · rw [w0, c1]
  · rw [c2]
  · rw [c2]
  · rw [z7.2, hfr]
    simp [File.all]
  · rw [hfr]
    omega
  · rw [y8]
theorem law_KvNames_good (s : List UInt8) (w : World) (h1 : 1 ≤ (s.take 30).length) (h20 : (s.take 30).length ≤ 20) (hl : ∀ c ∈ s.take 30, lettB c = true) :
    Calls Tryz.prog 3 #[.string (S s)] w fun e w' => e = .returned (.bool true) ∧ Below w.heap.size w w' := by
  have N0 := hid (FW.new (Fr.all w) 10000 rfl w (Fr.kept_self _))
  have LV := hid (fun W => law14_lives W)
  obtain ⟨nm, hnm⟩ : ∃ nm, nm = s.take 30 := ⟨_, rfl⟩
  rw [← hnm] at h1 h20 hl
  have hne : nm ≠ [] := List.length_pos_iff.1 (by omega)
  have ha : ∀ c ∈ nm, abcT.contains c = true := fun c hc => by rw [lett_abc]; exact hl c hc
  have HL := hid hl
  have HA := hid ha
  have HNE := hid hne
  have HALL := hid (List.all_eq_true.2 hl)
  have HPL := hid (plan nm hl h20 h1)
  clear hl ha hne
  have q1 : (1 : Int) ≤ nm.length := by omega
  have q2 : (nm.length : Int) ≤ 20 := by omega
  by_cases hlong : 30 < s.length
  case' neg => obtain rfl : nm = s := by rw [hnm, List.take_of_length_le (by omega)]
  all_goals
    have HNM := hid hnm
    clear hnm
    go_enter Tryz.func3, Tryz.ntmps3
    go_wp2_with fail
  all_goals
    first
    | rw [← HNM.out]
    | skip
  all_goals
    clear HNM hlong
  all_goals
    refine N0.out.mono ?_
    rintro e w1 ⟨g, rfl, hg, hb1, hF⟩
    obtain ⟨Z0, i1, i2, i3, i4, -⟩ := hF
    have I1 := hid (fun k hk => Fr.all_free (i4 k hk))
    have OS := hid (st_Open_new (name := nm) i1 i2 (by omega) HNE.out h20 HA.out rfl rfl rfl (by
      rw [show Dr.new 10000 = U [] 10000 0 from rfl, U_create (fileN_named HL.out h20 (by decide) (by decide)) rfl (by simp)]))
    have HB1 := hid hb1
    clear i1 i2 i3 i4 hg hb1 N0
    go_wp2_with fail
    refine OS.out.mono ?_
    rintro e w2 ⟨sb, mb, Z, rfl, hsb, hs2, ht2, hf2⟩
    have S2 := hid hs2
    have F2 := hid (show ∀ k, foot Z sb mb k → w.heap.size ≤ k from fun k hk => by
      rcases hf2 k hk with hh | hh
      · exact I1.out k hh
      · exact Nat.le_trans HB1.out.size hh)
    have B2 := hid (ht2.below HB1.out I1.out)
    clear hs2 ht2 hf2 OS hsb I1 HB1
    go_wp2
    go_loop [6, 7] (fun m i => ∃ k : Nat, k ≤ nm.length ∧ m = .bool true ∧ i = .int .i64 k) (fun _ i => nm.length - (intOf i).toNat)
    case atStart => exact ⟨0, Nat.zero_le _, by first | rfl | rw [decide_eq_true (by omega)], rfl⟩
    case round =>
      obtain ⟨k, hk, rfl, rfl⟩ := hrel
      by_cases hlt : k < nm.length
      · have hc := HL.out nm[k] (List.getElem_mem hlt)
        simp only [lettB, Bool.and_eq_true, decide_eq_true_eq] at hc
        obtain ⟨c1, c2⟩ := hc
        have c1' : (97 : Int) ≤ nm[k].toNat := by omega
        have c2' : (nm[k].toNat : Int) ≤ 122 := by omega
        go_wp2
        go_round
        case rel => exact ⟨k + 1, by omega, rfl, by go_num⟩
        case measure => simp [intOf]; omega
      · have hk' : k = nm.length := by omega
        subst hk'
        by_cases hot : nm = [111, 116, 104, 101, 114]
        · subst hot
          go_wp2_with fail
          refine (LV.out _).mono ?_
          rintro e w3 ⟨rfl, hb3⟩
          go_wp2
          go_ret
          exact ⟨rfl, bt B2.out hb3⟩
        · have kot : (nm == [111, 116, 104, 101, 114]) = false := beq_eq_false_iff_ne.2 hot
          obtain ⟨d1, d2, d3, d4, d5, d6, d7, ⟨-, -, -, x1⟩, ⟨x2, x3, x4, x5, x6⟩, x7, x8, x9, x10, x11, x12⟩ := HPL.out hot
          have S2' := S2.out
          rw [x1] at S2'
          have OT := st_Open_new (name := otherN) S2'.dr S2'.ok (by omega) (by decide) (by decide) (by decide) x2 x3 x4 x5
          rw [x6] at OT
          have OTH := hid OT
          have S2H := hid S2'
          have X7 := hid x7
          have X8 := hid x8
          have X9 := hid x9
          have X10 := hid x10
          have X11 := hid x11
          have X12 := hid x12
          clear OT S2' x1 x2 x3 x4 x5 x6 x7 x8 x9 x10 x11 x12 S2 HPL hot
          unfold otherN at OTH
          go_wp2_with fail
          refine OTH.out.mono ?_
          rintro e w3 ⟨sbt, mbt, Zt, rfl, hsbt, hs3, ht3, hf3⟩
          have D3 : Duo w w3 g d2 0 nm sb mb [] otherN sbt mbt [] Zt := by
            have q3 := S2H.out.blk.lt
            have q4 := S2H.out.map.lt
            have hmt : mb ≠ mbt ∧ w.heap.size ≤ mbt := by
              rcases hf3 mbt (.inr (.inr rfl)) with hh | hh
              · exact ⟨fun e => S2H.out.nmb (by rw [e]; exact hh), F2.out _ (.inl hh)⟩
              · exact ⟨by omega, Nat.le_trans B2.out.size hh⟩
            refine ⟨S2H.out.other hs3 ht3 S2H.out.nsb S2H.out.nmb hf3, hs3, by omega, hmt.1, fun k hk => ?_, ⟨Nat.le_trans B2.out.size hsbt, hmt.2⟩, ht3.below B2.out (fun k hk => F2.out k (.inl hk))⟩
            rcases hk with hk | rfl | rfl
            · rcases hf3 k (.inl hk) with hh | hh
              · exact F2.out k (.inl hh)
              · exact Nat.le_trans B2.out.size hh
            · exact F2.out _ (.inr (.inl rfl))
            · exact F2.out _ (.inr (.inr rfl))
          have A3 := (D3.below ((Below.refl _ _).alloc (Nat.le_refl _) (.cells #[.string (S [107]), .string (S [49]), .bool false] 31)))
          have AS := st_Apply_ok (X1 := [(w3.heap.size, 31, #[.string (S [107]), .string (S [49]), .bool false])]) A3.s (fun x hx => by
            rw [List.mem_singleton.1 hx]
            exact ⟨fun hf => by have := D3.s.lt hf; simp only [] at this; omega, Blk.new _ _ _⟩) X7.out.1 (some ⟨w3.heap.size, 0, none⟩) 1 (kw 49) (fun W' hW => kw_row 49 w3.heap.size W' (hW (w3.heap.size, 31, #[.string (S [107]), .string (S [49]), .bool false]) (by simp))) (by simp [kw]) rfl (by rw [(kw_len 49).2]; omega) (by simp) (by omega) h20 X7.out.2.1 X7.out.2.2.1
          rw [X7.out.2.2.2] at AS
          have ASH := hid AS
          have T3 := hid A3
          clear AS A3 D3 hs3 ht3 hf3 OTH hsbt S2H F2 B2 X7
          go_wp2_with fail
          refine ASH.out.mono ?_
          rintro e w4 ⟨rfl, mb4, Z4, hs4, ht4, hf4⟩
          have D4 := T3.out.afterS hs4 ht4 hf4
          have A4 := (D4.below ((Below.refl _ _).alloc (Nat.le_refl _) (.cells #[.string (S [107]), .string (S [50]), .bool false] 31)))
          have AS := st_Apply_ok (X1 := [(w4.heap.size, 31, #[.string (S [107]), .string (S [50]), .bool false])]) A4.t (fun x hx => by
            rw [List.mem_singleton.1 hx]
            exact ⟨fun hf => by have := D4.t.lt hf; simp only [] at this; omega, Blk.new _ _ _⟩) X8.out.1 (some ⟨w4.heap.size, 0, none⟩) 1 (kw 50) (fun W' hW => kw_row 50 w4.heap.size W' (hW (w4.heap.size, 31, #[.string (S [107]), .string (S [50]), .bool false]) (by simp))) (by simp [kw]) rfl (by rw [(kw_len 50).2]; omega) (by simp) (by omega) (by decide) X8.out.2.1 X8.out.2.2.1
          rw [X8.out.2.2.2] at AS
          have ASH := hid AS
          have T4 := hid A4
          clear AS A4 D4 hs4 ht4 hf4 T3 X8
          go_wp2_with fail
          refine ASH.out.mono ?_
          rintro e w5 ⟨rfl, mb5, Z5, hs5, ht5, hf5⟩
          have D5 := T4.out.afterT hs5 ht5 hf5
          have CT := st_Compact D5.t X9.out.1 (by omega) (by decide) (doB_rising _) (by simp [kw_do]) (fun p hp => by rw [kw_do, List.mem_singleton] at hp; subst hp; simp) (by rw [kw_map, (kw_len 50).2]; omega) (by rw [kw_map]; exact X9.out.2.1) (by rw [kw_map, X9.out.2.2]; exact X10.out.2.1)
          rw [kw_map, X9.out.2.2, X10.out.2.2] at CT
          have CTH := hid CT
          have T5 := hid D5
          clear CT D5 hs5 ht5 hf5 T4 X9 X10
          go_wp2_with fail
          refine CTH.out.mono ?_
          rintro e w6 ⟨rfl, mb6, Z6, hs6, ht6, hf6⟩
          have D6 := T5.out.afterT hs6 ht6 hf6
          have OU := st_Open_old (name := nm) D6.s.dr D6.s.ok (by omega) HNE.out h20 HA.out X11.out [] [kw 49] X12.out.1 X12.out.2.1 (by simp [kw]) X12.out.2.2.1 X12.out.2.2.2.1
          rw [X12.out.2.2.2.2] at OU
          have OUH := hid OU
          have T6 := hid D6
          clear OU D6 hs6 ht6 hf6 T5 X11 X12
          go_wp2_with fail
          refine OUH.out.mono ?_
          rintro e w7 ⟨sbu, mbu, Zu, rfl, hsbu, hs7, ht7, hf7⟩
          have B7 := hid (ht7.below T6.out.bel fun k hk => T6.out.ls k (.inl hk))
          have GT := hid (kv_Get (sb := sbu) (name := nm) (dead := false) (hs7.mw (X1 := []) (by simp)) (by simp) [107] (by simp))
          clear hs7 ht7 hf7 T6 hsbu OUH
          go_wp2_with fail
          refine GT.out.mono ?_
          rintro e w8 ⟨rfl, hw⟩
          subst hw
          go_wp2_with fail
          refine (LV _).mono ?_
          rintro e w9 ⟨rfl, hb9⟩
          go_wp2
          go_ret
          exact ⟨rfl, bt B7.out hb9⟩
theorem row_KvNames (s : ByteArray) (w : World) (hs : s.size ≤ maxLen) :
    Calls Tryz.prog 3 #[.string s] w fun e w' => e = .returned (.bool true) ∧ Below w.heap.size w w' := by
  rw [← S_of s]
  by_cases h1 : 1 ≤ (s.data.toList.take 30).length
  case neg => exact law_KvNames_bad _ w (.inl (List.length_eq_zero_iff.1 (by omega)))
  by_cases h2 : (s.data.toList.take 30).length ≤ 20
  case neg => exact law_KvNames_bad _ w (.inr (.inl (by omega)))
  by_cases h3 : ∀ c ∈ s.data.toList.take 30, lettB c = true
  case neg => exact law_KvNames_bad _ w (.inr (.inr h3))
  exact law_KvNames_good _ w h1 h2 h3
end Go.Proofs.YtbjimikppdfmgaaGreatDoor
