/- The law DriveKeeps. -/
import Derived.Test.YtioillenlgpcgaaDoes
import Derived.Test.YtioillenlgpcgaaKB
import Derived.Deep.QuietTactic
import Derived.BigQuiet
import Derived.Deep.CutBlock
set_option linter.unusedVariables false
set_option linter.unusedSimpArgs false
set_option maxHeartbeats 12800000
set_option maxRecDepth 100000
attribute [local go_sem ↓] Go.wp_at_zero Go.wp_at_succ
namespace Go.Proofs.Ytioillenlgpcgaa
open Go.RowKit

/-- A slice of texts. -/
def TextsAt (w : World) (A : Option Addr) (l : List (List UInt8)) : Prop :=
  0 < l.length → ∃ b off, A = some ⟨b, off, none⟩ ∧ b < w.heap.size ∧ ∀ i, (h : i < l.length) → w.cell? ⟨b, off + i, none⟩ = some (.string (S l[i]))
open Go.ChangeShapes Go.WideShapes in
theorem open_texts {H : Type} {enc : TypeId × Value → H} {w : World} {base : Nat} {spare : Nat → Bool} {held : Bool} {A : Option Addr} {n cap : Nat} {d : DataW H} {ps : List MemPlace}
    (h : DataW.Trod enc Try.prog w base spare held 22 (.slice A n cap) d ps) : ∃ l : List (List UInt8), n = l.length ∧ l.length ≤ cap ∧ (cap : Int) ≤ 9223372036854775807 ∧ TextsAt w A l := by
  have hC : (Try.prog).cellsOf 9 = 1 := by kernel_rfl
  obtain ⟨h1, h2, h3⟩ := open_slice_any Try.underlying22 (by rw [hC]; omega) h
  rw [hC] at h3
  rcases Nat.eq_zero_or_pos n with h0 | h0
  · exact ⟨[], by simpa using h0, by simp, h2, fun h => absurd h (by simp)⟩
  · obtain ⟨b, off, hA, hb, hi⟩ := h3 h0
    obtain ⟨l, hl, hp⟩ := choose_list n (fun i (q : List UInt8) => w.cell? ⟨b, off + i, none⟩ = some (.string (S q))) [] (fun i hin => by
      obtain ⟨cs, m, y, hlen, hcell, ht⟩ := hi i hin
      obtain ⟨s0, c0, -, -⟩ := DataW.trod_string Try.underlying9 ht
      subst c0
      have := hcell 0 (by omega)
      rw [Nat.add_zero, Nat.mul_one] at this
      exact ⟨s0.data.toList, by rw [S_of]; exact this⟩)
    exact ⟨l, hl.symm, by omega, h2, fun _ => ⟨b, off, hA, hb, fun i hi => hp i hi⟩⟩

theorem law_DriveKeeps (s0 : List UInt8) (A1 : Option Addr) (P : List (List UInt8)) (cap1 : Nat) (A : Option Addr) (l : List VDeed) (cap : Nat) (A3 : Option Addr) (keep : List Int) (cap3 : Nat) (w : World)
    (hm1 : (P.length : Int) ≤ 9223372036854775807) (hP : TextsAt w A1 P) (hm : (l.length : Int) ≤ 9223372036854775807) (hin : VDeedsIn w l) (hA : VDeedsAt w A l) (hka : IntsAt w A3 keep) (hki : IntsIn keep) (hKL : (keep.length : Int) ≤ 9223372036854775807) :
    Calls Try.prog 3 #[.string (S s0), .slice A1 P.length cap1, .slice A l.length cap, .slice A3 keep.length cap3] w fun e w' => e = .returned (.bool true) ∧ Below w.heap.size w w' := by
  have Lv := hid law13_lives
  have HIN := hid hin
  have HA := hid hA
  have HP := hid hP
  have hKA := hid hka
  have hKI := hid hki
  have NW := hid (DW.new 100000 rfl w)
  have NR := hid (fun (W : World) (g : Nat) (h : DW w g (Dr.new 100000) 0 [] W) => DB.newR h 100000 rfl)
  have FS := hid (law13_few s0)
  have hs : (s0.take 70).length ≤ 70 := by simp; omega
  generalize s0.take 70 = s at *
  clear hin hA hka hki hP
  go_enter Try.func3, Try.ntmps3
  go_wp2_with fail
  refine NW.out.mono ?_
  rintro e w1 ⟨g, rfl, h1⟩
  have C1 := hid (NR.out w1 g h1)
  clear h1 NW NR
  go_wp2_with fail
  refine C1.out.mono ?_
  rintro e w2 ⟨r, rfl, h2⟩
  have C2 := hid (h2.createD mineK (by decide))
  clear h2 C1
  go_wp2_with fail
  refine (FS.out _).mono ?_
  rintro o w3 ⟨rfl, hw⟩
  have hw' := hw.symm
  subst hw'
  go_wp2_with fail
  refine C2.out.mono ?_
  rintro o w4 ⟨rfl, h4⟩
  have M4 := mine_create
  have C4 := hid (h4.appendD (by omega) mineK (by decide) s (by omega))
  have M5 := mine_append M4 s (by simp; omega)
  clear h4 C2 M4
  generalize ((Dr.new 100000).create mineK).1 = d1 at *
  have cv := fun W => conv_run W s
  go_wp2_with fail
  refine C4.out.mono ?_
  rintro o w5 ⟨rfl, h5⟩
  have C5 := hid (h5.syncD (by omega) mineK (by decide))
  have M6 := mine_sync M5
  clear h5 C4 M5 cv
  generalize (d1.append mineK s).1 = d2 at *
  go_wp2_with fail
  refine C5.out.mono ?_
  rintro o w6 ⟨rfl, h6⟩
  have M7 : MineSt (d2.sync mineK).1 s [] := by simpa using M6
  clear M6 C5
  generalize (d2.sync mineK).1 = d3 at *
  have HD6 := hid h6
  clear h6
  have hl1 : ¬ (9223372036854775807 < s.length) := by omega
  go_upto_block 0 with (at_builtin; refine wpList_append_strs rfl _ _ (os := []) (ns := [s]) (base := w6.heap.size) rfl rfl rfl rfl rfl (World.ownsRow_nil _ _ _ _) (fun h => by cases h) (fun ad had j u hu => cell_one_text had hu) (by simp) (by simp) ?_; intro A4 c4 w7 hown7 hb7)
  have K7 := hid (show KB w g r d3 (Dr.new 100000) (0 + 1) (.slice A4 (mayL s []).length c4) (mayL s []) w7 from by
    rw [mayL_nil]
    exact KB.first HD6.out hown7 (below_alloc_any (Nat.le_refl _) hb7) (by simp))
  clear hown7 hb7 HD6
  go_cut [11, 12] (fun al mv wx => ∃ (ps : List (List UInt8)) (d : Dr) (A5 : Option Addr) (c5 : Nat), ps.length ≤ 5 ∧ ps.flatten.length ≤ 350 ∧ al = .string (S (s ++ ps.flatten)) ∧ mv = .slice A5 (mayL s ps).length c5 ∧ Hid (MineSt d s ps) ∧ Hid (KB w g r d (Dr.new 100000) 6 (.slice A5 (mayL s ps).length c5) (mayL s ps) wx))
  case first =>
    go_wp2_with fail
    go_loopw [11, 12, 13] (fun al mv i wr => ∃ (k : Nat) (ps : List (List UInt8)) (d : Dr) (A5 : Option Addr) (c5 : Nat), k ≤ P.length ∧ k ≤ 5 ∧ i = .int .i64 k ∧ ps.length = k ∧ ps.flatten.length ≤ 70 * k ∧ al = .string (S (s ++ ps.flatten)) ∧ mv = .slice A5 (mayL s ps).length c5 ∧ Hid (MineSt d s ps) ∧
      Hid (KB w g r d (Dr.new 100000) (k + 1) (.slice A5 (mayL s ps).length c5) (mayL s ps) wr)) (fun _ _ i _ => 5 - (intOf i).toNat)
    case atStart => exact ⟨0, [], d3, A4, c4, Nat.zero_le _, by omega, rfl, rfl, by simp, by simp, rfl, hid M7, K7⟩
    case round =>
      obtain ⟨k, ps, d, A5, c5, hk, hk5, rfl, hpl, hfl, rfl, rfl, hM, hK⟩ := hrel
      by_cases h5 : k < 5
      · by_cases h : k < P.length
        · obtain ⟨b, off, hA1, hbl, hc⟩ := HP.out (by omega)
          subst hA1
          have hck := hc k h
          have hbel := hK.out.db.bel
          have ck := (hbel.cell (p := ⟨b, off + k, none⟩) hbl).trans hck
          have FP := hid (law13_few P[k])
          have hp70 : (P[k].take 70).length ≤ 70 := by simp; omega
          clear hc HP HA HIN
          generalize P[k] = p0 at *
          generalize hpk : p0.take 70 = pk at *
          have C1 := hid (hK.out.appendD (by omega) mineK (by decide) pk (by omega))
          have cv := fun W => conv_run W pk
          have M2 := hid (mine_append hM.out pk (by omega))
          have hno1 : ¬ (9223372036854775807 < s.length + ps.flatten.length + pk.length) := by omega
          have MS := hid (mayL_snoc s ps pk)
          have HML := hid (show (mayL s ps).length ≤ 6 by rw [mayL_len]; omega)
          have hfl2 := hid (show (ps ++ [pk]).flatten = ps.flatten ++ pk by simp)
          have hflen := hid (show (ps ++ [pk]).flatten.length ≤ 70 * (k + 1) by rw [hfl2.out, List.length_append]; omega)
          generalize (d.append mineK pk).1 = d5 at *
          generalize (d.append mineK pk).2 = e5 at *
          clear hK hM hbel hpk
          generalize ps.flatten = fl at *
          go_wp2_with fail
          refine (FP.out _).mono ?_
          rintro o w8 ⟨rfl, hw⟩
          have hw' := hw.symm
          subst hw'
          go_wp2_with fail
          refine C1.out.mono ?_
          rintro o w8 ⟨rfl, hK8⟩
          have ck8 := (hK8.db.bel.cell (p := ⟨b, off + k, none⟩) hbl).trans hck
          have hz8 := hK8.db.bel.size
          have K8 := hid hK8
          clear hK8 C1 ck cv
          go_wp2_with fail
          refine (FP.out _).mono ?_
          rintro o w9 ⟨rfl, hw⟩
          have hw' := hw.symm
          subst hw'
          go_wp2_with (at_builtin; refine wpList_append_strs2 rfl _ _ (os := mayL s ps) (ns := [s ++ (fl ++ pk)]) (base := w.heap.size) rfl rfl rfl rfl rfl (row_alloc K8.out.row _) (fun h => by cases h) (fun ad had j u hu => cell_one_text had hu) (by have := HML.out; simp; omega) (by simp; omega) ?_; intro A6 c6 w9 hown9 hb9 hg9 ho9)
          have hms : mayL s ps ++ [s ++ (fl ++ pk)] = mayL s (ps ++ [pk]) := by rw [MS.out, List.append_assoc]
          have K9 := hid (KB.grow (K8.out.below ((Below.refl _ _).alloc (Nat.le_refl _) _)) hown9 hb9 hg9 ho9)
          rw [hms] at K9
          have hln : (mayL s ps).length + 1 = (mayL s (ps ++ [pk])).length := by rw [← hms]; simp
          clear hown9 hb9 hg9 ho9
          go_roundw
          case rel => exact ⟨k + 1, ps ++ [pk], d5, A6, c6, by omega, by omega, by go_num, by simp [hpl], hflen.out, by rw [hfl2.out], by rw [hln], M2, K9⟩
          case measure => simp [intOf]; omega
        · go_wp2_with fail
          go_meet
          exact ⟨ps, d, A5, c5, by omega, by omega, rfl, rfl, hM, hid (hK.out.more (by omega))⟩
      · have hk' : k = 5 := by omega
        subst hk'
        by_cases h : 5 < P.length
        · go_wp2_with fail
          go_meet
          exact ⟨ps, d, A5, c5, by omega, by omega, rfl, rfl, hM, hid (hK.out.more (by omega))⟩
        · go_wp2_with fail
          go_meet
          exact ⟨ps, d, A5, c5, by omega, by omega, rfl, rfl, hM, hid (hK.out.more (by omega))⟩
  case rest =>
    obtain ⟨ps, d0, A5, c5, hpl, hfl, rfl, rfl, hM, hK⟩ := hcut
    have ST0 := hid (show KeepSt d0 s ps false from .inl hM.out.get)
    clear hM HP FS K7 M7
    go_upto_block 2 with fail
    go_cut [14] (fun gv wx => ∃ (gn : Bool) (d e : Dr), gv = .bool gn ∧ Hid (KeepSt d s ps gn ∧ KB w g r d e 46 (.slice A5 (mayL s ps).length c5) (mayL s ps) wx))
    case first =>
      go_wp2_with fail
      go_loopw [14, 15, 16] (fun gv i _ wr => ∃ (k : Nat) (gn : Bool) (N : Nat) (d e : Dr), k ≤ l.length ∧ k ≤ 20 ∧ i = .int .i64 k ∧ gv = .bool gn ∧ N = 6 + 2 * k ∧ Hid (KeepSt d s ps gn ∧ KB w g r d e N (.slice A5 (mayL s ps).length c5) (mayL s ps) wr)) (fun _ i _ _ => 20 - (intOf i).toNat)
      case atStart => exact ⟨0, false, 6, d0, _, Nat.zero_le _, by omega, rfl, rfl, rfl, ST0.out, hK.out⟩
      case round =>
        obtain ⟨k, gn, N, d, e, hk, hk20, rfl, rfl, hN, hJ⟩ := hrel
        by_cases h20 : k < 20
        · by_cases h : k < l.length
          · obtain ⟨b, off, hA1, hbl, hc⟩ := HA.out (by omega)
            subst hA1
            have hin := HIN.out k h
            obtain ⟨hc0, hc1, hc2, hc3, hc4⟩ := hc k h
            have hbel := hJ.out.2.db.bel
            clear hc HA HIN
            generalize l[k] = x at *
            obtain ⟨kind, n, a0, b0, A2, keep2, cap2⟩ := x
            simp only at hc0 hc1 hc2 hc3 hc4
            have c0 := (hbel.cell (p := ⟨b, off + k * 5, none⟩) hbl).trans hc0
            have c1 := (hbel.cell (p := ⟨b, off + k * 5 + 1, none⟩) hbl).trans hc1
            have c2 := (hbel.cell (p := ⟨b, off + k * 5 + 2, none⟩) hbl).trans hc2
            have c3 := (hbel.cell (p := ⟨b, off + k * 5 + 3, none⟩) hbl).trans hc3
            have c4 := (hbel.cell (p := ⟨b, off + k * 5 + 4, none⟩) hbl).trans hc4
            clear hc0 hc1 hc2 hc3 hc4 hbel
            have KW := hid (hJ.out.2.below ((Below.refl _ _).alloc (Nat.le_refl _) (.cells #[.int .i64 kind, .int .i64 n, .string (S a0), .string (S b0), .slice A2 keep2.length cap2] 35)))
            have FA := hid (law13_few a0)
            have FB := hid (law13_few b0)
            by_cases h7 : kind = 7
            · subst h7
              go_wp2
              go_roundw
              case rel => exact ⟨k + 1, gn, N + 2, d, e, by omega, by omega, by go_num, rfl, by omega, hJ.out.1, KW.out.more (by omega)⟩
              case measure => simp [intOf]; omega
            · have hP := @keep_does d N hJ.out.2.db.okD s ps gn hJ.out.1 ⟨kind, n, a0, b0, A2, keep2, cap2⟩ h7
              have Do := hid (KW.out.turn (fn := 14) (args := #[.pointer (some ⟨g, 0, none⟩), .pointer (some ⟨r, 0, none⟩), .agg #[.int .i64 kind, .int .i64 n, .string (S a0), .string (S b0), .slice A2 keep2.length cap2]]) (R := fun o => ∃ bv, o = .returned (.bool bv)) (fun X hX => (law13_does hX (by omega) ⟨kind, n, a0, b0, A2, keep2, cap2⟩ hin).mono fun o w' ⟨bv, h1, _, h2⟩ => ⟨⟨bv, h1⟩, h2⟩))
              have Al := hid KW.out.db.aliveD
              simp only at hP
              generalize doD d ⟨kind, n, a0, b0, A2, keep2, cap2⟩ = dd at *
              generalize doD e ⟨kind, n, a0, b0, A2, keep2, cap2⟩ = ee at *
              have HST := hid hJ.out.1
              generalize ha : a0.take 70 = a at *
              generalize hb : b0.take 70 = bb at *
              by_cases hma : a = [109, 105, 110, 101]
              · clear Do hP
                go_wp2_with fail
                refine (FA.out _).mono ?_
                rintro o w9 ⟨rfl, hw⟩
                have hw' := hw.symm
                subst hw'
                go_wp2
                go_roundw
                case rel => exact ⟨k + 1, gn, N + 2, d, e, by omega, by omega, by go_num, rfl, by omega, HST.out, KW.out.more (by omega)⟩
                case measure => simp [intOf]; omega
              · by_cases hmb : bb = [109, 105, 110, 101]
                · clear Do hP
                  go_wp2_with fail
                  refine (FA.out _).mono ?_
                  rintro o w9 ⟨rfl, hw⟩
                  have hw' := hw.symm
                  subst hw'
                  go_wp2_with fail
                  refine (FB.out _).mono ?_
                  rintro o w9 ⟨rfl, hw⟩
                  have hw' := hw.symm
                  subst hw'
                  go_wp2
                  go_roundw
                  case rel => exact ⟨k + 1, gn, N + 2, d, e, by omega, by omega, by go_num, rfl, by omega, HST.out, KW.out.more (by omega)⟩
                  case measure => simp [intOf]; omega
                · have KP := hid (hP hma hmb)
                  have hmb' : (bb == [109, 105, 110, 101]) = false := by simpa using hmb
                  have hma' : (a == [109, 105, 110, 101]) = false := by simpa using hma
                  clear hP hJ KW
                  go_wp2_with fail
                  refine (FA.out _).mono ?_
                  rintro o w9 ⟨rfl, hw⟩
                  have hw' := hw.symm
                  subst hw'
                  go_wp2_with fail
                  refine (FB.out _).mono ?_
                  rintro o w9 ⟨rfl, hw⟩
                  have hw' := hw.symm
                  subst hw'
                  clear FA FB
                  cases gn with
                  | true =>
                    go_wp2_with fail
                    refine Do.out.mono ?_
                    rintro o w9 ⟨⟨bv, rfl⟩, hk9⟩
                    have K9 := hid hk9
                    clear hk9 Do
                    go_wp2
                    go_roundw
                    case rel => exact ⟨k + 1, true, N + 2, _, _, by omega, by omega, by go_num, rfl, by omega, KP.out, K9.out⟩
                    case measure => simp [intOf]; omega
                  | false =>
                    by_cases h6 : kind = 6
                    · subst h6
                      generalize d.down = dn at *
                      go_wp2_with fail
                      refine Al.out.mono ?_
                      rintro o w9 ⟨rfl, hw⟩
                      have hw' := hw.symm
                      subst hw'
                      cases dn with
                      | true =>
                        go_wp2_with fail
                        refine Do.out.mono ?_
                        rintro o w9 ⟨⟨bv, rfl⟩, hk9⟩
                        have K9 := hid hk9
                        clear hk9 Do
                        go_wp2
                        go_roundw
                        case rel => exact ⟨k + 1, true, N + 2, _, _, by omega, by omega, by go_num, rfl, by omega, KP.out, K9.out⟩
                        case measure => simp [intOf]; omega
                      | false =>
                        go_wp2_with fail
                        refine Do.out.mono ?_
                        rintro o w9 ⟨⟨bv, rfl⟩, hk9⟩
                        have K9 := hid hk9
                        clear hk9 Do
                        go_wp2
                        go_roundw
                        case rel => exact ⟨k + 1, false, N + 2, _, _, by omega, by omega, by go_num, rfl, by omega, KP.out, K9.out⟩
                        case measure => simp [intOf]; omega
                    · have h6' : (kind == 6) = false := by simpa using h6
                      rw [h6'] at KP
                      go_wp2_with fail
                      refine Do.out.mono ?_
                      rintro o w9 ⟨⟨bv, rfl⟩, hk9⟩
                      have K9 := hid hk9
                      clear hk9 Do
                      go_wp2
                      go_roundw
                      case rel => exact ⟨k + 1, false, N + 2, _, _, by omega, by omega, by go_num, rfl, by omega, KP.out, K9.out⟩
                      case measure => simp [intOf]; omega
          · go_wp2_with fail
            go_meet
            exact ⟨gn, d, e, rfl, hJ.out.1, hJ.out.2.more (by omega)⟩
        · have hk' : k = 20 := by omega
          subst hk'
          by_cases h : 20 < l.length
          · go_wp2_with fail
            go_meet
            exact ⟨gn, d, e, rfl, hJ.out.1, hJ.out.2.more (by omega)⟩
          · go_wp2_with fail
            go_meet
            exact ⟨gn, d, e, rfl, hJ.out.1, hJ.out.2.more (by omega)⟩
    case rest =>
      obtain ⟨gn, d, e, rfl, hJ⟩ := hcut
      replace hJ := hJ.out
      have KS := keep_up hJ.1 keep
      have hR := keep_read KS (up_alive d keep)
      have Up := hid (hJ.2.turn (fn := 15) (args := #[.pointer (some ⟨g, 0, none⟩), .slice A3 keep.length cap3]) (R := fun o => o = .returned (.tuple #[])) (fun X hX => hX.upD_ (by omega) A3 keep cap3 hKA.out hKI.out hKL))
      have Al := hid hJ.2.db.aliveD
      have RD := hid (fun W (h : KB w g r (d.up keep) e 46 (.slice A5 (mayL s ps).length c5) (mayL s ps) W) => h.db.readD (by omega) mineK (by decide))
      unfold ReadPost at RD
      have HLEN := hid (show (mayL s ps).length ≤ 6 by rw [mayL_len]; omega)
      obtain ⟨r0, r1, r2⟩ := hR
      rw [r0] at RD
      generalize (d.up keep).read mineK = bs at *
      generalize d.up keep = d9 at *
      generalize hdn : d.down = dn at *
      have HR1 := hid r1
      have HR2 := hid r2
      clear hJ KS r0 r1 r2 HIN HA
      cases gn with
      | true =>
        go_wp2_with fail
        refine Up.out.mono ?_
        rintro o w9 ⟨rfl, hk9⟩
        have R9 := hid (RD.out _ hk9)
        have K9 := hid hk9
        clear hk9 Up RD Al
        go_wp2_with fail
        refine R9.out.mono ?_
        rintro o w10 ⟨v, rfl, hrow, hb10⟩
        obtain ⟨A10, c10, rfl⟩ := row_form hrow
        have ROW := hid (row_base hrow (Nat.zero_le _))
        have K10 := hid (K9.out.below hb10)
        clear hrow hb10 R9 K9
        have CEL := hid (fun W (hb : Below w10.heap.size w10 W) => strs_at (row_below' K10.out.row hb))
        have HSS := hid (fun W (hb : Below w10.heap.size w10 W) => show (convert 33 9 (.slice A10 bs.length c10)).run Try.prog W = .ok (.string (S bs)) W from run_string_row W (l := bs) (row_below' ROW.out hb))
        have BEL := hid K10.out.db.bel
        clear K10 ROW HR1
        generalize mayL s ps = ms at *
        go_wp2
        go_loopw [19] (fun i wr => ∃ j : Nat, j ≤ ms.length ∧ i = .int .i64 j ∧ Hid (Below w10.heap.size w10 wr) ∧ Hid (∀ i, (hi : i < ms.length) → i < j → ms[i] ≠ bs)) (fun i _ => ms.length - (intOf i).toNat)
        case atStart => exact ⟨0, Nat.zero_le _, rfl, hid (Below.refl _ _), hid (fun i _ h => absurd h (by omega))⟩
        case round =>
          obtain ⟨j, hj, rfl, hB, hN⟩ := hrel
          by_cases hlt : j < ms.length
          · obtain ⟨b, hA, hbl, hcj⟩ := CEL.out _ hB.out j hlt
            subst hA
            have HS := fun n => HSS.out _ (below_drewN hB.out n)
            have hln := HLEN.out
            have hlj : ms.length ≤ 6 := hln
            by_cases he : ms[j] = bs
            · rw [he] at hcj
              go_wp2
              go_quiet (fail)
              go_wp2_with fail
              refine (Lv.out _).mono ?_
              rintro o w11 ⟨rfl, hb11⟩
              have B := hid (bt BEL.out (hB.out.trans ((below_drewN (Below.refl _ _) _).trans (hb11.mono (by have := hB.out.size; first | omega | (simp; omega))))))
              clear hb11
              go_wp2
              go_ret
              exact ⟨rfl, B.out⟩
            · have HN2 := hid (show ∀ i, (hi : i < ms.length) → i < j + 1 → ms[i] ≠ bs from fun i hi h1 => by
                rcases Nat.lt_or_ge i j with h2 | h2
                · exact hN.out i hi h2
                · obtain rfl : i = j := by omega
                  exact he)
              have he' : ¬ (bs = ms[j]) := fun h => he h.symm
              have he2 : (bs == ms[j]) = false := by simpa using he'
              generalize ms[j] = mj at *
              go_wp2
              go_quiet (fail)
              go_wp2
              go_roundw
              case rel => exact ⟨j + 1, by omega, by go_num, by first | exact hid (below_drewN hB.out _) | exact hid hB.out, HN2⟩
              case measure => simp [intOf]; omega
          · exfalso
            obtain ⟨j0, hj0, hej⟩ := HR2.out
            exact hN.out j0 hj0 (by omega) hej
      | false =>
        go_wp2_with fail
        refine Al.out.mono ?_
        rintro o w8 ⟨rfl, hw⟩
        have hw' := hw.symm
        subst hw'
        cases dn with
        | true =>
          go_wp2_with fail
          refine Up.out.mono ?_
          rintro o w9 ⟨rfl, hk9⟩
          have R9 := hid (RD.out _ hk9)
          have K9 := hid hk9
          clear hk9 Up RD Al
          go_wp2_with fail
          refine R9.out.mono ?_
          rintro o w10 ⟨v, rfl, hrow, hb10⟩
          obtain ⟨A10, c10, rfl⟩ := row_form hrow
          have ROW := hid (row_base hrow (Nat.zero_le _))
          have K10 := hid (K9.out.below hb10)
          clear hrow hb10 R9 K9
          have CEL := hid (fun W (hb : Below w10.heap.size w10 W) => strs_at (row_below' K10.out.row hb))
          have HSS := hid (fun W (hb : Below w10.heap.size w10 W) => show (convert 33 9 (.slice A10 bs.length c10)).run Try.prog W = .ok (.string (S bs)) W from run_string_row W (l := bs) (row_below' ROW.out hb))
          have BEL := hid K10.out.db.bel
          clear K10 ROW HR1
          generalize mayL s ps = ms at *
          go_wp2
          go_loopw [19] (fun i wr => ∃ j : Nat, j ≤ ms.length ∧ i = .int .i64 j ∧ Hid (Below w10.heap.size w10 wr) ∧ Hid (∀ i, (hi : i < ms.length) → i < j → ms[i] ≠ bs)) (fun i _ => ms.length - (intOf i).toNat)
          case atStart => exact ⟨0, Nat.zero_le _, rfl, hid (Below.refl _ _), hid (fun i _ h => absurd h (by omega))⟩
          case round =>
            obtain ⟨j, hj, rfl, hB, hN⟩ := hrel
            by_cases hlt : j < ms.length
            · obtain ⟨b, hA, hbl, hcj⟩ := CEL.out _ hB.out j hlt
              subst hA
              have HS := fun n => HSS.out _ (below_drewN hB.out n)
              have hln := HLEN.out
              have hlj : ms.length ≤ 6 := hln
              by_cases he : ms[j] = bs
              · rw [he] at hcj
                go_wp2
                go_quiet (fail)
                go_wp2_with fail
                refine (Lv.out _).mono ?_
                rintro o w11 ⟨rfl, hb11⟩
                have B := hid (bt BEL.out (hB.out.trans ((below_drewN (Below.refl _ _) _).trans (hb11.mono (by have := hB.out.size; first | omega | (simp; omega))))))
                clear hb11
                go_wp2
                go_ret
                exact ⟨rfl, B.out⟩
              · have HN2 := hid (show ∀ i, (hi : i < ms.length) → i < j + 1 → ms[i] ≠ bs from fun i hi h1 => by
                  rcases Nat.lt_or_ge i j with h2 | h2
                  · exact hN.out i hi h2
                  · obtain rfl : i = j := by omega
                    exact he)
                have he' : ¬ (bs = ms[j]) := fun h => he h.symm
                have he2 : (bs == ms[j]) = false := by simpa using he'
                generalize ms[j] = mj at *
                go_wp2
                go_quiet (fail)
                go_wp2
                go_roundw
                case rel => exact ⟨j + 1, by omega, by go_num, by first | exact hid (below_drewN hB.out _) | exact hid hB.out, HN2⟩
                case measure => simp [intOf]; omega
            · exfalso
              obtain ⟨j0, hj0, hej⟩ := HR2.out
              exact hN.out j0 hj0 (by omega) hej
        | false =>
          go_wp2_with fail
          refine Up.out.mono ?_
          rintro o w9 ⟨rfl, hk9⟩
          have R9 := hid (RD.out _ hk9)
          have K9 := hid hk9
          clear hk9 Up RD Al
          go_wp2_with fail
          refine R9.out.mono ?_
          rintro o w10 ⟨v, rfl, hrow, hb10⟩
          obtain ⟨A10, c10, rfl⟩ := row_form hrow
          have ROW := hid (row_base hrow (Nat.zero_le _))
          have K10 := hid (K9.out.below hb10)
          clear hrow hb10 R9 K9
          obtain rfl := HR1.out rfl
          have HS : (convert 33 9 (.slice A10 (s ++ ps.flatten).length c10)).run Try.prog w10 = .ok (.string (S (s ++ ps.flatten))) w10 := run_string_row w10 (l := s ++ ps.flatten) ROW.out
          have BEL := hid K10.out.db.bel
          generalize s ++ ps.flatten = al at *
          go_wp2_with fail
          refine (Lv.out _).mono ?_
          rintro o w11 ⟨rfl, hb11⟩
          have B := hid (bt BEL.out hb11)
          clear hb11
          go_wp2
          go_ret
          exact ⟨rfl, B.out⟩
theorem row_DriveKeeps (s : ByteArray) (A1 : Option Addr) (n1 cap1 : Nat) (P : List (List UInt8)) (A : Option Addr) (n cap : Nat) (l : List VDeed) (A3 : Option Addr) (n3 cap3 : Nat) (keep : List Int) (w : World) (hs : s.size ≤ maxLen)
    (h1 : n1 = P.length ∧ P.length ≤ cap1 ∧ (cap1 : Int) ≤ 9223372036854775807 ∧ TextsAt w A1 P) (h : n = l.length ∧ l.length ≤ cap ∧ (cap : Int) ≤ 9223372036854775807 ∧ VDeedsIn w l ∧ VDeedsAt w A l)
    (h' : n3 = keep.length ∧ keep.length ≤ cap3 ∧ (cap3 : Int) ≤ 9223372036854775807 ∧ IntsIn keep ∧ IntsAt w A3 keep) :
    Calls Try.prog 3 #[.string s, .slice A1 n1 cap1, .slice A n cap, .slice A3 n3 cap3] w fun e w' => e = .returned (.bool true) ∧ Below w.heap.size w w' := by
  obtain ⟨rfl, p1, p2, p3⟩ := h1
  obtain ⟨rfl, q1, q2, q3, q4⟩ := h
  obtain ⟨rfl, k1, k2, k3, k4⟩ := h'
  rw [← S_of s]
  exact law_DriveKeeps s.data.toList A1 P cap1 A l cap A3 keep cap3 w (by omega) p3 (by omega) q3 q4 k4 k3 (by omega)
end Go.Proofs.Ytioillenlgpcgaa
