/- The law StagesPlay. -/
import Derived.Test.YtjmcnhpffpcboaaPlayMem
import Derived.Test.YtjmcnhpffpcboaaKept
set_option linter.unusedVariables false
set_option linter.unusedSimpArgs false
set_option maxHeartbeats 12800000
set_option maxRecDepth 100000
namespace Go.Proofs.Ytjmcnhpffpcboaa
open Go.RowKit

theorem law_StagesPlay (A : Option Addr) (l : List SDeed) (cap : Nat) (w : World) (hm : (l.length : Int) ≤ 9223372036854775807) (hin : DeedsIn w l) (hA : DeedsAt w A l) :
    Calls Try.prog 17 #[.slice A l.length cap] w fun e w' => e = .returned (.bool true) ∧ Below w.heap.size w w' := by
  have Nw := hid (drive_New 1000 rfl w)
  have Lv := hid law19_lives
  have HIN := hid hin
  have HA := hid hA
  have R := hid (fun a b W => ref19_May a b W)
  clear hin hA
  go_enter Try.func17, Try.ntmps17
  go_wp2_with fail
  refine Nw.out.mono ?_
  rintro e w1 ⟨g, fp, rfl, hdr, hb1, hge1⟩
  have Op := hid (PW.first hdr hb1 hge1)
  clear hdr hb1 hge1 Nw
  go_wp2_with fail
  refine Op.out.mono ?_
  rintro e w2 ⟨j0, rfl, hJ⟩
  have HJ := hid hJ
  clear hJ Op
  go_wp2
  go_loopw [4, 6, 7, 8] (fun jj a o i wr => ∃ (k s j : Nat) (dn : Bool) (ov : Int), k ≤ l.length ∧ k ≤ 40 ∧ jj = .pointer (some ⟨j, 0, none⟩) ∧ i = .int .i64 k ∧ a = .int .i64 s ∧ o = .int .i64 ov ∧ Hid (PW w j g s dn k [] wr)) (fun _ _ _ i _ => 40 - (intOf i).toNat)
  case atStart => exact ⟨0, 1, j0, false, 0, Nat.zero_le _, by omega, rfl, rfl, rfl, rfl, HJ⟩
  case round =>
    obtain ⟨k, s, j, dn, ov, hk, hk20, rfl, rfl, rfl, rfl, hJ⟩ := hrel
    by_cases h20 : k < 40
    · by_cases h : k < l.length
      · obtain ⟨b, off, rfl, hbl, hc⟩ := HA.out (by omega)
        obtain ⟨hn, hka, hki, hkl⟩ := HIN.out k h
        obtain ⟨hc0, hc1, hc2⟩ := hc k h
        have hbel := hJ.out.bel
        clear hc HA HIN
        generalize l[k] = x at *
        obtain ⟨kind, n, A2, keep, cap2⟩ := x
        simp only at hc0 hc1 hc2 hn hka hki hkl
        have c0 := (hbel.cell (p := ⟨b, off + k * 3, none⟩) hbl).trans hc0
        have c1 := (hbel.cell (p := ⟨b, off + k * 3 + 1, none⟩) hbl).trans hc1
        have c2 := (hbel.cell (p := ⟨b, off + k * 3 + 2, none⟩) hbl).trans hc2
        clear hc0 hc1 hc2 hbel
        by_cases hk1 : kind = 1
        · subst hk1
          have M := hid ((hJ.out.with_ 78 #[.int .i64 1, .int .i64 n, .slice A2 keep.length cap2]).arm n hn)
          clear hJ hka hki hkl hn
          go_wp2_with fail
          refine M.out.mono ?_
          rintro e w3 ⟨rfl, hJ3⟩
          have HJ3 := hid (hJ3.drop.more (M := k + 1) (by omega))
          clear hJ3 M c0 c1 c2
          go_wp2
          go_roundw
          case rel => exact ⟨k + 1, s, j, dn, ov, by omega, by omega, rfl, by go_num, rfl, rfl, HJ3⟩
          case measure => simp [intOf]; omega
        · by_cases hk2 : kind = 2
          · subst hk2
            have M := hid ((hJ.out.with_ 78 #[.int .i64 2, .int .i64 n, .slice A2 keep.length cap2]).up (by omega) A2 keep cap2 hka hki hkl)
            clear hJ hka hki hkl hn
            go_wp2_with fail
            refine M.out.mono ?_
            rintro e w3 ⟨rfl, hJ3⟩
            have Op := hid (hJ3.open_ (by omega))
            clear hJ3 M c0 c1 c2
            go_wp2_with fail
            refine Op.out.mono ?_
            rintro e w4 ⟨j2, rfl, hJ4⟩
            have S1 := hid (journal_Stage hJ4.jo)
            have HJ4 := hid (hJ4.drop.more (M := k + 1) (by omega))
            clear hJ4 Op
            go_wp2_with fail
            refine S1.out.mono ?_
            rintro e w6 ⟨rfl, hw⟩
            have hw' := hw.symm
            subst hw'
            go_wp2_with fail
            refine S1.out.mono ?_
            rintro e w6 ⟨rfl, hw⟩
            have hw' := hw.symm
            subst hw'
            go_wp2
            go_roundw
            case rel => exact ⟨k + 1, s, j2, false, 0, by omega, by omega, rfl, by go_num, rfl, rfl, HJ4⟩
            case measure => simp [intOf]; omega
          · have q1 : (kind == 1) = false := by simpa using hk1
            have q2 : (kind == 2) = false := by simpa using hk2
            have HW := hid (hJ.out.with_ 78 #[.int .i64 kind, .int .i64 n, .slice A2 keep.length cap2])
            have Al := hid HW.out.alive
            have M := hid (HW.out.move (by omega) n hn)
            have XB := hid (fun (W : World) (a : Nat) (d : Bool) (N : Nat) (h : PW w j g a d N [(wr.heap.size, 78, #[.int .i64 kind, .int .i64 n, .slice A2 keep.length cap2])] W) => (h.blk (x := (wr.heap.size, 78, #[.int .i64 kind, .int .i64 n, .slice A2 keep.length cap2])) (by simp)).cell 1)
            have Rm := hid (fun W => R.out s n W)
            clear hJ hka hki hkl hn HW
            go_wp2_with fail
            refine Al.out.mono ?_
            rintro e w3 ⟨rfl, hw⟩
            have hw' := hw.symm
            subst hw'
            clear Al
            go_wp2_with fail
            refine M.out.mono ?_
            rintro e w3 hcs
            clear M c0 c1 c2
            rcases hcs with ⟨rfl, rfl, hJ3⟩ | ⟨rfl, hb, rfl, hJ3⟩ | ⟨rfl, hb, rfl, hJ3⟩ | ⟨rfl, hb, m, rfl, rfl, hJ3⟩
            · have x1 := XB.out _ _ _ _ hJ3
              simp only [List.getElem?_toArray, List.getElem?_cons_succ, List.getElem?_cons_zero] at x1
              have HJ3 := hid hJ3.drop
              clear hJ3 XB
              go_wp2_with fail
              refine (Rm.out _).mono ?_
              rintro e w5 ⟨rfl, hw⟩
              have hw' := hw.symm
              subst hw'
              go_wp2
              go_roundw
              case rel => exact ⟨k + 1, s, j, true, ov, by omega, by omega, rfl, by go_num, rfl, rfl, HJ3⟩
              case measure => simp [intOf]; omega
            · have x1 := XB.out _ _ _ _ hJ3
              simp only [List.getElem?_toArray, List.getElem?_cons_succ, List.getElem?_cons_zero] at x1
              have S1 := hid (journal_Stage hJ3.jo)
              have HJ3 := hid hJ3.drop
              rw [hb] at Rm
              clear hJ3 XB hb
              go_wp2_with fail
              refine (Rm.out _).mono ?_
              rintro e w5 ⟨rfl, hw⟩
              have hw' := hw.symm
              subst hw'
              go_wp2_with fail
              refine S1.out.mono ?_
              rintro e w6 ⟨rfl, hw⟩
              have hw' := hw.symm
              subst hw'
              go_wp2
              go_roundw
              case rel => exact ⟨k + 1, s, j, false, ov, by omega, by omega, rfl, by go_num, rfl, rfl, HJ3⟩
              case measure => simp [intOf]; omega
            · have x1 := XB.out _ _ _ _ hJ3
              simp only [List.getElem?_toArray, List.getElem?_cons_succ, List.getElem?_cons_zero] at x1
              have HJ3 := hid hJ3.drop
              rw [hb] at Rm
              clear hJ3 XB hb
              go_wp2_with fail
              refine (Rm.out _).mono ?_
              rintro e w5 ⟨rfl, hw⟩
              have hw' := hw.symm
              subst hw'
              go_wp2
              go_roundw
              case rel => exact ⟨k + 1, s, j, true, n, by omega, by omega, rfl, by go_num, rfl, rfl, HJ3⟩
              case measure => simp [intOf]; omega
            · have x1 := XB.out _ _ _ _ hJ3
              simp only [List.getElem?_toArray, List.getElem?_cons_succ, List.getElem?_cons_zero] at x1
              have S1 := hid (journal_Stage hJ3.jo)
              have HJ3 := hid hJ3.drop
              rw [hb] at Rm
              clear hJ3 XB hb
              go_wp2_with fail
              refine (Rm.out _).mono ?_
              rintro e w5 ⟨rfl, hw⟩
              have hw' := hw.symm
              subst hw'
              go_wp2_with fail
              refine S1.out.mono ?_
              rintro e w6 ⟨rfl, hw⟩
              have hw' := hw.symm
              subst hw'
              go_wp2
              go_roundw
              case rel => exact ⟨k + 1, m, j, false, ov, by omega, by omega, rfl, by go_num, rfl, rfl, HJ3⟩
              case measure => simp [intOf]; omega
      · go_wp2_with fail
        refine (Lv.out _).mono ?_
        rintro e w3 ⟨rfl, hb3⟩
        have B := hid (bt hJ.out.bel hb3)
        clear hb3
        go_wp2
        go_ret
        exact ⟨rfl, B.out⟩
    · have hk' : k = 40 := by omega
      subst hk'
      by_cases h : 40 < l.length
      · go_wp2_with fail
        refine (Lv.out _).mono ?_
        rintro e w3 ⟨rfl, hb3⟩
        have B := hid (bt hJ.out.bel hb3)
        clear hb3
        go_wp2
        go_ret
        exact ⟨rfl, B.out⟩
      · go_wp2_with fail
        refine (Lv.out _).mono ?_
        rintro e w3 ⟨rfl, hb3⟩
        have B := hid (bt hJ.out.bel hb3)
        clear hb3
        go_wp2
        go_ret
        exact ⟨rfl, B.out⟩
theorem row_StagesPlay (A : Option Addr) (n cap : Nat) (l : List SDeed) (w : World) (h : n = l.length ∧ l.length ≤ cap ∧ (cap : Int) ≤ 9223372036854775807 ∧ DeedsIn w l ∧ DeedsAt w A l) :
    Calls Try.prog 17 #[.slice A n cap] w fun e w' => e = .returned (.bool true) ∧ Below w.heap.size w w' := by
  obtain ⟨rfl, h1, h2, h3, h4⟩ := h
  exact law_StagesPlay A l cap w (by omega) h3 h4
end Go.Proofs.Ytjmcnhpffpcboaa
