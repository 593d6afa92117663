/- The law StagesWay. -/
import Derived.Test.YtjmcnhpffpcboaaJMem
set_option linter.unusedVariables false
set_option linter.unusedSimpArgs false
set_option maxHeartbeats 1600000
set_option maxRecDepth 100000
namespace Go.Proofs.Ytjmcnhpffpcboaa
open Go.RowKit

theorem law_StagesWay (A : Option Addr) (l : List Int) (cap : Nat) (w : World) (hm : (l.length : Int) ≤ 9223372036854775807) (hin : IntsIn l) (hA : IntsAt w A l) :
    Calls Try.prog 9 #[.slice A l.length cap] w fun e w' => e = .returned (.bool true) ∧ Below w.heap.size w w' := by
  have Nw := hid (drive_New 1000 rfl w)
  have Lv := hid law19_lives
  have HIN := hid hin
  have HA := hid hA
  clear hin hA
  go_enter Try.func9, Try.ntmps9
  go_wp2_with fail
  refine Nw.out.mono ?_
  rintro e w1 ⟨g, fp, rfl, hdr, hb1, hge1⟩
  have Op := hid (JW.first hdr rfl hb1 hge1)
  clear hdr hb1 hge1
  go_wp2_with fail
  refine Op.out.mono ?_
  rintro e w2 ⟨j, rfl, hJ⟩
  have HJ := hid hJ
  clear hJ Op
  go_wp2
  go_loopw [5, 6] (fun a i wr => ∃ k s : Nat, k ≤ l.length ∧ k ≤ 20 ∧ i = .int .i64 k ∧ a = .int .i64 s ∧ Hid (JW w j g 1000 s k wr)) (fun _ i _ => 20 - (intOf i).toNat)
  case atStart => exact ⟨0, 1, Nat.zero_le _, by omega, rfl, rfl, HJ⟩
  case round =>
    obtain ⟨k, s, hk, hk20, rfl, rfl, hJ⟩ := hrel
    by_cases h20 : k < 20
    · by_cases h : k < l.length
      · obtain ⟨b, off, rfl, hbl, hc⟩ := HA.out (by omega)
        have hn := HIN.out k h
        have hc1 := hc k h
        have hbel := hJ.out.bel
        clear hc HA HIN
        generalize l[k] = n at *
        have c1 := (hbel.cell (p := ⟨b, off + k, none⟩) hbl).trans hc1
        have hcell := hid (fun (W : World) (a N : Nat) (hW : JW w j g 1000 a N W) => (hW.bel.cell (p := ⟨b, off + k, none⟩) hbl).trans hc1)
        clear hc1 hbel
        have M := hid (hJ.out.move (by omega) n hn)
        cases hb : mayB s n with
        | true =>
          have e1 : mvE 1000 s n = 0 := by unfold mvE; rw [hb, if_pos rfl, if_pos (by split <;> omega)]
          have e2 : mvT 1000 s n = n.toNat := by unfold mvT; rw [e1]; rfl
          rw [e1, e2] at M
          have hcs := mayB_cases hb
          clear e1 e2 hJ hb hn
          rcases hcs with ⟨rfl, rfl⟩ | ⟨rfl, rfl⟩ | ⟨rfl, rfl⟩ | ⟨rfl, rfl⟩ | ⟨rfl, rfl⟩ <;>
          · go_wp2_with fail
            refine M.out.mono ?_
            rintro e w3 ⟨rfl, hJ3⟩
            have Sg := hid (journal_Stage hJ3.jo)
            have HJ3 := hid hJ3
            have c3 := hcell.out _ _ _ hJ3
            clear hJ3 M c1
            go_wp2_with fail
            refine Sg.out.mono ?_
            rintro e w4 ⟨rfl, hw⟩
            have hw' := hw.symm
            subst hw'
            clear Sg
            go_wp2
            go_roundw
            case rel => exact ⟨k + 1, _, by omega, by omega, by go_num, rfl, HJ3⟩
            case measure => simp [intOf]; omega
        | false =>
          have e1 : mvE 1000 s n = 16 := by unfold mvE; rw [hb]; rfl
          have e2 : mvT 1000 s n = s := by unfold mvT; rw [e1]; rfl
          rw [e1, e2] at M
          clear e1 e2 hJ hb hn
          go_wp2_with fail
          refine M.out.mono ?_
          rintro e w3 ⟨rfl, hJ3⟩
          have Sg := hid (journal_Stage hJ3.jo)
          have HJ3 := hid hJ3
          clear hJ3 M
          go_wp2_with fail
          refine Sg.out.mono ?_
          rintro e w4 ⟨rfl, hw⟩
          have hw' := hw.symm
          subst hw'
          clear Sg
          go_wp2
          go_roundw
          case rel => exact ⟨k + 1, s, by omega, by omega, by go_num, rfl, HJ3⟩
          case measure => simp [intOf]; omega
      · go_wp2_with fail
        refine (Lv.out _).mono ?_
        rintro e w3 ⟨rfl, hb3⟩
        have B := hid (bt hJ.out.bel hb3)
        clear hb3
        go_wp2
        go_ret
        exact ⟨rfl, B.out⟩
    · have hk' : k = 20 := by omega
      subst hk'
      by_cases h : 20 < l.length
      · go_wp2_with fail
        refine (Lv.out _).mono ?_
        rintro e w3 ⟨rfl, hb3⟩
        have B := hid (bt hJ.out.bel hb3)
        clear hb3
        go_wp2
        go_ret
        exact ⟨rfl, B.out⟩
      · go_wp2_with fail
        refine (Lv.out _).mono ?_
        rintro e w3 ⟨rfl, hb3⟩
        have B := hid (bt hJ.out.bel hb3)
        clear hb3
        go_wp2
        go_ret
        exact ⟨rfl, B.out⟩

theorem row_StagesWay (A : Option Addr) (n cap : Nat) (l : List Int) (w : World) (h : n = l.length ∧ l.length ≤ cap ∧ (cap : Int) ≤ 9223372036854775807 ∧ IntsIn l ∧ IntsAt w A l) :
    Calls Try.prog 9 #[.slice A n cap] w fun e w' => e = .returned (.bool true) ∧ Below w.heap.size w w' := by
  obtain ⟨rfl, h1, h2, h3, h4⟩ := h
  exact law_StagesWay A l cap w (by omega) h3 h4
end Go.Proofs.Ytjmcnhpffpcboaa
