/- The law DriveUsed. -/
import Derived.Test.YtjmcnhpffpcboaaDoes
import Derived.Test.YtjmcnhpffpcboaaDBMore
import Derived.Deep.QuietTactic
import Derived.BigQuiet
set_option linter.unusedVariables false
set_option linter.unusedSimpArgs false
set_option maxHeartbeats 6400000
set_option maxRecDepth 100000
attribute [local go_sem ↓] Go.wp_at_zero Go.wp_at_succ
namespace Go.Proofs.Ytjmcnhpffpcboaa
open Go.RowKit

def fsum (m : List (Key × File)) (k : Nat) : Nat := ksum (fun f : File => f.all.length) (m.take k)
theorem law_DriveUsed (A : Option Addr) (l : List VDeed) (cap : Nat) (w : World) (hm : (l.length : Int) ≤ 9223372036854775807) (hin : VDeedsIn w l) (hA : VDeedsAt w A l) :
    Calls Try.prog 14 #[.slice A l.length cap] w fun e w' => e = .returned (.bool true) ∧ Below w.heap.size w w' := by
  have Lv := hid law13_lives
  have HIN := hid hin
  have HA := hid hA
  have NW := hid (DW.new 500 rfl w)
  have NR := hid (fun (W : World) (g : Nat) (h : DW w g (Dr.new 500) 0 [] W) => DB.newR h 500 rfl)
  clear hin hA
  go_enter Try.func14, Try.ntmps14
  go_wp2_with fail
  refine NW.out.mono ?_
  rintro e w1 ⟨g, rfl, h1⟩
  have C1 := hid (NR.out w1 g h1)
  clear h1 NW NR
  go_wp2_with fail
  refine C1.out.mono ?_
  rintro e w2 ⟨r, rfl, h2⟩
  have H2 := hid h2
  clear h2 C1
  go_wp2
  go_loopw [5, 6, 7, 8, 9, 10] (fun i _ _ _ _ _ wr => ∃ (k N : Nat) (d e : Dr), k ≤ l.length ∧ k ≤ 30 ∧ i = .int .i64 k ∧ N = 2 * k ∧ Hid (DB w g r d e N [] wr)) (fun i _ _ _ _ _ _ => 30 - (intOf i).toNat)
  case atStart => exact ⟨0, 0, _, _, Nat.zero_le _, by omega, rfl, rfl, H2.out⟩
  case round =>
    obtain ⟨k, N, d, e, hk, hk30, rfl, hN, hJ⟩ := hrel
    by_cases h30 : k < 30
    · by_cases h : k < l.length
      · obtain ⟨b, off, rfl, hbl, hc⟩ := HA.out (by omega)
        have hin := HIN.out k h
        obtain ⟨hc0, hc1, hc2, hc3, hc4⟩ := hc k h
        have hbel := hJ.out.bel
        clear hc HA HIN
        generalize l[k] = x at *
        obtain ⟨kind, n, a0, b0, A2, keep, cap2⟩ := x
        simp only at hc0 hc1 hc2 hc3 hc4
        have c0 := (hbel.cell (p := ⟨b, off + k * 5, none⟩) hbl).trans hc0
        have c1 := (hbel.cell (p := ⟨b, off + k * 5 + 1, none⟩) hbl).trans hc1
        have c2 := (hbel.cell (p := ⟨b, off + k * 5 + 2, none⟩) hbl).trans hc2
        have c3 := (hbel.cell (p := ⟨b, off + k * 5 + 3, none⟩) hbl).trans hc3
        have c4 := (hbel.cell (p := ⟨b, off + k * 5 + 4, none⟩) hbl).trans hc4
        clear hc0 hc1 hc2 hc3 hc4 hbel
        have Do := hid (law13_does hJ.out (by omega) ⟨kind, n, a0, b0, A2, keep, cap2⟩ hin)
        unfold vAgg DoesPost at Do
        simp only at Do
        generalize doD d ⟨kind, n, a0, b0, A2, keep, cap2⟩ = d2 at *
        generalize doD e ⟨kind, n, a0, b0, A2, keep, cap2⟩ = e2 at *
        clear hin hJ
        go_wp2_with fail
        refine Do.out.mono ?_
        rintro o w5 ⟨bb, rfl, -, h5⟩
        have H5 := hid h5
        have Al := hid h5.aliveD
        clear h5 Do c0 c1 c2 c3 c4 hbl
        cases hdn : d2.down with
        | true =>
          rw [hdn] at Al
          go_wp2_with fail
          refine Al.out.mono ?_
          rintro o w6 ⟨rfl, hw⟩
          have hw' := hw.symm
          subst hw'
          go_wp2
          go_roundw
          case rel => exact ⟨k + 1, N + 2, d2, e2, by omega, by omega, by go_num, by omega, H5.out⟩
          case measure => simp [intOf]; omega
        | false =>
          rw [hdn] at Al
          have hok := H5.out.okD
          have hN2 : N + 2 ≤ 1000000000 := by omega
          have Ls := hid (H5.out.listD [])
          unfold ListPost at Ls
          rw [live_list hdn] at Ls
          have Us := hid (fun W (hb : Below w5.heap.size w5 W) => (H5.out.below hb).used)
          have Rd := hid (fun W (hb : Below w5.heap.size w5 W) (j : Nat) (hj : j < d2.files.length) => show Calls Try.prog 37 #[.pointer (some ⟨g, 0, none⟩), .string (S d2.files[j].1)] W fun o w' => ∃ A c, o = .returned (.tuple #[.slice A d2.files[j].2.all.length c, .int .i64 0]) ∧ Below W.heap.size W w' from by
            refine ((H5.out.below hb).readD hN2 _ (by have := name_len hok hj; omega)).mono ?_
            rintro o w' ⟨v, rfl, hr, hb'⟩
            have hl := live_read hok hdn hj
            rw [hl.2] at hr
            obtain ⟨A, c, rfl⟩ := row_form hr
            rw [hl.1]
            exact ⟨A, c, rfl, hb'⟩)
          have hul : d2.used = ((fsum d2.files d2.files.length : Nat) : Int) := by rw [Dr.used_eq]; unfold fsum; rw [List.take_length]
          have hul2 := hok.used
          have hfl2 : d2.files.length ≤ 1000000 := by have := hok.files; omega
          have HSUM := hid (fun j => take_used d2.files j)
          have RISE := hid (fun j hj => name_rise hok (k := j) hj)
          clear hok hdn
          go_wp2_with fail
          refine Al.out.mono ?_
          rintro o w6 ⟨rfl, hw⟩
          have hw' := hw.symm
          subst hw'
          clear Al
          go_wp2_with fail
          refine Ls.out.mono ?_
          rintro o w6 ⟨v, rfl, hrow, hb6⟩
          obtain ⟨A6, c6, rfl⟩ := row_form hrow
          have NC := hid (show ∀ j, (hj : j < d2.files.length) → ∃ b, A6 = some ⟨b, 0, none⟩ ∧ b < w6.heap.size ∧ w6.cell? ⟨b, j, none⟩ = some (.string (S d2.files[j].1)) from fun j hj => by
            obtain ⟨b, q1, q2, q3⟩ := strs_at hrow j (by simpa using hj)
            exact ⟨b, q1, q2, by rw [q3]; simp⟩)
          rw [List.length_map] at *
          have HB6 := hid hb6
          clear hrow hb6 Ls
          go_wp2
          go_loopw [6, 8, 9, 10] (fun s jj _ _ wr => ∃ j : Nat, j ≤ d2.files.length ∧ jj = .int .i64 j ∧ s = .int .i64 (fsum d2.files j) ∧ Hid (Below w6.heap.size w6 wr)) (fun _ jj _ _ _ => d2.files.length - (intOf jj).toNat)
          case atStart => exact ⟨0, Nat.zero_le _, rfl, rfl, hid (Below.refl _ _)⟩
          case round =>
            obtain ⟨j, hj, rfl, rfl, hB⟩ := hrel
            by_cases hlt : j < d2.files.length
            · obtain ⟨b, hA, hbl, hcj⟩ := NC.out j hlt
              subst hA
              have cj := (hB.out.cell (p := ⟨b, j, none⟩) hbl).trans hcj
              have Rj := hid (Rd.out _ (bt HB6.out hB.out) j hlt)
              have st := hid (ksum_step d2.files hlt)
              have hsum := HSUM.out (j + 1)
              rw [st.out] at hsum
              have hfs : fsum d2.files (j + 1) = fsum d2.files j + d2.files[j].2.all.length := st.out
              have hno : ¬ (9223372036854775807 < fsum d2.files j + d2.files[j].2.all.length) := by
                have h1 := d2.used_eq
                unfold fsum
                omega
              have HFS := hid hfs
              have CJ := fun W (hb : Below w6.heap.size w6 W) => (hb.cell (p := ⟨b, j, none⟩) hbl).trans hcj
              have hj1 : ¬ (9223372036854775807 < j + 1) := by omega
              clear hsum hfs hul2 hcj st
              cases j with
              | zero =>
                clear CJ
                generalize d2.files[0].1 = nm at *
                generalize d2.files[0].2.all.length = la at *
                go_wp2_with fail
                refine Rj.out.mono ?_
                rintro o w7 ⟨A7, c7, rfl, hb7⟩
                have HB7 := hid (hB.out.trans (hb7.mono (by have := hB.out.size; omega)))
                clear hb7 Rj
                go_wp2
                go_quiet (fail)
                go_wp2
                go_roundw
                case rel => exact ⟨1, by omega, by go_num, by rw [HFS.out]; simp, by first | exact hid (below_drewN HB7.out _) | exact HB7⟩
                case measure => simp [intOf]; omega
              | succ m =>
                obtain ⟨r1, r2⟩ := RISE.out m hlt
                obtain ⟨b', hA', -, hcm⟩ := NC.out m (by omega)
                obtain rfl : b = b' := by injection hA' with hA'; injection hA'
                have cm := fun W (hb : Below w6.heap.size w6 W) => (hb.cell (p := ⟨b, m, none⟩) hbl).trans hcm
                generalize d2.files[m + 1].1 = nm at *
                generalize d2.files[m].1 = nm0 at *
                generalize d2.files[m + 1].2.all.length = la at *
                go_wp2_with fail
                refine Rj.out.mono ?_
                rintro o w7 ⟨A7, c7, rfl, hb7⟩
                have HB7 := hid (hB.out.trans (hb7.mono (by have := hB.out.size; omega)))
                have x1 := CJ _ HB7.out
                have x0 := cm _ HB7.out
                clear hb7 Rj CJ cm
                go_wp2
                go_quiet (fail)
                go_wp2
                go_roundw
                case rel => exact ⟨m + 2, by omega, by go_num, by rw [HFS.out]; simp, by first | exact hid (below_drewN HB7.out _) | exact HB7⟩
                case measure => simp [intOf]; omega
            · have hj' : j = d2.files.length := by omega
              subst hj'
              have U := hid (Us.out _ (bt HB6.out hB.out))
              rw [hul] at U
              have HF := hid (H5.out.below (bt HB6.out hB.out))
              generalize fsum d2.files d2.files.length = tot at *
              go_wp2_with fail
              refine U.out.mono ?_
              rintro o w8 ⟨rfl, hw⟩
              have hw' := hw.symm
              subst hw'
              go_wp2
              go_roundw
              case rel => exact ⟨k + 1, N + 2, d2, e2, by omega, by omega, by go_num, by omega, HF.out⟩
              case measure => simp [intOf]; omega
      · go_wp2_with fail
        refine (Lv.out _).mono ?_
        rintro e w3 ⟨rfl, hb3⟩
        have B := hid (bt hJ.out.bel hb3)
        clear hb3
        go_wp2
        go_ret
        exact ⟨rfl, B.out⟩
    · have hk' : k = 30 := by omega
      subst hk'
      by_cases h : 30 < l.length
      · go_wp2_with fail
        refine (Lv.out _).mono ?_
        rintro e w3 ⟨rfl, hb3⟩
        have B := hid (bt hJ.out.bel hb3)
        clear hb3
        go_wp2
        go_ret
        exact ⟨rfl, B.out⟩
      · go_wp2_with fail
        refine (Lv.out _).mono ?_
        rintro e w3 ⟨rfl, hb3⟩
        have B := hid (bt hJ.out.bel hb3)
        clear hb3
        go_wp2
        go_ret
        exact ⟨rfl, B.out⟩
theorem row_DriveUsed (A : Option Addr) (n cap : Nat) (l : List VDeed) (w : World) (h : n = l.length ∧ l.length ≤ cap ∧ (cap : Int) ≤ 9223372036854775807 ∧ VDeedsIn w l ∧ VDeedsAt w A l) :
    Calls Try.prog 14 #[.slice A n cap] w fun e w' => e = .returned (.bool true) ∧ Below w.heap.size w w' := by
  obtain ⟨rfl, h1, h2, h3, h4⟩ := h
  exact law_DriveUsed A l cap w (by omega) h3 h4
end Go.Proofs.Ytjmcnhpffpcboaa
