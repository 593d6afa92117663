/- The law DriveFull. -/
import Derived.Test.YtjmcnhpffpcboaaDoes
import Derived.Test.YtjmcnhpffpcboaaDFine
set_option linter.unusedVariables false
set_option linter.unusedSimpArgs false
set_option maxHeartbeats 6400000
set_option maxRecDepth 100000
attribute [local go_sem ↓] Go.wp_at_zero Go.wp_at_succ
namespace Go.Proofs.Ytjmcnhpffpcboaa
open Go.RowKit

def QU (q : Int) (d : Dr) : Prop := d.quota = q ∧ d.used ≤ q
theorem law_DriveFull (qq : Int) (hqq : In64 qq) (A : Option Addr) (l : List VDeed) (cap : Nat) (w : World) (hm : (l.length : Int) ≤ 9223372036854775807) (hin : VDeedsIn w l) (hA : VDeedsAt w A l) :
    Calls Try.prog 12 #[.int .i64 qq, .slice A l.length cap] w fun e w' => e = .returned (.bool true) ∧ Below w.heap.size w w' := by
  have Lv := hid law13_lives
  have HIN := hid hin
  have HA := hid hA
  have NW := hid (fun (q : Int) (h0 : 0 ≤ q) (h1 : q ≤ 300) => DW.new q (show quotableB q = true by unfold quotableB; simp; omega) w)
  have NR := hid (fun (q : Int) (h0 : 0 ≤ q) (h1 : q ≤ 300) (W : World) (g : Nat) (h : DW w g (Dr.new q) 0 [] W) => DB.newR h q (show quotableB q = true by unfold quotableB; simp; omega))
  clear hin hA
  go_enter Try.func12, Try.ntmps12
  go_upto_if 12 with fail
  go_cut [0] (fun v wr => wr = w ∧ ∃ m : Int, 0 ≤ m ∧ m ≤ 9223372036854775807 ∧ v = .int .i64 m)
  case first =>
    obtain ⟨u0, u1⟩ := hqq
    by_cases hneg : qq < 0
    · go_wp2_with fail
      go_meet
      exact ⟨rfl, -(qq + 1), by omega, by omega, by go_num⟩
    · go_wp2_with fail
      go_meet
      exact ⟨rfl, qq, by omega, by omega, rfl⟩
  case rest =>
    obtain ⟨rfl, m, h0, h1, rfl⟩ := hcut
    have NQ := hid (NW.out (m % 301) (by omega) (by omega))
    have RQ := hid (NR.out (m % 301) (by omega) (by omega))
    have hq0 : 0 ≤ m % 301 := by omega
    have hq1 : m % 301 ≤ 300 := by omega
    clear NW NR hqq
    go_wp2_with fail
    generalize m % 301 = q at *
    refine NQ.out.mono ?_
    rintro e w1 ⟨g, rfl, h1⟩
    have C1 := hid (RQ.out w1 g h1)
    clear h1 NQ RQ
    go_wp2_with fail
    refine C1.out.mono ?_
    rintro e w2 ⟨r, rfl, h2⟩
    have H2 := hid h2
    clear h2 C1
    go_wp2
    go_loopw [7, 8, 9, 10] (fun i xb was de wr => ∃ (k N : Nat) (d e : Dr), k ≤ l.length ∧ k ≤ 30 ∧ i = .int .i64 k ∧ N = 2 * k ∧ Hid (DB wc g r d e N [] wr ∧ QU q d)) (fun i _ _ _ _ => 30 - (intOf i).toNat)
    case atStart => exact ⟨0, 0, _, _, Nat.zero_le _, by omega, rfl, rfl, H2.out, rfl, by show (0 : Int) ≤ _; omega⟩
    case round =>
      obtain ⟨k, N, d, e, hk, hk30, rfl, hN, hJ⟩ := hrel
      by_cases h30 : k < 30
      · by_cases h : k < l.length
        · obtain ⟨b, off, rfl, hbl, hc⟩ := HA.out (by omega)
          have hin := HIN.out k h
          obtain ⟨hc0, hc1, hc2, hc3, hc4⟩ := hc k h
          have hbel := hJ.out.1.bel
          clear hc HA HIN
          generalize l[k] = x at *
          obtain ⟨kind, n, a0, b0, A2, keep, cap2⟩ := x
          simp only at hc0 hc1 hc2 hc3 hc4
          have c0 := (hbel.cell (p := ⟨b, off + k * 5, none⟩) hbl).trans hc0
          have c1 := (hbel.cell (p := ⟨b, off + k * 5 + 1, none⟩) hbl).trans hc1
          have c2 := (hbel.cell (p := ⟨b, off + k * 5 + 2, none⟩) hbl).trans hc2
          have c3 := (hbel.cell (p := ⟨b, off + k * 5 + 3, none⟩) hbl).trans hc3
          have c4 := (hbel.cell (p := ⟨b, off + k * 5 + 4, none⟩) hbl).trans hc4
          clear hc0 hc1 hc2 hc3 hc4 hbel
          have HW := hid (hJ.out.1.with_ 66 #[.int .i64 kind, .int .i64 n, .string (S a0), .string (S b0), .slice A2 keep.length cap2])
          by_cases h7 : kind = 7
          · subst h7
            have HR := hid (HW.out.drop.more (M := N + 2) (by omega))
            clear HW
            go_wp2
            go_roundw
            case rel => exact ⟨k + 1, N + 2, d, e, by omega, by omega, by go_num, by omega, HR.out, hJ.out.2⟩
            case measure => simp [intOf]; omega
          · have U1 := hid HW.out.used
            have D1 := hid HW.out.deeds
            have hP := doD_full hJ.out.1.okD ⟨kind, n, a0, b0, A2, keep, cap2⟩ h7
            have hS := doD_still hJ.out.1.okD ⟨kind, n, a0, b0, A2, keep, cap2⟩
            have Do := hid (law13_does HW.out (by omega) ⟨kind, n, a0, b0, A2, keep, cap2⟩ hin)
            unfold vAgg DoesPost at Do
            simp only at Do hS
            generalize doD d ⟨kind, n, a0, b0, A2, keep, cap2⟩ = d2 at *
            generalize doD e ⟨kind, n, a0, b0, A2, keep, cap2⟩ = e2 at *
            have hq2 : d2.quota = q := hP.1.trans hJ.out.2.1
            have hu2 : ¬ (q < d2.used) := by have := hJ.out.2.1; have := hP.2 (by rw [this]; exact hJ.out.2.2); omega
            have hu0 : ¬ (d2.used < 0) := by have := used_nonneg d2; omega
            clear hin hJ hP HW
            have FIN : Hid (∀ W, DB wc g r d2 e2 (N + 2) [(wr.heap.size, 66, #[.int .i64 kind, .int .i64 n, .string (S a0), .string (S b0), .slice A2 keep.length cap2])] W → Hid (DB wc g r d2 e2 (N + 2) [] W ∧ QU q d2)) := fun W hW => ⟨hW.drop, hq2, by omega⟩
            clear hq2
            have U3 := hid (fun W (hW : DB wc g r d2 e2 (N + 2) [(wr.heap.size, 66, #[.int .i64 kind, .int .i64 n, .string (S a0), .string (S b0), .slice A2 keep.length cap2])] W) => hW.used)
            have D3 := hid (fun W (hW : DB wc g r d2 e2 (N + 2) [(wr.heap.size, 66, #[.int .i64 kind, .int .i64 n, .string (S a0), .string (S b0), .slice A2 keep.length cap2])] W) => hW.deeds)
            have K3 := hid (fun W (hW : DB wc g r d2 e2 (N + 2) [(wr.heap.size, 66, #[.int .i64 kind, .int .i64 n, .string (S a0), .string (S b0), .slice A2 keep.length cap2])] W) => (show W.cell? ⟨wr.heap.size, 0, none⟩ = some (.int .i64 kind) from (hW.blk (x := (wr.heap.size, 66, #[.int .i64 kind, .int .i64 n, .string (S a0), .string (S b0), .slice A2 keep.length cap2])) (by simp)).cell 0))
            generalize d2.used = u2 at *
            generalize d2.deeds = dd2 at *
            generalize d.used = u1 at *
            generalize d.deeds = dd1 at *
            go_wp2_with fail
            refine U1.out.mono ?_
            rintro o w4 ⟨rfl, hw⟩
            have hw' := hw.symm
            subst hw'
            go_wp2_with fail
            refine D1.out.mono ?_
            rintro o w4 ⟨rfl, hw⟩
            have hw' := hw.symm
            subst hw'
            go_wp2_with fail
            refine Do.out.mono ?_
            rintro o w5 ⟨bb, rfl, -, h5⟩
            have U5 := hid (U3.out _ h5)
            have D5 := hid (D3.out _ h5)
            have K5 := K3.out _ h5
            have F5 := hid (FIN.out _ h5)
            clear h5 U3 D3 K3 FIN U1 D1 Do c0 c1 c2 c3 c4
            go_wp2_with fail
            refine U5.out.mono ?_
            rintro o w6 ⟨rfl, hw⟩
            have hw' := hw.symm
            subst hw'
            go_wp2_with fail
            refine U5.out.mono ?_
            rintro o w6 ⟨rfl, hw⟩
            have hw' := hw.symm
            subst hw'
            by_cases hd : dd2 = dd1
            · by_cases h6 : kind = 6
              · subst h6
                by_cases hu : u2 = u1
                · subst hd hu
                  go_wp2_with fail
                  refine D5.out.mono ?_
                  rintro o w6 ⟨rfl, hw⟩
                  have hw' := hw.symm
                  subst hw'
                  go_wp2_with fail
                  refine U5.out.mono ?_
                  rintro o w6 ⟨rfl, hw⟩
                  have hw' := hw.symm
                  subst hw'
                  go_wp2
                  go_roundw
                  case rel => exact ⟨k + 1, N + 2, d2, e2, by omega, by omega, by go_num, by omega, F5.out⟩
                  case measure => simp [intOf]; omega
                · subst hd
                  go_wp2_with fail
                  refine D5.out.mono ?_
                  rintro o w6 ⟨rfl, hw⟩
                  have hw' := hw.symm
                  subst hw'
                  go_wp2_with fail
                  refine U5.out.mono ?_
                  rintro o w6 ⟨rfl, hw⟩
                  have hw' := hw.symm
                  subst hw'
                  go_wp2
                  go_roundw
                  case rel => exact ⟨k + 1, N + 2, d2, e2, by omega, by omega, by go_num, by omega, F5.out⟩
                  case measure => simp [intOf]; omega
              · have hu := hS h6 hd
                subst hd hu
                go_wp2_with fail
                refine D5.out.mono ?_
                rintro o w6 ⟨rfl, hw⟩
                have hw' := hw.symm
                subst hw'
                go_wp2_with fail
                refine U5.out.mono ?_
                rintro o w6 ⟨rfl, hw⟩
                have hw' := hw.symm
                subst hw'
                go_wp2
                go_roundw
                case rel => exact ⟨k + 1, N + 2, d2, e2, by omega, by omega, by go_num, by omega, F5.out⟩
                case measure => simp [intOf]; omega
            · go_wp2_with fail
              refine D5.out.mono ?_
              rintro o w6 ⟨rfl, hw⟩
              have hw' := hw.symm
              subst hw'
              go_wp2
              go_roundw
              case rel => exact ⟨k + 1, N + 2, d2, e2, by omega, by omega, by go_num, by omega, F5.out⟩
              case measure => simp [intOf]; omega
        · go_wp2_with fail
          refine (Lv.out _).mono ?_
          rintro e w3 ⟨rfl, hb3⟩
          have B := hid (bt hJ.out.1.bel hb3)
          clear hb3
          go_wp2
          go_ret
          exact ⟨rfl, B.out⟩
      · have hk' : k = 30 := by omega
        subst hk'
        by_cases h : 30 < l.length
        · go_wp2_with fail
          refine (Lv.out _).mono ?_
          rintro e w3 ⟨rfl, hb3⟩
          have B := hid (bt hJ.out.1.bel hb3)
          clear hb3
          go_wp2
          go_ret
          exact ⟨rfl, B.out⟩
        · go_wp2_with fail
          refine (Lv.out _).mono ?_
          rintro e w3 ⟨rfl, hb3⟩
          have B := hid (bt hJ.out.1.bel hb3)
          clear hb3
          go_wp2
          go_ret
          exact ⟨rfl, B.out⟩
theorem row_DriveFull (q : Int) (A : Option Addr) (n cap : Nat) (l : List VDeed) (w : World) (hq : (Lit.int .i64 q).wf = true) (h : n = l.length ∧ l.length ≤ cap ∧ (cap : Int) ≤ 9223372036854775807 ∧ VDeedsIn w l ∧ VDeedsAt w A l) :
    Calls Try.prog 12 #[.int .i64 q, .slice A n cap] w fun e w' => e = .returned (.bool true) ∧ Below w.heap.size w w' := by
  obtain ⟨rfl, h1, h2, h3, h4⟩ := h
  exact law_DriveFull q (wf64 hq) A l cap w (by omega) h3 h4
end Go.Proofs.Ytjmcnhpffpcboaa
