/- The law DriveTwice. -/
import Derived.Test.YtjmcnhpffpcboaaDoes
import Derived.Test.YtjmcnhpffpcboaaLike
set_option linter.unusedVariables false
set_option linter.unusedSimpArgs false
set_option maxHeartbeats 6400000
set_option maxRecDepth 100000
attribute [local go_sem ↓] Go.wp_at_zero Go.wp_at_succ
namespace Go.Proofs.Ytjmcnhpffpcboaa
open Go.RowKit

def freshK : Key := [102, 114, 101, 115, 104]
theorem up_twice (d : Dr) (keep : List Int) : ((d.up keep).arm 0).up keep = d.up keep := by
  unfold Dr.up
  cases hd : d.down with
  | true => rfl
  | false => simp [Dr.arm, hd]
theorem up_live (d : Dr) (keep : List Int) : (d.up keep).down = false ∧ (d.up keep).left = -1 := by
  unfold Dr.up
  split
  · exact ⟨rfl, rfl⟩
  · rename_i hd
    exact ⟨by simpa using hd, rfl⟩
theorem fresh_ne {d : Dr} {k : Key} (h1 : d.down = false) (h2 : d.left = -1) : ¬ ((d.create k).2 = 13) := by
  have he : d.createE k ≠ 13 := by
    unfold Dr.createE
    split
    · decide
    · split
      · decide
      · split <;> decide
  unfold Dr.create Dr.deed
  split
  · show ¬ ((0 : Int) = 13)
    decide
  · unfold Dr.may
    rw [h1, h2]
    simp only [Bool.false_eq_true, if_false]
    split
    · exact he
    · simp
theorem law_DriveTwice (A : Option Addr) (l : List VDeed) (cap : Nat) (A3 : Option Addr) (keep : List Int) (cap3 : Nat) (w : World) (hm : (l.length : Int) ≤ 9223372036854775807) (hin : VDeedsIn w l) (hA : VDeedsAt w A l) (hka : IntsAt w A3 keep) (hki : IntsIn keep) (hKL : (keep.length : Int) ≤ 9223372036854775807) :
    Calls Try.prog 16 #[.slice A l.length cap, .slice A3 keep.length cap3] w fun e w' => e = .returned (.bool true) ∧ Below w.heap.size w w' := by
  have Lv := hid law13_lives
  have HIN := hid hin
  have HA := hid hA
  have hKA := hid hka
  have hKI := hid hki
  have NW := hid (DW.new 1000 rfl w)
  have NR := hid (fun (W : World) (g : Nat) (h : DW w g (Dr.new 1000) 0 [] W) => DB.newR h 1000 rfl)
  clear hin hA hka hki
  go_enter Try.func16, Try.ntmps16
  go_wp2_with fail
  refine NW.out.mono ?_
  rintro e w1 ⟨g, rfl, h1⟩
  have C1 := hid (NR.out w1 g h1)
  clear h1 NW NR
  go_wp2_with fail
  refine C1.out.mono ?_
  rintro e w2 ⟨r, rfl, h2⟩
  have H2 := hid h2
  clear h2 C1
  go_wp2
  go_loopw [7] (fun i wr => ∃ (k N : Nat) (d : Dr), k ≤ l.length ∧ k ≤ 20 ∧ i = .int .i64 k ∧ N = 2 * k ∧ Hid (DB w g r d d N [] wr)) (fun i _ => 20 - (intOf i).toNat)
  case atStart => exact ⟨0, 0, _, Nat.zero_le _, by omega, rfl, rfl, H2.out⟩
  case round =>
    obtain ⟨k, N, d, hk, hk20, rfl, hN, hJ⟩ := hrel
    by_cases h20 : k < 20
    · by_cases h : k < l.length
      · obtain ⟨b, off, rfl, hbl, hc⟩ := HA.out (by omega)
        have hin := HIN.out k h
        obtain ⟨hc0, hc1, hc2, hc3, hc4⟩ := hc k h
        have hbel := hJ.out.bel
        clear hc HA HIN
        generalize l[k] = x at *
        obtain ⟨kind, n, a0, b0, A2, keep2, cap2⟩ := x
        simp only at hc0 hc1 hc2 hc3 hc4
        have c0 := (hbel.cell (p := ⟨b, off + k * 5, none⟩) hbl).trans hc0
        have c1 := (hbel.cell (p := ⟨b, off + k * 5 + 1, none⟩) hbl).trans hc1
        have c2 := (hbel.cell (p := ⟨b, off + k * 5 + 2, none⟩) hbl).trans hc2
        have c3 := (hbel.cell (p := ⟨b, off + k * 5 + 3, none⟩) hbl).trans hc3
        have c4 := (hbel.cell (p := ⟨b, off + k * 5 + 4, none⟩) hbl).trans hc4
        clear hc0 hc1 hc2 hc3 hc4 hbel
        have Do := hid (law13_does hJ.out (by omega) ⟨kind, n, a0, b0, A2, keep2, cap2⟩ hin)
        unfold vAgg DoesPost at Do
        simp only at Do
        generalize doD d ⟨kind, n, a0, b0, A2, keep2, cap2⟩ = d2 at *
        clear hin hJ
        go_wp2_with fail
        refine Do.out.mono ?_
        rintro o w5 ⟨bb, rfl, -, h5⟩
        have H5 := hid h5
        clear h5 Do c0 c1 c2 c3 c4 hbl
        go_wp2
        go_roundw
        case rel => exact ⟨k + 1, N + 2, d2, by omega, by omega, by go_num, by omega, H5.out⟩
        case measure => simp [intOf]; omega
      · have U1 := hid (hJ.out.upD_ (by omega) A3 keep cap3 hKA.out hKI.out hKL)
        go_wp2_with fail
        refine U1.out.mono ?_
        rintro o w3 ⟨rfl, h3⟩
        have U2 := hid (h3.upR_ (by omega) A3 keep cap3 hKA.out hKI.out hKL)
        clear h3 U1 hJ
        go_wp2_with fail
        refine U2.out.mono ?_
        rintro o w4 ⟨rfl, h4⟩
        have U3 := hid (h4.armD 0 (by omega))
        clear h4 U2
        go_wp2_with fail
        refine U3.out.mono ?_
        rintro o w5 ⟨rfl, h5⟩
        have U4 := hid (h5.upD_ (by omega) A3 keep cap3 hKA.out hKI.out hKL)
        rw [up_twice] at U4
        clear h5 U3
        go_wp2_with fail
        refine U4.out.mono ?_
        rintro o w6 ⟨rfl, h6⟩
        have Lk := hid (law13_like h6 (by omega))
        have H6 := hid h6
        clear h6 U4
        go_wp2_with fail
        refine Lk.out.mono ?_
        rintro o w7 ⟨rfl, hb7⟩
        have h7 := H6.out.below hb7
        have Al := hid h7.aliveD
        have Cr := hid (h7.createD freshK (by decide))
        obtain ⟨u1, u2⟩ := up_live d keep
        rw [u1] at Al
        have hce := fresh_ne (k := freshK) u1 u2
        have hce2 : (((d.up keep).create freshK).2 != 13) = true := by simpa using hce
        generalize ((d.up keep).create freshK).2 = ce at *
        clear hb7 Lk H6 h7 u1 u2
        go_wp2_with fail
        refine Al.out.mono ?_
        rintro o w8 ⟨rfl, hw⟩
        have hw' := hw.symm
        subst hw'
        clear Al
        go_wp2_with fail
        refine Cr.out.mono ?_
        rintro o w8 ⟨rfl, h8⟩
        have B8 := hid h8.bel
        clear h8 Cr
        go_wp2_with fail
        refine (Lv.out _).mono ?_
        rintro o w9 ⟨rfl, hb9⟩
        have B := hid (bt B8.out hb9)
        clear hb9
        go_wp2
        go_ret
        exact ⟨by first | rfl | (rw [hce2]; rfl) | simp [hce2], B.out⟩
    · have hk' : k = 20 := by omega
      subst hk'
      by_cases h : 20 < l.length
      · have U1 := hid (hJ.out.upD_ (by omega) A3 keep cap3 hKA.out hKI.out hKL)
        go_wp2_with fail
        refine U1.out.mono ?_
        rintro o w3 ⟨rfl, h3⟩
        have U2 := hid (h3.upR_ (by omega) A3 keep cap3 hKA.out hKI.out hKL)
        clear h3 U1 hJ
        go_wp2_with fail
        refine U2.out.mono ?_
        rintro o w4 ⟨rfl, h4⟩
        have U3 := hid (h4.armD 0 (by omega))
        clear h4 U2
        go_wp2_with fail
        refine U3.out.mono ?_
        rintro o w5 ⟨rfl, h5⟩
        have U4 := hid (h5.upD_ (by omega) A3 keep cap3 hKA.out hKI.out hKL)
        rw [up_twice] at U4
        clear h5 U3
        go_wp2_with fail
        refine U4.out.mono ?_
        rintro o w6 ⟨rfl, h6⟩
        have Lk := hid (law13_like h6 (by omega))
        have H6 := hid h6
        clear h6 U4
        go_wp2_with fail
        refine Lk.out.mono ?_
        rintro o w7 ⟨rfl, hb7⟩
        have h7 := H6.out.below hb7
        have Al := hid h7.aliveD
        have Cr := hid (h7.createD freshK (by decide))
        obtain ⟨u1, u2⟩ := up_live d keep
        rw [u1] at Al
        have hce := fresh_ne (k := freshK) u1 u2
        have hce2 : (((d.up keep).create freshK).2 != 13) = true := by simpa using hce
        generalize ((d.up keep).create freshK).2 = ce at *
        clear hb7 Lk H6 h7 u1 u2
        go_wp2_with fail
        refine Al.out.mono ?_
        rintro o w8 ⟨rfl, hw⟩
        have hw' := hw.symm
        subst hw'
        clear Al
        go_wp2_with fail
        refine Cr.out.mono ?_
        rintro o w8 ⟨rfl, h8⟩
        have B8 := hid h8.bel
        clear h8 Cr
        go_wp2_with fail
        refine (Lv.out _).mono ?_
        rintro o w9 ⟨rfl, hb9⟩
        have B := hid (bt B8.out hb9)
        clear hb9
        go_wp2
        go_ret
        exact ⟨by first | rfl | (rw [hce2]; rfl) | simp [hce2], B.out⟩
      · have U1 := hid (hJ.out.upD_ (by omega) A3 keep cap3 hKA.out hKI.out hKL)
        go_wp2_with fail
        refine U1.out.mono ?_
        rintro o w3 ⟨rfl, h3⟩
        have U2 := hid (h3.upR_ (by omega) A3 keep cap3 hKA.out hKI.out hKL)
        clear h3 U1 hJ
        go_wp2_with fail
        refine U2.out.mono ?_
        rintro o w4 ⟨rfl, h4⟩
        have U3 := hid (h4.armD 0 (by omega))
        clear h4 U2
        go_wp2_with fail
        refine U3.out.mono ?_
        rintro o w5 ⟨rfl, h5⟩
        have U4 := hid (h5.upD_ (by omega) A3 keep cap3 hKA.out hKI.out hKL)
        rw [up_twice] at U4
        clear h5 U3
        go_wp2_with fail
        refine U4.out.mono ?_
        rintro o w6 ⟨rfl, h6⟩
        have Lk := hid (law13_like h6 (by omega))
        have H6 := hid h6
        clear h6 U4
        go_wp2_with fail
        refine Lk.out.mono ?_
        rintro o w7 ⟨rfl, hb7⟩
        have h7 := H6.out.below hb7
        have Al := hid h7.aliveD
        have Cr := hid (h7.createD freshK (by decide))
        obtain ⟨u1, u2⟩ := up_live d keep
        rw [u1] at Al
        have hce := fresh_ne (k := freshK) u1 u2
        have hce2 : (((d.up keep).create freshK).2 != 13) = true := by simpa using hce
        generalize ((d.up keep).create freshK).2 = ce at *
        clear hb7 Lk H6 h7 u1 u2
        go_wp2_with fail
        refine Al.out.mono ?_
        rintro o w8 ⟨rfl, hw⟩
        have hw' := hw.symm
        subst hw'
        clear Al
        go_wp2_with fail
        refine Cr.out.mono ?_
        rintro o w8 ⟨rfl, h8⟩
        have B8 := hid h8.bel
        clear h8 Cr
        go_wp2_with fail
        refine (Lv.out _).mono ?_
        rintro o w9 ⟨rfl, hb9⟩
        have B := hid (bt B8.out hb9)
        clear hb9
        go_wp2
        go_ret
        exact ⟨by first | rfl | (rw [hce2]; rfl) | simp [hce2], B.out⟩
theorem row_DriveTwice (A : Option Addr) (n cap : Nat) (l : List VDeed) (A3 : Option Addr) (n3 cap3 : Nat) (keep : List Int) (w : World) (h : n = l.length ∧ l.length ≤ cap ∧ (cap : Int) ≤ 9223372036854775807 ∧ VDeedsIn w l ∧ VDeedsAt w A l)
    (h' : n3 = keep.length ∧ keep.length ≤ cap3 ∧ (cap3 : Int) ≤ 9223372036854775807 ∧ IntsIn keep ∧ IntsAt w A3 keep) :
    Calls Try.prog 16 #[.slice A n cap, .slice A3 n3 cap3] w fun e w' => e = .returned (.bool true) ∧ Below w.heap.size w w' := by
  obtain ⟨rfl, h1, h2, h3, h4⟩ := h
  obtain ⟨rfl, k1, k2, k3, k4⟩ := h'
  exact law_DriveTwice A l cap A3 keep cap3 w (by omega) h3 h4 k4 k3 (by omega)
end Go.Proofs.Ytjmcnhpffpcboaa
