/- The law DrivePlays. -/
import Derived.Test.YtjmcnhpffpcboaaDoes
import Derived.Test.YtjmcnhpffpcboaaLike
set_option linter.unusedVariables false
set_option linter.unusedSimpArgs false
set_option maxHeartbeats 6400000
set_option maxRecDepth 100000
attribute [local go_sem ↓] Go.wp_at_zero Go.wp_at_succ
namespace Go.Proofs.Ytjmcnhpffpcboaa
open Go.RowKit

def noneK : Key := [110, 111, 110, 101, 32, 111, 102, 32, 116, 104, 101, 115, 101]
theorem none_read {d : Dr} {N : Nat} (hok : d.Ok N) : d.read noneK = [] ∧ (d.readE noneK = 10 ∨ d.readE noneK = 13) := by
  have hg : kget d.files noneK = none := by
    cases hk : kget d.files noneK with
    | none => rfl
    | some f =>
      have h := hok.keys _ (kget_some hk)
      exact absurd (show namedB noneK = true from h) (by decide)
  have he : d.readE noneK = 10 ∨ d.readE noneK = 13 := by
    unfold Dr.readE Dr.thereE
    rw [hg]
    split
    · exact .inr rfl
    · exact .inl rfl
  refine ⟨?_, he⟩
  unfold Dr.read
  rw [if_neg (by rcases he with he | he <;> rw [he] <;> decide)]
theorem law_DrivePlays (q : Int) (A : Option Addr) (l : List VDeed) (cap : Nat) (w : World) (hm : (l.length : Int) ≤ 9223372036854775807) (hin : VDeedsIn w l) (hA : VDeedsAt w A l) :
    Calls Try.prog 15 #[.int .i64 q, .slice A l.length cap] w fun e w' => e = .returned (.bool true) ∧ Below w.heap.size w w' := by
  have Lv := hid law13_lives
  cases hq : quotableB q with
  | false =>
    have N1 := hid (drive_New_no q hq w)
    have N2 := hid (show Calls Try.prog 40 #[.int .i64 q] w fun e w' => e = .returned (.pointer none) ∧ w' = w from (ref_New q w).mono fun e w' h => h.2 hq)
    clear hin hA hq
    go_enter Try.func15, Try.ntmps15
    go_wp2_with fail
    refine N1.out.mono ?_
    rintro o w1 ⟨rfl, hw⟩
    have hw' := hw.symm
    subst hw'
    go_wp2_with fail
    refine N2.out.mono ?_
    rintro o w1 ⟨rfl, hw⟩
    have hw' := hw.symm
    subst hw'
    go_wp2_with fail
    refine (Lv.out _).mono ?_
    rintro o w3 ⟨rfl, hb3⟩
    have B := hid hb3
    clear hb3
    go_wp2
    go_ret
    exact ⟨rfl, B.out⟩
  | true =>
    have HIN := hid hin
    have HA := hid hA
    have NW := hid (DW.new q hq w)
    have NR := hid (fun (W : World) (g : Nat) (h : DW w g (Dr.new q) 0 [] W) => DB.newR h q hq)
    clear hin hA
    go_enter Try.func15, Try.ntmps15
    go_wp2_with fail
    refine NW.out.mono ?_
    rintro e w1 ⟨g, rfl, h1⟩
    have C1 := hid (NR.out w1 g h1)
    clear h1 NW NR
    go_wp2_with fail
    refine C1.out.mono ?_
    rintro e w2 ⟨r, rfl, h2⟩
    have H2 := hid h2
    clear h2 C1
    go_wp2
    go_loopw [7, 8, 9] (fun i _ _ wr => ∃ (k N : Nat) (d : Dr), k ≤ l.length ∧ k ≤ 40 ∧ i = .int .i64 k ∧ N = 2 * k ∧ Hid (DB w g r d d N [] wr)) (fun i _ _ _ => 40 - (intOf i).toNat)
    case atStart => exact ⟨0, 0, _, Nat.zero_le _, by omega, rfl, rfl, H2.out⟩
    case round =>
      obtain ⟨k, N, d, hk, hk40, rfl, hN, hJ⟩ := hrel
      by_cases h40 : k < 40
      · by_cases h : k < l.length
        · obtain ⟨b, off, rfl, hbl, hc⟩ := HA.out (by omega)
          have hin := HIN.out k h
          obtain ⟨hc0, hc1, hc2, hc3, hc4⟩ := hc k h
          have hbel := hJ.out.bel
          clear hc HA HIN
          generalize l[k] = x at *
          obtain ⟨kind, n, a0, b0, A2, keep2, cap2⟩ := x
          simp only at hc0 hc1 hc2 hc3 hc4
          have c0 := (hbel.cell (p := ⟨b, off + k * 5, none⟩) hbl).trans hc0
          have c1 := (hbel.cell (p := ⟨b, off + k * 5 + 1, none⟩) hbl).trans hc1
          have c2 := (hbel.cell (p := ⟨b, off + k * 5 + 2, none⟩) hbl).trans hc2
          have c3 := (hbel.cell (p := ⟨b, off + k * 5 + 3, none⟩) hbl).trans hc3
          have c4 := (hbel.cell (p := ⟨b, off + k * 5 + 4, none⟩) hbl).trans hc4
          clear hc0 hc1 hc2 hc3 hc4 hbel
          have Do := hid (law13_does hJ.out (by omega) ⟨kind, n, a0, b0, A2, keep2, cap2⟩ hin)
          unfold vAgg DoesPost at Do
          simp only at Do
          generalize doD d ⟨kind, n, a0, b0, A2, keep2, cap2⟩ = d2 at *
          clear hin hJ
          go_wp2_with fail
          refine Do.out.mono ?_
          rintro o w5 ⟨bb, rfl, hbb, h5⟩
          obtain rfl := hbb trivial
          have H5 := hid h5
          have Lk := hid (law13_like h5 (by omega))
          clear h5 Do c0 c1 c2 c3 c4 hbl
          go_wp2_with fail
          refine Lk.out.mono ?_
          rintro o w6 ⟨rfl, hb6⟩
          have H6 := hid (H5.out.below hb6)
          clear hb6 Lk
          go_wp2
          go_roundw
          case rel => exact ⟨k + 1, N + 2, d2, by omega, by omega, by go_num, by omega, H6.out⟩
          case measure => simp [intOf]; omega
        · have Rn := hid (hJ.out.readD (by omega) noneK (by decide))
          unfold ReadPost at Rn
          obtain ⟨n1, n2⟩ := none_read hJ.out.okD
          rw [n1] at Rn
          have BEL := hid hJ.out.bel
          clear n1 hJ
          rcases n2 with n2 | n2
          all_goals
            rw [n2] at Rn
            clear n2
            go_wp2_with fail
            refine Rn.out.mono ?_
            rintro o w3 ⟨v, rfl, hrow, hb3⟩
            obtain ⟨A3, c3, rfl⟩ := row_form hrow
            have B3 := hid (bt BEL.out hb3)
            clear hrow hb3 Rn
            go_wp2_with fail
            refine (Lv.out _).mono ?_
            rintro o w4 ⟨rfl, hb4⟩
            have B := hid (bt B3.out hb4)
            clear hb4
            go_wp2
            go_ret
            exact ⟨rfl, B.out⟩
      · have hk' : k = 40 := by omega
        subst hk'
        by_cases h : 40 < l.length
        · have Rn := hid (hJ.out.readD (by omega) noneK (by decide))
          unfold ReadPost at Rn
          obtain ⟨n1, n2⟩ := none_read hJ.out.okD
          rw [n1] at Rn
          have BEL := hid hJ.out.bel
          clear n1 hJ
          rcases n2 with n2 | n2
          all_goals
            rw [n2] at Rn
            clear n2
            go_wp2_with fail
            refine Rn.out.mono ?_
            rintro o w3 ⟨v, rfl, hrow, hb3⟩
            obtain ⟨A3, c3, rfl⟩ := row_form hrow
            have B3 := hid (bt BEL.out hb3)
            clear hrow hb3 Rn
            go_wp2_with fail
            refine (Lv.out _).mono ?_
            rintro o w4 ⟨rfl, hb4⟩
            have B := hid (bt B3.out hb4)
            clear hb4
            go_wp2
            go_ret
            exact ⟨rfl, B.out⟩
        · have Rn := hid (hJ.out.readD (by omega) noneK (by decide))
          unfold ReadPost at Rn
          obtain ⟨n1, n2⟩ := none_read hJ.out.okD
          rw [n1] at Rn
          have BEL := hid hJ.out.bel
          clear n1 hJ
          rcases n2 with n2 | n2
          all_goals
            rw [n2] at Rn
            clear n2
            go_wp2_with fail
            refine Rn.out.mono ?_
            rintro o w3 ⟨v, rfl, hrow, hb3⟩
            obtain ⟨A3, c3, rfl⟩ := row_form hrow
            have B3 := hid (bt BEL.out hb3)
            clear hrow hb3 Rn
            go_wp2_with fail
            refine (Lv.out _).mono ?_
            rintro o w4 ⟨rfl, hb4⟩
            have B := hid (bt B3.out hb4)
            clear hb4
            go_wp2
            go_ret
            exact ⟨rfl, B.out⟩
theorem row_DrivePlays (q : Int) (A : Option Addr) (n cap : Nat) (l : List VDeed) (w : World) (hq : (Lit.int .i64 q).wf = true) (h : n = l.length ∧ l.length ≤ cap ∧ (cap : Int) ≤ 9223372036854775807 ∧ VDeedsIn w l ∧ VDeedsAt w A l) :
    Calls Try.prog 15 #[.int .i64 q, .slice A n cap] w fun e w' => e = .returned (.bool true) ∧ Below w.heap.size w w' := by
  obtain ⟨rfl, h1, h2, h3, h4⟩ := h
  exact law_DrivePlays q A l cap w (by omega) h3 h4
end Go.Proofs.Ytjmcnhpffpcboaa
