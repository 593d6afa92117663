/- The law StagesFull. -/
import Derived.Test.YtjmcnhpffpcboaaJMem
set_option linter.unusedVariables false
set_option linter.unusedSimpArgs false
set_option maxHeartbeats 12800000
set_option maxRecDepth 100000
namespace Go.Proofs.Ytjmcnhpffpcboaa
open Go.RowKit

theorem full_loop (neg : Bool) (quota q : Int) (hneg : if neg then quota < 0 else 0 ≤ quota) (hq : q = if neg then -(quota + 1).tmod 11 else quota % 11) (hi : In64 quota) (A : Option Addr) (l : List Int) (cap : Nat) (w : World) (hm : (l.length : Int) ≤ 9223372036854775807) (hin : IntsIn l) (hA : IntsAt w A l) :
    Calls Try.prog 8 #[.int .i64 quota, .slice A l.length cap] w fun e w' => e = .returned (.bool true) ∧ Below w.heap.size w w' := by
  have hq0 : 0 ≤ q ∧ q ≤ 10 := by
    cases neg <;> simp at hneg hq
    · rw [hq]
      omega
    · rw [hq, ← Int.neg_tmod, Int.tmod_eq_emod_of_nonneg (by omega)]
      omega
  have hqb : quotableB q = true := by unfold quotableB; simp; omega
  have Nw := hid (drive_New q hqb w)
  have Lv := hid law19_lives
  have HIN := hid hin
  have HA := hid hA
  have R := hid (fun a b W => ref19_May a b W)
  have HF : ∀ w1 g fp, IsDrive w1 g (Dr.new q) fp → Below w.heap.size w w1 → (∀ k, fp k → w.heap.size ≤ k) → Hid (Calls Try.prog 32 #[.pointer (some ⟨g, 0, none⟩)] w1 fun e w' => ∃ j, e = .returned (.tuple #[.pointer (some ⟨j, 0, none⟩), .int .i64 0]) ∧ JW w j g q 1 0 w') := fun w1 g fp h1 h2 h3 => JW.first h1 hqb h2 h3
  clear hin hA hqb
  obtain ⟨hi1, hi2⟩ := hi
  cases neg <;> simp only [if_true, if_false, Bool.false_eq_true] at hneg hq
  all_goals
    rw [hq] at Nw
    go_enter Try.func8, Try.ntmps8
    go_wp2_with fail
    refine Nw.out.mono ?_
    rintro e w1 ⟨g, fp, rfl, hdr, hb1, hge1⟩
    rw [← hq] at hdr
    have Op := HF w1 g fp hdr hb1 hge1
    clear hdr hb1 hge1 hq HF Nw
    go_wp2_with fail
    refine Op.out.mono ?_
    rintro e w2 ⟨j, rfl, hJ⟩
    have HJ := hid hJ
    clear hJ Op
    go_wp2
    go_loopw [8, 9] (fun a i wr => ∃ k s : Nat, k ≤ l.length ∧ k ≤ 8 ∧ i = .int .i64 k ∧ a = .int .i64 s ∧ Hid (JW w j g q s k wr)) (fun _ i _ => 8 - (intOf i).toNat)
    case atStart => exact ⟨0, 1, Nat.zero_le _, by omega, rfl, rfl, HJ⟩
    case round =>
      obtain ⟨k, s, hk, hk20, rfl, rfl, hJ⟩ := hrel
      by_cases h20 : k < 8
      · by_cases h : k < l.length
        · obtain ⟨b, off, rfl, hbl, hc⟩ := HA.out (by omega)
          have hn := HIN.out k h
          have hc1 := hc k h
          have hbel := hJ.out.bel
          clear hc HA HIN
          generalize l[k] = n at *
          have c1 := (hbel.cell (p := ⟨b, off + k, none⟩) hbl).trans hc1
          have M := hid (hJ.out.move (by omega) n hn)
          have hcell := hid (fun (W : World) (a N : Nat) (hW : JW w j g q a N W) => (hW.bel.cell (p := ⟨b, off + k, none⟩) hbl).trans hc1)
          have Rm := hid (fun W => R.out s n W)
          have Ops := hid (fun (W : World) (a : Nat) (hW : JW w j g q a (k + 1) W) => hW.open_ (by omega))
          clear hc1 hbel hn hbl
          by_cases hf : mvE q s n = 0
          · have hb : mayB s n = true := by
              cases hb : mayB s n with
              | true => rfl
              | false =>
                have : mvE q s n = 16 := by unfold mvE; rw [hb]; rfl
                omega
            have e2 : mvT q s n = n.toNat := by unfold mvT; rw [hf]; rfl
            have hcs := mayB_cases hb
            obtain ⟨m, rfl⟩ : ∃ m : Nat, n = m := ⟨n.toNat, by omega⟩
            have e3 : ((m : Int)).toNat = m := by omega
            rw [hf, e2, e3] at M
            rw [hb] at Rm
            clear e2 e3 hf hb hJ hcs
            go_wp2_with fail
            refine M.out.mono ?_
            rintro e w3 ⟨rfl, hJ3⟩
            have c3 := hcell.out _ _ _ hJ3
            have Op3 := hid (Ops.out _ _ hJ3)
            clear hJ3 M c1
            go_wp2_with fail
            refine (Rm.out _).mono ?_
            rintro e w4 ⟨rfl, hw⟩
            have hw' := hw.symm
            subst hw'
            go_wp2_with fail
            refine Op3.out.mono ?_
            rintro e w5 ⟨j2, rfl, hj2, hJ5⟩
            have S1 := hid (journal_Stage hj2)
            have S2 := hid (journal_Stage hJ5.jo)
            have HJ5 := hid hJ5
            clear hJ5 Op3 hj2 c3
            go_wp2_with fail
            refine S1.out.mono ?_
            rintro e w6 ⟨rfl, hw⟩
            have hw' := hw.symm
            subst hw'
            go_wp2_with fail
            refine S2.out.mono ?_
            rintro e w6 ⟨rfl, hw⟩
            have hw' := hw.symm
            subst hw'
            go_wp2
            go_roundw
            case rel => exact ⟨k + 1, m, by omega, by omega, by go_num, rfl, HJ5⟩
            case measure => simp [intOf]; omega
          · have hE : (mayB s n = true ∧ mvE q s n = 12) ∨ (mayB s n = false ∧ mvE q s n = 16) := by
              cases hb : mayB s n with
              | true =>
                refine .inl ⟨rfl, ?_⟩
                unfold mvE at hf ⊢
                rw [hb, if_pos rfl] at hf ⊢
                by_cases hq' : (if s = 1 then (2 : Int) else 4) ≤ q
                · rw [if_pos hq'] at hf
                  exact absurd rfl hf
                · rw [if_neg hq']
              | false => exact .inr ⟨rfl, by unfold mvE; rw [hb]; rfl⟩
            have e2 : mvT q s n = s := by unfold mvT; rw [if_neg hf]
            rw [e2] at M
            clear e2 hJ hf
            rcases hE with ⟨hb, hf⟩ | ⟨hb, hf⟩ <;>
            · rw [hf] at M
              rw [hb] at Rm
              clear hf hb
              go_wp2_with fail
              refine M.out.mono ?_
              rintro e w3 ⟨rfl, hJ3⟩
              have c3 := hcell.out _ _ _ hJ3
              have Op3 := hid (Ops.out _ _ hJ3)
              clear hJ3 M c1
              go_wp2_with fail
              refine (Rm.out _).mono ?_
              rintro e w4 ⟨rfl, hw⟩
              have hw' := hw.symm
              subst hw'
              go_wp2_with fail
              refine Op3.out.mono ?_
              rintro e w5 ⟨j2, rfl, hj2, hJ5⟩
              have S1 := hid (journal_Stage hj2)
              have S2 := hid (journal_Stage hJ5.jo)
              have HJ5 := hid hJ5
              clear hJ5 Op3 hj2 c3
              go_wp2_with fail
              refine S1.out.mono ?_
              rintro e w6 ⟨rfl, hw⟩
              have hw' := hw.symm
              subst hw'
              go_wp2_with fail
              refine S2.out.mono ?_
              rintro e w6 ⟨rfl, hw⟩
              have hw' := hw.symm
              subst hw'
              go_wp2
              go_roundw
              case rel => exact ⟨k + 1, s, by omega, by omega, by go_num, rfl, HJ5⟩
              case measure => simp [intOf]; omega
        · go_wp2_with fail
          refine (Lv.out _).mono ?_
          rintro e w3 ⟨rfl, hb3⟩
          have B := hid (bt hJ.out.bel hb3)
          clear hb3
          go_wp2
          go_ret
          exact ⟨rfl, B.out⟩
      · have hk' : k = 8 := by omega
        subst hk'
        by_cases h : 8 < l.length
        · go_wp2_with fail
          refine (Lv.out _).mono ?_
          rintro e w3 ⟨rfl, hb3⟩
          have B := hid (bt hJ.out.bel hb3)
          clear hb3
          go_wp2
          go_ret
          exact ⟨rfl, B.out⟩
        · go_wp2_with fail
          refine (Lv.out _).mono ?_
          rintro e w3 ⟨rfl, hb3⟩
          have B := hid (bt hJ.out.bel hb3)
          clear hb3
          go_wp2
          go_ret
          exact ⟨rfl, B.out⟩

theorem row_StagesFull (quota : Int) (A : Option Addr) (n cap : Nat) (l : List Int) (w : World) (hq : (Lit.int .i64 quota).wf = true) (h : n = l.length ∧ l.length ≤ cap ∧ (cap : Int) ≤ 9223372036854775807 ∧ IntsIn l ∧ IntsAt w A l) :
    Calls Try.prog 8 #[.int .i64 quota, .slice A n cap] w fun e w' => e = .returned (.bool true) ∧ Below w.heap.size w w' := by
  obtain ⟨rfl, h1, h2, h3, h4⟩ := h
  by_cases hn : quota < 0
  · exact full_loop true quota _ (by simpa using hn) rfl (wf64 hq) A l cap w (by omega) h3 h4
  · exact full_loop false quota _ (by simp; omega) rfl (wf64 hq) A l cap w (by omega) h3 h4
end Go.Proofs.Ytjmcnhpffpcboaa
