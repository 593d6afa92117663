/- Walks of pantilelaw14.like, and of pantileref14.May. -/
import Derived.Test.YtbjimikppdfmgaaGreatDoorKvG
import Derived.Test.YtbjimikppdfmgaaGreatDoorKvMem
import Derived.Deep.QuietTactic
import Derived.BigQuiet
set_option linter.unusedVariables false
set_option linter.unusedSimpArgs false
set_option maxHeartbeats 6400000
set_option maxRecDepth 100000
namespace Go.Proofs.YtbjimikppdfmgaaGreatDoor
open Go.RowKit

theorem ref14_May (w : World) (A : Option Addr) (c : Nat) (l : List Wr) (hws : WsAt w A l) (hl : l.length ≤ 1000) :
    Calls Tryz.prog 13 #[.slice A l.length c] w fun e w' => e = .returned (.bool (mayB l)) ∧ Below w.heap.size w w' := by
  have HW := hid hws
  go_enter Tryz.func13, Tryz.ntmps13
  go_wp2
  go_loopw [3] (fun i wr => ∃ k : Nat, k ≤ l.length ∧ i = .int .i64 k ∧ Hid (∀ j, (hj : j < l.length) → j < k → okW l[j] = true) ∧ Hid (Below w.heap.size w wr)) (fun i _ => l.length - (intOf i).toNat)
  case atStart => exact ⟨0, Nat.zero_le _, rfl, fun j _ h => absurd h (by omega), Below.refl _ _⟩
  case round =>
    obtain ⟨k, hk, rfl, ho, hb⟩ := hrel
    by_cases h : k < l.length
    · obtain ⟨bb, off, rfl, hbb, hc⟩ := (HW.out.below hb.out) (by omega)
      obtain ⟨c1, c2, c3⟩ := hc k h
      clear hc
      have HN := hid (mayB_no h)
      have HY := hid (show okW l[k] = true → ∀ j, (hj : j < l.length) → j < k + 1 → okW l[j] = true from fun hx j hj hjk => by
        rcases Nat.lt_or_ge j k with h1 | h1
        · exact ho.out j hj h1
        · obtain rfl : j = k := by omega
          exact hx)
      generalize l[k] = x at *
      obtain ⟨xk, xv, xg⟩ := x
      simp only [] at c1 c2 c3
      have HB := hid (hb.out.alloc hb.out.size (.cells #[.string (S xk), .string (S xv), .bool xg] 31))
      clear hb
      by_cases d1 : xk = []
      · subst d1
        have HR := hid (HN.out (by simp [okW]))
        go_wp2
        go_ret
        exact ⟨by rw [HR.out]; rfl, HB.out⟩
      · have e1 : (xk == []) = false := beq_eq_false_iff_ne.2 d1
        have e0 : (1 : Int) ≤ xk.length := by have := List.length_pos_iff.2 d1; omega
        by_cases d2 : 200 < xk.length
        · have HR := hid (HN.out (by simp [okW]; omega))
          have d2' : (200 : Int) < xk.length := by omega
          go_wp2
          go_ret
          exact ⟨by rw [HR.out]; rfl, HB.out⟩
        · have d2' : (xk.length : Int) ≤ 200 := by omega
          by_cases d3 : 1048576 < xv.length
          · have HR := hid (HN.out (by simp [okW]; omega))
            have d3' : (1048576 : Int) < xv.length := by omega
            go_wp2
            go_ret
            exact ⟨by rw [HR.out]; rfl, HB.out⟩
          · have d3' : (xv.length : Int) ≤ 1048576 := by omega
            by_cases d4 : xg = true ∧ xv ≠ []
            · obtain ⟨rfl, d5⟩ := d4
              have e5 : (xv == []) = false := beq_eq_false_iff_ne.2 d5
              have HR := hid (HN.out (by simp [okW, d5]))
              go_wp2
              go_ret
              exact ⟨by rw [HR.out]; rfl, HB.out⟩
            · have HR := hid (HY.out (by
                have : ¬ (xg = true ∧ xv ≠ []) := d4
                simp only [okW, e1]
                cases xg <;> simp_all <;> omega))
              cases xg with
              | false =>
                clear d4
                go_wp2
                go_roundw
                case rel => exact ⟨k + 1, by omega, by go_num, HR, HB⟩
                case measure => simp [intOf]; omega
              | true =>
                have e5 : (xv == []) = true := by
                  rw [beq_iff_eq]
                  exact Classical.not_not.1 fun h => d4 ⟨rfl, h⟩
                clear d4
                go_wp2
                go_roundw
                case rel => exact ⟨k + 1, by omega, by go_num, HR, HB⟩
                case measure => simp [intOf]; omega
    · have hk' : k = l.length := by omega
      subst hk'
      have HR := hid (mayB_yes fun j hj => ho.out j hj hj)
      go_wp2
      go_ret
      exact ⟨by rw [HR.out]; rfl, hb.out⟩
section
variable {w0 : Fr} {W : World} {g N mb sb : Nat} {d : Dr} {X : List Xc} {m : KM} {name : Key} {dead : Bool}
theorem law14_like (h : MW w0 g d N X mb m W) (hs : (sb, 52, storeCells g name mb dead) ∈ X) (hr : Rising m) (hml : m.length ≤ 100000) (hkl : ∀ p ∈ m, p.1.length ≤ 1000000) (al : List Wr) (hal : al = m.map wOf) (A : Option Addr) (c : Nat) (hw : WsAt W A al) :
    Calls Tryz.prog 15 #[.pointer (some ⟨sb, 0, none⟩), .slice A al.length c] W fun e w' => e = .returned (.bool true) ∧ Below W.heap.size W w' := by
  have hb := h.blk hs
  have KY := hid (kv_Keys (store4 hb).2.2.1 hb.lt h.map hr (by omega) [])
  have hlen : al.length = m.length := by rw [hal]; simp
  have HM := hid h
  have HW := hid hw
  have HAL := hid hal
  have HR := hid hr
  have HKL := hid hkl
  have HLEN := hid hlen
  clear h hb hr hkl hw hal hlen
  go_enter Tryz.func15, Tryz.ntmps15
  go_wp2_with fail
  refine KY.out.mono ?_
  rintro e w1 ⟨v, rfl, hr1, hb1⟩
  rw [preK_all] at hr1
  obtain ⟨A1, c1, rfl⟩ := row_form hr1
  have HS := hid (strs_rowG (by simp) hr1)
  have HQ := hid (show (m.map (·.1)).length = al.length by rw [HLEN.out]; simp)
  rw [HQ.out] at hr1 ⊢
  have H1 := hid (HM.out.below hb1)
  have LN := kv_Len H1.out hs
  rw [← HLEN.out] at LN
  have LNH := hid LN
  have HB1 := hid hb1
  have HW1 := hid (HW.out.below hb1)
  have hall : al.length ≤ 100000 := by rw [HLEN.out]; exact hml
  clear hr1 hb1 KY LN HW
  go_wp2_with fail
  refine LNH.out.mono ?_
  rintro e w2 ⟨rfl, hw2⟩
  have hw2' := hw2.symm
  subst hw2'
  go_wp2
  go_loopw [6] (fun i wr => ∃ k : Nat, k ≤ al.length ∧ i = .int .i64 k ∧ Hid (Below w1.heap.size w1 wr)) (fun i _ => al.length - (intOf i).toNat)
  case atStart => exact ⟨0, Nat.zero_le _, rfl, Below.refl _ _⟩
  case round =>
    obtain ⟨k, hk, rfl, hbr⟩ := hrel
    by_cases hlt : k < al.length
    · have hkm : k < m.length := by rw [← HLEN.out]; exact hlt
      have hkk : (m.map (·.1))[k]? = some m[k].1 := by simp [hkm]
      obtain ⟨b, rfl, hbl, ck⟩ := HS.out k _ hkk
      have ck' := (hbr.out.cell (p := ⟨b, k, none⟩) hbl).trans ck
      obtain ⟨bb, off, rfl, hbb, hc⟩ := (HW1.out.below hbr.out) (by omega)
      obtain ⟨e0, e1, -⟩ := hc k hlt
      have hak : al[k] = wOf m[k] := by
        have := HAL.out
        subst this
        simp
      rw [hak] at e0 e1
      have hg : kget m m[k].1 = some m[k].2 := kget_of_mem HR.out (List.getElem_mem hkm)
      have GT := kv_Get (H1.out.below hbr.out) hs m[k].1 (HKL.out _ (List.getElem_mem hkm))
      rw [hg] at GT
      have GTH := hid GT
      have HBR := hid hbr.out
      clear ck hkk hc hak hg GT hbr
      have e0' : wr.cell? ⟨bb, off + k * 3, none⟩ = some (.string (S m[k].1)) := e0
      have e1' : wr.cell? ⟨bb, off + k * 3 + 1, none⟩ = some (.string (S m[k].2)) := e1
      clear e0 e1
      generalize m[k].1 = key at *
      generalize m[k].2 = val at *
      go_wp2_with fail
      refine GTH.out.mono ?_
      rintro e w3 ⟨rfl, hw3⟩
      have hw3' := hw3.symm
      subst hw3'
      go_wp2
      go_quiet (fail)
      all_goals
        go_wp2
        go_roundw
        case rel => exact ⟨k + 1, by omega, by go_num, hid (below_drewN HBR.out _)⟩
        case measure => simp [intOf]; omega
    · have hk' : k = al.length := by omega
      subst hk'
      have HB := hid (bt HB1.out hbr.out)
      go_wp2
      go_ret
      exact ⟨rfl, HB.out⟩
end
end Go.Proofs.YtbjimikppdfmgaaGreatDoor
