/- Walks of package kv: may, do, file. -/
import Derived.Test.YtbjimikppdfmgaaGreatDoorWs
import Derived.Test.YtbjimikppdfmgaaGreatDoorSMap
import Derived.Test.YtbjimikppdfmgaaGreatDoorDMem
set_option linter.unusedVariables false
set_option linter.unusedSimpArgs false
set_option maxHeartbeats 3200000
set_option maxRecDepth 100000
namespace Go.Proofs.YtbjimikppdfmgaaGreatDoor
open Go.RowKit

theorem mayB_no {l : List Wr} {k : Nat} (h : k < l.length) (ho : okW l[k] = false) : mayB l = false := by
  cases hm : mayB l with
  | false => rfl
  | true =>
    have := List.all_eq_true.1 hm _ (List.getElem_mem h)
    rw [ho] at this
    cases this
theorem mayB_yes {l : List Wr} (h : ∀ j, (hj : j < l.length) → okW l[j] = true) : mayB l = true := by
  unfold mayB
  rw [List.all_eq_true]
  intro x hx
  obtain ⟨j, hj, rfl⟩ := List.mem_iff_getElem.1 hx
  exact h j hj
theorem kv_may (w : World) (A : Option Addr) (c : Nat) (l : List Wr) (hws : WsAt w A l) (hl : l.length ≤ 1000) :
    Calls Tryz.prog 32 #[.slice A l.length c] w fun e w' => e = .returned (.bool (mayB l)) ∧ Below w.heap.size w w' := by
  have HW := hid hws
  go_enter Tryz.func32, Tryz.ntmps32
  go_wp2
  go_loopw [7] (fun i wr => ∃ k : Nat, k ≤ l.length ∧ i = .int .i64 k ∧ Hid (∀ j, (hj : j < l.length) → j < k → okW l[j] = true) ∧ Hid (Below w.heap.size w wr)) (fun i _ => l.length - (intOf i).toNat)
  case atStart => exact ⟨0, Nat.zero_le _, rfl, fun j _ h => absurd h (by omega), Below.refl _ _⟩
  case round =>
    obtain ⟨k, hk, rfl, ho, hb⟩ := hrel
    by_cases h : k < l.length
    · obtain ⟨bb, off, rfl, hbb, hc⟩ := (HW.out.below hb.out) (by omega)
      obtain ⟨c1, c2, c3⟩ := hc k h
      clear hc
      have HN := hid (mayB_no h)
      have HY := hid (show okW l[k] = true → ∀ j, (hj : j < l.length) → j < k + 1 → okW l[j] = true from fun hx j hj hjk => by
        rcases Nat.lt_or_ge j k with h1 | h1
        · exact ho.out j hj h1
        · obtain rfl : j = k := by omega
          exact hx)
      generalize l[k] = x at *
      obtain ⟨xk, xv, xg⟩ := x
      simp only [] at c1 c2 c3
      have HB := hid (hb.out.alloc hb.out.size (.cells #[.string (S xk), .string (S xv), .bool xg] 31))
      clear hb
      by_cases d1 : xk = []
      · subst d1
        have HR := hid (HN.out (by simp [okW]))
        go_wp2
        go_ret
        exact ⟨by rw [HR.out]; rfl, HB.out⟩
      · have e1 : (xk == []) = false := beq_eq_false_iff_ne.2 d1
        by_cases d2 : 200 < xk.length
        · have HR := hid (HN.out (by simp [okW]; omega))
          have d2' : (200 : Int) < xk.length := by omega
          go_wp2
          go_ret
          exact ⟨by rw [HR.out]; rfl, HB.out⟩
        · have d2' : (xk.length : Int) ≤ 200 := by omega
          by_cases d3 : 1048576 < xv.length
          · have HR := hid (HN.out (by simp [okW]; omega))
            have d3' : (1048576 : Int) < xv.length := by omega
            go_wp2
            go_ret
            exact ⟨by rw [HR.out]; rfl, HB.out⟩
          · have d3' : (xv.length : Int) ≤ 1048576 := by omega
            by_cases d4 : xg = true ∧ xv ≠ []
            · obtain ⟨rfl, d5⟩ := d4
              have e5 : (xv == []) = false := beq_eq_false_iff_ne.2 d5
              have HR := hid (HN.out (by simp [okW, d5]))
              go_wp2
              go_ret
              exact ⟨by rw [HR.out]; rfl, HB.out⟩
            · have HR := hid (HY.out (by
                have : ¬ (xg = true ∧ xv ≠ []) := d4
                simp only [okW, e1]
                cases xg <;> simp_all <;> omega))
              cases xg with
              | false =>
                clear d4
                go_wp2
                go_roundw
                case rel => exact ⟨k + 1, by omega, by go_num, HR, HB⟩
                case measure => simp [intOf]; omega
              | true =>
                have e5 : (xv == []) = true := by
                  rw [beq_iff_eq]
                  exact Classical.not_not.1 fun h => d4 ⟨rfl, h⟩
                clear d4
                go_wp2
                go_roundw
                case rel => exact ⟨k + 1, by omega, by go_num, HR, HB⟩
                case measure => simp [intOf]; omega
    · have hk' : k = l.length := by omega
      subst hk'
      have HR := hid (mayB_yes fun j hj => ho.out j hj hj)
      go_wp2
      go_ret
      exact ⟨by rw [HR.out]; rfl, hb.out⟩
/-- A write is done to a map. -/
theorem kv_do (w : World) (mb : Nat) (m : KM) (x : Wr) (hm : OwnS Tryz.prog 9 w mb m) (hl : m.length ≤ 1000000) (hk : x.key.length ≤ 1000000) :
    Calls Tryz.prog 38 #[.map (some mb), .agg #[.string (S x.key), .string (S x.val), .bool x.gone]] w fun e w' => e = .returned (.tuple #[]) ∧ OwnS Tryz.prog 9 w' mb (doW m x) ∧ Touch w w' (fun k => k = mb) (fun k => k = mb) := by
  obtain ⟨xk, xv, xg⟩ := x
  simp only [] at *
  have hlt : mb < w.heap.size := by
    obtain ⟨es, c, h⟩ := hm.isMap
    exact (Array.getElem?_eq_some_iff.1 h).1
  have hm1 : OwnS Tryz.prog 9 (w.alloc (.cells #[.string (S xk), .string (S xv), .bool xg] 31)) mb m := hm.kept (Below.heap_alloc _ _ _ hlt)
  have ht1 : Touch w (w.alloc (.cells #[.string (S xk), .string (S xv), .bool xg] 31)) (fun k => k = mb) (fun k => k = mb) := Touch.of_below ((Below.refl _ _).alloc (Nat.le_refl _) _) _
  cases xg with
  | true =>
    obtain ⟨w2, hrun, h2, h3⟩ := hm1.drop (t := 50) (e := 9) (by kernel_rfl) (by kernel_rfl) xk hk 0
    have H2 := hid h2
    have H3 := hid (ht1.trans (Touch.of_grown (turned_grown h3) fun k hk => by injection hk with hk; exact hk.symm))
    clear h2 h3 hm hm1 ht1
    go_enter Tryz.func38, Tryz.ntmps38
    go_wp2
    go_end0
    exact ⟨rfl, H2.out, H3.out⟩
  | false =>
    obtain ⟨w2, hrun, h2, h3⟩ := hm1.put (t := 50) (e := 9) (by kernel_rfl) (by kernel_rfl) (by omega) xk hk xv
    have H2 := hid h2
    have H3 := hid (ht1.trans (Touch.of_grown h3 fun k hk => by injection hk with hk; exact hk.symm))
    clear h2 h3 hm hm1 ht1
    go_enter Tryz.func38, Tryz.ntmps38
    go_wp2
    go_end0
    exact ⟨rfl, H2.out, H3.out⟩
/-- A file's name. -/
def fileN (name e : List UInt8) : List UInt8 := name ++ 46 :: e
theorem kv_file (w : World) (sb : Nat) (name e : List UInt8) (hc : w.cell? ⟨sb, 1, none⟩ = some (.string (S name))) (hn : name.length ≤ 1000) (he : e.length ≤ 1000) :
    Calls Tryz.prog 26 #[.pointer (some ⟨sb, 0, none⟩), .string (S e)] w fun en w' => en = .returned (.string (S (fileN name e))) ∧ w' = w := by
  go_enter Tryz.func26, Tryz.ntmps26
  go_wp2
  go_ret
  exact ⟨by simp [fileN], rfl⟩
end Go.Proofs.YtbjimikppdfmgaaGreatDoor
