/- Walk of pantileref07.pair. -/
import Derived.Test.YtecekflooihkoaaDoorQW2
import Derived.RegionTactic
import Derived.ChangeAlike
set_option linter.unusedVariables false
set_option linter.unusedSimpArgs false
set_option maxHeartbeats 6400000
set_option maxRecDepth 100000
namespace Go.Proofs.YtecekflooihkoaaDoor
open Go.RowKit

theorem ahead_get {c : UInt8} {l : List UInt8} {k : Nat} (h : k < l.length) (hn : ∀ j, (h : j < l.length) → j ≤ k → l[j] ≠ c) : l[k] ∈ ahead c l := by
  induction l generalizing k with
  | nil => simp at h
  | cons b l ih =>
    have hb : b ≠ c := hn 0 (by simp) (by omega)
    rw [ahead_ne hb]
    rcases k with _ | k
    · simp
    · exact List.mem_cons_of_mem _ (ih (by simpa using h) fun j hj hjk => hn (j + 1) (by simp; omega) (by omega))
def pairV (l : List UInt8) : SPair := (pairO l).getD ([], [])
def pairB (l : List UInt8) : Bool := (pairO l).isSome
def PairPost (l : List UInt8) (w : World) (e : Ending) (w' : World) : Prop := e = .returned (.tuple #[.agg #[.string (S (pairV l).1), .string (S (pairV l).2)], .bool (pairB l)]) ∧ Below w.heap.size w w'
theorem pair_none {l : List UInt8} {w w' : World} (h : pairO l = none) (hb : Below w.heap.size w w') : PairPost l w (.returned (.tuple #[.agg #[.string (S []), .string (S [])], .bool false])) w' := by
  unfold PairPost pairV pairB
  rw [h]
  exact ⟨rfl, hb⟩
theorem pair_some {l : List UInt8} {p : SPair} {w w' : World} (h : pairO l = some p) (hb : Below w.heap.size w w') : PairPost l w (.returned (.tuple #[.agg #[.string (S p.1), .string (S p.2)], .bool true])) w' := by
  unfold PairPost pairV pairB
  rw [h]
  exact ⟨rfl, hb⟩
/-- Names so far. -/
def Low (l : List UInt8) (k : Nat) : Prop := ∀ j, (h : j < l.length) → j < k → nameC l[j] = true ∧ l[j] ≠ 61
theorem Low.bad {l : List UInt8} {k : Nat} (h : Low l k) (hk : k < l.length) (h61 : l[k] ≠ 61) (hc : nameC l[k] = false) : pairO l = none := by
  have hm := ahead_get (c := 61) hk (fun j hj hjk => by
    rcases Nat.lt_or_ge j k with h1 | h1
    · exact (h j hj h1).2
    · obtain rfl : j = k := by omega
      exact h61)
  have : (ahead 61 l).all nameC = false := by
    rw [List.all_eq_false]
    exact ⟨l[k], hm, by simp [hc]⟩
  have hnb : nameB (ahead 61 l) = false := by
    unfold nameB
    rw [this]; rfl
  unfold pairO
  rw [if_pos (.inr (.inl hnb))]
theorem Low.next {l : List UInt8} {k : Nat} (h : Low l k) (hk : k < l.length) (h61 : l[k] ≠ 61) (hc : nameC l[k] = true) : Low l (k + 1) := fun j hj hjk => by
  rcases Nat.lt_or_ge j k with h1 | h1
  · exact h j hj h1
  · obtain rfl : j = k := by omega
    exact ⟨hc, h61⟩
theorem Low.all {l : List UInt8} (h : Low l l.length) : pairO l = none := by
  have hb := (behind_none fun j hj => (h j hj hj).2).2
  unfold pairO
  rw [if_pos (.inl hb)]
theorem Low.eq {l : List UInt8} {k : Nat} (h : Low l k) (hk : k < l.length) (h61 : l[k] = 61) : pairO l = if k < 1 ∨ 20 < k ∨ 100 < l.length - k - 1 then none else (plainO (l.drop (k + 1))).map fun v => (l.take k, v) := by
  obtain ⟨e1, e2⟩ := behind_at (fun j hj hjk => (h j hj hjk).2) hk h61
  unfold pairO
  rw [e1, e2]
  have hall : (l.take k).all nameC = true := by
    rw [List.all_eq_true]
    intro x hx
    obtain ⟨j, hj, rfl⟩ := List.mem_iff_getElem.1 hx
    rw [List.getElem_take]
    simp at hj
    exact (h j (by omega) (by omega)).1
  have hlen : (l.take k).length = k := by simp; omega
  have htl : (61 :: l.drop (k + 1)).tail.length = l.length - k - 1 := by simp; omega
  have hnb : nameB (l.take k) = (decide (1 ≤ k) && decide (k ≤ 20)) := by
    unfold nameB
    rw [hall, hlen]; rfl
  rw [hnb, htl, List.tail_cons]
  by_cases h1 : k < 1
  · rw [if_pos (.inr (.inl (by simp; omega))), if_pos (.inl h1)]
  · by_cases h2 : 20 < k
    · rw [if_pos (.inr (.inl (by simp; omega))), if_pos (.inr (.inl h2))]
    · by_cases h3 : 100 < l.length - k - 1
      · rw [if_pos (.inr (.inr h3)), if_pos (.inr (.inr h3))]
      · rw [if_neg (by simp; omega), if_neg (by omega)]

theorem ref_pair (l : List UInt8) (hl : l.length ≤ 1000000) (w : World) : Calls Tryd.prog 40 #[.string (S l)] w (PairPost l w) := by
  go_enter Tryd.func40, Tryd.ntmps40
  go_wp2
  go_loopw [4] (fun i wr => ∃ k : Nat, k ≤ l.length ∧ i = .int .i64 k ∧ Hid (Low l k) ∧ Hid (Below w.heap.size w wr) ∧ Hid (∃ cs, Blk wr w.heap.size 33 cs ∧ cs.size = 2)) (fun i _ => l.length - (intOf i).toNat)
  case atStart => exact ⟨0, Nat.zero_le _, rfl, fun j _ h => absurd h (by omega), (Below.refl _ _).alloc (Nat.le_refl _) _, _, Blk.new _ _ _, rfl⟩
  case round =>
    obtain ⟨k, hk, rfl, hlow, hb, hB⟩ := hrel
    obtain ⟨cs, hB1, hcs⟩ := hB.out
    obtain ⟨⟨u0, u1, rfl⟩⟩ : Nonempty (∃ u0 u1, cs = #[u0, u1]) := ⟨by
      match cs, hcs with
      | ⟨[a, b]⟩, _ => exact ⟨a, b, rfl⟩⟩
    clear hcs
    have f0 := hB1.frozen 0
    have f1 := hB1.frozen 1
    have WB := hid (fun (u v : Value) => ((hB1.set_ 0 u).set_ 1 v))
    have WW := hid (fun (u v : Value) => (hb.out.setCell (p := ⟨w.heap.size, 0, none⟩) (Nat.le_refl _) u).setCell (p := ⟨w.heap.size, 1, none⟩) (Nat.le_refl _) v)
    have q0 := hB1.cell 0
    have q1 := hB1.cell 1
    simp only [List.getElem?_toArray, List.getElem?_cons_zero, List.getElem?_cons_succ] at q0 q1
    by_cases h : k < l.length
    · have hc := l[k].toNat_lt
      have hc' : (l[k].toNat : Int) < 256 := by omega
      by_cases h61 : l[k] = 61
      · have y1 : ((l[k].toNat : Int) != 61) = false := by rw [h61]; rfl
        have hp := hlow.out.eq h h61
        have t0 : ((k : Int) == (l.length : Int)) = false := by rw [beq_eq_false_iff_ne]; omega
        clear hlow
        by_cases k1 : k < 1
        · have HP := hid (show pairO l = none by rw [hp, if_pos (.inl k1)])
          have t1 : (k : Int) < 1 := by omega
          clear hp h61
          go_wp2
          have e0 := (WB.out (.string (S [])) (.string (S []))).cell 0
          have e1 := (WB.out (.string (S [])) (.string (S []))).cell 1
          refine bodyPost_ret (v := .tuple #[.agg #[.string (S []), .string (S [])], .bool false]) (by simp [results, Tryd.results40, go_sem, e0, e1]) rfl (pair_none HP.out (WW.out _ _))
        · by_cases k2 : 20 < k
          · have HP := hid (show pairO l = none by rw [hp, if_pos (.inr (.inl k2))])
            have t1 : (20 : Int) < k := by omega
            clear hp h61
            go_wp2
            have e0 := (WB.out (.string (S [])) (.string (S []))).cell 0
            have e1 := (WB.out (.string (S [])) (.string (S []))).cell 1
            refine bodyPost_ret (v := .tuple #[.agg #[.string (S []), .string (S [])], .bool false]) (by simp [results, Tryd.results40, go_sem, e0, e1]) rfl (pair_none HP.out (WW.out _ _))
          · by_cases k3 : 100 < l.length - k - 1
            · have HP := hid (show pairO l = none by rw [hp, if_pos (.inr (.inr k3))])
              have t1 : (k : Int) ≤ 20 := by omega
              have t2 : (1 : Int) ≤ k := by omega
              have t3 : (100 : Int) < (l.length : Int) - k - 1 := by omega
              clear hp h61
              go_wp2
              have e0 := (WB.out (.string (S [])) (.string (S []))).cell 0
              have e1 := (WB.out (.string (S [])) (.string (S []))).cell 1
              refine bodyPost_ret (v := .tuple #[.agg #[.string (S []), .string (S [])], .bool false]) (by simp [results, Tryd.results40, go_sem, e0, e1]) rfl (pair_none HP.out (WW.out _ _))
            · rw [if_neg (by omega)] at hp
              have HP := hid hp
              have t1 : (k : Int) ≤ 20 := by omega
              have t2 : (1 : Int) ≤ k := by omega
              have t3 : (l.length : Int) - k - 1 ≤ 100 := by omega
              have t4 : (l.length : Int) - k ≤ 101 := by omega
              clear hp h61
              go_wp2
              have hb1 := hb.out
              have hlt := hB1.lt
              have HB1 := hid hB1
              clear hB1 hb WB WW q0 q1 f0 f1 hB
              obtain ⟨wo, rfl⟩ : ∃ wo : World, wo = wr := ⟨_, rfl⟩
              go_loopw [5, 6] (fun o i wq => ∃ (m : Nat) (os : List UInt8) (A : Option Addr) (c : Nat), k + 1 ≤ m ∧ m ≤ l.length ∧ i = .int .i64 m ∧ o = .slice A os.length c ∧ os.length ≤ m ∧ Hid (plainO (l.drop (k + 1)) = (plainO (l.drop m)).map (os ++ ·)) ∧ Hid (wq.ownsRow (w.heap.size + 1) 5 1 (.slice A os.length c) os.length (os.map B8)) ∧ Hid (Below (w.heap.size + 1) wo wq)) (fun _ i _ => l.length - (intOf i).toNat)
              case atStart => exact ⟨k + 1, [], none, 0, by omega, by omega, by go_num, rfl, by simp, by unfold Hid; simp, World.ownsRow_nil _ _ _ _, Below.refl _ _⟩
              case round =>
                obtain ⟨m, os, A, c, hkm, hm, rfl, rfl, hol, hpl, hrow, hbq⟩ := hrel
                have hBq := HB1.out.below hbq.out (by omega)
                have f0 := hBq.frozen 0
                have f1 := hBq.frozen 1
                have q0 := hBq.cell 0
                have q1 := hBq.cell 1
                simp only [List.getElem?_toArray, List.getElem?_cons_zero, List.getElem?_cons_succ] at q0 q1
                have hbw : Below w.heap.size w wr := hb1.trans (hbq.out.mono (by omega))
                have WB2 := hid (fun (u v : Value) => ((hBq.set_ 0 u).set_ 1 v))
                have WW2 := hid (fun (u v : Value) => (hbw.setCell (p := ⟨w.heap.size, 0, none⟩) (Nat.le_refl _) u).setCell (p := ⟨w.heap.size, 1, none⟩) (Nat.le_refl _) v)
                clear hBq hbw
                by_cases hlm : m < l.length
                · have hd : l.drop m = l[m] :: l.drop (m + 1) := List.drop_eq_getElem_cons hlm
                  by_cases h37 : l[m] = 37
                  · have y37 : ((l[m].toNat : Int) != 37) = false := by rw [h37]; rfl
                    rw [h37] at hd
                    clear h37
                    by_cases h2 : l.length ≤ m + 2
                    · have HN := hid (show pairO l = none by rw [HP.out, hpl.out, hd, plainO_short (by simp; omega)]; rfl)
                      have t5 : (l.length : Int) ≤ (m : Int) + 2 := by omega
                      clear hpl hd h2
                      go_wp2
                      have e0 := (WB2.out (.string (S [])) (.string (S []))).cell 0
                      have e1 := (WB2.out (.string (S [])) (.string (S []))).cell 1
                      refine bodyPost_ret (v := .tuple #[.agg #[.string (S []), .string (S [])], .bool false]) (by simp [results, Tryd.results40, go_sem, e0, e1]) rfl (pair_none HN.out (WW2.out _ _))
                    · have t5 : (m : Int) + 2 < (l.length : Int) := by omega
                      have hd1 : l.drop (m + 1) = l[m + 1]'(by omega) :: l.drop (m + 2) := List.drop_eq_getElem_cons (by omega)
                      have hd2 : l.drop (m + 2) = l[m + 2]'(by omega) :: l.drop (m + 3) := List.drop_eq_getElem_cons (by omega)
                      rw [hd1, hd2] at hd
                      clear hd1 hd2
                      have hm1 : m + 1 < l.length := by omega
                      have hm2 : m + 2 < l.length := by omega
                      have e1 : ((m : Int) + 1).toNat = m + 1 := by omega
                      have e2 : ((m : Int) + 2).toNat = m + 2 := by omega
                      generalize hx : l[m + 1]'(by omega) = x at *
                      generalize hy : l[m + 2]'(by omega) = y at *
                      have na := nibI_le x
                      have nb := nibI_le y
                      have HX := hid hx
                      have HY := hid hy
                      clear h2
                      by_cases ha : nibI x < 0
                      · have HN := hid (show pairO l = none by rw [HP.out, hpl.out, hd, plainO_bad (.inl ha)]; rfl)
                        clear hpl hd
                        go_wp2_with fail
                        refine (ref_digit _ _).mono ?_
                        rintro e w' ⟨rfl, rfl⟩
                        go_wp2_with fail
                        refine (ref_digit _ _).mono ?_
                        rintro e w' ⟨rfl, rfl⟩
                        go_wp2
                        have e0 := (WB2.out (.string (S [])) (.string (S []))).cell 0
                        have e1 := (WB2.out (.string (S [])) (.string (S []))).cell 1
                        refine bodyPost_ret (v := .tuple #[.agg #[.string (S []), .string (S [])], .bool false]) (by simp [results, Tryd.results40, go_sem, e0, e1]) rfl (pair_none HN.out (WW2.out _ _))
                      · have ha' : 0 ≤ nibI x := by omega
                        by_cases hbn : nibI y < 0
                        · have HN := hid (show pairO l = none by rw [HP.out, hpl.out, hd, plainO_bad (.inr hbn)]; rfl)
                          clear hpl hd ha
                          go_wp2_with fail
                          refine (ref_digit _ _).mono ?_
                          rintro e w' ⟨rfl, rfl⟩
                          go_wp2_with fail
                          refine (ref_digit _ _).mono ?_
                          rintro e w' ⟨rfl, rfl⟩
                          go_wp2
                          have e0 := (WB2.out (.string (S [])) (.string (S []))).cell 0
                          have e1 := (WB2.out (.string (S [])) (.string (S []))).cell 1
                          refine bodyPost_ret (v := .tuple #[.agg #[.string (S []), .string (S [])], .bool false]) (by simp [results, Tryd.results40, go_sem, e0, e1]) rfl (pair_none HN.out (WW2.out _ _))
                        · have hb2 : 0 ≤ nibI y := by omega
                          obtain ⟨A', c', w', hrun, hrow1, hb3⟩ := append_byte wr (UInt8.ofNat (16 * nibI x + nibI y).toNat) hrow.out (by omega) (Nat.le_trans hlt hbq.out.size)
                          have hval : ((UInt8.ofNat (16 * nibI x + nibI y).toNat).toNat : Int) = 16 * nibI x + nibI y := by simp; omega
                          rw [hval] at hrun
                          have HM := hid (map_snoc hpl.out (by rw [hd]; exact plainO_sign ha' hb2))
                          have HR := hid hrow1
                          have HB := hid (hbq.out.trans hb3)
                          clear hrow1 hb3 hpl hrow hbq hd ha hbn hval
                          go_wp2_with fail
                          refine (ref_digit _ _).mono ?_
                          rintro e w' ⟨rfl, rfl⟩
                          go_wp2_with fail
                          refine (ref_digit _ _).mono ?_
                          rintro e w' ⟨rfl, rfl⟩
                          go_wp2_with (first | (at_builtin; refine wpList_append_run rfl _ _ _ (by rfl) _ _ _ _ (by rfl) (by rfl) hrun ?_))
                          go_roundw
                          case rel => exact ⟨m + 3, os ++ [UInt8.ofNat (16 * nibI x + nibI y).toNat], A', c', by omega, by omega, by go_num, by simp, by simp; omega, HM, HR, HB⟩
                          case measure => simp [intOf]; omega
                  · have y37 : ((l[m].toNat : Int) != 37) = true := by
                      rw [bne_iff_ne]
                      intro e
                      have e' : l[m].toNat = 37 := by omega
                      exact h37 (UInt8.toNat_inj.1 e')
                    obtain ⟨A', c', w', hrun, hrow1, hb2⟩ := append_byte wr l[m] hrow.out (by omega) (Nat.le_trans hlt hbq.out.size)
                    have HM := hid (map_snoc hpl.out (by rw [hd]; exact plainO_cons (by simpa using h37)))
                    have HR := hid hrow1
                    have HB := hid (hbq.out.trans hb2)
                    clear hrow1 hb2 hpl hrow hbq hd
                    go_wp2_with (first | (at_builtin; refine wpList_append_run rfl _ _ _ (by rfl) _ _ _ _ (by rfl) (by rfl) hrun ?_))
                    go_roundw
                    case rel => exact ⟨m + 1, os ++ [l[m]], A', c', by omega, by omega, by go_num, by simp, by simp; omega, HM, HR, HB⟩
                    case measure => simp [intOf]; omega
                · have hml : m = l.length := by omega
                  subst hml
                  have HS := hid (show pairO l = some (l.take k, os) by rw [HP.out, hpl.out]; simp [plainO])
                  have hs : (convert 63 9 (.slice A os.length c)).run Tryd.prog wr.drew = .ok (.string (S os)) wr.drew := run_string_row wr.drew (row_drew hrow.out 1)
                  clear hpl
                  go_wp2
                  go_region
                  all_goals
                    go_wp2
                    have e0 := (WB2.out (.string (S (l.take k))) (.string (S os))).drew.cell 0
                    have e1 := (WB2.out (.string (S (l.take k))) (.string (S os))).drew.cell 1
                    refine bodyPost_ret (v := .tuple #[.agg #[.string (S (l.take k)), .string (S os)], .bool true]) (by simp [results, Tryd.results40, go_sem, e0, e1]) rfl (pair_some HS.out (below_drewN (WW2.out _ _) 1))
      · have y1 : ((l[k].toNat : Int) != 61) = true := by
          rw [bne_iff_ne]
          intro e
          have e' : l[k].toNat = 61 := by omega
          exact h61 (UInt8.toNat_inj.1 e')
        cases hs : nameC l[k] with
        | true =>
          have hlow' := hid (hlow.out.next h h61 hs)
          have hx : (97 ≤ l[k].toNat ∧ l[k].toNat ≤ 122) ∨ l[k].toNat = 95 := by
            simp [nameC] at hs
            omega
          clear hs hlow
          rcases hx with ⟨a1, a2⟩ | hx
          · have b1 : (97 : Int) ≤ l[k].toNat := by omega
            have b2 : (l[k].toNat : Int) ≤ 122 := by omega
            go_wp2
            go_roundw
            case rel => exact ⟨k + 1, by omega, by go_num, hlow', hb, hB⟩
            case measure => simp [intOf]; omega
          · have y : ((l[k].toNat : Int) != 95) = false := by simp; omega
            have y2 : (l[k].toNat : Int) < 97 := by omega
            clear hx
            go_wp2
            go_roundw
            case rel => exact ⟨k + 1, by omega, by go_num, hlow', hb, hB⟩
            case measure => simp [intOf]; omega
        | false =>
          have HP := hid (hlow.out.bad h h61 hs)
          have hx : ¬ (97 ≤ l[k].toNat ∧ l[k].toNat ≤ 122) ∧ l[k].toNat ≠ 95 := by
            simp [nameC] at hs
            omega
          clear hs hlow
          obtain ⟨x1, x6⟩ := hx
          have y6 : ((l[k].toNat : Int) != 95) = true := by simp; omega
          by_cases z2 : (l[k].toNat : Int) < 97
          · clear x1 x6
            go_wp2
            have e0 := (WB.out (.string (S [])) (.string (S []))).cell 0
            have e1 := (WB.out (.string (S [])) (.string (S []))).cell 1
            refine bodyPost_ret (v := .tuple #[.agg #[.string (S []), .string (S [])], .bool false]) (by simp [results, Tryd.results40, go_sem, e0, e1]) rfl (pair_none HP.out (WW.out _ _))
          · have z3 : (122 : Int) < l[k].toNat := by omega
            have z4 : decide ((l[k].toNat : Int) ≤ 122) = false := by simp; omega
            clear x1 x6 z3
            go_wp2
            have e0 := (WB.out (.string (S [])) (.string (S []))).cell 0
            have e1 := (WB.out (.string (S [])) (.string (S []))).cell 1
            refine bodyPost_ret (v := .tuple #[.agg #[.string (S []), .string (S [])], .bool false]) (by simp [results, Tryd.results40, go_sem, e0, e1]) rfl (pair_none HP.out (WW.out _ _))
    · have hk' : k = l.length := by omega
      subst hk'
      have HP := hid hlow.out.all
      have t0 : ((l.length : Int) == (l.length : Int)) = true := by simp
      clear hlow
      go_wp2
      have e0 := (WB.out (.string (S [])) (.string (S []))).cell 0
      have e1 := (WB.out (.string (S [])) (.string (S []))).cell 1
      refine bodyPost_ret (v := .tuple #[.agg #[.string (S []), .string (S [])], .bool false]) (by simp [results, Tryd.results40, go_sem, e0, e1]) rfl (pair_none HP.out (WW.out _ _))
end Go.Proofs.YtecekflooihkoaaDoor
