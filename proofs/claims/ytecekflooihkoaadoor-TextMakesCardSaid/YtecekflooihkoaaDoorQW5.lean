/- Walk of the document's Query. -/
import Derived.Test.YtecekflooihkoaaDoorQW4
set_option linter.unusedVariables false
set_option linter.unusedSimpArgs false
set_option maxHeartbeats 6400000
set_option maxRecDepth 100000
namespace Go.Proofs.YtecekflooihkoaaDoor
open Go.RowKit

/-- What the document's Query has read: up to i, out of which the word from f on is not yet told. -/
def QAt (l : List UInt8) (f i : Nat) (os : List SPair) : Prop :=
  (i ≤ l.length ∧ f ≤ i ∧ (∀ j, f ≤ j → j < i → (h : j < l.length) → l[j] ≠ 38) ∧ queryO os (wordsC 38 (l.drop f)) = queryR l) ∨ (i = l.length + 1 ∧ queryR l = some os)
theorem QAt.on {l : List UInt8} {f i : Nat} {os : List SPair} (h : QAt l f i os) (hi : i < l.length) (hc : l[i] ≠ 38) : QAt l f (i + 1) os := by
  rcases h with ⟨h1, h2, h3, h4⟩ | ⟨h1, h2⟩
  · refine .inl ⟨by omega, by omega, fun j hj hji hjl => ?_, h4⟩
    rcases Nat.lt_or_ge j i with h | h
    · exact h3 j hj h hjl
    · obtain rfl : j = i := by omega
      exact hc
  · omega
theorem QAt.word {l : List UInt8} {f i : Nat} {os : List SPair} (h : QAt l f i os) (hi : i ≤ l.length) (hc : ∀ h : i < l.length, l[i] = 38) :
    ∃ ws, queryR l = queryO os (((l.drop f).take (i - f)) :: ws) ∧ (i < l.length → ws = wordsC 38 (l.drop (i + 1))) ∧ (i = l.length → ws = []) := by
  rcases h with ⟨h1, h2, h3, h4⟩ | ⟨h1, h2⟩
  · by_cases hl : i < l.length
    · refine ⟨wordsC 38 (l.drop (i + 1)), ?_, fun _ => rfl, fun h => by omega⟩
      have hg : ∀ j, (h : j < (l.drop f).length) → j < i - f → (l.drop f)[j] ≠ 38 := by
        intro j hj hji
        rw [List.getElem_drop]
        exact h3 _ (by omega) (by omega) _
      have hk : (l.drop f)[i - f]'(by simp; omega) = 38 := by
        rw [List.getElem_drop]
        have := hc hl
        have e : f + (i - f) = i := by omega
        simp only [e]
        exact this
      obtain ⟨e1, e2⟩ := behind_at hg (by simp; omega) hk
      rw [← h4, wordsC_step e2, e1, List.drop_drop]
      congr 4
      omega
    · have hi' : i = l.length := by omega
      refine ⟨[], ?_, fun h => absurd h hl, fun _ => rfl⟩
      have hg : ∀ j, (h : j < (l.drop f).length) → (l.drop f)[j] ≠ 38 := by
        intro j hj
        rw [List.getElem_drop]
        simp at hj
        exact h3 _ (by omega) (by omega) _
      obtain ⟨e1, e2⟩ := behind_none hg
      rw [← h4, wordsC_last e2, e1, List.take_of_length_le (by simp; omega)]
  · omega
theorem QAt.next {l : List UInt8} {f i : Nat} {os : List SPair} {p : SPair} {ws : List (List UInt8)} (hi : i ≤ l.length) (hq : queryR l = queryO os (((l.drop f).take (i - f)) :: ws)) (h1 : i < l.length → ws = wordsC 38 (l.drop (i + 1))) (h2 : i = l.length → ws = [])
    (hp : pairO ((l.drop f).take (i - f)) = some p) (ha : os.any (fun y => y.1 == p.1) = false) : QAt l (i + 1) (i + 1) (os ++ [p]) := by
  rw [queryO_one hp ha] at hq
  by_cases hl : i < l.length
  · rw [h1 hl] at hq
    exact .inl ⟨by omega, Nat.le_refl _, fun j hj hji => by omega, hq.symm⟩
  · rw [h2 (by omega)] at hq
    exact .inr ⟨by omega, hq⟩
def QRPost (l : List UInt8) (w : World) (e : Ending) (w' : World) : Prop := ∃ A c, e = .returned (.tuple #[.slice A (queryV l).length c, .bool (queryB l)]) ∧ MadeP w (queryV l) (.slice A (queryV l).length c) w'
theorem rq_no {l : List UInt8} {w w' : World} (h : queryR l = none) (hb : Below w.heap.size w w') : QRPost l w (.returned (.tuple #[.slice none 0 0, .bool false])) w' := by
  unfold QRPost queryB queryV
  rw [h]
  exact ⟨none, 0, rfl, made_nil hb⟩
theorem rq_yes {l : List UInt8} {os : List SPair} {w w' : World} {A : Option Addr} {c : Nat} (h : queryR l = some os) (hm : MadeP w os (.slice A os.length c) w') : QRPost l w (.returned (.tuple #[.slice A os.length c, .bool true])) w' := by
  unfold QRPost queryB queryV
  rw [h]
  exact ⟨A, c, rfl, hm⟩

theorem ref_Query (l : List UInt8) (hl : l.length ≤ 200) (w : World) : Calls Tryd.prog 12 #[.string (S l)] w (QRPost l w) := by
  cases hl0 : l with
  | nil =>
    have H := hid (rq_yes (l := []) (os := []) (w := w) (w' := w) (A := none) (c := 0) rfl (made_nil (Below.refl _ _)))
    clear hl0
    go_enter Tryd.func12, Tryd.ntmps12
    go_wp2
    go_ret2
    exact H.out
  | cons c0 l0 =>
    rw [← hl0]
    have hne : l ≠ [] := by rw [hl0]; simp
    have he1 : l.isEmpty = false := by rw [hl0]; rfl
    have hQ : queryR l = queryO [] (wordsC 38 l) := by unfold queryR; rw [if_neg hne]
    have H0 := hid (show QAt l 0 0 [] from .inl ⟨by omega, Nat.le_refl _, fun j hj hji => by omega, hQ.symm⟩)
    clear hQ hl0 hne
    go_enter Tryd.func12, Tryd.ntmps12
    go_wp2
    go_loopw [4, 5, 6] (fun o fv iv wr => ∃ (f i : Nat) (os : List SPair) (A : Option Addr) (c : Nat), i ≤ l.length + 1 ∧ f ≤ i ∧ os.length ≤ i ∧ iv = .int .i64 i ∧ fv = .int .i64 f ∧ o = .slice A os.length c ∧ Hid (QAt l f i os) ∧ Hid (wr.ownsRow w.heap.size 33 2 (.slice A os.length c) os.length (os.flatMap pCells)) ∧ Hid (Below w.heap.size w wr)) (fun _ _ i _ => l.length + 1 - (intOf i).toNat)
    case atStart => exact ⟨0, 0, [], none, 0, by omega, by omega, by simp, rfl, rfl, rfl, H0, World.ownsRow_nil _ _ _ _, Below.refl _ _⟩
    case round =>
      obtain ⟨f, i, os, A, c, hi1, hfi, hos, rfl, rfl, rfl, hq, hrow, hb⟩ := hrel
      by_cases hi : i ≤ l.length
      · by_cases hcont : ∃ h : i < l.length, l[i] ≠ 38
        · obtain ⟨hil, hc⟩ := hcont
          have y1 : ((l[i].toNat : Int) != 38) = true := by
            rw [bne_iff_ne]
            intro e
            have e' : l[i].toNat = 38 := by omega
            exact hc (UInt8.toNat_inj.1 e')
          have HQ := hid (hq.out.on hil hc)
          clear hq hc
          go_wp2
          go_roundw
          case rel => exact ⟨f, i + 1, os, A, c, by omega, by omega, by omega, by go_num, rfl, rfl, HQ, hrow, hb⟩
          case measure => simp [intOf]; omega
        · have hc : ∀ h : i < l.length, l[i] = 38 := fun h => Classical.byContradiction fun hc => hcont ⟨h, hc⟩
          obtain ⟨ws, hqr, hw1, hw2⟩ := hq.out.word hi hc
          have NX := hid (fun (p : SPair) => QAt.next (p := p) hi hqr hw1 hw2)
          have HQR := hid hqr
          have hxl : ((l.drop f).take (i - f)).length ≤ 200 := by simp; omega
          have PA := hid (ref_pair ((l.drop f).take (i - f)) (by omega) wr)
          have HC := hid hc
          clear hqr hw1 hw2 hcont hq hc
          have hfl : (f : Int) ≤ l.length := by omega
          have hil : (i : Int) ≤ l.length := by omega
          have e0 : ((f : Int)).toNat = f := rfl
          by_cases hlt : i < l.length
          · have y1 : ((l[i].toNat : Int) != 38) = false := by rw [HC.out hlt]; rfl
            go_wp2_with fail
            obtain ⟨wz, rfl⟩ : ∃ wz : World, wz = wr := ⟨_, rfl⟩
            generalize (l.drop f).take (i - f) = x at *
            refine PA.out.mono ?_
            rintro e w2 ⟨rfl, hb2⟩
            have HR2 := hid (row_below hrow.out hb2)
            have HB2 := hid (bt hb.out hb2)
            clear hb2 hrow hb PA
            cases hp : pairO x with
            | none =>
              have PB := hid (show pairB x = false by unfold pairB; rw [hp]; rfl)
              have PV := hid (show pairV x = ([], []) by unfold pairV; rw [hp]; rfl)
              have HF := hid (fun o => rq_no (l := l) (w := w) (by rw [HQR.out, queryO_bad hp]) (HB2.out.alloc HB2.out.size o))
              clear hp
              rw [PB.out, PV.out]
              go_wp2
              go_ret2
              exact HF.out _
            | some p =>
              have PB := hid (show pairB x = true by unfold pairB; rw [hp]; rfl)
              have PV := hid (show pairV x = p by unfold pairV; rw [hp]; rfl)
              have HF := hid (fun (ha : os.any (fun y => y.1 == p.1) = true) => show queryR l = none by rw [HQR.out, queryO_twice hp ha])
              have NP := hid (fun (ha : os.any (fun y => y.1 == p.1) = false) => NX.out p hp ha)
              clear hp NX
              rw [PB.out, PV.out]
              have hbx : Below w2.heap.size w2 (w2.alloc (.cells #[.string (S p.1), .string (S p.2)] 33)) := (Below.refl _ _).alloc (Nat.le_refl _) _
              have hBx := Blk.new w2 33 #[.string (S p.1), .string (S p.2)]
              have HP3 := hid (pairs_row (row_below HR2.out hbx))
              have HR3 := hid (row_below HR2.out hbx)
              have HB3 := hid (bt HB2.out hbx)
              have HBx := hid hBx
              clear hbx hBx HR2 HB2
              go_wp2
              generalize w2.alloc (.cells #[.string (S p.1), .string (S p.2)] 33) = wq at *
              generalize w2.heap.size = g at *
              have hgq : g < wq.heap.size := HBx.out.lt
              go_loopw [9] (fun j wi => ∃ k : Nat, k ≤ os.length ∧ j = .int .i64 k ∧ Hid (∀ t, (h : t < os.length) → t < k → (os[t].1 == p.1) = false) ∧ Hid (Below wq.heap.size wq wi)) (fun j _ => os.length - (intOf j).toNat)
              case atStart => exact ⟨0, Nat.zero_le _, rfl, fun t h h0 => absurd h0 (by omega), Below.refl _ _⟩
              case round =>
                obtain ⟨k, hk, rfl, hlow, hbi⟩ := hrel
                have c0 := (hbi.out.cell (p := ⟨g, 0, none⟩) hgq).trans (HBx.out.cell 0)
                have c1 := (hbi.out.cell (p := ⟨g, 1, none⟩) hgq).trans (HBx.out.cell 1)
                simp only [List.getElem?_toArray, List.getElem?_cons_zero, List.getElem?_cons_succ] at c0 c1
                by_cases h : k < os.length
                · obtain ⟨b, off, rfl, hbl, hcc⟩ := HP3.out (by omega)
                  have c2 := (hbi.out.cell (p := ⟨b, off + k * 2, none⟩) hbl).trans (hcc k h).1
                  clear hcc
                  cases hq : (os[k].1 == p.1) with
                  | true =>
                    have HZ := hid (HF.out (by rw [List.any_eq_true]; exact ⟨os[k], List.getElem_mem h, hq⟩))
                    go_wp2
                    go_quiet (fail)
                    go_wp2
                    go_ret2
                    exact rq_no HZ.out (by first | exact below_drewN (bt HB3.out hbi.out) _ | exact bt HB3.out hbi.out)
                  | false =>
                    have hlow' := hid (show ∀ t, (h : t < os.length) → t < k + 1 → (os[t].1 == p.1) = false from fun t ht htk => by
                      rcases Nat.lt_or_ge t k with h1 | h1
                      · exact hlow.out t ht h1
                      · obtain rfl : t = k := by omega
                        exact hq)
                    clear hlow
                    go_wp2
                    go_quiet (fail)
                    go_wp2
                    go_roundw
                    case rel => exact ⟨k + 1, by omega, by go_num, hlow', by first | exact hid (below_drewN hbi.out _) | exact hid hbi.out⟩
                    case measure => simp [intOf]; omega
                · have hk' : k = os.length := by omega
                  subst hk'
                  have HN := hid (NP.out (by
                    rw [List.any_eq_false]
                    intro y hy
                    obtain ⟨t, ht, rfl⟩ := List.mem_iff_getElem.1 hy
                    simp [hlow.out t ht ht]))
                  have HR5 := hid (row_below HR3.out hbi.out)
                  have HB5 := hid (bt HB3.out hbi.out)
                  clear hlow hbi
                  go_wp2_with (first | (at_builtin; refine wpList_append_pair (y := p) rfl _ _ (by rfl) rfl (by rfl) (by rfl) HR5.out (by omega) HB5.out.size ?_; intro A' c' w6 hrow6 hb6))
                  go_roundw
                  case rel => exact ⟨i + 1, i + 1, os ++ [p], A', c', by omega, by omega, by simp; omega, by go_num, by go_num, by simp, HN, hrow6, HB5.out.trans hb6⟩
                  case measure => simp [intOf]; omega
          · have hlt' : (l.length : Int) ≤ i := by omega
            go_wp2_with fail
            obtain ⟨wz, rfl⟩ : ∃ wz : World, wz = wr := ⟨_, rfl⟩
            generalize (l.drop f).take (i - f) = x at *
            refine PA.out.mono ?_
            rintro e w2 ⟨rfl, hb2⟩
            have HR2 := hid (row_below hrow.out hb2)
            have HB2 := hid (bt hb.out hb2)
            clear hb2 hrow hb PA
            cases hp : pairO x with
            | none =>
              have PB := hid (show pairB x = false by unfold pairB; rw [hp]; rfl)
              have PV := hid (show pairV x = ([], []) by unfold pairV; rw [hp]; rfl)
              have HF := hid (fun o => rq_no (l := l) (w := w) (by rw [HQR.out, queryO_bad hp]) (HB2.out.alloc HB2.out.size o))
              clear hp
              rw [PB.out, PV.out]
              go_wp2
              go_ret2
              exact HF.out _
            | some p =>
              have PB := hid (show pairB x = true by unfold pairB; rw [hp]; rfl)
              have PV := hid (show pairV x = p by unfold pairV; rw [hp]; rfl)
              have HF := hid (fun (ha : os.any (fun y => y.1 == p.1) = true) => show queryR l = none by rw [HQR.out, queryO_twice hp ha])
              have NP := hid (fun (ha : os.any (fun y => y.1 == p.1) = false) => NX.out p hp ha)
              clear hp NX
              rw [PB.out, PV.out]
              have hbx : Below w2.heap.size w2 (w2.alloc (.cells #[.string (S p.1), .string (S p.2)] 33)) := (Below.refl _ _).alloc (Nat.le_refl _) _
              have hBx := Blk.new w2 33 #[.string (S p.1), .string (S p.2)]
              have HP3 := hid (pairs_row (row_below HR2.out hbx))
              have HR3 := hid (row_below HR2.out hbx)
              have HB3 := hid (bt HB2.out hbx)
              have HBx := hid hBx
              clear hbx hBx HR2 HB2
              go_wp2
              generalize w2.alloc (.cells #[.string (S p.1), .string (S p.2)] 33) = wq at *
              generalize w2.heap.size = g at *
              have hgq : g < wq.heap.size := HBx.out.lt
              go_loopw [9] (fun j wi => ∃ k : Nat, k ≤ os.length ∧ j = .int .i64 k ∧ Hid (∀ t, (h : t < os.length) → t < k → (os[t].1 == p.1) = false) ∧ Hid (Below wq.heap.size wq wi)) (fun j _ => os.length - (intOf j).toNat)
              case atStart => exact ⟨0, Nat.zero_le _, rfl, fun t h h0 => absurd h0 (by omega), Below.refl _ _⟩
              case round =>
                obtain ⟨k, hk, rfl, hlow, hbi⟩ := hrel
                have c0 := (hbi.out.cell (p := ⟨g, 0, none⟩) hgq).trans (HBx.out.cell 0)
                have c1 := (hbi.out.cell (p := ⟨g, 1, none⟩) hgq).trans (HBx.out.cell 1)
                simp only [List.getElem?_toArray, List.getElem?_cons_zero, List.getElem?_cons_succ] at c0 c1
                by_cases h : k < os.length
                · obtain ⟨b, off, rfl, hbl, hcc⟩ := HP3.out (by omega)
                  have c2 := (hbi.out.cell (p := ⟨b, off + k * 2, none⟩) hbl).trans (hcc k h).1
                  clear hcc
                  cases hq : (os[k].1 == p.1) with
                  | true =>
                    have HZ := hid (HF.out (by rw [List.any_eq_true]; exact ⟨os[k], List.getElem_mem h, hq⟩))
                    go_wp2
                    go_quiet (fail)
                    go_wp2
                    go_ret2
                    exact rq_no HZ.out (by first | exact below_drewN (bt HB3.out hbi.out) _ | exact bt HB3.out hbi.out)
                  | false =>
                    have hlow' := hid (show ∀ t, (h : t < os.length) → t < k + 1 → (os[t].1 == p.1) = false from fun t ht htk => by
                      rcases Nat.lt_or_ge t k with h1 | h1
                      · exact hlow.out t ht h1
                      · obtain rfl : t = k := by omega
                        exact hq)
                    clear hlow
                    go_wp2
                    go_quiet (fail)
                    go_wp2
                    go_roundw
                    case rel => exact ⟨k + 1, by omega, by go_num, hlow', by first | exact hid (below_drewN hbi.out _) | exact hid hbi.out⟩
                    case measure => simp [intOf]; omega
                · have hk' : k = os.length := by omega
                  subst hk'
                  have HN := hid (NP.out (by
                    rw [List.any_eq_false]
                    intro y hy
                    obtain ⟨t, ht, rfl⟩ := List.mem_iff_getElem.1 hy
                    simp [hlow.out t ht ht]))
                  have HR5 := hid (row_below HR3.out hbi.out)
                  have HB5 := hid (bt HB3.out hbi.out)
                  clear hlow hbi
                  go_wp2_with (first | (at_builtin; refine wpList_append_pair (y := p) rfl _ _ (by rfl) rfl (by rfl) (by rfl) HR5.out (by omega) HB5.out.size ?_; intro A' c' w6 hrow6 hb6))
                  go_roundw
                  case rel => exact ⟨i + 1, i + 1, os ++ [p], A', c', by omega, by omega, by simp; omega, by go_num, by go_num, by simp, HN, hrow6, HB5.out.trans hb6⟩
                  case measure => simp [intOf]; omega
      · have hi' : i = l.length + 1 := by omega
        subst hi'
        have hqs : queryR l = some os := by
          rcases hq.out with h | h
          · omega
          · exact h.2
        have HF := hid (rq_yes (l := l) (os := os) (w := w) (w' := wr) (A := A) (c := c) hqs ⟨hrow.out, hb.out⟩)
        clear hq hrow hb hqs
        go_wp2
        go_ret2
        exact HF.out
end Go.Proofs.YtecekflooihkoaaDoor
