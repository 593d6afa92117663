/- Walks of text.Query and of the document's. -/
import Derived.Test.YtecekflooihkoaaDoorQW3
set_option linter.unusedVariables false
set_option linter.unusedSimpArgs false
set_option maxHeartbeats 6400000
set_option maxRecDepth 100000
namespace Go.Proofs.YtecekflooihkoaaDoor
open Go.RowKit

def queryE (l : List UInt8) : Int := if queryB l then 0 else 2
/-- A list of pairs that is made. -/
def MadeP (w : World) (ps : List SPair) (v : Value) (w' : World) : Prop := w'.ownsRow w.heap.size 33 2 v ps.length (ps.flatMap pCells) ∧ Below w.heap.size w w'
def QueryPost (l : List UInt8) (w : World) (e : Ending) (w' : World) : Prop := ∃ A c, e = .returned (.tuple #[.slice A (queryV l).length c, .int .i64 (queryE l)]) ∧ MadeP w (queryV l) (.slice A (queryV l).length c) w'
theorem made_nil {w w' : World} (hb : Below w.heap.size w w') : MadeP w [] (.slice none 0 0) w' := ⟨World.ownsRow_nil _ _ _ _, hb⟩
theorem query_no {l : List UInt8} {w w' : World} (h : queryR l = none) (hb : Below w.heap.size w w') : QueryPost l w (.returned (.tuple #[.slice none 0 0, .int .i64 2])) w' := by
  unfold QueryPost queryE queryB queryV
  rw [h]
  exact ⟨none, 0, rfl, made_nil hb⟩
theorem query_yes {l : List UInt8} {os : List SPair} {w w' : World} {A : Option Addr} {c : Nat} (h : queryR l = some os) (hm : MadeP w os (.slice A os.length c) w') : QueryPost l w (.returned (.tuple #[.slice A os.length c, .int .i64 0])) w' := by
  unfold QueryPost queryE queryB queryV
  rw [h]
  exact ⟨A, c, rfl, hm⟩
theorem findN_any (q : SPair → Bool) (ps : List SPair) : (ps.any q = true ∧ 0 ≤ findN q ps 0) ∨ (ps.any q = false ∧ findN q ps 0 < 0) := by
  rcases findN_spec q ps 0 with ⟨h1, h2⟩ | ⟨i, hi, h1, h2, h3, h4⟩
  · refine .inr ⟨?_, by omega⟩
    rw [List.any_eq_false]
    intro x hx
    have := List.find?_eq_none.1 h2 x hx
    simpa using this
  · refine .inl ⟨?_, by omega⟩
    rw [List.any_eq_true]
    exact ⟨ps[i], List.getElem_mem hi, h3⟩
/-- One word more. -/
theorem queryO_bad {os : List SPair} {x : List UInt8} {ws : List (List UInt8)} (h : pairO x = none) : queryO os (x :: ws) = none := by
  unfold queryO
  rw [h]
theorem queryO_twice {os : List SPair} {x : List UInt8} {ws : List (List UInt8)} {p : SPair} (h : pairO x = some p) (ha : os.any (fun y => y.1 == p.1) = true) : queryO os (x :: ws) = none := by
  unfold queryO
  rw [h]
  simp [ha]
theorem queryO_one {os : List SPair} {x : List UInt8} {ws : List (List UInt8)} {p : SPair} (h : pairO x = some p) (ha : os.any (fun y => y.1 == p.1) = false) : queryO os (x :: ws) = queryO (os ++ [p]) ws := by
  conv => lhs; unfold queryO
  rw [h]
  simp [ha]

theorem pairO_is (x : List UInt8) : pairO x = if (behind 61 x).isEmpty = true ∨ nameB (ahead 61 x) = false ∨ 100 < (behind 61 x).tail.length then none else (plainO (behind 61 x).tail).map fun v => (ahead 61 x, v) := by
  unfold pairO
  simp only [List.isEmpty_iff]
theorem text_Query (l : List UInt8) (hl : l.length ≤ 200) (w : World) (hm : HasMax w) : Calls Tryd.prog 11 #[.string (S l)] w (QueryPost l w) := by
  cases hl0 : l with
  | nil =>
    have H := hid (query_yes (l := []) (os := []) (w := w) (w' := w) (A := none) (c := 0) rfl (made_nil (Below.refl _ _)))
    clear hl0
    go_enter Tryd.func11, Tryd.ntmps11
    go_wp2
    go_ret2
    exact H.out
  | cons c0 l0 =>
    rw [← hl0]
    have hne : l ≠ [] := by rw [hl0]; simp
    have he1 : l.isEmpty = false := by rw [hl0]; rfl
    have hQ : queryR l = queryO [] (wordsC 38 l) := by unfold queryR; rw [if_neg hne]
    have hwl := wordsC_len 38 l
    have hwm := wordsC_mem 38 l
    have SP := hid (str_Split 38 l w hm (by omega))
    have HQ := hid hQ
    clear hQ hl0 hne
    generalize wordsC 38 l = ws at *
    have HWM := hid hwm
    clear hwm
    go_enter Tryd.func11, Tryd.ntmps11
    go_wp2_with fail
    refine SP.out.mono ?_
    rintro e w1 ⟨rfl, hw1⟩
    have hB1 : Blk w1 w.heap.size 9 (ws.map fun x => Value.string (S x)).toArray := by rw [hw1]; exact Blk.new _ _ _
    have hb1 : Below w.heap.size w w1 := by rw [hw1]; exact (Below.refl _ _).alloc (Nat.le_refl _) _
    have HB1 := hid hB1
    have Hb1 := hid hb1
    have hs1 : w.heap.size + 1 ≤ w1.heap.size := hB1.lt
    have HM := hid hm
    clear hw1 hB1 hb1 SP hm
    go_wp2
    go_loopw [17, 4] (fun i o wr => ∃ (k : Nat) (os : List SPair) (A : Option Addr) (c : Nat), k ≤ ws.length ∧ i = .int .i64 k ∧ o = .slice A os.length c ∧ os.length ≤ k ∧ Hid (queryO os (ws.drop k) = queryO [] ws) ∧ Hid (wr.ownsRow (w.heap.size + 1) 33 2 (.slice A os.length c) os.length (os.flatMap pCells)) ∧ Hid (Below (w.heap.size + 1) w1 wr)) (fun i _ _ => ws.length - (intOf i).toNat)
    case atStart => exact ⟨0, [], none, 0, Nat.zero_le _, rfl, rfl, by simp, rfl, World.ownsRow_nil _ _ _ _, Below.refl _ _⟩
    case round =>
      obtain ⟨k, os, A, c, hk, rfl, rfl, hol, hq, hrow, hb⟩ := hrel
      have hbw : Below w.heap.size w wr := Hb1.out.trans (hb.out.mono (by omega))
      have HBW := hid hbw
      by_cases h : k < ws.length
      · have hd : ws.drop k = ws[k] :: ws.drop (k + 1) := List.drop_eq_getElem_cons h
        have hcell := ((HB1.out.below hb.out (by omega)).cell k)
        simp only [List.getElem?_toArray, List.getElem?_map, List.getElem?_eq_getElem h, Option.map_some] at hcell
        have hxl : ws[k].length ≤ l.length := HWM.out _ (List.getElem_mem h)
        have HQ1 := hid (show queryR l = queryO os (ws[k] :: ws.drop (k + 1)) by rw [HQ.out, ← hq.out, hd])
        clear hd hq
        generalize ws[k] = x at *
        have CU := hid (str_CutC 61 x wr (HM.out.below hbw) (by omega))
        have hal := ahead_len 61 x
        have hbl := behind_len 61 x
        go_wp2_with fail
        refine CU.out.mono ?_
        rintro e w2 ⟨rfl, n, hw2⟩
        have hb2 : Below wr.heap.size wr w2 := by rw [hw2]; exact below_drewN (Below.refl _ _) n
        have hrow2 : Hid (w2.ownsRow (w.heap.size + 1) 33 2 (.slice A os.length c) os.length (os.flatMap pCells)) := by rw [hw2]; exact row_drew hrow.out n
        clear hw2 CU hrow
        have hpO := pairO_is x
        have BW2 := hid (show Below w.heap.size w w2 from hbw.trans (hb2.mono hbw.size))
        have B12 := hid (show Below (w.heap.size + 1) w1 w2 from hb.out.trans (hb2.mono (Nat.le_trans hs1 hb.out.size)))
        have hs2 : w.heap.size + 1 ≤ w2.heap.size := Nat.le_trans hs1 B12.out.size
        have PL := hid (text_plain (behind 61 x).tail (by simp; omega) w2)
        have NM := hid (fun W => text_named (ahead 61 x) (by omega) W)
        have hvl : (behind 61 x).tail.length ≤ 200 := by simp; omega
        clear hal hbl hb2 hbw hb hcell HWM HB1 Hb1
        generalize (behind 61 x).isEmpty = ise at *
        generalize (behind 61 x).tail = v at *
        generalize ahead 61 x = nm at *
        cases ise with
        | true =>
          have HP := hid (show queryR l = none by rw [HQ1.out, queryO_bad (by rw [hpO, if_pos (.inl rfl)])])
          clear hpO
          go_wp2_with fail
          refine PL.out.mono ?_
          rintro e w3 ⟨rfl, hb3⟩
          have HF := hid (query_no HP.out (bt BW2.out hb3))
          clear hb3
          go_wp2
          go_ret2
          exact HF.out
        | false =>
          cases hp : plainO v with
          | none =>
            have HP := hid (show queryR l = none by rw [HQ1.out, queryO_bad (by rw [hpO, hp]; split <;> rfl)])
            have PLn := hid (show plainB v = false by unfold plainB; rw [hp]; rfl)
            clear hpO hp
            go_wp2_with fail
            refine PL.out.mono ?_
            rintro e w3 ⟨rfl, hb3⟩
            rw [PLn.out]
            have HF := hid (query_no HP.out (bt BW2.out hb3))
            clear hb3
            go_wp2
            go_ret2
            exact HF.out
          | some o =>
            have PLb := hid (show plainB v = true by unfold plainB; rw [hp]; rfl)
            have PLv := hid (show plainV v = o by unfold plainV; rw [hp]; rfl)
            cases hn : nameB nm with
            | false =>
              have HP := hid (show queryR l = none by rw [HQ1.out, queryO_bad (by rw [hpO, if_pos (.inr (.inl hn))])])
              rw [hn] at NM
              clear hpO hp hn
              go_wp2_with fail
              refine PL.out.mono ?_
              rintro e w3 ⟨rfl, hb3⟩
              rw [PLb.out, PLv.out]
              have HF := hid (query_no HP.out (bt BW2.out hb3))
              clear hb3
              go_wp2_with fail
              refine (NM.out _).mono ?_
              rintro e w4 ⟨rfl, rfl⟩
              go_wp2
              go_ret2
              exact HF.out
            | true =>
              rw [hn] at NM
              by_cases hv : 100 < v.length
              · have HP := hid (show queryR l = none by rw [HQ1.out, queryO_bad (by rw [hpO, if_pos (.inr (.inr hv))])])
                have hv1 : (100 : Int) < v.length := by omega
                clear hpO hp hn hv
                go_wp2_with fail
                refine PL.out.mono ?_
                rintro e w3 ⟨rfl, hb3⟩
                rw [PLb.out, PLv.out]
                have HF := hid (query_no HP.out (bt BW2.out hb3))
                clear hb3
                go_wp2_with fail
                refine (NM.out _).mono ?_
                rintro e w4 ⟨rfl, rfl⟩
                go_wp2
                go_ret2
                exact HF.out
              · have hpo : pairO x = some (nm, o) := by rw [hpO, if_neg (by simp [hn]; omega), hp]; rfl
                have hv1 : (v.length : Int) ≤ 100 := by omega
                rcases findN_any (fun y => y.1 == nm) os with ⟨ha, hf⟩ | ⟨ha, hf⟩
                · have HP := hid (show queryR l = none by rw [HQ1.out, queryO_twice hpo ha])
                  clear hpO hp hn hv hpo ha
                  go_wp2_with fail
                  refine PL.out.mono ?_
                  rintro e w3 ⟨rfl, hb3⟩
                  rw [PLb.out, PLv.out]
                  have BW3 := hid (bt BW2.out hb3)
                  have FI := hid (text_find nm A os c w3 (by omega) (pairs_row (row_below hrow2.out hb3)))
                  clear hb3
                  go_wp2_with fail
                  refine (NM.out _).mono ?_
                  rintro e w4 ⟨rfl, rfl⟩
                  go_wp2_with fail
                  refine FI.out.mono ?_
                  rintro e w5 ⟨rfl, hb5⟩
                  have HF := hid (query_no HP.out (bt BW3.out hb5))
                  clear hb5
                  go_wp2
                  go_ret2
                  exact HF.out
                · have HP := hid (show queryO (os ++ [(nm, o)]) (ws.drop (k + 1)) = queryO [] ws by rw [← HQ.out, HQ1.out, queryO_one hpo ha])
                  clear hpO hp hn hv hpo ha
                  go_wp2_with fail
                  refine PL.out.mono ?_
                  rintro e w3 ⟨rfl, hb3⟩
                  rw [PLb.out, PLv.out]
                  have HR3 := hid (row_below hrow2.out hb3)
                  have B13 := hid (show Below (w.heap.size + 1) w1 w3 from B12.out.trans (hb3.mono hs2))
                  have FI := hid (text_find nm A os c w3 (by omega) (pairs_row HR3.out))
                  clear hb3
                  go_wp2_with fail
                  refine (NM.out _).mono ?_
                  rintro e w4 ⟨rfl, rfl⟩
                  go_wp2_with fail
                  refine FI.out.mono ?_
                  rintro e w5 ⟨rfl, hb5⟩
                  have HR5 := hid (row_below HR3.out hb5)
                  have B15 := hid (show Below (w.heap.size + 1) w1 w5 from B13.out.trans (hb5.mono (Nat.le_trans hs1 B13.out.size)))
                  have hs5 : w.heap.size + 1 ≤ w5.heap.size := Nat.le_trans hs1 B15.out.size
                  clear hb5
                  go_wp2_with (first | (at_builtin; refine wpList_append_pair (y := (nm, o)) rfl _ _ (by rfl) rfl (by rfl) (by rfl) HR5.out (by omega) hs5 ?_; intro A' c' w6 hrow6 hb6))
                  go_roundw
                  case rel => exact ⟨k + 1, os ++ [(nm, o)], A', c', by omega, by go_num, by simp, by simp; omega, HP, hrow6, B15.out.trans hb6⟩
                  case measure => simp [intOf]; omega
      · have hk' : k = ws.length := by omega
        subst hk'
        have HF := hid (query_yes (l := l) (os := os) (w := w) (w' := wr) (A := A) (c := c) (by rw [HQ.out, ← hq.out, List.drop_length]; rfl) ⟨row_base hrow.out (by omega), hbw⟩)
        clear hq hrow hb hbw
        go_wp2
        go_ret2
        exact HF.out
end Go.Proofs.YtecekflooihkoaaDoor
