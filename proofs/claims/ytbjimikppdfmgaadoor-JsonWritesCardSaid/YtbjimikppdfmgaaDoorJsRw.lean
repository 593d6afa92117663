/- Walk of pantileref06.Write. -/
import Derived.Test.YtbjimikppdfmgaaDoorJsRf
set_option linter.unusedVariables false
set_option linter.unusedSimpArgs false
set_option maxHeartbeats 16000000
set_option maxRecDepth 100000
namespace Go.Proofs.YtbjimikppdfmgaaDoor
open Go.RowKit

theorem join_two (sep : List UInt8) : ∀ (xs : List (List UInt8)) (y : List UInt8), xs ≠ [] → Lib.join (xs ++ [y]) sep = Lib.join xs sep ++ (sep ++ y)
  | [], y, h => absurd rfl h
  | [x], y, _ => by simp [Lib.join, List.intercalate, List.intersperse]
  | x :: z :: r, y, _ => by
    have ih := join_two sep (z :: r) y (by simp)
    have e : ∀ (l : List (List UInt8)) (w : List UInt8), Lib.join (x :: w :: l) sep = x ++ sep ++ Lib.join (w :: l) sep := fun l w => by simp [Lib.join, List.intercalate, List.intersperse]
    rw [List.cons_append, List.cons_append, e, e, ← List.cons_append, ih]
    simp
theorem join_snoc (T : List (List UInt8)) (i : Nat) (h : i < T.length) (h0 : ¬ i = 0) : Lib.join (T.take (i + 1)) [44] = Lib.join (T.take i) [44] ++ 44 :: T[i] := by
  rw [take_snoc T h, join_two [44] (T.take i) T[i] (fun e => by
    have h1 : (T.take i).length = 0 := by rw [e]; rfl
    rw [List.length_take] at h1
    omega)]
  rfl
theorem ref06_Write : ∀ (n : Nat), n ≤ 6 → ∀ (j : Jv), rightP n j = true → fewJ n j → ∀ (W : World) (ok : Nat → Prop) (x : J5), JAt W ok j x →
    Calls Tryd.prog 19 #[.agg #[.int .i64 x.kind, .string (S x.text), .int .i64 x.num, .slice x.nA x.nn x.nc, .slice x.kA x.kn x.kc]] W fun e w' => e = .returned (.string (S (textJ n j))) ∧ Below W.heap.size W w'
  | n, hn, j, hr, hf, W, ok, x, hj => by
    have hlen : (textJ n j).length ≤ 1000000000 := by
      have h1 := textJ_len n j hr hf
      have h2 : 10 ^ n ≤ 10 ^ 6 := Nat.pow_le_pow_right (by decide) hn
      omega
    cases hj with
    | mk x ns ks xs hnn hnc hkn hkc hbn hbk hN hl hK hs =>
      obtain ⟨k, t, u, A, nn, nc, B, kn, kc⟩ := x
      simp only [] at *
      subst hnn hkn
      rw [rightP_eq, Bool.and_eq_true] at hr
      obtain ⟨hal, hr⟩ := hr
      rw [fewJ.eq_def] at hf
      simp only [] at hf
      obtain ⟨ft, fn, fk, fs, fr⟩ := hf
      have T0 := hid (TW.start W ⟨k, t, u, A, ns.length, nc, B, ks.length, kc⟩)
      have HLEN := hid hlen
      have LX := hid hl
      have NC := hid hN
      have HKX := hid hK
      have FS := hid fs
      clear hlen
      by_cases h1 : k = 1
      · subst h1
        rw [if_pos rfl] at hr
        simp [aloneX] at hal
        have hk0 : ks.length = 0 := by rw [hal.2]; rfl
        have Q := hid (fun (w1 : World) => ref06_Quote t (by omega) w1)
        have HR := hid (show textJ n (.mk 1 t u ns ks) = quoteP t by rw [textJ.eq_def]; rfl)
        clear hal hs fr hK hN hr hl hk0
        go_enter Tryd.func19, Tryd.ntmps19
        go_wp2_with fail
        refine (Q.out _).mono ?_
        rintro e w2 ⟨rfl, h2⟩
        have HB := hid (bt T0.out.bel h2)
        clear h2
        go_wp2
        go_ret
        exact ⟨by rw [HR.out]; rfl, HB.out⟩
      · rw [if_neg h1] at hr
        by_cases h2 : k = 2
        · subst h2
          rw [if_pos rfl] at hr
          simp [aloneX] at hal
          have hk0 : ks.length = 0 := by rw [hal.2]; rfl
          simp at hr
          have Q := hid (fun (w1 : World) => ref06_Digits u hr.1 hr.2 w1)
          have HR := hid (show textJ n (.mk 2 t u ns ks) = Lib.itoa u by rw [textJ.eq_def]; rfl)
          clear hal hs fr hK hN hr hl hk0
          go_enter Tryd.func19, Tryd.ntmps19
          go_wp2_with fail
          refine (Q.out _).mono ?_
          rintro e w2 ⟨rfl, h2⟩
          have HB := hid (bt T0.out.bel h2)
          clear h2
          go_wp2
          go_ret
          exact ⟨by rw [HR.out]; rfl, HB.out⟩
        · rw [if_neg h2] at hr
          split at hr
          case isFalse => cases hr
          rename_i h34
          rw [Bool.and_eq_true] at hr
          obtain ⟨hnm, hr⟩ := hr
          obtain ⟨m, rfl⟩ : ∃ m, n = m + 1 := by
            cases n with
            | zero => cases hr
            | succ m => exact ⟨m, rfl⟩
          simp only [deepAll, List.all_eq_true] at hr
          simp only [] at fr
          have TXT := hid (fun (i : Nat) (h : i < ks.length) (h' : i < xs.length) (w1 : World) (hb : Below W.heap.size W w1) => ref06_Write m (by omega) ks[i] (hr _ (List.getElem_mem h)) (fr _ (List.getElem_mem h)) w1 ok xs[i] ((hs i h h').belowW hb))
          have SL := hid (show ∀ i (h : i < ks.length), (textJ m ks[i]).length ≤ 1100000000 from fun i h => by
            have h1 := textJ_len m ks[i] (hr _ (List.getElem_mem h)) (fr _ (List.getElem_mem h))
            have h2 : 10 ^ m ≤ 10 ^ 6 := Nat.pow_le_pow_right (by decide) (by omega)
            omega)
          clear hr fr hs hN hK hl fs hal
          rcases h34 with rfl | rfl
          case' inl =>
            have hll : ns.length = ks.length := by simp [namesP] at hnm; exact hnm.1.1
            have hkn : ks.length ≤ ns.length := by omega
            clear hll
          all_goals clear hnm h1 h2
          case inr =>
            obtain ⟨T, TA, TL, HR⟩ : ∃ T : List (List UInt8), Hid (∀ i (h : i < ks.length), T[i]? = some (textJ m ks[i])) ∧ Hid (T.length = ks.length) ∧ Hid (textJ (m + 1) (.mk 3 t u ns ks) = 91 :: Lib.join T [44] ++ [93]) := by
              have e : textJ (m + 1) (.mk 3 t u ns ks) = 91 :: Lib.join (ks.map (textJ m)) [44] ++ [93] := by rw [textJ.eq_def]; rfl
              refine ⟨ks.map (textJ m), fun i h => ?_, ?_, hid e⟩
              · rw [List.getElem?_eq_getElem (by simp; omega)]
                simp
              · simp [Hid]; try omega
            clear HLEN
            go_enter Tryd.func19, Tryd.ntmps19
            go_wp2
            go_loopw [3, 4] (fun o c wr => ∃ (i : Nat) (p : List UInt8), i ≤ ks.length ∧ c = .int .i64 i ∧ o = .string (S p) ∧ p.length ≤ 10000000000 * i ∧ Hid (p = Lib.join (T.take i) [44]) ∧ Hid (TW W wr ⟨3, t, u, A, ns.length, nc, B, ks.length, kc⟩ none 0 [])) (fun _ c _ => ks.length - (intOf c).toNat)
            case atStart => exact ⟨0, [], Nat.zero_le _, rfl, rfl, Nat.zero_le _, rfl, T0⟩
            case round =>
              obtain ⟨i, p, hi, rfl, rfl, hpl, hpj, hM⟩ := hrel
              obtain ⟨x0, x1, x2, x3, x4, x5⟩ := hM.out.cells
              simp only [] at x0 x1 x2 x3 x4 x5
              by_cases hlt : i < ks.length
              · have lx : i < xs.length := by have := LX.out; omega
                obtain ⟨b1, o1, rfl, l1, hc1⟩ := kids_cell HKX.out lx
                have HC1 := hid hc1
                have CALL := hid (fun (w1 : World) (hb : Below W.heap.size W w1) => TXT.out i hlt lx w1 hb)
                have hT1 : i < T.length := by have := TL.out; omega
                have TI := hid (show T[i] = textJ m ks[i] from by
                  have h2 := TA.out i hlt
                  rw [List.getElem?_eq_getElem hT1] at h2
                  injection h2)
                have JN0 := hid (fun (h : i = 0) => show Lib.join (T.take (i + 1)) [44] = p ++ T[i] from by rw [hpj.out]; subst h; rw [take_snoc T hT1]; simp [Lib.join, List.intercalate])
                have JN1 := hid (fun (h : ¬ i = 0) => show Lib.join (T.take (i + 1)) [44] = p ++ 44 :: T[i] from by rw [hpj.out]; exact join_snoc T i hT1 h)
                have hs3 : (textJ m ks[i]).length ≤ 1100000000 := SL.out i hlt
                rw [TI.out] at JN0 JN1
                clear hc1 TI hT1 hpj
                generalize textJ m ks[i] = tk at *
                generalize xs[i] = X at *
                obtain ⟨xk, xt, xn, xA, xa, xb, xB, xc, xd⟩ := X
                simp only [] at *
                by_cases h0 : i = 0
                · have JN := hid (show p ++ tk = Lib.join (T.take (i + 1)) [44] from (JN0.out h0).symm)
                  have hz : ¬ (0 : Int) < i := by omega
                  clear h0 JN0 JN1
                  have n1 : ¬ 9223372036854775807 < p.length + tk.length := by omega
                  have M1 := hM
                  obtain ⟨p0, p1, p2, p3, p4⟩ := HC1.out wr M1.out.bel
                  go_wp2_with fail
                  refine (CALL.out _ M1.out.bel).mono ?_
                  rintro e w6 ⟨rfl, h6⟩
                  have M2 := hid (M1.out.below h6)
                  clear h6 x0 x1 x2 x3 x4 x5 p0 p1 p2 p3 p4 M1 CALL
                  obtain ⟨x0, x1, x2, x3, x4, x5⟩ := M2.out.cells
                  simp only [] at x0 x1 x2 x3 x4 x5
                  go_wp2
                  go_roundw
                  case rel => first | exact ⟨i + 1, p ++ tk, by omega, by go_num, by simp, by simp; omega, JN, M2⟩ | exact ⟨_, _, _, _, _, _, _, _, _, _, _, _, _, _, _, _, _, _, _, _, _, _, _, _, _, _, _, _, _, _, _, _, _, ⟨i + 1, p ++ tk, by omega, by go_num, by simp, by simp; omega, JN, M2⟩, rfl⟩
                  case measure => simp [intOf]; omega
                · have JN := hid (show p ++ 44 :: tk = Lib.join (T.take (i + 1)) [44] from (JN1.out h0).symm)
                  have hz : (0 : Int) < i := by omega
                  clear h0 JN0 JN1
                  have n0 : ¬ 9223372036854775807 < p.length + 1 := by omega
                  have n1 : ¬ 9223372036854775807 < p.length + 1 + tk.length := by omega
                  have M1 := hM
                  obtain ⟨p0, p1, p2, p3, p4⟩ := HC1.out wr M1.out.bel
                  go_wp2_with fail
                  refine (CALL.out _ M1.out.bel).mono ?_
                  rintro e w6 ⟨rfl, h6⟩
                  have M2 := hid (M1.out.below h6)
                  clear h6 x0 x1 x2 x3 x4 x5 p0 p1 p2 p3 p4 M1 CALL
                  obtain ⟨x0, x1, x2, x3, x4, x5⟩ := M2.out.cells
                  simp only [] at x0 x1 x2 x3 x4 x5
                  go_wp2
                  go_roundw
                  case rel => first | exact ⟨i + 1, p ++ 44 :: tk, by omega, by go_num, by simp, by simp; omega, JN, M2⟩ | exact ⟨_, _, _, _, _, _, _, _, _, _, _, _, _, _, _, _, _, _, _, _, _, _, _, _, _, _, _, _, _, _, _, _, _, ⟨i + 1, p ++ 44 :: tk, by omega, by go_num, by simp, by simp; omega, JN, M2⟩, rfl⟩
                  case measure => simp [intOf]; omega
              · obtain rfl : i = ks.length := by omega
                have HJ := hid (show p = Lib.join T [44] by rw [hpj.out, ← TL.out, List.take_length])
                have n1 : ¬ 9223372036854775807 < 1 + p.length := by omega
                have n2 : ¬ 9223372036854775807 < p.length + 1 + 1 := by omega
                clear TXT SL TA hpj
                go_wp2
                go_ret
                exact ⟨by rw [HR.out, ← HJ.out]; rfl, hM.out.bel⟩
          case inl =>
            obtain ⟨T, TA, TL, HR⟩ : ∃ T : List (List UInt8), Hid (∀ i (h : i < ks.length), T[i]? = some (quoteP (ns[i]'(by omega)) ++ 58 :: textJ m ks[i])) ∧ Hid (T.length = ks.length) ∧ Hid (textJ (m + 1) (.mk 4 t u ns ks) = 123 :: Lib.join T [44] ++ [125]) := by
              have e : textJ (m + 1) (.mk 4 t u ns ks) = 123 :: Lib.join (((ns.zip (ks.map (textJ m))).map fun p : List UInt8 × List UInt8 => quoteP p.1 ++ 58 :: p.2)) [44] ++ [125] := by rw [textJ.eq_def]; rfl
              refine ⟨((ns.zip (ks.map (textJ m))).map fun p : List UInt8 × List UInt8 => quoteP p.1 ++ 58 :: p.2), fun i h => ?_, ?_, hid e⟩
              · rw [List.getElem?_eq_getElem (by simp; omega)]
                simp
              · simp [Hid]; try omega
            clear HLEN
            go_enter Tryd.func19, Tryd.ntmps19
            go_wp2
            go_loopw [3, 4] (fun o c wr => ∃ (i : Nat) (p : List UInt8), i ≤ ks.length ∧ c = .int .i64 i ∧ o = .string (S p) ∧ p.length ≤ 10000000000 * i ∧ Hid (p = Lib.join (T.take i) [44]) ∧ Hid (TW W wr ⟨4, t, u, A, ns.length, nc, B, ks.length, kc⟩ none 0 [])) (fun _ c _ => ks.length - (intOf c).toNat)
            case atStart => exact ⟨0, [], Nat.zero_le _, rfl, rfl, Nat.zero_le _, rfl, T0⟩
            case round =>
              obtain ⟨i, p, hi, rfl, rfl, hpl, hpj, hM⟩ := hrel
              obtain ⟨x0, x1, x2, x3, x4, x5⟩ := hM.out.cells
              simp only [] at x0 x1 x2 x3 x4 x5
              by_cases hlt : i < ks.length
              · have lx : i < xs.length := by have := LX.out; omega
                obtain ⟨b1, o1, rfl, l1, hc1⟩ := kids_cell HKX.out lx
                have HC1 := hid hc1
                obtain ⟨bn, on, rfl, -, ln, hcn⟩ := NC.out (by omega)
                have HCN := hid (show bn < W.heap.size ∧ W.cell? ⟨bn, on + i, none⟩ = some (.string (S (ns[i]'(by omega)))) from ⟨ln, hcn i (by omega)⟩)
                clear hcn
                have QT := hid (fun (w1 : World) => ref06_Quote (ns[i]'(by omega)) (by have := FS.out _ (List.getElem_mem (show i < ns.length by omega)); omega) w1)
                have hq3 : (quoteP (ns[i]'(by omega))).length ≤ 1000 := by
                  have h1 := quote_len (ns[i]'(by omega))
                  have h2 := FS.out _ (List.getElem_mem (show i < ns.length by omega))
                  omega
                have CALL := hid (fun (w1 : World) (hb : Below W.heap.size W w1) => TXT.out i hlt lx w1 hb)
                have hT1 : i < T.length := by have := TL.out; omega
                have TI := hid (show T[i] = quoteP (ns[i]'(by omega)) ++ 58 :: textJ m ks[i] from by
                  have h2 := TA.out i hlt
                  rw [List.getElem?_eq_getElem hT1] at h2
                  injection h2)
                have JN0 := hid (fun (h : i = 0) => show Lib.join (T.take (i + 1)) [44] = p ++ T[i] from by rw [hpj.out]; subst h; rw [take_snoc T hT1]; simp [Lib.join, List.intercalate])
                have JN1 := hid (fun (h : ¬ i = 0) => show Lib.join (T.take (i + 1)) [44] = p ++ 44 :: T[i] from by rw [hpj.out]; exact join_snoc T i hT1 h)
                have hs3 : (textJ m ks[i]).length ≤ 1100000000 := SL.out i hlt
                rw [TI.out] at JN0 JN1
                clear hc1 TI hT1 hpj
                generalize textJ m ks[i] = tk at *
                generalize ns[i]'(by omega) = nm at *
                generalize xs[i] = X at *
                obtain ⟨xk, xt, xn, xA, xa, xb, xB, xc, xd⟩ := X
                simp only [] at *
                generalize quoteP nm = qn at *
                have hck := (hM.out.bel.cell (p := ⟨bn, on + i, none⟩) HCN.out.1).trans HCN.out.2
                by_cases h0 : i = 0
                · have JN := hid (show p ++ (qn ++ 58 :: tk) = Lib.join (T.take (i + 1)) [44] from (JN0.out h0).symm)
                  have hz : ¬ (0 : Int) < i := by omega
                  clear h0 JN0 JN1
                  have n1 : ¬ 9223372036854775807 < p.length + qn.length := by omega
                  have n2 : ¬ 9223372036854775807 < p.length + qn.length + 1 := by omega
                  have n3 : ¬ 9223372036854775807 < p.length + (qn.length + 1) + tk.length := by omega
                  go_wp2_with fail
                  refine (QT.out _).mono ?_
                  rintro e w5 ⟨rfl, h5⟩
                  have M1 := hid (hM.out.below h5)
                  clear h5 QT x0 x1 x2 x3 x4 x5 hck
                  obtain ⟨x0, x1, x2, x3, x4, x5⟩ := M1.out.cells
                  simp only [] at x0 x1 x2 x3 x4 x5
                  obtain ⟨p0, p1, p2, p3, p4⟩ := HC1.out w5 M1.out.bel
                  go_wp2_with fail
                  refine (CALL.out _ M1.out.bel).mono ?_
                  rintro e w6 ⟨rfl, h6⟩
                  have M2 := hid (M1.out.below h6)
                  clear h6 x0 x1 x2 x3 x4 x5 p0 p1 p2 p3 p4 M1 CALL
                  obtain ⟨x0, x1, x2, x3, x4, x5⟩ := M2.out.cells
                  simp only [] at x0 x1 x2 x3 x4 x5
                  go_wp2
                  go_roundw
                  case rel => first | exact ⟨i + 1, p ++ (qn ++ 58 :: tk), by omega, by go_num, by simp, by simp; omega, JN, M2⟩ | exact ⟨_, _, _, _, _, _, _, _, _, _, _, _, _, _, _, _, _, _, _, _, _, _, _, _, _, _, _, _, _, _, _, _, _, ⟨i + 1, p ++ (qn ++ 58 :: tk), by omega, by go_num, by simp, by simp; omega, JN, M2⟩, rfl⟩
                  case measure => simp [intOf]; omega
                · have JN := hid (show p ++ 44 :: (qn ++ 58 :: tk) = Lib.join (T.take (i + 1)) [44] from (JN1.out h0).symm)
                  have hz : (0 : Int) < i := by omega
                  clear h0 JN0 JN1
                  have n0 : ¬ 9223372036854775807 < p.length + 1 := by omega
                  have n1 : ¬ 9223372036854775807 < p.length + 1 + qn.length := by omega
                  have n2 : ¬ 9223372036854775807 < p.length + (qn.length + 1) + 1 := by omega
                  have n3 : ¬ 9223372036854775807 < p.length + (qn.length + 1 + 1) + tk.length := by omega
                  go_wp2_with fail
                  refine (QT.out _).mono ?_
                  rintro e w5 ⟨rfl, h5⟩
                  have M1 := hid (hM.out.below h5)
                  clear h5 QT x0 x1 x2 x3 x4 x5 hck
                  obtain ⟨x0, x1, x2, x3, x4, x5⟩ := M1.out.cells
                  simp only [] at x0 x1 x2 x3 x4 x5
                  obtain ⟨p0, p1, p2, p3, p4⟩ := HC1.out w5 M1.out.bel
                  go_wp2_with fail
                  refine (CALL.out _ M1.out.bel).mono ?_
                  rintro e w6 ⟨rfl, h6⟩
                  have M2 := hid (M1.out.below h6)
                  clear h6 x0 x1 x2 x3 x4 x5 p0 p1 p2 p3 p4 M1 CALL
                  obtain ⟨x0, x1, x2, x3, x4, x5⟩ := M2.out.cells
                  simp only [] at x0 x1 x2 x3 x4 x5
                  go_wp2
                  go_roundw
                  case rel => first | exact ⟨i + 1, p ++ 44 :: (qn ++ 58 :: tk), by omega, by go_num, by simp, by simp; omega, JN, M2⟩ | exact ⟨_, _, _, _, _, _, _, _, _, _, _, _, _, _, _, _, _, _, _, _, _, _, _, _, _, _, _, _, _, _, _, _, _, ⟨i + 1, p ++ 44 :: (qn ++ 58 :: tk), by omega, by go_num, by simp, by simp; omega, JN, M2⟩, rfl⟩
                  case measure => simp [intOf]; omega
              · obtain rfl : i = ks.length := by omega
                have HJ := hid (show p = Lib.join T [44] by rw [hpj.out, ← TL.out, List.take_length])
                have n1 : ¬ 9223372036854775807 < 1 + p.length := by omega
                have n2 : ¬ 9223372036854775807 < p.length + 1 + 1 := by omega
                clear TXT SL TA hpj
                go_wp2
                go_ret
                exact ⟨by rw [HR.out, ← HJ.out]; rfl, hM.out.bel⟩
end Go.Proofs.YtbjimikppdfmgaaDoor
