/- Walk of json.text and json.Write. -/
import Derived.Test.YtbjimikppdfmgaaDoorJsR3
set_option linter.unusedVariables false
set_option linter.unusedSimpArgs false
set_option maxHeartbeats 16000000
set_option maxRecDepth 100000
namespace Go.Proofs.YtbjimikppdfmgaaDoor
open Go.RowKit Go.Shelf

theorem nd_le : ∀ k u, u < 10 ^ (k + 1) → Lib.nDigits u ≤ k + 1
  | 0, u, h => by rw [Lib.nDigits_small (by omega)]; exact Nat.le_refl _
  | k + 1, u, h => by
    by_cases hs : u < 10
    · rw [Lib.nDigits_small hs]; omega
    · rw [Lib.nDigits_big hs]
      have := nd_le k (u / 10) (by rw [Nat.div_lt_iff_lt_mul (by decide)]; rw [Nat.pow_succ] at h; exact h)
      omega
theorem itoa_len {u : Int} (h0 : 0 ≤ u) (h1 : u ≤ 9007199254740992) : (Lib.itoa u).length ≤ 16 := by
  unfold Lib.itoa
  rw [if_neg (by omega), Lib.decDigits_length]
  exact nd_le 15 _ (by omega)
theorem textJ_len : ∀ (n : Nat) (j : Jv), rightP n j = true → fewJ n j → (textJ n j).length ≤ 1000 * 10 ^ n
  | n, .mk k t u ns ks, hr, hf => by
    have hp : 1 ≤ 10 ^ n := Nat.one_le_pow _ _ (by decide)
    rw [rightP_eq, Bool.and_eq_true] at hr
    obtain ⟨-, hr⟩ := hr
    rw [fewJ.eq_def] at hf
    simp only [] at hf
    obtain ⟨ft, fn, fk, fs, fr⟩ := hf
    rw [textJ.eq_def]
    simp only []
    split
    · have := quote_len t
      omega
    · rename_i h1
      rw [if_neg h1] at hr
      split
      · rename_i h2
        rw [if_pos h2] at hr
        simp at hr
        have := itoa_len hr.1 hr.2
        omega
      · rename_i h2
        rw [if_neg h2] at hr
        split at hr
        · rename_i h3
          rw [Bool.and_eq_true] at hr
          obtain ⟨-, hr⟩ := hr
          cases n with
          | zero => simp [deepAll] at hr
          | succ m =>
            simp only [deepAll, List.all_eq_true] at hr
            simp only [] at fr ⊢
            have ih : ∀ j ∈ ks, (textJ m j).length ≤ 1000 * 10 ^ m := fun j hj => textJ_len m j (hr j hj) (fr j hj)
            have hp2 : 1 ≤ 10 ^ m := Nat.one_le_pow _ _ (by decide)
            have hq : 10 ^ (m + 1) = 10 * 10 ^ m := by rw [Nat.pow_succ]; omega
            rw [hq]
            generalize 10 ^ m = P at *
            split
            · have := join_len [44] (1000 * P) (ks.map (textJ m)) (fun x hx => by
                obtain ⟨j, hj, rfl⟩ := List.mem_map.1 hx
                exact ih j hj)
              simp only [List.length_map, List.length_cons, List.length_nil, List.length_append] at this ⊢
              have h5 : ks.length * (1000 * P + (0 + 1)) ≤ 5 * (1000 * P + (0 + 1)) := Nat.mul_le_mul_right _ fk
              omega
            · have := join_len [44] (1000 * P + 103) ((ns.zip (ks.map (textJ m))).map fun p => quoteP p.1 ++ 58 :: p.2) (fun x hx => by
                obtain ⟨p, hp, rfl⟩ := List.mem_map.1 hx
                have h1 := List.of_mem_zip hp
                obtain ⟨j, hj, e⟩ := List.mem_map.1 h1.2
                have h2 := ih j hj
                rw [e] at h2
                have h3 := quote_len p.1
                have h4 := fs _ h1.1
                simp
                omega)
              simp only [List.length_map, List.length_cons, List.length_nil, List.length_append] at this ⊢
              have h6 : (ns.zip (ks.map (textJ m))).length ≤ 5 := by simp; omega
              have h5 : (ns.zip (ks.map (textJ m))).length * (1000 * P + 103 + (0 + 1)) ≤ 5 * (1000 * P + 103 + (0 + 1)) := Nat.mul_le_mul_right _ h6
              omega
        · simp at hr
/-- The loop's worlds. -/
structure TW (W wr : World) (x : J5) (A : Option Addr) (c : Nat) (ts : List (List UInt8)) : Prop where
  bel : Below W.heap.size W wr
  bx : Blk wr W.heap.size 40 x.ar
  row : wr.ownsRow (W.heap.size + 1) 9 1 (.slice A ts.length c) ts.length (ts.map sV)
section
variable {W wr wn : World} {x : J5} {A : Option Addr} {c : Nat} {ts : List (List UInt8)}
theorem TW.start (W : World) (x : J5) : TW W (W.alloc (.cells x.ar 40)) x none 0 [] :=
  ⟨(Below.refl _ _).alloc (Nat.le_refl _) _, Blk.new W _ _, World.ownsRow_nil _ _ _ _⟩
theorem TW.below (h : TW W wr x A c ts) (hb : Below wr.heap.size wr wn) : TW W wn x A c ts := ⟨bt h.bel hb, h.bx.below hb h.bx.lt, row_below h.row hb⟩
theorem TW.name (h : TW W wr x A c ts) {y : List UInt8} {A' : Option Addr} {c' : Nat} {w4 : World} (hr : w4.ownsRow (W.heap.size + 1) 9 1 (.slice A' (ts ++ [y]).length c') (ts ++ [y]).length ((ts ++ [y]).map sV))
    (hb : ∀ k, k < wr.heap.size → (Value.slice A ts.length c).ownBlock ≠ some k → w4.heap[k]? = wr.heap[k]?) (hw : Below (W.heap.size + 1) wr w4) : TW W w4 x A' c' (ts ++ [y]) :=
  ⟨h.bel.trans (hw.mono (by omega)), (hb _ h.bx.lt (fun e => by have := row_base_le h.row e; omega)).trans h.bx, hr⟩
theorem TW.cells (h : TW W wr x A c ts) : wr.cell? ⟨W.heap.size, 0, none⟩ = some (.int .i64 x.kind) ∧ wr.cell? ⟨W.heap.size, 1, none⟩ = some (.string (S x.text)) ∧ wr.cell? ⟨W.heap.size, 2, none⟩ = some (.int .i64 x.num) ∧ wr.cell? ⟨W.heap.size, 3, none⟩ = some (.slice x.nA x.nn x.nc) ∧ wr.cell? ⟨W.heap.size, 4, none⟩ = some (.slice x.kA x.kn x.kc) ∧ W.heap.size < wr.heap.size :=
  ⟨(h.bx.cell 0).trans rfl, (h.bx.cell 1).trans rfl, (h.bx.cell 2).trans rfl, (h.bx.cell 3).trans rfl, (h.bx.cell 4).trans rfl, h.bx.lt⟩
end
theorem js_text : ∀ (n : Nat), n ≤ 6 → ∀ (j : Jv), rightP n j = true → fewJ n j → ∀ (W : World) (ok : Nat → Prop) (x : J5), JAt W ok j x → (∀ W', Below W.heap.size W W' → LibW W') →
    Calls Tryd.prog 54 #[.agg #[.int .i64 x.kind, .string (S x.text), .int .i64 x.num, .slice x.nA x.nn x.nc, .slice x.kA x.kn x.kc]] W fun e w' => e = .returned (.string (S (textJ n j))) ∧ Below W.heap.size W w'
  | n, hn, j, hr, hf, W, ok, x, hj, hL => by
    have hlen : (textJ n j).length ≤ 1000000000 := by
      have h1 := textJ_len n j hr hf
      have h2 : 10 ^ n ≤ 10 ^ 6 := Nat.pow_le_pow_right (by decide) hn
      omega
    cases hj with
    | mk x ns ks xs hnn hnc hkn hkc hbn hbk hN hl hK hs =>
      obtain ⟨k, t, u, A, nn, nc, B, kn, kc⟩ := x
      simp only [] at *
      subst hnn hkn
      rw [rightP_eq, Bool.and_eq_true] at hr
      obtain ⟨hal, hr⟩ := hr
      rw [fewJ.eq_def] at hf
      simp only [] at hf
      obtain ⟨ft, fn, fk, fs, fr⟩ := hf
      have T0 := hid (TW.start W ⟨k, t, u, A, ns.length, nc, B, ks.length, kc⟩)
      have HL := hid hL
      have HLEN := hid hlen
      have LX := hid hl
      have NC := hid hN
      have HKX := hid hK
      have FS := hid fs
      clear hL hlen
      by_cases h1 : k = 1
      · subst h1
        rw [if_pos rfl] at hr
        simp [aloneX] at hal
        have hk0 : ks.length = 0 := by rw [hal.2]; rfl
        have Q := hid (fun (w1 : World) (hb : Below W.heap.size W w1) => js_quote t (by omega) w1 (fun W' h => HL.out W' (bt hb h)))
        have HR := hid (show textJ n (.mk 1 t u ns ks) = quoteP t by rw [textJ.eq_def]; rfl)
        rw [hk0] at T0 ⊢
        clear hal hs fr hK hN hr hl hk0
        go_enter Tryd.func54, Tryd.ntmps54
        go_wp2
        go_loopw [3, 4, 5, 6, 10] (fun _ _ _ _ c wr => c = .int .i64 0 ∧ Hid (TW W wr ⟨1, t, u, A, ns.length, nc, B, 0, kc⟩ none 0 [])) (fun _ _ _ _ _ _ => 0)
        case atStart => exact ⟨rfl, T0⟩
        case round =>
          obtain ⟨rfl, hM⟩ := hrel
          obtain ⟨x0, x1, x2, x3, x4, x5⟩ := hM.out.cells
          simp only [] at x0 x1 x2 x3 x4 x5
          go_wp2_with fail
          refine (Q.out _ hM.out.bel).mono ?_
          rintro e w2 ⟨rfl, h2⟩
          have HB := hid (bt hM.out.bel h2)
          clear h2
          go_wp2
          go_ret
          exact ⟨by rw [HR.out]; rfl, HB.out⟩
      · rw [if_neg h1] at hr
        by_cases h2 : k = 2
        · subst h2
          rw [if_pos rfl] at hr
          simp [aloneX] at hal
          have hk0 : ks.length = 0 := by rw [hal.2]; rfl
          simp at hr
          have Q := hid (fun (w1 : World) (hb : Below W.heap.size W w1) => js_Itoa u (by omega) (by omega) w1 (HL.out w1 hb))
          have HR := hid (show textJ n (.mk 2 t u ns ks) = Lib.itoa u by rw [textJ.eq_def]; rfl)
          rw [hk0] at T0 ⊢
          clear hal hs fr hK hN hr hl hk0
          go_enter Tryd.func54, Tryd.ntmps54
          go_wp2
          go_loopw [3, 4, 5, 6, 10] (fun _ _ _ _ c wr => c = .int .i64 0 ∧ Hid (TW W wr ⟨2, t, u, A, ns.length, nc, B, 0, kc⟩ none 0 [])) (fun _ _ _ _ _ _ => 0)
          case atStart => exact ⟨rfl, T0⟩
          case round =>
            obtain ⟨rfl, hM⟩ := hrel
            obtain ⟨x0, x1, x2, x3, x4, x5⟩ := hM.out.cells
            simp only [] at x0 x1 x2 x3 x4 x5
            go_wp2_with fail
            refine (Q.out _ hM.out.bel).mono ?_
            rintro e w2 ⟨rfl, h2⟩
            have HB := hid (bt hM.out.bel h2)
            clear h2
            go_wp2
            go_ret
            exact ⟨by rw [HR.out]; rfl, HB.out⟩
        · rw [if_neg h2] at hr
          split at hr
          case isFalse => cases hr
          rename_i h34
          rw [Bool.and_eq_true] at hr
          obtain ⟨hnm, hr⟩ := hr
          obtain ⟨m, rfl⟩ : ∃ m, n = m + 1 := by
            cases n with
            | zero => cases hr
            | succ m => exact ⟨m, rfl⟩
          simp only [deepAll, List.all_eq_true] at hr
          simp only [] at fr
          have TXT := hid (fun (i : Nat) (h : i < ks.length) (h' : i < xs.length) (w1 : World) (hb : Below W.heap.size W w1) => js_text m (by omega) ks[i] (hr _ (List.getElem_mem h)) (fr _ (List.getElem_mem h)) w1 ok xs[i] ((hs i h h').belowW hb) (fun W' hW => HL.out W' (bt hb hW)))
          have SL := hid (show ∀ i (h : i < ks.length), (textJ m ks[i]).length ≤ 100000000000 from fun i h => by
            have h1 := textJ_len m ks[i] (hr _ (List.getElem_mem h)) (fr _ (List.getElem_mem h))
            have h2 : 10 ^ m ≤ 10 ^ 6 := Nat.pow_le_pow_right (by decide) (by omega)
            omega)
          clear hr fr hs hN hK hl fs hal
          rcases h34 with rfl | rfl
          case' inl =>
            have hll : ns.length = ks.length := by simp [namesP] at hnm; exact hnm.1.1
            have hkn : ks.length ≤ ns.length := by omega
            clear hll
          all_goals clear hnm h1 h2
          case inr =>
            obtain ⟨T, TA, TL, HR, JB⟩ : ∃ T : List (List UInt8), Hid (∀ i (h : i < ks.length), T[i]? = some (textJ m ks[i])) ∧ Hid (T.length = ks.length) ∧ Hid (textJ (m + 1) (.mk 3 t u ns ks) = 91 :: Lib.join T [44] ++ [93]) ∧ Hid ((Lib.join T [44]).length ≤ 100000000000) := by
              have e : textJ (m + 1) (.mk 3 t u ns ks) = 91 :: Lib.join (ks.map (textJ m)) [44] ++ [93] := by rw [textJ.eq_def]; rfl
              refine ⟨ks.map (textJ m), fun i h => ?_, ?_, hid e, ?_⟩
              · rw [List.getElem?_eq_getElem (by simp; omega)]
                simp
              · simp [Hid]; try omega
              · have h1 := HLEN.out
                rw [e] at h1
                simp at h1
                show _ ≤ _
                omega
            clear HLEN
            go_enter Tryd.func54, Tryd.ntmps54
            go_wp2
            go_loopw [3, 4, 5, 6, 10] (fun o _ _ _ c wr => ∃ (A' : Option Addr) (c' i : Nat), i ≤ ks.length ∧ c = .int .i64 i ∧ o = .slice A' i c' ∧ Hid (TW W wr ⟨3, t, u, A, ns.length, nc, B, ks.length, kc⟩ A' c' (T.take i))) (fun _ _ _ _ c _ => ks.length - (intOf c).toNat)
            case atStart => exact ⟨none, 0, 0, Nat.zero_le _, rfl, rfl, T0⟩
            case round =>
              obtain ⟨A', c', i, hi, rfl, rfl, hM⟩ := hrel
              obtain ⟨x0, x1, x2, x3, x4, x5⟩ := hM.out.cells
              simp only [] at x0 x1 x2 x3 x4 x5
              by_cases hlt : i < ks.length
              · have lx : i < xs.length := by have := LX.out; omega
                obtain ⟨b1, o1, rfl, l1, hc1⟩ := kids_cell HKX.out lx
                obtain ⟨p0, p1, p2, p3, p4⟩ := hc1 wr hM.out.bel
                have CALL := hid (fun (w1 : World) (hb : Below W.heap.size W w1) => TXT.out i hlt lx w1 hb)
                have TSN := hid (show T.take (i + 1) = T.take i ++ [textJ m ks[i]] from by
                  have h1 : i < T.length := by have := TL.out; omega
                  have h2 := TA.out i hlt
                  rw [List.getElem?_eq_getElem h1] at h2
                  injection h2 with h2
                  rw [take_snoc T h1, h2])
                have hs3 : (textJ m ks[i]).length ≤ 100000000000 := SL.out i hlt
                have HTL := hid (show (T.take i).length = i by rw [List.length_take_of_le]; have := TL.out; omega)
                clear hc1
                obtain ⟨ts, hts⟩ : ∃ ts, ts = T.take i := ⟨_, rfl⟩
                rw [← hts] at hM TSN HTL
                clear hts
                generalize textJ m ks[i] = tk at *
                generalize xs[i] = X at *
                obtain ⟨xk, xt, xn, xA, xa, xb, xB, xc, xd⟩ := X
                simp only [] at *
                have hp1 : b1 < wr.heap.size := by have := hM.out.bel.size; omega
                have A1 := hid (hM.out.below ((Below.refl _ _).alloc (Nat.le_refl _) (.cells #[.int .i64 xk, .string (S xt), .int .i64 xn, .slice xA xa xb, .slice xB xc xd] 40)))
                go_wp2_with fail
                refine (CALL.out _ A1.out.bel).mono ?_
                rintro e w5 ⟨rfl, h5⟩
                have M2 := hid (A1.out.below h5)
                clear h5 A1 CALL hM x0 x1 x2 x3 x4 x5 p0 p1 p2 p3 p4
                obtain ⟨x0, x1, x2, x3, x4, x5⟩ := M2.out.cells
                simp only [] at x0 x1 x2 x3 x4 x5
                go_wp2_with (first | (at_builtin; (refine wpList_append_name (os := ts) (y := tk) (base := W.heap.size + 1) rfl _ _ (by rfl) (by rfl) (by rw [HTL.out]; rfl) (by rfl) M2.out.row (by have := HTL.out; omega) (by omega) ?_); intro A2 c2 w8 hr4 hs4 hb4 hl4 ho4; (have M4 := hid (M2.out.name hr4 hb4 hl4)); clear hr4 hs4 hb4 hl4 ho4))
                go_roundw
                case rel =>
                  refine ⟨_, _, _, _, _, _, _, _, _, _, _, _, _, _, _, _, _, _, _, _, _, _, _, _, _, _, _, _, ⟨A2, c2, i + 1, ?_, ?_, ?_, ?_⟩, rfl⟩
                  · omega
                  · go_num
                  · simp [HTL.out]
                  · rw [TSN.out]; exact M4
                case measure => simp [intOf]; omega
              · obtain rfl : i = ks.length := by omega
                have e : T.take ks.length = T := by rw [← TL.out, List.take_length]
                rw [e] at hM
                have JT := hid (show Calls Tryd.prog 93 #[.slice A' ks.length c', .string (S [44])] wr (fun e w' => e = .returned (.string (S (Lib.join T [44]))) ∧ Below wr.heap.size wr w') by
                  have := js_Join T (names_row hM.out.row) (row_cap hM.out.row) (by have := TL.out; omega) (by have := JB.out; omega)
                  rwa [TL.out] at this)
                have hj1 : ¬ 9223372036854775807 < 1 + (Lib.join T [44]).length := by have := JB.out; omega
                have hj2 : ¬ 9223372036854775807 < (Lib.join T [44]).length + 1 + 1 := by have := JB.out; omega
                clear e JB TA TL TXT SL
                generalize Lib.join T [44] = jt at *
                go_wp2_with fail
                refine JT.out.mono ?_
                rintro e w7 ⟨rfl, h7⟩
                have HB := hid (bt hM.out.bel h7)
                clear h7 JT hM
                go_wp2
                go_ret
                exact ⟨by rw [HR.out]; rfl, HB.out⟩
          case inl =>
            obtain ⟨T, TA, TL, HR, JB⟩ : ∃ T : List (List UInt8), Hid (∀ i (h : i < ks.length), T[i]? = some (quoteP (ns[i]'(by omega)) ++ 58 :: textJ m ks[i])) ∧ Hid (T.length = ks.length) ∧ Hid (textJ (m + 1) (.mk 4 t u ns ks) = 123 :: Lib.join T [44] ++ [125]) ∧ Hid ((Lib.join T [44]).length ≤ 100000000000) := by
              have e : textJ (m + 1) (.mk 4 t u ns ks) = 123 :: Lib.join (((ns.zip (ks.map (textJ m))).map fun p : List UInt8 × List UInt8 => quoteP p.1 ++ 58 :: p.2)) [44] ++ [125] := by rw [textJ.eq_def]; rfl
              refine ⟨((ns.zip (ks.map (textJ m))).map fun p : List UInt8 × List UInt8 => quoteP p.1 ++ 58 :: p.2), fun i h => ?_, ?_, hid e, ?_⟩
              · rw [List.getElem?_eq_getElem (by simp; omega)]
                simp
              · simp [Hid]; try omega
              · have h1 := HLEN.out
                rw [e] at h1
                simp at h1
                show _ ≤ _
                omega
            clear HLEN
            go_enter Tryd.func54, Tryd.ntmps54
            go_wp2
            go_loopw [3, 4, 5, 6, 10] (fun o _ _ _ c wr => ∃ (A' : Option Addr) (c' i : Nat), i ≤ ks.length ∧ c = .int .i64 i ∧ o = .slice A' i c' ∧ Hid (TW W wr ⟨4, t, u, A, ns.length, nc, B, ks.length, kc⟩ A' c' (T.take i))) (fun _ _ _ _ c _ => ks.length - (intOf c).toNat)
            case atStart => exact ⟨none, 0, 0, Nat.zero_le _, rfl, rfl, T0⟩
            case round =>
              obtain ⟨A', c', i, hi, rfl, rfl, hM⟩ := hrel
              obtain ⟨x0, x1, x2, x3, x4, x5⟩ := hM.out.cells
              simp only [] at x0 x1 x2 x3 x4 x5
              by_cases hlt : i < ks.length
              · have lx : i < xs.length := by have := LX.out; omega
                obtain ⟨b1, o1, rfl, l1, hc1⟩ := kids_cell HKX.out lx
                obtain ⟨p0, p1, p2, p3, p4⟩ := hc1 wr hM.out.bel
                obtain ⟨bn, on, rfl, -, ln, hcn⟩ := NC.out (by omega)
                have HCN := hid (show bn < W.heap.size ∧ W.cell? ⟨bn, on + i, none⟩ = some (.string (S (ns[i]'(by omega)))) from ⟨ln, hcn i (by omega)⟩)
                clear hcn
                have QT := hid (fun (w1 : World) (hb : Below W.heap.size W w1) => js_quote (ns[i]'(by omega)) (by have := FS.out _ (List.getElem_mem (show i < ns.length by omega)); omega) w1 (fun W' h => HL.out W' (bt hb h)))
                have hq3 : (quoteP (ns[i]'(by omega))).length ≤ 1000 := by
                  have h1 := quote_len (ns[i]'(by omega))
                  have h2 := FS.out _ (List.getElem_mem (show i < ns.length by omega))
                  omega
                have CALL := hid (fun (w1 : World) (hb : Below W.heap.size W w1) => TXT.out i hlt lx w1 hb)
                have TSN := hid (show T.take (i + 1) = T.take i ++ [quoteP (ns[i]'(by omega)) ++ 58 :: textJ m ks[i]] from by
                  have h1 : i < T.length := by have := TL.out; omega
                  have h2 := TA.out i hlt
                  rw [List.getElem?_eq_getElem h1] at h2
                  injection h2 with h2
                  rw [take_snoc T h1, h2])
                have hs3 : (textJ m ks[i]).length ≤ 100000000000 := SL.out i hlt
                have HTL := hid (show (T.take i).length = i by rw [List.length_take_of_le]; have := TL.out; omega)
                clear hc1
                obtain ⟨ts, hts⟩ : ∃ ts, ts = T.take i := ⟨_, rfl⟩
                rw [← hts] at hM TSN HTL
                clear hts
                generalize textJ m ks[i] = tk at *
                generalize ns[i]'(by omega) = nm at *
                generalize xs[i] = X at *
                obtain ⟨xk, xt, xn, xA, xa, xb, xB, xc, xd⟩ := X
                simp only [] at *
                have hp1 : b1 < wr.heap.size := by have := hM.out.bel.size; omega
                have A1 := hid (hM.out.below ((Below.refl _ _).alloc (Nat.le_refl _) (.cells #[.int .i64 xk, .string (S xt), .int .i64 xn, .slice xA xa xb, .slice xB xc xd] 40)))
                go_wp2_with fail
                refine (CALL.out _ A1.out.bel).mono ?_
                rintro e w5 ⟨rfl, h5⟩
                have M2 := hid (A1.out.below h5)
                clear h5 A1 CALL hM x0 x1 x2 x3 x4 x5 p0 p1 p2 p3 p4
                obtain ⟨x0, x1, x2, x3, x4, x5⟩ := M2.out.cells
                simp only [] at x0 x1 x2 x3 x4 x5
                have hck := (M2.out.bel.cell (p := ⟨bn, on + i, none⟩) HCN.out.1).trans HCN.out.2
                go_wp2_with fail
                refine (QT.out _ M2.out.bel).mono ?_
                rintro e w6 ⟨rfl, h6⟩
                have M3 := hid (M2.out.below h6)
                clear h6 QT hck HCN x0 x1 x2 x3 x4 x5 M2
                obtain ⟨x0, x1, x2, x3, x4, x5⟩ := M3.out.cells
                simp only [] at x0 x1 x2 x3 x4 x5
                generalize quoteP nm = qn at *
                have hn1 : ¬ 9223372036854775807 < qn.length + 1 := by omega
                have hn2 : ¬ 9223372036854775807 < qn.length + 1 + tk.length := by omega
                have hn3 : ¬ 9223372036854775807 < qn.length + (tk.length + 1) := by omega
                go_wp2_with (first | (at_builtin; (refine wpList_append_name (os := ts) (y := qn ++ 58 :: tk) (base := W.heap.size + 1) rfl _ _ (by rfl) (by rfl) (by rw [HTL.out]; rfl) (by rfl) M3.out.row (by have := HTL.out; omega) (by omega) ?_); intro A2 c2 w8 hr4 hs4 hb4 hl4 ho4; (have M4 := hid (M3.out.name hr4 hb4 hl4)); clear hr4 hs4 hb4 hl4 ho4))
                go_roundw
                case rel =>
                  refine ⟨_, _, _, _, _, _, _, _, _, _, _, _, _, _, _, _, _, _, _, _, _, _, _, _, _, _, _, _, ⟨A2, c2, i + 1, ?_, ?_, ?_, ?_⟩, rfl⟩
                  · omega
                  · go_num
                  · simp [HTL.out]
                  · rw [TSN.out]; exact M4
                case measure => simp [intOf]; omega
              · obtain rfl : i = ks.length := by omega
                have e : T.take ks.length = T := by rw [← TL.out, List.take_length]
                rw [e] at hM
                have JT := hid (show Calls Tryd.prog 93 #[.slice A' ks.length c', .string (S [44])] wr (fun e w' => e = .returned (.string (S (Lib.join T [44]))) ∧ Below wr.heap.size wr w') by
                  have := js_Join T (names_row hM.out.row) (row_cap hM.out.row) (by have := TL.out; omega) (by have := JB.out; omega)
                  rwa [TL.out] at this)
                have hj1 : ¬ 9223372036854775807 < 1 + (Lib.join T [44]).length := by have := JB.out; omega
                have hj2 : ¬ 9223372036854775807 < (Lib.join T [44]).length + 1 + 1 := by have := JB.out; omega
                clear e JB TA TL TXT SL
                generalize Lib.join T [44] = jt at *
                go_wp2_with fail
                refine JT.out.mono ?_
                rintro e w7 ⟨rfl, h7⟩
                have HB := hid (bt hM.out.bel h7)
                clear h7 JT hM
                go_wp2
                go_ret
                exact ⟨by rw [HR.out]; rfl, HB.out⟩
end Go.Proofs.YtbjimikppdfmgaaDoor
