/- What the library's variables hold. Walk of (*json.reader).number. -/
import Derived.Test.YtbjimikppdfmgaaDoorJs2
import Derived.Test.YtbjimikppdfmgaaDoorLawK
import Derived.Lib.SmallJoins
import Derived.Lib.AppendIntMem
import Derived.Deep.DeepCutAuto
import Derived.Deep.RegionWith
set_option linter.unusedVariables false
set_option linter.unusedSimpArgs false
set_option maxHeartbeats 8000000
set_option maxRecDepth 100000
namespace Go.Proofs.YtbjimikppdfmgaaDoor
open Go.RowKit

structure LibW (w : World) : Prop where
  max : ∃ m, w.cell? ⟨2, 0, none⟩ = some (.int .i64 m)
  pow : Lib.TabIs Tryd.prog w "internal/strconv.uint64pow10" .u64 Lib.pow10Tab
  syn : ∃ tp p, w.var? Tryd.prog "strconv.ErrSyntax" = some #[.iface tp p]
  rng : ∃ tp p, w.var? Tryd.prog "strconv.ErrRange" = some #[.iface tp p]
theorem LibW.below {w w' : World} (h : LibW w) (hb : Below w.heap.size w w') : LibW w' := by
  obtain ⟨⟨m, hm⟩, h2, ⟨tp, p, h3⟩, tp2, p2, h4⟩ := h
  exact ⟨⟨m, (hb.cell (World.block_lt_of_cell? w _ hm)).trans hm⟩, Go.Joins.var_stays (g := 3) (by kernel_rfl) h2 hb (Nat.le_refl _), ⟨tp, p, Go.Joins.var_stays (g := 4) (by kernel_rfl) h3 hb (Nat.le_refl _)⟩, tp2, p2, Go.Joins.var_stays (g := 5) (by kernel_rfl) h4 hb (Nat.le_refl _)⟩

theorem js_Itoa (n : Int) (h0 : -9223372036854775808 ≤ n) (h1 : n ≤ 9223372036854775807) (w : World) (hL : LibW w) : Calls Tryd.prog 92 #[.int .i64 n] w fun e w' => e = .returned (.string (S (Lib.itoa n))) ∧ Below w.heap.size w w' := by
  refine (Any.strconv_Itoa layItoa n h0 h1 w hL.pow).mono ?_
  rintro e w' ⟨rfl, k, os, rfl⟩
  exact ⟨rfl, Lib.below_grow _ w (Nat.le_refl _) k os⟩
def AtoiPost (l : List UInt8) (w : World) (e : Ending) (w' : World) : Prop :=
  (∃ v, Lib.atoiAll l = .ok v ∧ e = .returned (.tuple #[.int .i64 v, .nilIface]) ∧ Below w.heap.size w w') ∨
  ((∀ v, Lib.atoiAll l ≠ .ok v) ∧ ∃ k tp p, (-9223372036854775808 ≤ k ∧ k ≤ 9223372036854775807) ∧ e = .returned (.tuple #[.int .i64 k, .iface tp p]) ∧ Below w.heap.size w w')
theorem js_Atoi (l : List UInt8) (hl : l.length ≤ 100000) (w : World) (hL : LibW w) : Calls Tryd.prog 122 #[.string (S l)] w (AtoiPost l w) := by
  obtain ⟨-, -, ⟨tp, p, h3⟩, tp2, p2, h4⟩ := hL
  cases h : Lib.atoiAll l
  · rename_i v
    refine (Any.strconv_Atoi_ok layAtoi (S l) (by rw [S_size]; omega) v h w).mono ?_
    rintro e w' ⟨rfl, hw⟩
    refine .inl ⟨v, h, rfl, ?_⟩
    rcases hw with rfl | ⟨t, rfl⟩
    · exact Below.refl _ _
    · exact Go.Joins.below_bytesWorld _ w _ _ (Nat.le_refl _)
  · refine (Any.strconv_Atoi_syntax_var layAtoi (S l) (by rw [S_size]; omega) h tp p w h3).mono ?_
    rintro e w' ⟨N, rfl, -, -, hb⟩
    exact .inr ⟨(fun v hv => by rw [h] at hv; cases hv), 0, _, _, by decide, rfl, hb⟩
  · refine (Any.strconv_Atoi_range_var layAtoi (S l) (by rw [S_size]; omega) h tp2 p2 w h4).mono ?_
    rintro e w' ⟨N, rfl, -, -, hb⟩
    exact .inr ⟨(fun v hv => by rw [h] at hv; cases hv), _, _, _, (by unfold Lib.atoiSat; split <;> decide), rfl, hb⟩

theorem take_digs {s : List UInt8} {k : Nat} (hk : k ≤ s.length) (h : ∀ j, (hj : j < s.length) → j < k → digB s[j] = true) (he : (h' : k < s.length) → digB s[k] = false) : s.takeWhile digB = s.take k ∧ s.dropWhile digB = s.drop k := by
  induction s generalizing k with
  | nil => simp at hk; subst hk; simp
  | cons x r ih =>
    cases k with
    | zero =>
      have := he (by simp)
      simp at this
      simp [List.takeWhile_cons, List.dropWhile_cons, this]
    | succ k =>
      have h0 := h 0 (by simp) (by omega)
      simp at h0
      simp at hk
      obtain ⟨i1, i2⟩ := ih hk (fun j hj hjk => by have := h (j + 1) (by simp; omega) (by omega); simpa using this) (fun h' => by have := he (by simp; omega); simpa using this)
      simp [List.takeWhile_cons, List.dropWhile_cons, h0, i1, i2]
theorem RdTo.drew {g : Nat} {W W1 : World} {s : List UInt8} {d : Int} {b : Bool} (h : RdTo g W W1 s d b) : RdTo g W W1.drew s d b := h.below (Below.refl _ _).drew
theorem atoi_range {l : List UInt8} {v : Int} (h : Lib.atoiAll l = .ok v) : -9223372036854775808 ≤ v ∧ v ≤ 9223372036854775807 := by
  unfold Lib.atoiAll at h
  split at h
  · cases h
  · simp only [] at h
    split at h
    · cases h
    · cases h
    · rename_i u _
      split at h
      · cases h
      · split at h
        · cases h
        · injection h with h
          subst h
          rename_i h1 h2
          split
          · rename_i h3
            constructor
            · have := fun hh => h2 ⟨h3, hh⟩
              omega
            · omega
          · rename_i h3
            have := fun hh => h1 ⟨h3, hh⟩
            omega
def NumPost (g : Nat) (W : World) (s : List UInt8) (d : Int) (b : Bool) (e : Ending) (w' : World) : Prop :=
  ∃ k : Int, (-9223372036854775808 ≤ k ∧ k ≤ 9223372036854775807) ∧ e = .returned (.int .i64 k) ∧ RdTo g W w' (s.dropWhile digB) d (b || (numP s).isNone) ∧ ∀ p, numP s = some p → p = (k, s.dropWhile digB)
section
variable {g : Nat} {W W1 W2 : World} {s s' : List UInt8} {d d' : Int} {b b' : Bool}
theorem jr_number (h : Rd W g s d b) (hl : s.length ≤ 100000) (hL : LibW W) : Calls Tryd.prog 99 #[.pointer (some ⟨g, 0, none⟩)] W (NumPost g W s d b) := by
  have H := hid h
  obtain ⟨d0, d1, d2, e0, e1, e2⟩ := (RdTo.refl h).b0
  have LW := hid hL
  clear h hL
  go_enter Tryd.func99, Tryd.ntmps99
  go_wp2
  go_loop [3] (fun i => ∃ k : Nat, k ≤ s.length ∧ i = .int .i64 k ∧ Hid (∀ j, (hj : j < s.length) → j < k → digB s[j] = true)) (fun i => s.length - (intOf i).toNat)
  case atStart => exact ⟨0, Nat.zero_le _, rfl, fun j _ h => absurd h (by omega)⟩
  case round =>
    obtain ⟨k, hk, rfl, hd⟩ := hrel
    have IT := hid (show (k < s.length ∧ ∀ h : k < s.length, digB s[k] = true) ∨ (∀ h : k < s.length, digB s[k] = false) from by
      by_cases h : k < s.length
      · cases hb : digB s[k] with
        | true => exact .inl ⟨h, fun _ => hb⟩
        | false => exact .inr fun _ => hb
      · exact .inr fun h' => absurd h' h)
    rcases IT.out with ⟨hlt, hdg⟩ | hno
    · have hdk := hdg hlt
      have hdd := hid (show ∀ j, (hj : j < s.length) → j < k + 1 → digB s[j] = true from fun j hj hjk => by
        rcases Nat.lt_or_ge j k with h3 | h3
        · exact hd.out j hj h3
        · obtain rfl : j = k := by omega
          exact hdk)
      simp only [digB, Bool.and_eq_true, decide_eq_true_eq] at hdk
      obtain ⟨k1, k2⟩ := hdk
      have k1' : (48 : Int) ≤ s[k].toNat := by omega
      have k2' : (s[k].toNat : Int) ≤ 57 := by omega
      clear hdg IT hd
      go_wp2
      go_round
      case rel => exact ⟨k + 1, by omega, by go_num, hdd⟩
      case measure => simp [intOf]; omega
    · obtain ⟨tk, dw⟩ := take_digs hk hd.out hno
      have TK := hid tk
      have DW := hid dw
      have hN : Hid (numP s = match Lib.atoiAll (s.take k) with | .ok v => if v ≤ 9007199254740992 ∧ Lib.itoa v = s.take k then some (v, s.drop k) else none | _ => none) := hid (by unfold numP; rw [tk, dw]; cases Lib.atoiAll (s.take k) <;> rfl)
      have AT := hid (js_Atoi (s.take k) (by simp; omega) W LW.out)
      clear IT hd tk dw
      have EX : (∃ h : k < s.length, (s[k].toNat : Int) < 48) ∨ (∃ h : k < s.length, 48 ≤ (s[k].toNat : Int) ∧ 57 < (s[k].toNat : Int)) ∨ k = s.length := by
        by_cases hlt : k < s.length
        · have hn := hno hlt
          simp only [digB, Bool.and_eq_false_iff, decide_eq_false_iff_not] at hn
          by_cases h1 : (s[k].toNat : Int) < 48
          · exact .inl ⟨hlt, h1⟩
          · exact .inr (.inl ⟨hlt, by omega, by omega⟩)
        · exact .inr (.inr (by omega))
      clear hno
      have hk64 : (k : Int) ≤ s.length := by omega
      have hs1 : (s.drop 0).take (k - 0) = s.take k := by simp
      have HEQ0 := hid (show ∀ l : List UInt8, ∃ c : Bool, (S l == S (s.take k)) = c ∧ (l == s.take k) = c ∧ (c = true ↔ l = s.take k) from fun l => ⟨_, S_beq l (s.take k), rfl, by simp⟩)
      rcases EX with ⟨hlt, h1⟩ | ⟨hlt, h1, h2⟩ | hke
      case' inr.inr =>
        subst hke
        rw [List.take_length] at AT hN HEQ0
      all_goals
        go_wp2_with fail
        refine AT.out.mono ?_
        intro e w1 HP
        have HPH := hid HP
        have hb : Below W.heap.size W w1 := by rcases HP with ⟨v, hv, rfl, hb⟩ | ⟨hno, kk, tp, p, hkk, rfl, hb⟩ <;> exact hb
        have H1 := hid ((RdTo.refl H.out).below hb)
        clear d0 d1 d2 e0 e1 e2 HP
        obtain ⟨d0, d1, d2, e0, e1, e2⟩ := H1.out.b0
        have LW1 := hid (LW.out.below hb)
        clear AT LW hb
        rcases HPH.out with ⟨v, hv, rfl, hb⟩ | ⟨hno, kk, tp, p, hkk, rfl, hb⟩
        · clear hb HPH
          rw [hv] at hN
          have hvr := atoi_range hv
          have VAL := hid (show ∀ p, numP s = some p → p = (v, s.dropWhile digB) from fun p hp => by
            rw [hN.out] at hp
            simp only [] at hp
            split at hp
            · injection hp with hp
              rw [← hp, DW.out]
            · cases hp)
          cases b with
          | true =>
            go_wp2
            go_region
            go_wp2
            go_ret
            refine ⟨v, hvr, rfl, ?_, VAL.out⟩
            rw [DW.out, Bool.true_or]
            have K := ((H1.out.set2 true).set0 (s.dropWhile digB)).drew
            rw [DW.out] at K
            first
            | (rw [List.take_of_length_le (by simp)]; simpa using K)
            | (simpa [S, show ({ data := #[] } : ByteArray) = ByteArray.empty from rfl] using K)
          | false =>
            by_cases hbig : v ≤ 9007199254740992
            · have hbig' : ¬ (9007199254740992 : Int) < v := by omega
              have HD := hid H1.out.drew
              have IT2 := hid (js_Itoa v hvr.1 hvr.2 w1.drew (LW1.out.below (Below.refl _ _).drew))
              obtain ⟨c, hc, hcb, hc2⟩ := HEQ0.out (Lib.itoa v)
              have HCB := hid hcb
              have HN2 := hid (show (numP s).isNone = !c from by
                rw [hN.out]
                simp only []
                cases c with
                | true => rw [if_pos ⟨hbig, hc2.1 rfl⟩]; rfl
                | false => rw [if_neg (fun h => by have := hc2.2 h.2; cases this)]; rfl)
              have HVR := hid hvr
              go_upto_region 5 with fail
              have hdec : decide ((9007199254740992 : Int) < v) = false := by simp; omega
              clear hbig hbig' hvr hc2 hcb
              go_cut [] (fun wx => Hid (RdTo g W wx s d (!c)))
              case first =>
                refine region_anyK (fun w' => w'.cell? ⟨g, 0, none⟩ = some (.string (S s)) ∧ w'.cell? ⟨g, 2, none⟩ = some (.bool false) ∧ w'.frozen? ⟨g, 2, none⟩ = false) 26 (by kernel_rfl) (by ((try dsimp only); first | assumption | simp [*, go_sem, World.cell?_alloc_past])) (fun hSk => ?_)
                refine anyK_take 0 [0] (v := ?_) rfl (by kernel_rfl) (by kernel_rfl) (fun _ _ _ h => h) (Or.inl ⟨by rfl, ?_⟩) hSk ?_
                rotate_left
                · intro w' hSw; (try dsimp only at hSw); go_simp; try with_reducible rfl
                try simp only [List.getElem_toArray, List.getElem_cons_succ, List.getElem_cons_zero, Act.put, List.setIfInBounds_toArray, List.set_cons_zero, List.set_cons_succ]
                refine anyK_take 1 [1] (v := ?_) rfl (by kernel_rfl) (by kernel_rfl) (fun _ _ _ h => h) (Or.inl ⟨by rfl, ?_⟩) hSk ?_
                rotate_left
                · intro w' hSw; (try dsimp only at hSw); go_simp; try with_reducible rfl
                try simp only [List.getElem_toArray, List.getElem_cons_succ, List.getElem_cons_zero, Act.put, List.setIfInBounds_toArray, List.set_cons_zero, List.set_cons_succ]
                refine anyK_take 2 [2] (v := ?_) rfl (by kernel_rfl) (by kernel_rfl) (fun _ _ _ h => h) (Or.inl ⟨by rfl, ?_⟩) hSk ?_
                rotate_left
                · intro w' hSw; (try dsimp only at hSw); go_simp; try with_reducible rfl
                try simp only [List.getElem_toArray, List.getElem_cons_succ, List.getElem_cons_zero, Act.put, List.setIfInBounds_toArray, List.set_cons_zero, List.set_cons_succ]
                refine anyK_take 3 [3] (v := ?_) rfl (by kernel_rfl) (by kernel_rfl) (fun _ _ _ h => h) (Or.inl ⟨by rfl, ?_⟩) hSk ?_
                rotate_left
                · intro w' hSw; (try dsimp only at hSw); go_simp; try with_reducible rfl
                try simp only [List.getElem_toArray, List.getElem_cons_succ, List.getElem_cons_zero, Act.put, List.setIfInBounds_toArray, List.set_cons_zero, List.set_cons_succ]
                refine anyK_take 4 [4] (v := ?_) rfl (by kernel_rfl) (by kernel_rfl) (fun _ _ _ h => h) (Or.inl ⟨by rfl, ?_⟩) hSk ?_
                rotate_left
                · intro w' hSw; (try dsimp only at hSw); go_simp; try with_reducible rfl
                try simp only [List.getElem_toArray, List.getElem_cons_succ, List.getElem_cons_zero, Act.put, List.setIfInBounds_toArray, List.set_cons_zero, List.set_cons_succ]
                refine anyK_take 5 [5] (v := ?_) rfl (by kernel_rfl) (by kernel_rfl) (fun _ _ _ h => h) (Or.inl ⟨by rfl, ?_⟩) hSk ?_
                rotate_left
                · intro w' hSw; (try dsimp only at hSw); go_simp; try with_reducible rfl
                try simp only [List.getElem_toArray, List.getElem_cons_succ, List.getElem_cons_zero, Act.put, List.setIfInBounds_toArray, List.set_cons_zero, List.set_cons_succ]
                refine anyK_take 6 [6] (v := ?_) rfl (by kernel_rfl) (by kernel_rfl) (fun _ _ _ h => h) (Or.inl ⟨by rfl, ?_⟩) hSk ?_
                rotate_left
                · intro w' hSw; (try dsimp only at hSw); go_simp; try with_reducible rfl
                try simp only [List.getElem_toArray, List.getElem_cons_succ, List.getElem_cons_zero, Act.put, List.setIfInBounds_toArray, List.set_cons_zero, List.set_cons_succ]
                refine anyK_take 7 [7] (v := ?_) rfl (by kernel_rfl) (by kernel_rfl) (fun _ _ _ h => h) (Or.inl ⟨by rfl, ?_⟩) hSk ?_
                rotate_left
                · intro w' hSw; (try dsimp only at hSw); go_simp; try with_reducible rfl
                try simp only [List.getElem_toArray, List.getElem_cons_succ, List.getElem_cons_zero, Act.put, List.setIfInBounds_toArray, List.set_cons_zero, List.set_cons_succ]
                refine anyK_take 8 [8] (v := ?_) rfl (by kernel_rfl) (by kernel_rfl) (fun _ _ _ h => h) (Or.inl ⟨by rfl, ?_⟩) hSk ?_
                rotate_left
                · intro w' hSw; (try dsimp only at hSw); go_simp; try with_reducible rfl
                try simp only [List.getElem_toArray, List.getElem_cons_succ, List.getElem_cons_zero, Act.put, List.setIfInBounds_toArray, List.set_cons_zero, List.set_cons_succ]
                refine anyK_take 9 [9] (v := ?_) rfl (by kernel_rfl) (by kernel_rfl) (fun _ _ _ h => h) (Or.inl ⟨by rfl, ?_⟩) hSk ?_
                rotate_left
                · intro w' hSw; (try dsimp only at hSw); go_simp; try with_reducible rfl
                try simp only [List.getElem_toArray, List.getElem_cons_succ, List.getElem_cons_zero, Act.put, List.setIfInBounds_toArray, List.set_cons_zero, List.set_cons_succ]
                refine anyK_take 10 [10] (v := ?_) rfl (by kernel_rfl) (by kernel_rfl) (fun _ _ _ h => h) (Or.inl ⟨by rfl, ?_⟩) hSk ?_
                rotate_left
                · intro w' hSw; (try dsimp only at hSw); go_simp; try with_reducible rfl
                try simp only [List.getElem_toArray, List.getElem_cons_succ, List.getElem_cons_zero, Act.put, List.setIfInBounds_toArray, List.set_cons_zero, List.set_cons_succ]
                refine anyK_take 11 [11] (v := ?_) rfl (by kernel_rfl) (by kernel_rfl) (fun _ _ _ h => h) (Or.inl ⟨by rfl, ?_⟩) hSk ?_
                rotate_left
                · intro w' hSw; (try dsimp only at hSw); go_simp; try with_reducible rfl
                try simp only [List.getElem_toArray, List.getElem_cons_succ, List.getElem_cons_zero, Act.put, List.setIfInBounds_toArray, List.set_cons_zero, List.set_cons_succ]
                refine anyK_take 12 [12] (v := ?_) rfl (by kernel_rfl) (by kernel_rfl) (fun _ _ _ h => h) (Or.inl ⟨by rfl, ?_⟩) hSk ?_
                rotate_left
                · intro w' hSw; (try dsimp only at hSw); go_simp; try with_reducible rfl
                try simp only [List.getElem_toArray, List.getElem_cons_succ, List.getElem_cons_zero, Act.put, List.setIfInBounds_toArray, List.set_cons_zero, List.set_cons_succ]
                refine anyK_take 13 [13] (v := ?_) rfl (by kernel_rfl) (by kernel_rfl) (fun _ _ _ h => h) (Or.inl ⟨by rfl, ?_⟩) hSk ?_
                rotate_left
                · intro w' hSw; (try dsimp only at hSw); go_simp; try with_reducible rfl
                try simp only [List.getElem_toArray, List.getElem_cons_succ, List.getElem_cons_zero, Act.put, List.setIfInBounds_toArray, List.set_cons_zero, List.set_cons_succ]
                refine anyK_take 14 [14] (v := ?_) rfl (by kernel_rfl) (by kernel_rfl) (fun _ _ _ h => h) (Or.inl ⟨by rfl, ?_⟩) hSk ?_
                rotate_left
                · intro w' hSw; (try dsimp only at hSw); go_simp; try with_reducible rfl
                try simp only [List.getElem_toArray, List.getElem_cons_succ, List.getElem_cons_zero, Act.put, List.setIfInBounds_toArray, List.set_cons_zero, List.set_cons_succ]
                refine anyK_take 16 [16] (v := ?_) rfl (by kernel_rfl) (by kernel_rfl) (fun _ _ _ h => h) (Or.inl ⟨by rfl, ?_⟩) hSk ?_
                rotate_left
                · intro w' hSw; (try dsimp only at hSw); go_simp; try with_reducible rfl
                try simp only [List.getElem_toArray, List.getElem_cons_succ, List.getElem_cons_zero, Act.put, List.setIfInBounds_toArray, List.set_cons_zero, List.set_cons_succ]
                refine anyK_take 17 [17] (v := ?_) rfl (by kernel_rfl) (by kernel_rfl) (fun _ _ _ h => h) (Or.inl ⟨by rfl, ?_⟩) hSk ?_
                rotate_left
                · intro w' hSw; (try dsimp only at hSw); go_simp; try with_reducible rfl
                try simp only [List.getElem_toArray, List.getElem_cons_succ, List.getElem_cons_zero, Act.put, List.setIfInBounds_toArray, List.set_cons_zero, List.set_cons_succ]
                refine anyK_take 18 [18] (v := ?_) rfl (by kernel_rfl) (by kernel_rfl) (fun _ _ _ h => h) (Or.inl ⟨by rfl, ?_⟩) hSk ?_
                rotate_left
                · intro w' hSw; (try dsimp only at hSw); go_simp; try with_reducible rfl
                try simp only [List.getElem_toArray, List.getElem_cons_succ, List.getElem_cons_zero, Act.put, List.setIfInBounds_toArray, List.set_cons_zero, List.set_cons_succ]
                refine anyK_take 19 [19] (v := ?_) rfl (by kernel_rfl) (by kernel_rfl) (fun _ _ _ h => h) (Or.inl ⟨by rfl, ?_⟩) hSk ?_
                rotate_left
                · intro w' hSw; (try dsimp only at hSw); go_simp; try with_reducible rfl
                try simp only [List.getElem_toArray, List.getElem_cons_succ, List.getElem_cons_zero, Act.put, List.setIfInBounds_toArray, List.set_cons_zero, List.set_cons_succ]
                refine anyK_take 20 [20] (v := ?_) rfl (by kernel_rfl) (by kernel_rfl) (fun _ _ _ h => h) (Or.inl ⟨by rfl, ?_⟩) hSk ?_
                rotate_left
                · intro w' hSw; (try dsimp only at hSw); go_simp; try with_reducible rfl
                try simp only [List.getElem_toArray, List.getElem_cons_succ, List.getElem_cons_zero, Act.put, List.setIfInBounds_toArray, List.set_cons_zero, List.set_cons_succ]
                refine anyK_take 21 [21] (v := ?_) rfl (by kernel_rfl) (by kernel_rfl) (fun _ _ _ h => h) (Or.inl ⟨by rfl, ?_⟩) hSk ?_
                rotate_left
                · intro w' hSw; (try dsimp only at hSw); go_simp; try with_reducible rfl
                try simp only [List.getElem_toArray, List.getElem_cons_succ, List.getElem_cons_zero, Act.put, List.setIfInBounds_toArray, List.set_cons_zero, List.set_cons_succ]
                refine anyK_only 15 (by kernel_rfl) rfl (fun K hK => ?_)
                (first | ((rw [if_pos (by rfl)]; go_simp; go_at_call 92; refine IT2.out.mono ?_; rintro e w2 ⟨rfl, hb2⟩; (have H2 := hid (HD.out.below hb2)); obtain ⟨p0, p1, p2, q0, q1, q2⟩ := H2.out.b0; go_wp2_with fail)) | go_simp)
                clear hSk
                refine hK.out _ _ (by ((try dsimp only); first | assumption | simp [*, go_sem, World.cell?_alloc_past])) (fun hSk => ?_)
                clear hK K
                try simp only [List.getElem_toArray, List.getElem_cons_succ, List.getElem_cons_zero, Act.put, List.setIfInBounds_toArray, List.set_cons_zero, List.set_cons_succ]
                refine anyK_take 22 [22] (v := ?_) rfl (by kernel_rfl) (by kernel_rfl) (fun _ _ _ h => h) (Or.inl ⟨by rfl, ?_⟩) hSk ?_
                rotate_left
                · intro w' hSw; (try dsimp only at hSw); go_simp; try with_reducible rfl
                try simp only [List.getElem_toArray, List.getElem_cons_succ, List.getElem_cons_zero, Act.put, List.setIfInBounds_toArray, List.set_cons_zero, List.set_cons_succ]
                refine anyK_take 23 [23] (v := ?_) rfl (by kernel_rfl) (by kernel_rfl) (fun _ _ _ h => h) (Or.inl ⟨by rfl, ?_⟩) hSk ?_
                rotate_left
                · intro w' hSw; (try dsimp only at hSw); go_simp; try with_reducible rfl
                try simp only [List.getElem_toArray, List.getElem_cons_succ, List.getElem_cons_zero, Act.put, List.setIfInBounds_toArray, List.set_cons_zero, List.set_cons_succ]
                refine anyK_take 24 [25, 24] (v := ?_) rfl (by kernel_rfl) (by kernel_rfl) (fun _ _ _ h => h) (Or.inl ⟨by rfl, ?_⟩) hSk ?_
                rotate_left
                · intro w' hSw; (try dsimp only at hSw); go_simp; try with_reducible rfl
                try simp only [List.getElem_toArray, List.getElem_cons_succ, List.getElem_cons_zero, Act.put, List.setIfInBounds_toArray, List.set_cons_zero, List.set_cons_succ]
                refine anyK_take 25 [25] (v := ?_) rfl (by kernel_rfl) (by kernel_rfl) (fun _ _ _ h => h) (Or.inl ⟨by rfl, ?_⟩) hSk ?_
                rotate_left
                · intro w' hSw; (try dsimp only at hSw); go_simp; try with_reducible rfl
                try simp only [List.getElem_toArray, List.getElem_cons_succ, List.getElem_cons_zero, Act.put, List.setIfInBounds_toArray, List.set_cons_zero, List.set_cons_succ]
                refine anyK_last (by kernel_rfl) rfl (by kernel_rfl) (fun K hK => ?_)
                go_simp
                refine hK.out _ _ ?_
                clear hK K
                try simp only [List.getElem_toArray, List.getElem_cons_succ, List.getElem_cons_zero, Act.put, List.setIfInBounds_toArray, List.set_cons_zero, List.set_cons_succ]
                refine anyK_done (by kernel_rfl) ?_ _
                go_wp2_with fail
                go_meet
                refine hid ?_
                rw [← HCB.out]
                exact H2.out.set2 _
              case rest =>
                clear d0 d1 d2 e0 e1 e2
                obtain ⟨d0, d1, d2, e0, e1, e2⟩ := hcut.out.b0
                go_wp2
                go_ret
                refine ⟨v, HVR.out, rfl, ?_, VAL.out⟩
                rw [HN2.out, DW.out]
                have K := hcut.out.set0 (s.dropWhile digB)
                rw [DW.out] at K
                first
                | (rw [List.take_of_length_le (by simp)]; simpa using K)
                | (simpa [S, show ({ data := #[] } : ByteArray) = ByteArray.empty from rfl] using K)
            · have hbig' : (9007199254740992 : Int) < v := by omega
              go_wp2
              go_region
              go_wp2
              go_ret
              refine ⟨v, hvr, rfl, ?_, VAL.out⟩
              have HN2 : numP s = none := by rw [hN.out, if_neg (fun h => absurd h.1 (by omega))]
              rw [HN2, DW.out]
              have K := ((H1.out.set2 true).set0 (s.dropWhile digB)).drew
              rw [DW.out] at K
              first
              | (rw [List.take_of_length_le (by simp)]; simpa using K)
              | (simpa [S, show ({ data := #[] } : ByteArray) = ByteArray.empty from rfl] using K)
        · clear hb HPH
          have HN : Hid (numP s = none) := by
            rw [Hid, hN.out]
            split
            · rename_i v hv
              exact absurd hv (hno v)
            · rfl
          cases b with
          | true =>
            go_wp2
            go_region
            go_wp2
            go_ret
            refine ⟨kk, hkk, rfl, ?_, fun p hp => by rw [HN.out] at hp; cases hp⟩
            rw [HN.out, DW.out]
            have K := ((H1.out.set2 true).set0 (s.dropWhile digB)).drew
            rw [DW.out] at K
            first
            | (rw [List.take_of_length_le (by simp)]; simpa using K)
            | (simpa [S, show ({ data := #[] } : ByteArray) = ByteArray.empty from rfl] using K)
          | false =>
            go_wp2
            go_region
            go_wp2
            go_ret
            refine ⟨kk, hkk, rfl, ?_, fun p hp => by rw [HN.out] at hp; cases hp⟩
            rw [HN.out, DW.out]
            have K := ((H1.out.set2 true).set0 (s.dropWhile digB)).drew
            rw [DW.out] at K
            first
            | (rw [List.take_of_length_le (by simp)]; simpa using K)
            | (simpa [S, show ({ data := #[] } : ByteArray) = ByteArray.empty from rfl] using K)
end
end Go.Proofs.YtbjimikppdfmgaaDoor
