/-
  Walk of pantilelaw16.LegacyOnce. Printed by genLOnce.py.
-/
import Derived.Test.YtiabfngiibabcaaGreatDoorLives16
import Derived.Test.YtiabfngiibabcaaGreatDoorInts
set_option linter.unusedVariables false
set_option linter.unusedSimpArgs false
set_option maxHeartbeats 12800000
set_option maxRecDepth 100000
namespace Go.Proofs.YtiabfngiibabcaaGreatDoor
open Go.RowKit

theorem LF.turned {w0 W W' : World} {g lb size : Nat} {q : Int} {log : List UInt8} {m : KM} {P : List Lf} {H : List Hd} {C : KMapI} {F T : Nat → Prop} (h : LF w0 W g q log lb m size P H C F) (ht : Turn T W W') (hT : ∀ j, F j → ¬ T j) (hl : ∀ k, T k → w0.heap.size ≤ k) : LF w0 W' g q log lb m size P H C F := by
  obtain ⟨N, k, sb, mb, cm, base, A, c, Ah, ch, Z, hN, hS, hw, hf, hbs⟩ := h
  exact ⟨N, k, sb, mb, cm, base, A, c, Ah, ch, Z, hN, ⟨hS.st.keep ht (fun j hj => hT j (hf.1 j (.inl hj))), ht.blk hS.blk (hT _ (hf.1 _ (.inr (.inl rfl)))), ht.row hS.pr (fun j hj => hT j (hf.1 j (.inr (.inr (.inr (.inl hj)))))), ht.row hS.hr (fun j hj => hT j (hf.1 j (.inr (.inr (.inr (.inr hj)))))), hS.cr.kept (ht.block cm hS.cr.lt (hT _ (hf.1 _ (.inr (.inr (.inl rfl)))))), hS.fr, hS.bl.1, hS.bl.2.1, Nat.le_trans hS.bl.2.2 ht.size⟩, ht.below hw hl, ⟨hf.1, fun j hj => ⟨(hf.2 j hj).1, Nat.lt_of_lt_of_le (hf.2 j hj).2 ht.size⟩⟩, hbs⟩
/-- How it stands behind k rounds: the log at lb, what came first at fb. -/
def StO (w0 W : World) (g : Nat) (ce : List UInt8) (k lb fb : Nat) (F : Nat → Prop) : Prop :=
  (¬ F fb ∧ w0.heap.size ≤ fb ∧ fb < W.heap.size) ∧ ((k = 0 ∧ Blk W fb 30 #[.int .i64 (-1), .string (S [])] ∧ LF w0 W g 16000000 [] lb [] 0 [] [] [] F) ∨
    (1 ≤ k ∧ ∃ t0 : Nat, t0 ≤ 1000 ∧ Blk W fb 30 #[.int .i64 t0, .string (S ce)] ∧
      ((k ≤ 2 ∧ LF w0 W g 16000000 (frameB (bS ⟨t0, ce⟩)) lb (mS ⟨t0, ce⟩) 0 [⟨t0, ce⟩] [] (noteM [] ⟨t0, ce⟩) F) ∨ (3 ≤ k ∧ LW w0 W g 16000000 (frameB (bS ⟨t0, ce⟩) ++ frameB (bL ⟨t0, ce⟩ 5)) lb (mL ⟨t0, ce⟩ 5) 1 [] (noteM [] ⟨t0, ce⟩) F))))
theorem StO.fin {w0 W : World} {g k lb fb : Nat} {ce : List UInt8} {F : Nat → Prop} (h : StO w0 W g ce k lb fb F) : ∃ log m size P C, LW w0 W g 16000000 log lb m size P C F ∧ size + P.length ≤ 1 := by
  rcases h.2 with ⟨-, -, h⟩ | ⟨-, t0, -, -, ⟨-, h⟩ | ⟨-, h⟩⟩
  · exact ⟨_, _, _, _, _, h.lw (by simp), by simp⟩
  · exact ⟨_, _, _, _, _, h.lw (by simp), by simp⟩
  · exact ⟨_, _, _, _, _, h, by simp⟩
/-- Behind the first round a certificate is seen. -/
theorem StO.seen {w0 W : World} {g k lb fb : Nat} {ce : List UInt8} {F : Nat → Prop} (h : StO w0 W g ce k lb fb F) (hk : 1 ≤ k) : ∃ t0 : Nat, t0 ≤ 1000 ∧ Blk W fb 30 #[.int .i64 t0, .string (S ce)] ∧ (∀ t : Int, okL ⟨t, ce⟩ = true → Calls Tryz.prog 9 #[.pointer (some ⟨lb, 0, none⟩), .string (S ce), .int .i64 t] W fun e w' => e = .returned (.tuple #[.agg #[.int .i64 t0, .string (S ce)], .int .i64 0]) ∧ Below W.heap.size W w') ∧
    ∀ W', Below W.heap.size W W' → StO w0 W' g ce k lb fb F ∧ (k ≠ 2 → StO w0 W' g ce (k + 1) lb fb F) := by
  obtain ⟨⟨f1, f0, f2⟩, h⟩ := h
  rcases h with ⟨rfl, -, -⟩ | ⟨-, t0, ht0, hB, h⟩
  · omega
  · refine ⟨t0, ht0, hB, ?_, ?_⟩
    · rcases h with ⟨-, h⟩ | ⟨-, h⟩
      · intro t ht
        exact on_Add_seen (h.lw (by simp)) ce t t0 ht (noteM_get ⟨t0, ce⟩)
      · intro t ht
        exact on_Add_seen h ce t t0 ht (noteM_get ⟨t0, ce⟩)
    · intro W' hb
      have hB' := hB.below hb hB.lt
      rcases h with ⟨hk2, h⟩ | ⟨hk2, h⟩
      · exact ⟨⟨⟨f1, f0, hB'.lt⟩, .inr ⟨hk, t0, ht0, hB', .inl ⟨hk2, h.below hb⟩⟩⟩, fun hn => ⟨⟨f1, f0, hB'.lt⟩, .inr ⟨by omega, t0, ht0, hB', .inl ⟨by omega, h.below hb⟩⟩⟩⟩
      · exact ⟨⟨⟨f1, f0, hB'.lt⟩, .inr ⟨hk, t0, ht0, hB', .inr ⟨hk2, h.below hb⟩⟩⟩, fun hn => ⟨⟨f1, f0, hB'.lt⟩, .inr ⟨by omega, t0, ht0, hB', .inr ⟨by omega, h.below hb⟩⟩⟩⟩
/-- The first round. -/
theorem StO.first {w0 W : World} {g lb fb : Nat} {ce : List UInt8} {F : Nat → Prop} (h : StO w0 W g ce 0 lb fb F) (r : Nat) (hr : r ≤ 1000) (hok : okL ⟨r, ce⟩ = true) (hc : ce.length ≤ 10) (hL : LibL w0) : Blk W fb 30 #[.int .i64 (-1), .string (S [])] ∧
    Calls Tryz.prog 9 #[.pointer (some ⟨lb, 0, none⟩), .string (S ce), .int .i64 r] W fun e w' => e = .returned (.tuple #[.agg #[.int .i64 r, .string (S ce)], .int .i64 0]) ∧ Blk w' fb 30 #[.int .i64 (-1), .string (S [])] ∧ Below w0.heap.size w0 w' ∧
      ∀ W9, W9 = ((w'.setCell ⟨fb, 0, none⟩ (.int .i64 r)).setCell ⟨fb, 1, none⟩ (.string (S ce))).alloc (.cells #[.int .i64 r, .string (S ce)] 30) → ∃ F', StO w0 W9 g ce 1 lb fb F' := by
  obtain ⟨⟨f1, f0, f2⟩, h⟩ := h
  rcases h with ⟨-, hB, h⟩ | ⟨hk, -⟩
  · refine ⟨hB, ?_⟩
    refine (on_Add_new ⟨r, ce⟩ h hok hc (by omega) hL).mono ?_
    rintro e w' ⟨rfl, F', h', t1, t2⟩
    have hB' := t1.blk hB f1
    have hz := t1.size
    refine ⟨rfl, hB', h'.bel, ?_⟩
    rintro W9 rfl
    have hF' : ¬ F' fb := fun hf => by
      rcases t2 fb hf with h | h
      · exact f1 h
      · omega
    have hB9 : Blk ((w'.setCell ⟨fb, 0, none⟩ (.int .i64 r)).setCell ⟨fb, 1, none⟩ (.string (S ce))) fb 30 #[.int .i64 r, .string (S ce)] := by
      have := (hB'.set_ 0 (.int .i64 r)).set_ 1 (.string (S ce))
      simpa using this
    have hA9 := hB9.alloc (.cells #[.int .i64 r, .string (S ce)] 30)
    refine ⟨F', ⟨hF', f0, hA9.lt⟩, .inr ⟨Nat.le_refl _, r, hr, hA9, .inl ⟨by omega, ?_⟩⟩⟩
    have h2 := h'.turned (((Turn.of_below (Below.refl _ _) (fun k => k = fb)).setCell ⟨fb, 0, none⟩ (.inl rfl) (.int .i64 r)).setCell ⟨fb, 1, none⟩ (.inl rfl) (.string (S ce))) (fun j hj he => hF' (he ▸ hj)) (fun k hk => hk ▸ f0)
    exact h2.below ((Below.refl _ _).alloc (Nat.le_refl _) _)
  · omega
theorem rem_pos {t : Int} (h : 0 ≤ t) : ∃ r : Nat, r ≤ 1000 ∧ t % 1001 = r := ⟨(t % 1001).toNat, by omega, by omega⟩
theorem rem_neg {t : Int} (h : t < 0) : ∃ r : Nat, r ≤ 1000 ∧ -(t + 1).tmod 1001 = r := by
  have e : -(t + 1).tmod 1001 = (-(t + 1)) % 1001 := by
    rw [← Int.neg_tmod, Int.tmod_eq_emod_of_nonneg (by omega)]
  rw [e]
  exact rem_pos (by omega)
theorem ints_at {w : World} {A : Option Addr} {ts : List Int} (h : IntsAt w A ts) {k : Nat} (hk : k < ts.length) : ∃ b off, A = some ⟨b, off, none⟩ ∧ b < w.heap.size ∧ w.cell? ⟨b, off + k, none⟩ = some (.int .i64 ts[k]) := by
  obtain ⟨b, off, hA, hb, hc⟩ := h (by omega)
  exact ⟨b, off, hA, hb, hc k hk⟩
theorem StO.bel {w0 W : World} {g k lb fb : Nat} {ce : List UInt8} {F : Nat → Prop} (h : StO w0 W g ce k lb fb F) : Below w0.heap.size w0 W := by
  rcases h.2 with ⟨-, -, h⟩ | ⟨-, t0, -, -, ⟨-, h⟩ | ⟨-, h⟩⟩
  · exact h.bel
  · exact h.bel
  · exact h.bel
theorem okT {ce : List UInt8} (h1 : ce ≠ []) (h2 : ce.length ≤ 10) {t : Nat} (ht : t ≤ 1000) : okL ⟨t, ce⟩ = true := by
  unfold okL
  cases ce with
  | nil => exact absurd rfl h1
  | cons a r =>
    simp at h2 ⊢
    omega
theorem StO.seq {w0 W : World} {g lb fb : Nat} {ce : List UInt8} {F : Nat → Prop} (h : StO w0 W g ce 2 lb fb F) (h1 : ce ≠ []) (h2 : ce.length ≤ 10) (hL : LibL w0) : Calls Tryz.prog 10 #[.pointer (some ⟨lb, 0, none⟩), .int .i64 5, .int .i64 64] W fun e w' => e = .returned (.int .i64 0) ∧ ∃ F', StO w0 w' g ce 3 lb fb F' := by
  obtain ⟨⟨f1, f0, f2⟩, h⟩ := h
  rcases h with ⟨hk, -, -⟩ | ⟨-, t0, ht0, hB, ⟨-, h⟩ | ⟨hk, -⟩⟩
  · omega
  · refine (on_Seq ⟨t0, ce⟩ 5 h (okT h1 h2 ht0) h2 (by omega) (by omega) hL).mono ?_
    rintro e w' ⟨rfl, F', h', t1, t2⟩
    have hB' := t1.blk hB f1
    refine ⟨rfl, F', ⟨fun hf => ?_, f0, hB'.lt⟩, .inr ⟨by omega, t0, ht0, hB', .inr ⟨Nat.le_refl _, h'⟩⟩⟩
    rcases t2 fb hf with h | h
    · exact f1 h
    · omega
  · omega
theorem StO.opn {w0 W : World} {g lb fb : Nat} {ce : List UInt8} {F : Nat → Prop} (h : StO w0 W g ce 4 lb fb F) (h1 : ce ≠ []) (h2 : ce.length ≤ 10) (hL : LibL w0) : Calls Tryz.prog 8 #[.pointer (some ⟨g, 0, none⟩)] W fun e w' => ∃ lb', e = .returned (.tuple #[.pointer (some ⟨lb', 0, none⟩), .int .i64 0]) ∧ ∃ F', StO w0 w' g ce 5 lb' fb F' := by
  obtain ⟨⟨f1, f0, f2⟩, h⟩ := h
  rcases h with ⟨hk, -, -⟩ | ⟨-, t0, ht0, hB, ⟨hk, -⟩ | ⟨-, h⟩⟩
  · omega
  · omega
  · refine (on_Open_old ⟨t0, ce⟩ 5 h (okT h1 h2 ht0) h2 (by omega) hL).mono ?_
    rintro e w' ⟨lb', rfl, F', h', t1, t2⟩
    have hB' := t1.blk hB f1
    refine ⟨lb', rfl, F', ⟨fun hf => ?_, f0, hB'.lt⟩, .inr ⟨by omega, t0, ht0, hB', .inr ⟨by omega, h'⟩⟩⟩
    rcases t2 fb hf with h | h
    · exact f1 h
    · omega
theorem law_LegacyOnce1 (ce0 : List UInt8) (hlong : 10 < ce0.length) (A : Option Addr) (ts : List Int) (c : Nat) (w0 : World) (hT : IntsAt w0 A ts) (hI : IntsIn ts) (htl : (ts.length : Int) ≤ 9223372036854775807) (hL : LibL w0) :
    Calls Tryz.prog 3 #[.string (S ce0), .slice A ts.length c] w0 fun e w' => e = .returned (.bool true) ∧ Below w0.heap.size w0 w' := by
  have HT := hid hT
  have HI := hid hI
  have HL := hid hL
  clear hT hI hL
  have hgt : ¬ (ce0.length : Int) ≤ 10 := by omega
  have hemp : (ce0.take 10).isEmpty = false := by
    cases ce0 with
    | nil => simp at hlong
    | cons a r => rfl
  go_enter Tryz.func3, Tryz.ntmps3
  go_wp2_with (first
    | (go_at_call 7; refine (drive_New 16000000 (by rfl) _).mono ?_; rintro e w1 ⟨g, fp, rfl, hd1, hb1, hf1⟩; have OP := hid (on_Open_new hd1 (by rfl) hb1 hf1 HL.out); clear hd1 hb1 hf1)
    | (go_at_call 8; refine OP.out.mono ?_; rintro e w2 ⟨lb, rfl, F2, h2, -, -⟩; have H2F := hid h2; clear h2))
  obtain ⟨ce, hce⟩ : ∃ ce, ce0.take 10 = ce := ⟨_, rfl⟩
  rw [hce]
  have h1 : ce ≠ [] := by intro h; rw [h] at hce; rw [hce] at hemp; simp at hemp
  have h2 : ce.length ≤ 10 := by rw [← hce, List.length_take]; omega
  clear hce
  obtain ⟨fb, hfb⟩ : ∃ fb, w2.heap.size = fb := ⟨_, rfl⟩
  have hS0 : StO w0 (w2.alloc (.cells #[.int .i64 (-1), .string (S [])] 30)) g ce 0 lb fb F2 := ⟨⟨fun h => by have := (H2F.out.lt _ h).2; omega, by have := H2F.out.bel.size; omega, by simp; omega⟩, .inl ⟨rfl, by rw [← hfb]; exact Blk.new _ _ _, H2F.out.below ((Below.refl _ _).alloc (Nat.le_refl _) _)⟩⟩
  have HS0 := hid hS0
  have HC := hid (And.intro h1 h2)
  clear hS0 h1 h2
  rw [hfb]
  go_loopw [6, 7, 9, 10, 11, 12] (fun l' _ i' _ _ _ wr => ∃ (k lb : Nat) (F : Nat → Prop), k ≤ ts.length ∧ k ≤ 8 ∧ l' = .pointer (some ⟨lb, 0, none⟩) ∧ i' = .int .i64 k ∧ Hid (StO w0 wr g ce k lb fb F)) (fun _ _ i' _ _ _ _ => 8 - (intOf i').toNat)
  case atStart => exact ⟨0, lb, F2, Nat.zero_le _, by omega, rfl, rfl, HS0⟩
  case round =>
    obtain ⟨k, lb, F, hk1, hk2, rfl, rfl, hS⟩ := hrel
    by_cases hlt : k < ts.length ∧ k < 8
    · obtain ⟨hlt, hk8⟩ := hlt
      have d8 : decide ((k : Int) < 8) = true := by simp; omega
      obtain ⟨b, off, rfl, hbb, hc⟩ := ints_at (HT.out.below hS.out.bel) hlt
      have hin := HI.out k hlt
      generalize ts[k] = t at *
      obtain ⟨i1, i2⟩ := hin
      by_cases hneg : t < 0
      · obtain ⟨r, hr, hre⟩ := rem_neg hneg
        have HR := hid hr
        rcases Nat.eq_zero_or_pos k with hk0 | hk
        · have HK0 := hid hk0
          have q2 : ((k : Int) == 2) = false := by simp; omega
          have q4 : ((k : Int) == 4) = false := by simp; omega
          have hs0 : StO w0 wr g ce 0 lb fb F := hk0 ▸ hS.out
          obtain ⟨hB, ad⟩ := hs0.first r hr (okT HC.out.1 HC.out.2 hr) HC.out.2 HL.out
          have AD := hid ad
          clear hB ad hr hs0 hS hk0
          go_wp2_with (go_at_call 9; refine AD.out.mono ?_; rintro e w3 ⟨rfl, hB3, hb3, hfin⟩; have HFIN := hid hfin; have n0 := hB3.cell 0; have n1 := hB3.cell 1; have e0 := hB3.frozen 0; have e1 := hB3.frozen 1; have hf3 := hB3.lt; have hne3 : w3.heap.size ≠ fb := (by omega); have hne4 : fb ≠ w3.heap.size := (by omega); simp at n0 n1; clear hb3 hB3 hfin)
          obtain ⟨F9, h9⟩ := HFIN.out _ rfl
          have H9 := hid h9
          clear h9
          go_roundw
          case rel => exact ⟨k + 1, lb, F9, by omega, by omega, rfl, by go_num, by rw [HK0.out]; exact H9⟩
          case measure => simp [intOf]; omega
        · obtain ⟨t0, ht0, hB, ad, hnx⟩ := hS.out.seen hk
          have AD := hid (ad r (okT HC.out.1 HC.out.2 hr))
          have HNX := hid hnx
          have HBK := hid hB
          clear hB ad hr hnx hS
          by_cases hk2' : k = 2
          · have HK := hid hk2'
            have q2 : ((k : Int) == 2) = true := by simp; omega
            have q4 : ((k : Int) == 4) = false := by simp; omega
            clear hk2'
            go_wp2_with (first
              | (go_at_call 9; refine AD.out.mono ?_; rintro e w3 ⟨rfl, hb3⟩; have hB3 := HBK.out.below hb3 HBK.out.lt; have n0 := hB3.cell 0; have n1 := hB3.cell 1; have hf3 := hB3.lt; simp at n0 n1; have hnx := HNX.out _ (bt hb3 ((Below.refl _ _).alloc (Nat.le_refl _) (.cells #[.int .i64 t0, .string (S ce)] 30))); have HN := hid hnx; have SQ := hid (StO.seq (HK.out ▸ hnx.1) HC.out.1 HC.out.2 HL.out); clear hb3 hB3 hnx)
              | (go_at_call 10; refine SQ.out.mono ?_; rintro e w5 ⟨rfl, F5, h5⟩; have H5 := hid h5; clear h5))
            go_roundw
            case rel => exact ⟨k + 1, lb, F5, by omega, by omega, rfl, by go_num, by rw [HK.out]; exact H5⟩
            case measure => simp [intOf]; omega
          · by_cases hk4 : k = 4
            · have HK := hid hk4
              have q2 : ((k : Int) == 2) = false := by simp; omega
              have q4 : ((k : Int) == 4) = true := by simp; omega
              clear hk4
              go_wp2_with (first
                | (go_at_call 9; refine AD.out.mono ?_; rintro e w3 ⟨rfl, hb3⟩; have hB3 := HBK.out.below hb3 HBK.out.lt; have n0 := hB3.cell 0; have n1 := hB3.cell 1; have hf3 := hB3.lt; simp at n0 n1; have hnx := HNX.out _ (bt hb3 ((Below.refl _ _).alloc (Nat.le_refl _) (.cells #[.int .i64 t0, .string (S ce)] 30))); have HN := hid hnx; have OP4 := hid (StO.opn (HK.out ▸ hnx.1) HC.out.1 HC.out.2 HL.out); clear hb3 hB3 hnx)
                | (go_at_call 8; refine OP4.out.mono ?_; rintro e w5 ⟨lb5, rfl, F5, h5⟩; have H5 := hid h5; clear h5))
              go_roundw
              case rel => exact ⟨k + 1, lb5, F5, by omega, by omega, rfl, by go_num, by rw [HK.out]; exact H5⟩
              case measure => simp [intOf]; omega
            · have q2 : ((k : Int) == 2) = false := by simp; omega
              have q4 : ((k : Int) == 4) = false := by simp; omega
              have HK := hid hk2'
              go_wp2_with (go_at_call 9; refine AD.out.mono ?_; rintro e w3 ⟨rfl, hb3⟩; have hB3 := HBK.out.below hb3 HBK.out.lt; have n0 := hB3.cell 0; have n1 := hB3.cell 1; have hf3 := hB3.lt; simp at n0 n1; have hnx := HNX.out _ (bt hb3 ((Below.refl _ _).alloc (Nat.le_refl _) (.cells #[.int .i64 t0, .string (S ce)] 30))); have HN := hid hnx; skip; clear hb3 hB3 hnx)
              go_roundw
              case rel => exact ⟨k + 1, lb, F, by omega, by omega, rfl, by go_num, hid (HN.out.2 HK.out)⟩
              case measure => simp [intOf]; omega
      · obtain ⟨r, hr, hre⟩ := rem_pos (by omega : 0 ≤ t)
        have HR := hid hr
        rcases Nat.eq_zero_or_pos k with hk0 | hk
        · have HK0 := hid hk0
          have q2 : ((k : Int) == 2) = false := by simp; omega
          have q4 : ((k : Int) == 4) = false := by simp; omega
          have hs0 : StO w0 wr g ce 0 lb fb F := hk0 ▸ hS.out
          obtain ⟨hB, ad⟩ := hs0.first r hr (okT HC.out.1 HC.out.2 hr) HC.out.2 HL.out
          have AD := hid ad
          clear hB ad hr hs0 hS hk0
          go_wp2_with (go_at_call 9; refine AD.out.mono ?_; rintro e w3 ⟨rfl, hB3, hb3, hfin⟩; have HFIN := hid hfin; have n0 := hB3.cell 0; have n1 := hB3.cell 1; have e0 := hB3.frozen 0; have e1 := hB3.frozen 1; have hf3 := hB3.lt; have hne3 : w3.heap.size ≠ fb := (by omega); have hne4 : fb ≠ w3.heap.size := (by omega); simp at n0 n1; clear hb3 hB3 hfin)
          obtain ⟨F9, h9⟩ := HFIN.out _ rfl
          have H9 := hid h9
          clear h9
          go_roundw
          case rel => exact ⟨k + 1, lb, F9, by omega, by omega, rfl, by go_num, by rw [HK0.out]; exact H9⟩
          case measure => simp [intOf]; omega
        · obtain ⟨t0, ht0, hB, ad, hnx⟩ := hS.out.seen hk
          have AD := hid (ad r (okT HC.out.1 HC.out.2 hr))
          have HNX := hid hnx
          have HBK := hid hB
          clear hB ad hr hnx hS
          by_cases hk2' : k = 2
          · have HK := hid hk2'
            have q2 : ((k : Int) == 2) = true := by simp; omega
            have q4 : ((k : Int) == 4) = false := by simp; omega
            clear hk2'
            go_wp2_with (first
              | (go_at_call 9; refine AD.out.mono ?_; rintro e w3 ⟨rfl, hb3⟩; have hB3 := HBK.out.below hb3 HBK.out.lt; have n0 := hB3.cell 0; have n1 := hB3.cell 1; have hf3 := hB3.lt; simp at n0 n1; have hnx := HNX.out _ (bt hb3 ((Below.refl _ _).alloc (Nat.le_refl _) (.cells #[.int .i64 t0, .string (S ce)] 30))); have HN := hid hnx; have SQ := hid (StO.seq (HK.out ▸ hnx.1) HC.out.1 HC.out.2 HL.out); clear hb3 hB3 hnx)
              | (go_at_call 10; refine SQ.out.mono ?_; rintro e w5 ⟨rfl, F5, h5⟩; have H5 := hid h5; clear h5))
            go_roundw
            case rel => exact ⟨k + 1, lb, F5, by omega, by omega, rfl, by go_num, by rw [HK.out]; exact H5⟩
            case measure => simp [intOf]; omega
          · by_cases hk4 : k = 4
            · have HK := hid hk4
              have q2 : ((k : Int) == 2) = false := by simp; omega
              have q4 : ((k : Int) == 4) = true := by simp; omega
              clear hk4
              go_wp2_with (first
                | (go_at_call 9; refine AD.out.mono ?_; rintro e w3 ⟨rfl, hb3⟩; have hB3 := HBK.out.below hb3 HBK.out.lt; have n0 := hB3.cell 0; have n1 := hB3.cell 1; have hf3 := hB3.lt; simp at n0 n1; have hnx := HNX.out _ (bt hb3 ((Below.refl _ _).alloc (Nat.le_refl _) (.cells #[.int .i64 t0, .string (S ce)] 30))); have HN := hid hnx; have OP4 := hid (StO.opn (HK.out ▸ hnx.1) HC.out.1 HC.out.2 HL.out); clear hb3 hB3 hnx)
                | (go_at_call 8; refine OP4.out.mono ?_; rintro e w5 ⟨lb5, rfl, F5, h5⟩; have H5 := hid h5; clear h5))
              go_roundw
              case rel => exact ⟨k + 1, lb5, F5, by omega, by omega, rfl, by go_num, by rw [HK.out]; exact H5⟩
              case measure => simp [intOf]; omega
            · have q2 : ((k : Int) == 2) = false := by simp; omega
              have q4 : ((k : Int) == 4) = false := by simp; omega
              have HK := hid hk2'
              go_wp2_with (go_at_call 9; refine AD.out.mono ?_; rintro e w3 ⟨rfl, hb3⟩; have hB3 := HBK.out.below hb3 HBK.out.lt; have n0 := hB3.cell 0; have n1 := hB3.cell 1; have hf3 := hB3.lt; simp at n0 n1; have hnx := HNX.out _ (bt hb3 ((Below.refl _ _).alloc (Nat.le_refl _) (.cells #[.int .i64 t0, .string (S ce)] 30))); have HN := hid hnx; skip; clear hb3 hB3 hnx)
              go_roundw
              case rel => exact ⟨k + 1, lb, F, by omega, by omega, rfl, by go_num, hid (HN.out.2 HK.out)⟩
              case measure => simp [intOf]; omega
    · obtain ⟨log, m, size, P, C, hW, hsz⟩ := hS.out.fin
      have SZ := hid (on_Size hW)
      have SG := hid (on_Staged hW (by omega))
      have hbel := hS.out.bel
      have HB := hid hbel
      have hww : IntKind.i64.wrap ((size : Int) + (P.length : Int)) = (size : Int) + (P.length : Int) := IntWalk.i64_in _ (by omega)
      have hdd : decide ((size : Int) + (P.length : Int) ≤ 1) = true := by simp; omega
      clear hW hbel hS
      by_cases hlt' : k < ts.length
      · have hk8 : decide ((k : Int) < 8) = false := by simp; omega
        go_wp2_with (first
          | (go_at_call 11; refine SZ.out.mono ?_; rintro e w6 ⟨rfl, hw⟩; rw [hw]; clear hw w6)
          | (go_at_call 12; refine SG.out.mono ?_; rintro e w7 ⟨A7, c7, rfl, hr7, hb7⟩; have hb8 := HB.out.trans (hb7.mono HB.out.size); have LV := hid (law16_lives w7 (HL.out.below hb8)); have HB8 := hid hb8; clear hr7 hb7 hb8)
          | (go_at_call 13; refine LV.out.mono ?_; rintro e w9 ⟨rfl, hb9⟩; have HB9 := hid (HB8.out.trans (hb9.mono HB8.out.size)); clear hb9))
        go_ret
        exact ⟨rfl, HB9.out⟩
      · have hkn : decide ((k : Int) < (ts.length : Int)) = false := by simp; omega
        go_wp2_with (first
          | (go_at_call 11; refine SZ.out.mono ?_; rintro e w6 ⟨rfl, hw⟩; rw [hw]; clear hw w6)
          | (go_at_call 12; refine SG.out.mono ?_; rintro e w7 ⟨A7, c7, rfl, hr7, hb7⟩; have hb8 := HB.out.trans (hb7.mono HB.out.size); have LV := hid (law16_lives w7 (HL.out.below hb8)); have HB8 := hid hb8; clear hr7 hb7 hb8)
          | (go_at_call 13; refine LV.out.mono ?_; rintro e w9 ⟨rfl, hb9⟩; have HB9 := hid (HB8.out.trans (hb9.mono HB8.out.size)); clear hb9))
        go_ret
        exact ⟨rfl, HB9.out⟩
theorem law_LegacyOnce2 (ce0 : List UInt8) (hlong : ¬ 10 < ce0.length) (hemp : ce0.isEmpty = true) (A : Option Addr) (ts : List Int) (c : Nat) (w0 : World) (hT : IntsAt w0 A ts) (hI : IntsIn ts) (htl : (ts.length : Int) ≤ 9223372036854775807) (hL : LibL w0) :
    Calls Tryz.prog 3 #[.string (S ce0), .slice A ts.length c] w0 fun e w' => e = .returned (.bool true) ∧ Below w0.heap.size w0 w' := by
  have HT := hid hT
  have HI := hid hI
  have HL := hid hL
  clear hT hI hL
  obtain rfl : ce0 = [] := by simpa using hemp
  clear hlong hemp
  go_enter Tryz.func3, Tryz.ntmps3
  go_wp2_with (first
    | (go_at_call 7; refine (drive_New 16000000 (by rfl) _).mono ?_; rintro e w1 ⟨g, fp, rfl, hd1, hb1, hf1⟩; have OP := hid (on_Open_new hd1 (by rfl) hb1 hf1 HL.out); clear hd1 hb1 hf1)
    | (go_at_call 8; refine OP.out.mono ?_; rintro e w2 ⟨lb, rfl, F2, h2, -, -⟩; have H2F := hid h2; clear h2))
  obtain ⟨ce, hce⟩ : ∃ ce, ([97] : List UInt8) = ce := ⟨_, rfl⟩
  rw [hce]
  have h1 : ce ≠ [] := by rw [← hce]; simp
  have h2 : ce.length ≤ 10 := by rw [← hce]; simp
  clear hce
  obtain ⟨fb, hfb⟩ : ∃ fb, w2.heap.size = fb := ⟨_, rfl⟩
  have hS0 : StO w0 (w2.alloc (.cells #[.int .i64 (-1), .string (S [])] 30)) g ce 0 lb fb F2 := ⟨⟨fun h => by have := (H2F.out.lt _ h).2; omega, by have := H2F.out.bel.size; omega, by simp; omega⟩, .inl ⟨rfl, by rw [← hfb]; exact Blk.new _ _ _, H2F.out.below ((Below.refl _ _).alloc (Nat.le_refl _) _)⟩⟩
  have HS0 := hid hS0
  have HC := hid (And.intro h1 h2)
  clear hS0 h1 h2
  rw [hfb]
  go_loopw [6, 7, 9, 10, 11, 12] (fun l' _ i' _ _ _ wr => ∃ (k lb : Nat) (F : Nat → Prop), k ≤ ts.length ∧ k ≤ 8 ∧ l' = .pointer (some ⟨lb, 0, none⟩) ∧ i' = .int .i64 k ∧ Hid (StO w0 wr g ce k lb fb F)) (fun _ _ i' _ _ _ _ => 8 - (intOf i').toNat)
  case atStart => exact ⟨0, lb, F2, Nat.zero_le _, by omega, rfl, rfl, HS0⟩
  case round =>
    obtain ⟨k, lb, F, hk1, hk2, rfl, rfl, hS⟩ := hrel
    by_cases hlt : k < ts.length ∧ k < 8
    · obtain ⟨hlt, hk8⟩ := hlt
      have d8 : decide ((k : Int) < 8) = true := by simp; omega
      obtain ⟨b, off, rfl, hbb, hc⟩ := ints_at (HT.out.below hS.out.bel) hlt
      have hin := HI.out k hlt
      generalize ts[k] = t at *
      obtain ⟨i1, i2⟩ := hin
      by_cases hneg : t < 0
      · obtain ⟨r, hr, hre⟩ := rem_neg hneg
        have HR := hid hr
        rcases Nat.eq_zero_or_pos k with hk0 | hk
        · have HK0 := hid hk0
          have q2 : ((k : Int) == 2) = false := by simp; omega
          have q4 : ((k : Int) == 4) = false := by simp; omega
          have hs0 : StO w0 wr g ce 0 lb fb F := hk0 ▸ hS.out
          obtain ⟨hB, ad⟩ := hs0.first r hr (okT HC.out.1 HC.out.2 hr) HC.out.2 HL.out
          have AD := hid ad
          clear hB ad hr hs0 hS hk0
          go_wp2_with (go_at_call 9; refine AD.out.mono ?_; rintro e w3 ⟨rfl, hB3, hb3, hfin⟩; have HFIN := hid hfin; have n0 := hB3.cell 0; have n1 := hB3.cell 1; have e0 := hB3.frozen 0; have e1 := hB3.frozen 1; have hf3 := hB3.lt; have hne3 : w3.heap.size ≠ fb := (by omega); have hne4 : fb ≠ w3.heap.size := (by omega); simp at n0 n1; clear hb3 hB3 hfin)
          obtain ⟨F9, h9⟩ := HFIN.out _ rfl
          have H9 := hid h9
          clear h9
          go_roundw
          case rel => (iterate 60 (apply Exists.intro)); refine ⟨?_, rfl⟩; exact ⟨k + 1, lb, F9, by omega, by omega, rfl, by go_num, by rw [HK0.out]; exact H9⟩
          case measure => simp [intOf]; omega
        · obtain ⟨t0, ht0, hB, ad, hnx⟩ := hS.out.seen hk
          have AD := hid (ad r (okT HC.out.1 HC.out.2 hr))
          have HNX := hid hnx
          have HBK := hid hB
          clear hB ad hr hnx hS
          by_cases hk2' : k = 2
          · have HK := hid hk2'
            have q2 : ((k : Int) == 2) = true := by simp; omega
            have q4 : ((k : Int) == 4) = false := by simp; omega
            clear hk2'
            go_wp2_with (first
              | (go_at_call 9; refine AD.out.mono ?_; rintro e w3 ⟨rfl, hb3⟩; have hB3 := HBK.out.below hb3 HBK.out.lt; have n0 := hB3.cell 0; have n1 := hB3.cell 1; have hf3 := hB3.lt; simp at n0 n1; have hnx := HNX.out _ (bt hb3 ((Below.refl _ _).alloc (Nat.le_refl _) (.cells #[.int .i64 t0, .string (S ce)] 30))); have HN := hid hnx; have SQ := hid (StO.seq (HK.out ▸ hnx.1) HC.out.1 HC.out.2 HL.out); clear hb3 hB3 hnx)
              | (go_at_call 10; refine SQ.out.mono ?_; rintro e w5 ⟨rfl, F5, h5⟩; have H5 := hid h5; clear h5))
            go_roundw
            case rel => (iterate 60 (apply Exists.intro)); refine ⟨?_, rfl⟩; exact ⟨k + 1, lb, F5, by omega, by omega, rfl, by go_num, by rw [HK.out]; exact H5⟩
            case measure => simp [intOf]; omega
          · by_cases hk4 : k = 4
            · have HK := hid hk4
              have q2 : ((k : Int) == 2) = false := by simp; omega
              have q4 : ((k : Int) == 4) = true := by simp; omega
              clear hk4
              go_wp2_with (first
                | (go_at_call 9; refine AD.out.mono ?_; rintro e w3 ⟨rfl, hb3⟩; have hB3 := HBK.out.below hb3 HBK.out.lt; have n0 := hB3.cell 0; have n1 := hB3.cell 1; have hf3 := hB3.lt; simp at n0 n1; have hnx := HNX.out _ (bt hb3 ((Below.refl _ _).alloc (Nat.le_refl _) (.cells #[.int .i64 t0, .string (S ce)] 30))); have HN := hid hnx; have OP4 := hid (StO.opn (HK.out ▸ hnx.1) HC.out.1 HC.out.2 HL.out); clear hb3 hB3 hnx)
                | (go_at_call 8; refine OP4.out.mono ?_; rintro e w5 ⟨lb5, rfl, F5, h5⟩; have H5 := hid h5; clear h5))
              go_roundw
              case rel => (iterate 60 (apply Exists.intro)); refine ⟨?_, rfl⟩; exact ⟨k + 1, lb5, F5, by omega, by omega, rfl, by go_num, by rw [HK.out]; exact H5⟩
              case measure => simp [intOf]; omega
            · have q2 : ((k : Int) == 2) = false := by simp; omega
              have q4 : ((k : Int) == 4) = false := by simp; omega
              have HK := hid hk2'
              go_wp2_with (go_at_call 9; refine AD.out.mono ?_; rintro e w3 ⟨rfl, hb3⟩; have hB3 := HBK.out.below hb3 HBK.out.lt; have n0 := hB3.cell 0; have n1 := hB3.cell 1; have hf3 := hB3.lt; simp at n0 n1; have hnx := HNX.out _ (bt hb3 ((Below.refl _ _).alloc (Nat.le_refl _) (.cells #[.int .i64 t0, .string (S ce)] 30))); have HN := hid hnx; skip; clear hb3 hB3 hnx)
              go_roundw
              case rel => (iterate 60 (apply Exists.intro)); refine ⟨?_, rfl⟩; exact ⟨k + 1, lb, F, by omega, by omega, rfl, by go_num, hid (HN.out.2 HK.out)⟩
              case measure => simp [intOf]; omega
      · obtain ⟨r, hr, hre⟩ := rem_pos (by omega : 0 ≤ t)
        have HR := hid hr
        rcases Nat.eq_zero_or_pos k with hk0 | hk
        · have HK0 := hid hk0
          have q2 : ((k : Int) == 2) = false := by simp; omega
          have q4 : ((k : Int) == 4) = false := by simp; omega
          have hs0 : StO w0 wr g ce 0 lb fb F := hk0 ▸ hS.out
          obtain ⟨hB, ad⟩ := hs0.first r hr (okT HC.out.1 HC.out.2 hr) HC.out.2 HL.out
          have AD := hid ad
          clear hB ad hr hs0 hS hk0
          go_wp2_with (go_at_call 9; refine AD.out.mono ?_; rintro e w3 ⟨rfl, hB3, hb3, hfin⟩; have HFIN := hid hfin; have n0 := hB3.cell 0; have n1 := hB3.cell 1; have e0 := hB3.frozen 0; have e1 := hB3.frozen 1; have hf3 := hB3.lt; have hne3 : w3.heap.size ≠ fb := (by omega); have hne4 : fb ≠ w3.heap.size := (by omega); simp at n0 n1; clear hb3 hB3 hfin)
          obtain ⟨F9, h9⟩ := HFIN.out _ rfl
          have H9 := hid h9
          clear h9
          go_roundw
          case rel => (iterate 60 (apply Exists.intro)); refine ⟨?_, rfl⟩; exact ⟨k + 1, lb, F9, by omega, by omega, rfl, by go_num, by rw [HK0.out]; exact H9⟩
          case measure => simp [intOf]; omega
        · obtain ⟨t0, ht0, hB, ad, hnx⟩ := hS.out.seen hk
          have AD := hid (ad r (okT HC.out.1 HC.out.2 hr))
          have HNX := hid hnx
          have HBK := hid hB
          clear hB ad hr hnx hS
          by_cases hk2' : k = 2
          · have HK := hid hk2'
            have q2 : ((k : Int) == 2) = true := by simp; omega
            have q4 : ((k : Int) == 4) = false := by simp; omega
            clear hk2'
            go_wp2_with (first
              | (go_at_call 9; refine AD.out.mono ?_; rintro e w3 ⟨rfl, hb3⟩; have hB3 := HBK.out.below hb3 HBK.out.lt; have n0 := hB3.cell 0; have n1 := hB3.cell 1; have hf3 := hB3.lt; simp at n0 n1; have hnx := HNX.out _ (bt hb3 ((Below.refl _ _).alloc (Nat.le_refl _) (.cells #[.int .i64 t0, .string (S ce)] 30))); have HN := hid hnx; have SQ := hid (StO.seq (HK.out ▸ hnx.1) HC.out.1 HC.out.2 HL.out); clear hb3 hB3 hnx)
              | (go_at_call 10; refine SQ.out.mono ?_; rintro e w5 ⟨rfl, F5, h5⟩; have H5 := hid h5; clear h5))
            go_roundw
            case rel => (iterate 60 (apply Exists.intro)); refine ⟨?_, rfl⟩; exact ⟨k + 1, lb, F5, by omega, by omega, rfl, by go_num, by rw [HK.out]; exact H5⟩
            case measure => simp [intOf]; omega
          · by_cases hk4 : k = 4
            · have HK := hid hk4
              have q2 : ((k : Int) == 2) = false := by simp; omega
              have q4 : ((k : Int) == 4) = true := by simp; omega
              clear hk4
              go_wp2_with (first
                | (go_at_call 9; refine AD.out.mono ?_; rintro e w3 ⟨rfl, hb3⟩; have hB3 := HBK.out.below hb3 HBK.out.lt; have n0 := hB3.cell 0; have n1 := hB3.cell 1; have hf3 := hB3.lt; simp at n0 n1; have hnx := HNX.out _ (bt hb3 ((Below.refl _ _).alloc (Nat.le_refl _) (.cells #[.int .i64 t0, .string (S ce)] 30))); have HN := hid hnx; have OP4 := hid (StO.opn (HK.out ▸ hnx.1) HC.out.1 HC.out.2 HL.out); clear hb3 hB3 hnx)
                | (go_at_call 8; refine OP4.out.mono ?_; rintro e w5 ⟨lb5, rfl, F5, h5⟩; have H5 := hid h5; clear h5))
              go_roundw
              case rel => (iterate 60 (apply Exists.intro)); refine ⟨?_, rfl⟩; exact ⟨k + 1, lb5, F5, by omega, by omega, rfl, by go_num, by rw [HK.out]; exact H5⟩
              case measure => simp [intOf]; omega
            · have q2 : ((k : Int) == 2) = false := by simp; omega
              have q4 : ((k : Int) == 4) = false := by simp; omega
              have HK := hid hk2'
              go_wp2_with (go_at_call 9; refine AD.out.mono ?_; rintro e w3 ⟨rfl, hb3⟩; have hB3 := HBK.out.below hb3 HBK.out.lt; have n0 := hB3.cell 0; have n1 := hB3.cell 1; have hf3 := hB3.lt; simp at n0 n1; have hnx := HNX.out _ (bt hb3 ((Below.refl _ _).alloc (Nat.le_refl _) (.cells #[.int .i64 t0, .string (S ce)] 30))); have HN := hid hnx; skip; clear hb3 hB3 hnx)
              go_roundw
              case rel => (iterate 60 (apply Exists.intro)); refine ⟨?_, rfl⟩; exact ⟨k + 1, lb, F, by omega, by omega, rfl, by go_num, hid (HN.out.2 HK.out)⟩
              case measure => simp [intOf]; omega
    · obtain ⟨log, m, size, P, C, hW, hsz⟩ := hS.out.fin
      have SZ := hid (on_Size hW)
      have SG := hid (on_Staged hW (by omega))
      have hbel := hS.out.bel
      have HB := hid hbel
      have hww : IntKind.i64.wrap ((size : Int) + (P.length : Int)) = (size : Int) + (P.length : Int) := IntWalk.i64_in _ (by omega)
      have hdd : decide ((size : Int) + (P.length : Int) ≤ 1) = true := by simp; omega
      clear hW hbel hS
      by_cases hlt' : k < ts.length
      · have hk8 : decide ((k : Int) < 8) = false := by simp; omega
        go_wp2_with (first
          | (go_at_call 11; refine SZ.out.mono ?_; rintro e w6 ⟨rfl, hw⟩; rw [hw]; clear hw w6)
          | (go_at_call 12; refine SG.out.mono ?_; rintro e w7 ⟨A7, c7, rfl, hr7, hb7⟩; have hb8 := HB.out.trans (hb7.mono HB.out.size); have LV := hid (law16_lives w7 (HL.out.below hb8)); have HB8 := hid hb8; clear hr7 hb7 hb8)
          | (go_at_call 13; refine LV.out.mono ?_; rintro e w9 ⟨rfl, hb9⟩; have HB9 := hid (HB8.out.trans (hb9.mono HB8.out.size)); clear hb9))
        go_ret
        exact ⟨rfl, HB9.out⟩
      · have hkn : decide ((k : Int) < (ts.length : Int)) = false := by simp; omega
        go_wp2_with (first
          | (go_at_call 11; refine SZ.out.mono ?_; rintro e w6 ⟨rfl, hw⟩; rw [hw]; clear hw w6)
          | (go_at_call 12; refine SG.out.mono ?_; rintro e w7 ⟨A7, c7, rfl, hr7, hb7⟩; have hb8 := HB.out.trans (hb7.mono HB.out.size); have LV := hid (law16_lives w7 (HL.out.below hb8)); have HB8 := hid hb8; clear hr7 hb7 hb8)
          | (go_at_call 13; refine LV.out.mono ?_; rintro e w9 ⟨rfl, hb9⟩; have HB9 := hid (HB8.out.trans (hb9.mono HB8.out.size)); clear hb9))
        go_ret
        exact ⟨rfl, HB9.out⟩
theorem law_LegacyOnce3 (ce0 : List UInt8) (hlong : ¬ 10 < ce0.length) (hemp : ce0.isEmpty = false) (A : Option Addr) (ts : List Int) (c : Nat) (w0 : World) (hT : IntsAt w0 A ts) (hI : IntsIn ts) (htl : (ts.length : Int) ≤ 9223372036854775807) (hL : LibL w0) :
    Calls Tryz.prog 3 #[.string (S ce0), .slice A ts.length c] w0 fun e w' => e = .returned (.bool true) ∧ Below w0.heap.size w0 w' := by
  have HT := hid hT
  have HI := hid hI
  have HL := hid hL
  clear hT hI hL
  have hle : (ce0.length : Int) ≤ 10 := by omega
  go_enter Tryz.func3, Tryz.ntmps3
  go_wp2_with (first
    | (go_at_call 7; refine (drive_New 16000000 (by rfl) _).mono ?_; rintro e w1 ⟨g, fp, rfl, hd1, hb1, hf1⟩; have OP := hid (on_Open_new hd1 (by rfl) hb1 hf1 HL.out); clear hd1 hb1 hf1)
    | (go_at_call 8; refine OP.out.mono ?_; rintro e w2 ⟨lb, rfl, F2, h2, -, -⟩; have H2F := hid h2; clear h2))
  obtain ⟨ce, hce⟩ : ∃ ce, ce0 = ce := ⟨_, rfl⟩
  rw [hce]
  have h1 : ce ≠ [] := by intro h; rw [h] at hce; rw [hce] at hemp; simp at hemp
  have h2 : ce.length ≤ 10 := by rw [← hce]; omega
  clear hce
  obtain ⟨fb, hfb⟩ : ∃ fb, w2.heap.size = fb := ⟨_, rfl⟩
  have hS0 : StO w0 (w2.alloc (.cells #[.int .i64 (-1), .string (S [])] 30)) g ce 0 lb fb F2 := ⟨⟨fun h => by have := (H2F.out.lt _ h).2; omega, by have := H2F.out.bel.size; omega, by simp; omega⟩, .inl ⟨rfl, by rw [← hfb]; exact Blk.new _ _ _, H2F.out.below ((Below.refl _ _).alloc (Nat.le_refl _) _)⟩⟩
  have HS0 := hid hS0
  have HC := hid (And.intro h1 h2)
  clear hS0 h1 h2
  rw [hfb]
  go_loopw [6, 7, 9, 10, 11, 12] (fun l' _ i' _ _ _ wr => ∃ (k lb : Nat) (F : Nat → Prop), k ≤ ts.length ∧ k ≤ 8 ∧ l' = .pointer (some ⟨lb, 0, none⟩) ∧ i' = .int .i64 k ∧ Hid (StO w0 wr g ce k lb fb F)) (fun _ _ i' _ _ _ _ => 8 - (intOf i').toNat)
  case atStart => exact ⟨0, lb, F2, Nat.zero_le _, by omega, rfl, rfl, HS0⟩
  case round =>
    obtain ⟨k, lb, F, hk1, hk2, rfl, rfl, hS⟩ := hrel
    by_cases hlt : k < ts.length ∧ k < 8
    · obtain ⟨hlt, hk8⟩ := hlt
      have d8 : decide ((k : Int) < 8) = true := by simp; omega
      obtain ⟨b, off, rfl, hbb, hc⟩ := ints_at (HT.out.below hS.out.bel) hlt
      have hin := HI.out k hlt
      generalize ts[k] = t at *
      obtain ⟨i1, i2⟩ := hin
      by_cases hneg : t < 0
      · obtain ⟨r, hr, hre⟩ := rem_neg hneg
        have HR := hid hr
        rcases Nat.eq_zero_or_pos k with hk0 | hk
        · have HK0 := hid hk0
          have q2 : ((k : Int) == 2) = false := by simp; omega
          have q4 : ((k : Int) == 4) = false := by simp; omega
          have hs0 : StO w0 wr g ce 0 lb fb F := hk0 ▸ hS.out
          obtain ⟨hB, ad⟩ := hs0.first r hr (okT HC.out.1 HC.out.2 hr) HC.out.2 HL.out
          have AD := hid ad
          clear hB ad hr hs0 hS hk0
          go_wp2_with (go_at_call 9; refine AD.out.mono ?_; rintro e w3 ⟨rfl, hB3, hb3, hfin⟩; have HFIN := hid hfin; have n0 := hB3.cell 0; have n1 := hB3.cell 1; have e0 := hB3.frozen 0; have e1 := hB3.frozen 1; have hf3 := hB3.lt; have hne3 : w3.heap.size ≠ fb := (by omega); have hne4 : fb ≠ w3.heap.size := (by omega); simp at n0 n1; clear hb3 hB3 hfin)
          obtain ⟨F9, h9⟩ := HFIN.out _ rfl
          have H9 := hid h9
          clear h9
          go_roundw
          case rel => exact ⟨k + 1, lb, F9, by omega, by omega, rfl, by go_num, by rw [HK0.out]; exact H9⟩
          case measure => simp [intOf]; omega
        · obtain ⟨t0, ht0, hB, ad, hnx⟩ := hS.out.seen hk
          have AD := hid (ad r (okT HC.out.1 HC.out.2 hr))
          have HNX := hid hnx
          have HBK := hid hB
          clear hB ad hr hnx hS
          by_cases hk2' : k = 2
          · have HK := hid hk2'
            have q2 : ((k : Int) == 2) = true := by simp; omega
            have q4 : ((k : Int) == 4) = false := by simp; omega
            clear hk2'
            go_wp2_with (first
              | (go_at_call 9; refine AD.out.mono ?_; rintro e w3 ⟨rfl, hb3⟩; have hB3 := HBK.out.below hb3 HBK.out.lt; have n0 := hB3.cell 0; have n1 := hB3.cell 1; have hf3 := hB3.lt; simp at n0 n1; have hnx := HNX.out _ (bt hb3 ((Below.refl _ _).alloc (Nat.le_refl _) (.cells #[.int .i64 t0, .string (S ce)] 30))); have HN := hid hnx; have SQ := hid (StO.seq (HK.out ▸ hnx.1) HC.out.1 HC.out.2 HL.out); clear hb3 hB3 hnx)
              | (go_at_call 10; refine SQ.out.mono ?_; rintro e w5 ⟨rfl, F5, h5⟩; have H5 := hid h5; clear h5))
            go_roundw
            case rel => exact ⟨k + 1, lb, F5, by omega, by omega, rfl, by go_num, by rw [HK.out]; exact H5⟩
            case measure => simp [intOf]; omega
          · by_cases hk4 : k = 4
            · have HK := hid hk4
              have q2 : ((k : Int) == 2) = false := by simp; omega
              have q4 : ((k : Int) == 4) = true := by simp; omega
              clear hk4
              go_wp2_with (first
                | (go_at_call 9; refine AD.out.mono ?_; rintro e w3 ⟨rfl, hb3⟩; have hB3 := HBK.out.below hb3 HBK.out.lt; have n0 := hB3.cell 0; have n1 := hB3.cell 1; have hf3 := hB3.lt; simp at n0 n1; have hnx := HNX.out _ (bt hb3 ((Below.refl _ _).alloc (Nat.le_refl _) (.cells #[.int .i64 t0, .string (S ce)] 30))); have HN := hid hnx; have OP4 := hid (StO.opn (HK.out ▸ hnx.1) HC.out.1 HC.out.2 HL.out); clear hb3 hB3 hnx)
                | (go_at_call 8; refine OP4.out.mono ?_; rintro e w5 ⟨lb5, rfl, F5, h5⟩; have H5 := hid h5; clear h5))
              go_roundw
              case rel => exact ⟨k + 1, lb5, F5, by omega, by omega, rfl, by go_num, by rw [HK.out]; exact H5⟩
              case measure => simp [intOf]; omega
            · have q2 : ((k : Int) == 2) = false := by simp; omega
              have q4 : ((k : Int) == 4) = false := by simp; omega
              have HK := hid hk2'
              go_wp2_with (go_at_call 9; refine AD.out.mono ?_; rintro e w3 ⟨rfl, hb3⟩; have hB3 := HBK.out.below hb3 HBK.out.lt; have n0 := hB3.cell 0; have n1 := hB3.cell 1; have hf3 := hB3.lt; simp at n0 n1; have hnx := HNX.out _ (bt hb3 ((Below.refl _ _).alloc (Nat.le_refl _) (.cells #[.int .i64 t0, .string (S ce)] 30))); have HN := hid hnx; skip; clear hb3 hB3 hnx)
              go_roundw
              case rel => exact ⟨k + 1, lb, F, by omega, by omega, rfl, by go_num, hid (HN.out.2 HK.out)⟩
              case measure => simp [intOf]; omega
      · obtain ⟨r, hr, hre⟩ := rem_pos (by omega : 0 ≤ t)
        have HR := hid hr
        rcases Nat.eq_zero_or_pos k with hk0 | hk
        · have HK0 := hid hk0
          have q2 : ((k : Int) == 2) = false := by simp; omega
          have q4 : ((k : Int) == 4) = false := by simp; omega
          have hs0 : StO w0 wr g ce 0 lb fb F := hk0 ▸ hS.out
          obtain ⟨hB, ad⟩ := hs0.first r hr (okT HC.out.1 HC.out.2 hr) HC.out.2 HL.out
          have AD := hid ad
          clear hB ad hr hs0 hS hk0
          go_wp2_with (go_at_call 9; refine AD.out.mono ?_; rintro e w3 ⟨rfl, hB3, hb3, hfin⟩; have HFIN := hid hfin; have n0 := hB3.cell 0; have n1 := hB3.cell 1; have e0 := hB3.frozen 0; have e1 := hB3.frozen 1; have hf3 := hB3.lt; have hne3 : w3.heap.size ≠ fb := (by omega); have hne4 : fb ≠ w3.heap.size := (by omega); simp at n0 n1; clear hb3 hB3 hfin)
          obtain ⟨F9, h9⟩ := HFIN.out _ rfl
          have H9 := hid h9
          clear h9
          go_roundw
          case rel => exact ⟨k + 1, lb, F9, by omega, by omega, rfl, by go_num, by rw [HK0.out]; exact H9⟩
          case measure => simp [intOf]; omega
        · obtain ⟨t0, ht0, hB, ad, hnx⟩ := hS.out.seen hk
          have AD := hid (ad r (okT HC.out.1 HC.out.2 hr))
          have HNX := hid hnx
          have HBK := hid hB
          clear hB ad hr hnx hS
          by_cases hk2' : k = 2
          · have HK := hid hk2'
            have q2 : ((k : Int) == 2) = true := by simp; omega
            have q4 : ((k : Int) == 4) = false := by simp; omega
            clear hk2'
            go_wp2_with (first
              | (go_at_call 9; refine AD.out.mono ?_; rintro e w3 ⟨rfl, hb3⟩; have hB3 := HBK.out.below hb3 HBK.out.lt; have n0 := hB3.cell 0; have n1 := hB3.cell 1; have hf3 := hB3.lt; simp at n0 n1; have hnx := HNX.out _ (bt hb3 ((Below.refl _ _).alloc (Nat.le_refl _) (.cells #[.int .i64 t0, .string (S ce)] 30))); have HN := hid hnx; have SQ := hid (StO.seq (HK.out ▸ hnx.1) HC.out.1 HC.out.2 HL.out); clear hb3 hB3 hnx)
              | (go_at_call 10; refine SQ.out.mono ?_; rintro e w5 ⟨rfl, F5, h5⟩; have H5 := hid h5; clear h5))
            go_roundw
            case rel => exact ⟨k + 1, lb, F5, by omega, by omega, rfl, by go_num, by rw [HK.out]; exact H5⟩
            case measure => simp [intOf]; omega
          · by_cases hk4 : k = 4
            · have HK := hid hk4
              have q2 : ((k : Int) == 2) = false := by simp; omega
              have q4 : ((k : Int) == 4) = true := by simp; omega
              clear hk4
              go_wp2_with (first
                | (go_at_call 9; refine AD.out.mono ?_; rintro e w3 ⟨rfl, hb3⟩; have hB3 := HBK.out.below hb3 HBK.out.lt; have n0 := hB3.cell 0; have n1 := hB3.cell 1; have hf3 := hB3.lt; simp at n0 n1; have hnx := HNX.out _ (bt hb3 ((Below.refl _ _).alloc (Nat.le_refl _) (.cells #[.int .i64 t0, .string (S ce)] 30))); have HN := hid hnx; have OP4 := hid (StO.opn (HK.out ▸ hnx.1) HC.out.1 HC.out.2 HL.out); clear hb3 hB3 hnx)
                | (go_at_call 8; refine OP4.out.mono ?_; rintro e w5 ⟨lb5, rfl, F5, h5⟩; have H5 := hid h5; clear h5))
              go_roundw
              case rel => exact ⟨k + 1, lb5, F5, by omega, by omega, rfl, by go_num, by rw [HK.out]; exact H5⟩
              case measure => simp [intOf]; omega
            · have q2 : ((k : Int) == 2) = false := by simp; omega
              have q4 : ((k : Int) == 4) = false := by simp; omega
              have HK := hid hk2'
              go_wp2_with (go_at_call 9; refine AD.out.mono ?_; rintro e w3 ⟨rfl, hb3⟩; have hB3 := HBK.out.below hb3 HBK.out.lt; have n0 := hB3.cell 0; have n1 := hB3.cell 1; have hf3 := hB3.lt; simp at n0 n1; have hnx := HNX.out _ (bt hb3 ((Below.refl _ _).alloc (Nat.le_refl _) (.cells #[.int .i64 t0, .string (S ce)] 30))); have HN := hid hnx; skip; clear hb3 hB3 hnx)
              go_roundw
              case rel => exact ⟨k + 1, lb, F, by omega, by omega, rfl, by go_num, hid (HN.out.2 HK.out)⟩
              case measure => simp [intOf]; omega
    · obtain ⟨log, m, size, P, C, hW, hsz⟩ := hS.out.fin
      have SZ := hid (on_Size hW)
      have SG := hid (on_Staged hW (by omega))
      have hbel := hS.out.bel
      have HB := hid hbel
      have hww : IntKind.i64.wrap ((size : Int) + (P.length : Int)) = (size : Int) + (P.length : Int) := IntWalk.i64_in _ (by omega)
      have hdd : decide ((size : Int) + (P.length : Int) ≤ 1) = true := by simp; omega
      clear hW hbel hS
      by_cases hlt' : k < ts.length
      · have hk8 : decide ((k : Int) < 8) = false := by simp; omega
        go_wp2_with (first
          | (go_at_call 11; refine SZ.out.mono ?_; rintro e w6 ⟨rfl, hw⟩; rw [hw]; clear hw w6)
          | (go_at_call 12; refine SG.out.mono ?_; rintro e w7 ⟨A7, c7, rfl, hr7, hb7⟩; have hb8 := HB.out.trans (hb7.mono HB.out.size); have LV := hid (law16_lives w7 (HL.out.below hb8)); have HB8 := hid hb8; clear hr7 hb7 hb8)
          | (go_at_call 13; refine LV.out.mono ?_; rintro e w9 ⟨rfl, hb9⟩; have HB9 := hid (HB8.out.trans (hb9.mono HB8.out.size)); clear hb9))
        go_ret
        exact ⟨rfl, HB9.out⟩
      · have hkn : decide ((k : Int) < (ts.length : Int)) = false := by simp; omega
        go_wp2_with (first
          | (go_at_call 11; refine SZ.out.mono ?_; rintro e w6 ⟨rfl, hw⟩; rw [hw]; clear hw w6)
          | (go_at_call 12; refine SG.out.mono ?_; rintro e w7 ⟨A7, c7, rfl, hr7, hb7⟩; have hb8 := HB.out.trans (hb7.mono HB.out.size); have LV := hid (law16_lives w7 (HL.out.below hb8)); have HB8 := hid hb8; clear hr7 hb7 hb8)
          | (go_at_call 13; refine LV.out.mono ?_; rintro e w9 ⟨rfl, hb9⟩; have HB9 := hid (HB8.out.trans (hb9.mono HB8.out.size)); clear hb9))
        go_ret
        exact ⟨rfl, HB9.out⟩
theorem law_LegacyOnce (ce0 : List UInt8) (A : Option Addr) (ts : List Int) (c : Nat) (w0 : World) (hT : IntsAt w0 A ts) (hI : IntsIn ts) (htl : (ts.length : Int) ≤ 9223372036854775807) (hL : LibL w0) :
    Calls Tryz.prog 3 #[.string (S ce0), .slice A ts.length c] w0 fun e w' => e = .returned (.bool true) ∧ Below w0.heap.size w0 w' := by
  by_cases hlong : 10 < ce0.length
  · exact law_LegacyOnce1 ce0 hlong A ts c w0 hT hI htl hL
  · cases hemp : ce0.isEmpty with
    | true => exact law_LegacyOnce2 ce0 hlong hemp A ts c w0 hT hI htl hL
    | false => exact law_LegacyOnce3 ce0 hlong hemp A ts c w0 hT hI htl hL
end Go.Proofs.YtiabfngiibabcaaGreatDoor
