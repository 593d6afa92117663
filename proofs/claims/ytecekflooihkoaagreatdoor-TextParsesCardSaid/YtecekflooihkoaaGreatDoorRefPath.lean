/- Walks of pantileref07: Is, Path. -/
import Derived.Test.YtecekflooihkoaaGreatDoorRefDec
import Derived.Test.YtecekflooihkoaaGreatDoorPathsPlain
set_option linter.unusedVariables false
set_option linter.unusedSimpArgs false
set_option maxHeartbeats 6400000
set_option maxRecDepth 100000
namespace Go.Proofs.YtecekflooihkoaaGreatDoor
open Go.RowKit

def modLen : Value → Nat
  | .string b => (3 - b.size % 3) % 3
  | _ => 0
theorem grpX_three {v : List UInt8} (h : v.length = 3) : grpX v = 47 :: 120 :: v := by
  have hne : v ≠ [] := by rintro rfl; simp at h
  rw [grpX_pos hne, List.take_of_length_le (by omega), List.drop_of_length_le (by omega), grpX_nil, List.append_nil]
theorem grpX_next {d : List UInt8} {k : Nat} (h : 3 * k + 3 ≤ d.length) : grpX (d.take (3 * (k + 1))) = grpX (d.take (3 * k)) ++ 47 :: 120 :: (d.drop (3 * k)).take 3 := by
  have e : d.take (3 * (k + 1)) = d.take (3 * k) ++ (d.drop (3 * k)).take 3 := by
    rw [show 3 * (k + 1) = 3 * k + 3 by omega, List.take_add]
  rw [e, grpX_app k (d.take (3 * k)) ((d.drop (3 * k)).take 3) (by simp; omega), grpX_three (v := (d.drop (3 * k)).take 3) (by simp; omega)]
theorem grpS_last {d : List UInt8} {k : Nat} (h : 3 * k + 3 = d.length) : grpS d = grpX (d.take (3 * k)) ++ 47 :: (d.drop (3 * k)).take 3 := by
  unfold grpS
  rw [show d.length - 3 = 3 * k by omega, List.take_of_length_le (l := d.drop (3 * k)) (by simp; omega)]
/-- The groups told so far. -/
def GAt (d : List UInt8) (k : Nat) (l : List UInt8) : Prop := (3 * k < d.length ∧ l = grpX (d.take (3 * k))) ∨ (3 * k = d.length ∧ l = grpS d)

theorem ref_Is (a b c : Int) (w : World) : Calls Tryz.prog 9 #[.agg #[.int .i64 a, .int .i64 b, .int .i64 c]] w fun e w' => e = .returned (.bool (isTile a b c)) ∧ Below w.heap.size w w' := by
  have b0 : Below w.heap.size w (w.alloc (.cells #[.int .i64 a, .int .i64 b, .int .i64 c] 23)) := (Below.refl _ _).alloc (Nat.le_refl _) _
  have H := hid (show isTile a b c = (decide (-1 ≤ a) && decide (a ≤ 63) && decide (0 ≤ b) && decide (b ≤ 9007199254740992) && decide (1 ≤ c) && decide (c ≤ 256)) from rfl)
  have B0 := hid b0
  clear b0
  go_enter Tryz.func9, Tryz.ntmps9
  go_wp2
  all_goals
    go_ret
    exact ⟨by rw [H.out]; simp [*] <;> omega, B0.out⟩
theorem ref_Path (a : Int) (n : Nat) (c : Int) (w : World) (h1 : -1 ≤ a) (h2 : a ≤ 63) (h4 : n ≤ 9007199254740992) (h5 : 1 ≤ c) (h6 : c ≤ 256) :
    Calls Tryz.prog 12 #[.agg #[.int .i64 a, .int .i64 n, .int .i64 c]] w fun e w' => e = .returned (.string (S (pathT a n c))) ∧ Below w.heap.size w w' := by
  have hth := grpS_threes n
  have hpl := padM_len (decN n)
  have hdl := decN_len n 15 (by omega)
  have hdp := decN_pos n
  have hpb : (padM (decN n)).length ≤ 18 ∧ 3 ≤ (padM (decN n)).length := by
    unfold padM at *
    rw [List.length_append, List.length_replicate] at *
    omega
  have D1 := hid (fun W => ref07_Decimal n W (by omega) (by omega))
  rw [show decI (n : Int) = decN n by rw [decI, if_neg (by omega)]; rfl] at D1
  have D2 := hid (fun W => ref07_Decimal a W (by omega) (by omega))
  have D3 := hid (fun W => ref07_Decimal c W (by omega) (by omega))
  have la := decI_len a (by omega) (by omega)
  have lc := decI_len c (by omega) (by omega)
  have hB := Blk.new w 23 #[.int .i64 a, .int .i64 n, .int .i64 c]
  have HB := hid hB
  have b0 := hid (show Below w.heap.size w (w.alloc (.cells #[.int .i64 a, .int .i64 n, .int .i64 c] 23)) from (Below.refl _ _).alloc (Nat.le_refl _) _)
  have HPT := hid (show pathT a n c = [116, 105, 108, 101, 47] ++ (levelS a ++ (grpS (padM (decN n)) ++ widthS c)) by rw [hth]; rfl)
  generalize hpd : padM (decN n) = pd at *
  have HPD := hid hpd
  clear hth hpd hB
  go_enter Tryz.func12, Tryz.ntmps12
  go_wp2_with fail
  refine (D1.out _).mono ?_
  rintro e w1 ⟨rfl, hb1⟩
  have B1 := hid (HB.out.below hb1 (by simp))
  have BW1 := hid (b0.out.trans (hb1.mono (by simp)))
  clear hb1
  go_wp2
  go_loopw [3] (fun s wr => ∃ m : List UInt8, s = .string (S m) ∧ m.length ≤ 18 ∧ Hid (padM m = pd) ∧ wr = w1) (fun s _ => modLen s)
  case atStart => exact ⟨decN n, rfl, by omega, HPD, rfl⟩
  case round =>
    obtain ⟨m, rfl, hml, hm, rfl⟩ := hrel
    by_cases h3 : m.length % 3 = 0
    · have t1 : ((m.length : Int) % 3 != 0) = false := by simp; omega
      have t2 : ((m.length : Int) % 3 == 0) = true := by simp; omega
      have hmp : m = pd := by rw [← hm.out, padM_self h3]
      subst hmp
      obtain ⟨c0, c1, c2⟩ : wr.cell? ⟨w.heap.size, 0, none⟩ = some (.int .i64 a) ∧ wr.cell? ⟨w.heap.size, 1, none⟩ = some (.int .i64 n) ∧ wr.cell? ⟨w.heap.size, 2, none⟩ = some (.int .i64 c) := ⟨B1.out.cell 0, B1.out.cell 1, B1.out.cell 2⟩
      by_cases ha : a < 0
      · have hL := hid (show [116, 105, 108, 101, 47] ++ levelS a = [116, 105, 108, 101, 47, 101, 110, 116, 114, 105, 101, 115] by unfold levelS; rw [if_pos ha]; rfl)
        go_wp2
        obtain ⟨p, hp, hp2⟩ : ∃ p, p = [116, 105, 108, 101, 47] ++ levelS a ∧ p.length ≤ 30 := ⟨_, rfl, by rw [hL.out]; simp⟩
        have HP := hid hp
        rw [show ({ data := #[116, 105, 108, 101, 47, 101, 110, 116, 114, 105, 101, 115] } : ByteArray) = S p by rw [hp, hL.out]; rfl]
        clear hp t1 t2
        obtain ⟨wo, rfl⟩ : ∃ wo : World, wo = wr := ⟨_, rfl⟩
        go_loopw [4, 5] (fun s iv wx => ∃ (t k : Nat) (q : List UInt8), t ≤ m.length ∧ iv = .int .i64 t ∧ s = .string (S (p ++ q)) ∧ q.length ≤ 2 * t ∧ Hid (t = 3 * k) ∧ Hid (GAt m k q) ∧ wx = wo) (fun _ iv _ => m.length - (intOf iv).toNat)
        case atStart => exact ⟨0, 0, [], by omega, rfl, by rw [List.append_nil], by simp, rfl, .inl ⟨by omega, by rw [List.take_zero, grpX_nil]⟩, rfl⟩
        case round =>
          obtain ⟨t, k, q, ht, rfl, rfl, hql, htk, hg, rfl⟩ := hrel
          by_cases hlt : t < m.length
          · have hq : q = grpX (m.take t) := by
              rcases hg.out with ⟨h1, h2⟩ | ⟨h1, h2⟩
              · rw [h2, htk.out]
              · have := htk.out; omega
            have e1 : (t + 3 - t) = 3 := by omega
            by_cases hl : t + 3 < m.length
            · have HG := hid (show GAt m (k + 1) (q ++ 47 :: 120 :: (m.drop t).take 3) from .inl ⟨by have := htk.out; omega, by rw [grpX_next (by have := htk.out; omega), hq, htk.out]⟩)
              have HK := hid (show t + 3 = 3 * (k + 1) by have := htk.out; omega)
              have i1 : (t : Int) + 3 < m.length := by omega
              have i2 : ((t : Int) + 3).toNat = t + 3 := by omega
              clear hq hg htk e1
              go_wp2
              go_roundw
              case rel => exact ⟨t + 3, k + 1, q ++ 47 :: 120 :: (m.drop t).take 3, by omega, by go_num, by simp, by simp; omega, HK, HG, by first | rfl | trivial⟩
              case measure => simp [intOf]; omega
            · have he : t + 3 = m.length := by
                have := htk.out; omega
              have HG := hid (show GAt m (k + 1) (q ++ 47 :: (m.drop t).take 3) from .inr ⟨by have := htk.out; omega, by rw [grpS_last (k := k) (by have := htk.out; omega), hq, htk.out]⟩)
              have HK := hid (show t + 3 = 3 * (k + 1) by have := htk.out; omega)
              have i1 : (m.length : Int) ≤ (t : Int) + 3 := by omega
              have i3 : (t : Int) + 3 ≤ m.length := by omega
              have i2 : ((t : Int) + 3).toNat = t + 3 := by omega
              clear hq hg htk e1 he
              go_wp2
              go_roundw
              case rel => exact ⟨t + 3, k + 1, q ++ 47 :: (m.drop t).take 3, by omega, by go_num, by simp, by simp; omega, HK, HG, by first | rfl | trivial⟩
              case measure => simp [intOf]; omega
          · have hq := hid (show q = grpS m by
              rcases hg.out with ⟨h1, h2⟩ | ⟨h1, h2⟩
              · have := htk.out; omega
              · exact h2)
            have htl : t = m.length := by omega
            clear hg htk
            by_cases hc : c < 256
            · have hW := hid (show widthS c = [46, 112, 47] ++ decI c by rw [widthS, if_pos hc])
              go_wp2_with fail
              refine (D3.out _).mono ?_
              rintro e w9 ⟨rfl, hb9⟩
              have HF := hid (bt BW1.out hb9)
              clear hb9
              go_wp2
              go_ret
              exact ⟨by rw [HPT.out, hW.out, ← hq.out, HP.out]; simp, HF.out⟩
            · have hW := hid (show widthS c = [] by rw [widthS, if_neg hc])
              go_wp2
              go_ret
              exact ⟨by rw [HPT.out, hW.out, ← hq.out, HP.out]; simp, BW1.out⟩
      · have hL := hid (show levelS a = decI a by unfold levelS; rw [if_neg ha])
        go_wp2_with fail
        refine (D2.out _).mono ?_
        rintro e w2 ⟨rfl, hb2⟩
        have c0' := (hb2.cell (p := ⟨w.heap.size, 0, none⟩) B1.out.lt).trans c0
        have c1' := (hb2.cell (p := ⟨w.heap.size, 1, none⟩) B1.out.lt).trans c1
        have c2' := (hb2.cell (p := ⟨w.heap.size, 2, none⟩) B1.out.lt).trans c2
        have BW2 := hid (bt BW1.out hb2)
        clear hb2 c0 c1 c2
        go_wp2
        obtain ⟨p, hp, hp2⟩ : ∃ p, p = [116, 105, 108, 101, 47] ++ levelS a ∧ p.length ≤ 30 := ⟨_, rfl, by rw [hL.out]; simp; omega⟩
        have HP := hid hp
        rw [show S (116 :: 105 :: 108 :: 101 :: 47 :: decI a) = S p by rw [hp, hL.out]; rfl]
        clear hp t1 t2
        obtain ⟨wo, rfl⟩ : ∃ wo : World, wo = w2 := ⟨_, rfl⟩
        go_loopw [4, 5] (fun s iv wx => ∃ (t k : Nat) (q : List UInt8), t ≤ m.length ∧ iv = .int .i64 t ∧ s = .string (S (p ++ q)) ∧ q.length ≤ 2 * t ∧ Hid (t = 3 * k) ∧ Hid (GAt m k q) ∧ wx = wo) (fun _ iv _ => m.length - (intOf iv).toNat)
        case atStart => exact ⟨0, 0, [], by omega, rfl, by rw [List.append_nil], by simp, rfl, .inl ⟨by omega, by rw [List.take_zero, grpX_nil]⟩, rfl⟩
        case round =>
          obtain ⟨t, k, q, ht, rfl, rfl, hql, htk, hg, rfl⟩ := hrel
          by_cases hlt : t < m.length
          · have hq : q = grpX (m.take t) := by
              rcases hg.out with ⟨h1, h2⟩ | ⟨h1, h2⟩
              · rw [h2, htk.out]
              · have := htk.out; omega
            have e1 : (t + 3 - t) = 3 := by omega
            by_cases hl : t + 3 < m.length
            · have HG := hid (show GAt m (k + 1) (q ++ 47 :: 120 :: (m.drop t).take 3) from .inl ⟨by have := htk.out; omega, by rw [grpX_next (by have := htk.out; omega), hq, htk.out]⟩)
              have HK := hid (show t + 3 = 3 * (k + 1) by have := htk.out; omega)
              have i1 : (t : Int) + 3 < m.length := by omega
              have i2 : ((t : Int) + 3).toNat = t + 3 := by omega
              clear hq hg htk e1
              go_wp2
              go_roundw
              case rel => exact ⟨t + 3, k + 1, q ++ 47 :: 120 :: (m.drop t).take 3, by omega, by go_num, by simp, by simp; omega, HK, HG, by first | rfl | trivial⟩
              case measure => simp [intOf]; omega
            · have he : t + 3 = m.length := by
                have := htk.out; omega
              have HG := hid (show GAt m (k + 1) (q ++ 47 :: (m.drop t).take 3) from .inr ⟨by have := htk.out; omega, by rw [grpS_last (k := k) (by have := htk.out; omega), hq, htk.out]⟩)
              have HK := hid (show t + 3 = 3 * (k + 1) by have := htk.out; omega)
              have i1 : (m.length : Int) ≤ (t : Int) + 3 := by omega
              have i3 : (t : Int) + 3 ≤ m.length := by omega
              have i2 : ((t : Int) + 3).toNat = t + 3 := by omega
              clear hq hg htk e1 he
              go_wp2
              go_roundw
              case rel => exact ⟨t + 3, k + 1, q ++ 47 :: (m.drop t).take 3, by omega, by go_num, by simp, by simp; omega, HK, HG, by first | rfl | trivial⟩
              case measure => simp [intOf]; omega
          · have hq := hid (show q = grpS m by
              rcases hg.out with ⟨h1, h2⟩ | ⟨h1, h2⟩
              · have := htk.out; omega
              · exact h2)
            have htl : t = m.length := by omega
            clear hg htk
            by_cases hc : c < 256
            · have hW := hid (show widthS c = [46, 112, 47] ++ decI c by rw [widthS, if_pos hc])
              go_wp2_with fail
              refine (D3.out _).mono ?_
              rintro e w9 ⟨rfl, hb9⟩
              have HF := hid (bt BW2.out hb9)
              clear hb9
              go_wp2
              go_ret
              exact ⟨by rw [HPT.out, hW.out, ← hq.out, HP.out]; simp, HF.out⟩
            · have hW := hid (show widthS c = [] by rw [widthS, if_neg hc])
              go_wp2
              go_ret
              exact ⟨by rw [HPT.out, hW.out, ← hq.out, HP.out]; simp, BW2.out⟩
    · have t1 : ((m.length : Int) % 3 != 0) = true := by simp; omega
      have HM := hid (show padM (48 :: m) = pd by rw [padM_zero h3]; exact hm.out)
      clear hm
      go_wp2
      go_roundw
      case rel => exact ⟨48 :: m, rfl, by simp; omega, HM, by first | rfl | trivial⟩
      case measure => simp [modLen, S_size]; omega
end Go.Proofs.YtecekflooihkoaaGreatDoor
