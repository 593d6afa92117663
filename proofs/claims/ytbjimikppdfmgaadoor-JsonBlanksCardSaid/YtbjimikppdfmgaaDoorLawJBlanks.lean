/- The law JsonBlanks. -/
import Derived.Test.YtbjimikppdfmgaaDoorLawJLong
set_option linter.unusedVariables false
set_option linter.unusedSimpArgs false
set_option maxHeartbeats 32000000
set_option maxRecDepth 100000
namespace Go.Proofs.YtbjimikppdfmgaaDoor
open Go.RowKit

theorem law_JsonBlanks (s : List UInt8) (a b : Int) (ha : 0 ≤ a ∧ a ≤ 255) (hb0 : 0 ≤ b ∧ b ≤ 255) (hs : (s.length : Int) ≤ 9223372036854775807) (W : World) (hL : LibW W) :
    Calls Tryd.prog 6 #[.string (S s), .int .u8 a, .int .u8 b] W fun e w' => e = .returned (.bool true) ∧ Below W.heap.size W w' := by
  have HL := hid (fun W' (hb : Below W.heap.size W W') => hL.below hb)
  clear hL
  go_enter Tryd.func6, Tryd.ntmps6
  go_upto_if 18 with fail
  go_cut [0] (fun v wr => Hid (wr = W) ∧ v = .string (S (s.take 200)))
  case first =>
    by_cases h : s.length ≤ 200
    · have h1 : ¬ (200 : Int) < s.length := by omega
      go_wp2_with fail
      go_meet
      exact ⟨(by first | exact hid rfl | exact hid trivial), by rw [List.take_of_length_le h]⟩
    · have h1 : (200 : Int) < s.length := by omega
      have h2 : (200 : Int) ≤ s.length := by omega
      have h3 : (s.drop 0).take (200 - 0) = s.take 200 := by simp
      go_wp2_with fail
      go_meet
      exact ⟨(by first | exact hid rfl | exact hid trivial), by simp⟩
  case rest =>
    obtain ⟨hw, rfl⟩ := hcut
    obtain rfl := hw.out
    clear hw
    have hq : (s.take 200).length ≤ 200 := by simp; omega
    generalize s.take 200 = q at *
    have a0 : 0 ≤ a % 9 := by omega
    have a1 : a % 9 ≤ 8 := by omega
    have b0 : 0 ≤ b % 9 := by omega
    have b1 : b % 9 ≤ 8 := by omega
    obtain ⟨p0, p1⟩ := ha
    obtain ⟨p2, p3⟩ := hb0
    clear hs
    go_wp2_with fail
    go_loopw [8, 9] (fun o i wr => ∃ (A : Option Addr) (c : Nat) (os : List UInt8) (k : Nat), o = .slice A os.length c ∧ (k : Int) ≤ a % 9 ∧ i = .int .i64 k ∧ os.length = k ∧ Hid (AllBl os) ∧ Hid (wr.ownsRow wc.heap.size 5 1 (.slice A os.length c) os.length (os.map B8)) ∧ Hid (Below wc.heap.size wc wr)) (fun _ i _ => 100 - (intOf i).toNat)
    case atStart => exact ⟨none, 0, [], 0, rfl, by omega, rfl, rfl, fun c hc => by simp at hc, World.ownsRow_nil _ _ _ _, Below.refl _ _⟩
    case round =>
      obtain ⟨A, c, os, k, rfl, hk, rfl, hol, hos, hrow, hb⟩ := hrel
      by_cases hlt : (k : Int) < a % 9
      · have hol2 : os.length ≤ 8 := by omega
        have HOL := hid hol
        clear hol
        rcases (show k = 0 ∨ k = 1 ∨ k = 2 ∨ k = 3 ∨ k = 4 ∨ k = 5 ∨ k = 6 ∨ k = 7 by omega) with rfl | rfl | rfl | rfl | rfl | rfl | rfl | rfl
        · obtain ⟨A2, c2', w', hrun0, hrow2, hb2⟩ := append_byte wr 32 (A := A) (c := c) (os := os) hrow.out (by omega) hb.out.size
          rw [show (((32 : UInt8).toNat : Nat) : Int) = 32 from rfl] at hrun0
          have HRW := hid hrow2
          have HBW := hid (hb.out.trans hb2)
          have HOS := hid (show AllBl (os ++ [32]) from fun c hc => by
            rcases List.mem_append.1 hc with h | h
            · exact hos.out c h
            · simp at h; subst h; rfl)
          clear hrow2 hb2 hrow hb hos
          go_wp2_with (first | (at_builtin; refine wpList_append_run rfl _ _ _ (by rfl) _ _ _ _ (by rfl) (by rfl) hrun0 ?_))
          go_roundw
          case rel => exact ⟨_, _, _, _, _, _, _, _, _, _, _, _, _, _, _, _, ⟨A2, c2', os ++ [32], 1, by simp, by omega, by go_num, by have := HOL.out; simp only [List.length_append, List.length_cons, List.length_nil]; omega, HOS, HRW, HBW⟩, rfl⟩
          case measure => simp [intOf]
        · obtain ⟨A2, c2', w', hrun0, hrow2, hb2⟩ := append_byte wr 9 (A := A) (c := c) (os := os) hrow.out (by omega) hb.out.size
          rw [show (((9 : UInt8).toNat : Nat) : Int) = 9 from rfl] at hrun0
          have HRW := hid hrow2
          have HBW := hid (hb.out.trans hb2)
          have HOS := hid (show AllBl (os ++ [9]) from fun c hc => by
            rcases List.mem_append.1 hc with h | h
            · exact hos.out c h
            · simp at h; subst h; rfl)
          clear hrow2 hb2 hrow hb hos
          go_wp2_with (first | (at_builtin; refine wpList_append_run rfl _ _ _ (by rfl) _ _ _ _ (by rfl) (by rfl) hrun0 ?_))
          go_roundw
          case rel => exact ⟨_, _, _, _, _, _, _, _, _, _, _, _, _, _, _, _, ⟨A2, c2', os ++ [9], 2, by simp, by omega, by go_num, by have := HOL.out; simp only [List.length_append, List.length_cons, List.length_nil]; omega, HOS, HRW, HBW⟩, rfl⟩
          case measure => simp [intOf]
        · obtain ⟨A2, c2', w', hrun0, hrow2, hb2⟩ := append_byte wr 10 (A := A) (c := c) (os := os) hrow.out (by omega) hb.out.size
          rw [show (((10 : UInt8).toNat : Nat) : Int) = 10 from rfl] at hrun0
          have HRW := hid hrow2
          have HBW := hid (hb.out.trans hb2)
          have HOS := hid (show AllBl (os ++ [10]) from fun c hc => by
            rcases List.mem_append.1 hc with h | h
            · exact hos.out c h
            · simp at h; subst h; rfl)
          clear hrow2 hb2 hrow hb hos
          go_wp2_with (first | (at_builtin; refine wpList_append_run rfl _ _ _ (by rfl) _ _ _ _ (by rfl) (by rfl) hrun0 ?_))
          go_roundw
          case rel => exact ⟨_, _, _, _, _, _, _, _, _, _, _, _, _, _, _, _, ⟨A2, c2', os ++ [10], 3, by simp, by omega, by go_num, by have := HOL.out; simp only [List.length_append, List.length_cons, List.length_nil]; omega, HOS, HRW, HBW⟩, rfl⟩
          case measure => simp [intOf]
        · obtain ⟨A2, c2', w', hrun0, hrow2, hb2⟩ := append_byte wr 13 (A := A) (c := c) (os := os) hrow.out (by omega) hb.out.size
          rw [show (((13 : UInt8).toNat : Nat) : Int) = 13 from rfl] at hrun0
          have HRW := hid hrow2
          have HBW := hid (hb.out.trans hb2)
          have HOS := hid (show AllBl (os ++ [13]) from fun c hc => by
            rcases List.mem_append.1 hc with h | h
            · exact hos.out c h
            · simp at h; subst h; rfl)
          clear hrow2 hb2 hrow hb hos
          go_wp2_with (first | (at_builtin; refine wpList_append_run rfl _ _ _ (by rfl) _ _ _ _ (by rfl) (by rfl) hrun0 ?_))
          go_roundw
          case rel => exact ⟨_, _, _, _, _, _, _, _, _, _, _, _, _, _, _, _, ⟨A2, c2', os ++ [13], 4, by simp, by omega, by go_num, by have := HOL.out; simp only [List.length_append, List.length_cons, List.length_nil]; omega, HOS, HRW, HBW⟩, rfl⟩
          case measure => simp [intOf]
        · obtain ⟨A2, c2', w', hrun0, hrow2, hb2⟩ := append_byte wr 32 (A := A) (c := c) (os := os) hrow.out (by omega) hb.out.size
          rw [show (((32 : UInt8).toNat : Nat) : Int) = 32 from rfl] at hrun0
          have HRW := hid hrow2
          have HBW := hid (hb.out.trans hb2)
          have HOS := hid (show AllBl (os ++ [32]) from fun c hc => by
            rcases List.mem_append.1 hc with h | h
            · exact hos.out c h
            · simp at h; subst h; rfl)
          clear hrow2 hb2 hrow hb hos
          go_wp2_with (first | (at_builtin; refine wpList_append_run rfl _ _ _ (by rfl) _ _ _ _ (by rfl) (by rfl) hrun0 ?_))
          go_roundw
          case rel => exact ⟨_, _, _, _, _, _, _, _, _, _, _, _, _, _, _, _, ⟨A2, c2', os ++ [32], 5, by simp, by omega, by go_num, by have := HOL.out; simp only [List.length_append, List.length_cons, List.length_nil]; omega, HOS, HRW, HBW⟩, rfl⟩
          case measure => simp [intOf]
        · obtain ⟨A2, c2', w', hrun0, hrow2, hb2⟩ := append_byte wr 9 (A := A) (c := c) (os := os) hrow.out (by omega) hb.out.size
          rw [show (((9 : UInt8).toNat : Nat) : Int) = 9 from rfl] at hrun0
          have HRW := hid hrow2
          have HBW := hid (hb.out.trans hb2)
          have HOS := hid (show AllBl (os ++ [9]) from fun c hc => by
            rcases List.mem_append.1 hc with h | h
            · exact hos.out c h
            · simp at h; subst h; rfl)
          clear hrow2 hb2 hrow hb hos
          go_wp2_with (first | (at_builtin; refine wpList_append_run rfl _ _ _ (by rfl) _ _ _ _ (by rfl) (by rfl) hrun0 ?_))
          go_roundw
          case rel => exact ⟨_, _, _, _, _, _, _, _, _, _, _, _, _, _, _, _, ⟨A2, c2', os ++ [9], 6, by simp, by omega, by go_num, by have := HOL.out; simp only [List.length_append, List.length_cons, List.length_nil]; omega, HOS, HRW, HBW⟩, rfl⟩
          case measure => simp [intOf]
        · obtain ⟨A2, c2', w', hrun0, hrow2, hb2⟩ := append_byte wr 10 (A := A) (c := c) (os := os) hrow.out (by omega) hb.out.size
          rw [show (((10 : UInt8).toNat : Nat) : Int) = 10 from rfl] at hrun0
          have HRW := hid hrow2
          have HBW := hid (hb.out.trans hb2)
          have HOS := hid (show AllBl (os ++ [10]) from fun c hc => by
            rcases List.mem_append.1 hc with h | h
            · exact hos.out c h
            · simp at h; subst h; rfl)
          clear hrow2 hb2 hrow hb hos
          go_wp2_with (first | (at_builtin; refine wpList_append_run rfl _ _ _ (by rfl) _ _ _ _ (by rfl) (by rfl) hrun0 ?_))
          go_roundw
          case rel => exact ⟨_, _, _, _, _, _, _, _, _, _, _, _, _, _, _, _, ⟨A2, c2', os ++ [10], 7, by simp, by omega, by go_num, by have := HOL.out; simp only [List.length_append, List.length_cons, List.length_nil]; omega, HOS, HRW, HBW⟩, rfl⟩
          case measure => simp [intOf]
        · obtain ⟨A2, c2', w', hrun0, hrow2, hb2⟩ := append_byte wr 13 (A := A) (c := c) (os := os) hrow.out (by omega) hb.out.size
          rw [show (((13 : UInt8).toNat : Nat) : Int) = 13 from rfl] at hrun0
          have HRW := hid hrow2
          have HBW := hid (hb.out.trans hb2)
          have HOS := hid (show AllBl (os ++ [13]) from fun c hc => by
            rcases List.mem_append.1 hc with h | h
            · exact hos.out c h
            · simp at h; subst h; rfl)
          clear hrow2 hb2 hrow hb hos
          go_wp2_with (first | (at_builtin; refine wpList_append_run rfl _ _ _ (by rfl) _ _ _ _ (by rfl) (by rfl) hrun0 ?_))
          go_roundw
          case rel => exact ⟨_, _, _, _, _, _, _, _, _, _, _, _, _, _, _, _, ⟨A2, c2', os ++ [13], 8, by simp, by omega, by go_num, by have := HOL.out; simp only [List.length_append, List.length_cons, List.length_nil]; omega, HOS, HRW, HBW⟩, rfl⟩
          case measure => simp [intOf]
      · have hol2 : os.length ≤ 8 := by omega
        have HOL := hid hol
        clear hol hk
        obtain ⟨A1, c1, w1, hrun1, hrow1, hg1⟩ := append_text wr (base := wc.heap.size) (m := os.length) (c := c) (A := A) (xs := os) q hrow.out hb.out.size (by omega) 47
        have hb1 : Below wc.heap.size wc w1 := hb.out.grown hg1 hb.out.size (fun k hk => row_base_le hrow.out hk)
        have HR1 := hid hrow1
        have HB1 := hid hb1
        have BL1 := hid hos.out
        obtain ⟨pre, hpre⟩ : ∃ pre, pre = os ++ q := ⟨_, rfl⟩
        have hpl : pre.length = os.length + q.length := by rw [hpre]; simp
        have HPL := hid hpl
        have HPRE := hid hpre
        rw [← hpre, ← hpl] at HR1
        rw [← hpl] at hrun1
        have hpl2 : pre.length ≤ 300 := by omega
        clear hrow1 hb1 hg1 hrow hb hos hpre hpl
        go_wp2_with (first | (at_builtin; refine wpList_app2 rfl _ _ _ _ (by rfl) _ _ _ _ (by rfl) (by rfl) hrun1 ?_))
        go_loopw [8, 10] (fun o i wr => ∃ (A : Option Addr) (c : Nat) (os : List UInt8) (k : Nat), o = .slice A os.length c ∧ (k : Int) ≤ b % 9 ∧ i = .int .i64 k ∧ os.length ≤ 400 + k ∧ Hid (∃ t, os = pre ++ t ∧ AllBl t ∧ t.length = k) ∧ Hid (wr.ownsRow wc.heap.size 5 1 (.slice A os.length c) os.length (os.map B8)) ∧ Hid (Below wc.heap.size wc wr)) (fun _ i _ => 100 - (intOf i).toNat)
        case atStart => exact ⟨A1, c1, pre, 0, rfl, by omega, rfl, by omega, ⟨[], by simp, (fun c hc => by simp at hc), rfl⟩, HR1, HB1⟩
        case round =>
          clear HR1 HB1 hrun1
          obtain ⟨A, c, os2, k2, rfl, hk2, rfl, hol3, hos, hrow, hb⟩ := hrel
          by_cases hlt2 : (k2 : Int) < b % 9
          · have hol5 : os2.length ≤ 500 := by omega
            rcases (show k2 = 0 ∨ k2 = 1 ∨ k2 = 2 ∨ k2 = 3 ∨ k2 = 4 ∨ k2 = 5 ∨ k2 = 6 ∨ k2 = 7 by omega) with rfl | rfl | rfl | rfl | rfl | rfl | rfl | rfl
            · obtain ⟨A2, c2', w', hrun0, hrow2, hb2⟩ := append_byte wr 32 (A := A) (c := c) (os := os2) hrow.out (by omega) hb.out.size
              rw [show (((32 : UInt8).toNat : Nat) : Int) = 32 from rfl] at hrun0
              have HRW := hid hrow2
              have HBW := hid (hb.out.trans hb2)
              have HOS := hid (show ∃ t, os2 ++ [32] = pre ++ t ∧ AllBl t ∧ t.length = 0 + 1 from by
                obtain ⟨t, h1, h2, h3⟩ := hos.out
                exact ⟨t ++ [32], by rw [h1, List.append_assoc], fun c hc => by
                  rcases List.mem_append.1 hc with h | h
                  · exact h2 c h
                  · simp at h; subst h; rfl, by simp [h3]⟩)
              clear hrow2 hb2 hrow hb hos
              go_wp2_with (first | (at_builtin; refine wpList_append_run rfl _ _ _ (by rfl) _ _ _ _ (by rfl) (by rfl) hrun0 ?_))
              go_roundw
              case rel => exact ⟨A2, c2', os2 ++ [32], 1, by simp, by omega, by go_num, by simp; omega, HOS, HRW, HBW⟩
              case measure => simp [intOf]
            · obtain ⟨A2, c2', w', hrun0, hrow2, hb2⟩ := append_byte wr 9 (A := A) (c := c) (os := os2) hrow.out (by omega) hb.out.size
              rw [show (((9 : UInt8).toNat : Nat) : Int) = 9 from rfl] at hrun0
              have HRW := hid hrow2
              have HBW := hid (hb.out.trans hb2)
              have HOS := hid (show ∃ t, os2 ++ [9] = pre ++ t ∧ AllBl t ∧ t.length = 1 + 1 from by
                obtain ⟨t, h1, h2, h3⟩ := hos.out
                exact ⟨t ++ [9], by rw [h1, List.append_assoc], fun c hc => by
                  rcases List.mem_append.1 hc with h | h
                  · exact h2 c h
                  · simp at h; subst h; rfl, by simp [h3]⟩)
              clear hrow2 hb2 hrow hb hos
              go_wp2_with (first | (at_builtin; refine wpList_append_run rfl _ _ _ (by rfl) _ _ _ _ (by rfl) (by rfl) hrun0 ?_))
              go_roundw
              case rel => exact ⟨A2, c2', os2 ++ [9], 2, by simp, by omega, by go_num, by simp; omega, HOS, HRW, HBW⟩
              case measure => simp [intOf]
            · obtain ⟨A2, c2', w', hrun0, hrow2, hb2⟩ := append_byte wr 10 (A := A) (c := c) (os := os2) hrow.out (by omega) hb.out.size
              rw [show (((10 : UInt8).toNat : Nat) : Int) = 10 from rfl] at hrun0
              have HRW := hid hrow2
              have HBW := hid (hb.out.trans hb2)
              have HOS := hid (show ∃ t, os2 ++ [10] = pre ++ t ∧ AllBl t ∧ t.length = 2 + 1 from by
                obtain ⟨t, h1, h2, h3⟩ := hos.out
                exact ⟨t ++ [10], by rw [h1, List.append_assoc], fun c hc => by
                  rcases List.mem_append.1 hc with h | h
                  · exact h2 c h
                  · simp at h; subst h; rfl, by simp [h3]⟩)
              clear hrow2 hb2 hrow hb hos
              go_wp2_with (first | (at_builtin; refine wpList_append_run rfl _ _ _ (by rfl) _ _ _ _ (by rfl) (by rfl) hrun0 ?_))
              go_roundw
              case rel => exact ⟨A2, c2', os2 ++ [10], 3, by simp, by omega, by go_num, by simp; omega, HOS, HRW, HBW⟩
              case measure => simp [intOf]
            · obtain ⟨A2, c2', w', hrun0, hrow2, hb2⟩ := append_byte wr 13 (A := A) (c := c) (os := os2) hrow.out (by omega) hb.out.size
              rw [show (((13 : UInt8).toNat : Nat) : Int) = 13 from rfl] at hrun0
              have HRW := hid hrow2
              have HBW := hid (hb.out.trans hb2)
              have HOS := hid (show ∃ t, os2 ++ [13] = pre ++ t ∧ AllBl t ∧ t.length = 3 + 1 from by
                obtain ⟨t, h1, h2, h3⟩ := hos.out
                exact ⟨t ++ [13], by rw [h1, List.append_assoc], fun c hc => by
                  rcases List.mem_append.1 hc with h | h
                  · exact h2 c h
                  · simp at h; subst h; rfl, by simp [h3]⟩)
              clear hrow2 hb2 hrow hb hos
              go_wp2_with (first | (at_builtin; refine wpList_append_run rfl _ _ _ (by rfl) _ _ _ _ (by rfl) (by rfl) hrun0 ?_))
              go_roundw
              case rel => exact ⟨A2, c2', os2 ++ [13], 4, by simp, by omega, by go_num, by simp; omega, HOS, HRW, HBW⟩
              case measure => simp [intOf]
            · obtain ⟨A2, c2', w', hrun0, hrow2, hb2⟩ := append_byte wr 32 (A := A) (c := c) (os := os2) hrow.out (by omega) hb.out.size
              rw [show (((32 : UInt8).toNat : Nat) : Int) = 32 from rfl] at hrun0
              have HRW := hid hrow2
              have HBW := hid (hb.out.trans hb2)
              have HOS := hid (show ∃ t, os2 ++ [32] = pre ++ t ∧ AllBl t ∧ t.length = 4 + 1 from by
                obtain ⟨t, h1, h2, h3⟩ := hos.out
                exact ⟨t ++ [32], by rw [h1, List.append_assoc], fun c hc => by
                  rcases List.mem_append.1 hc with h | h
                  · exact h2 c h
                  · simp at h; subst h; rfl, by simp [h3]⟩)
              clear hrow2 hb2 hrow hb hos
              go_wp2_with (first | (at_builtin; refine wpList_append_run rfl _ _ _ (by rfl) _ _ _ _ (by rfl) (by rfl) hrun0 ?_))
              go_roundw
              case rel => exact ⟨A2, c2', os2 ++ [32], 5, by simp, by omega, by go_num, by simp; omega, HOS, HRW, HBW⟩
              case measure => simp [intOf]
            · obtain ⟨A2, c2', w', hrun0, hrow2, hb2⟩ := append_byte wr 9 (A := A) (c := c) (os := os2) hrow.out (by omega) hb.out.size
              rw [show (((9 : UInt8).toNat : Nat) : Int) = 9 from rfl] at hrun0
              have HRW := hid hrow2
              have HBW := hid (hb.out.trans hb2)
              have HOS := hid (show ∃ t, os2 ++ [9] = pre ++ t ∧ AllBl t ∧ t.length = 5 + 1 from by
                obtain ⟨t, h1, h2, h3⟩ := hos.out
                exact ⟨t ++ [9], by rw [h1, List.append_assoc], fun c hc => by
                  rcases List.mem_append.1 hc with h | h
                  · exact h2 c h
                  · simp at h; subst h; rfl, by simp [h3]⟩)
              clear hrow2 hb2 hrow hb hos
              go_wp2_with (first | (at_builtin; refine wpList_append_run rfl _ _ _ (by rfl) _ _ _ _ (by rfl) (by rfl) hrun0 ?_))
              go_roundw
              case rel => exact ⟨A2, c2', os2 ++ [9], 6, by simp, by omega, by go_num, by simp; omega, HOS, HRW, HBW⟩
              case measure => simp [intOf]
            · obtain ⟨A2, c2', w', hrun0, hrow2, hb2⟩ := append_byte wr 10 (A := A) (c := c) (os := os2) hrow.out (by omega) hb.out.size
              rw [show (((10 : UInt8).toNat : Nat) : Int) = 10 from rfl] at hrun0
              have HRW := hid hrow2
              have HBW := hid (hb.out.trans hb2)
              have HOS := hid (show ∃ t, os2 ++ [10] = pre ++ t ∧ AllBl t ∧ t.length = 6 + 1 from by
                obtain ⟨t, h1, h2, h3⟩ := hos.out
                exact ⟨t ++ [10], by rw [h1, List.append_assoc], fun c hc => by
                  rcases List.mem_append.1 hc with h | h
                  · exact h2 c h
                  · simp at h; subst h; rfl, by simp [h3]⟩)
              clear hrow2 hb2 hrow hb hos
              go_wp2_with (first | (at_builtin; refine wpList_append_run rfl _ _ _ (by rfl) _ _ _ _ (by rfl) (by rfl) hrun0 ?_))
              go_roundw
              case rel => exact ⟨A2, c2', os2 ++ [10], 7, by simp, by omega, by go_num, by simp; omega, HOS, HRW, HBW⟩
              case measure => simp [intOf]
            · obtain ⟨A2, c2', w', hrun0, hrow2, hb2⟩ := append_byte wr 13 (A := A) (c := c) (os := os2) hrow.out (by omega) hb.out.size
              rw [show (((13 : UInt8).toNat : Nat) : Int) = 13 from rfl] at hrun0
              have HRW := hid hrow2
              have HBW := hid (hb.out.trans hb2)
              have HOS := hid (show ∃ t, os2 ++ [13] = pre ++ t ∧ AllBl t ∧ t.length = 7 + 1 from by
                obtain ⟨t, h1, h2, h3⟩ := hos.out
                exact ⟨t ++ [13], by rw [h1, List.append_assoc], fun c hc => by
                  rcases List.mem_append.1 hc with h | h
                  · exact h2 c h
                  · simp at h; subst h; rfl, by simp [h3]⟩)
              clear hrow2 hb2 hrow hb hos
              go_wp2_with (first | (at_builtin; refine wpList_append_run rfl _ _ _ (by rfl) _ _ _ _ (by rfl) (by rfl) hrun0 ?_))
              go_roundw
              case rel => exact ⟨A2, c2', os2 ++ [13], 8, by simp, by omega, by go_num, by simp; omega, HOS, HRW, HBW⟩
              case measure => simp [intOf]
          · obtain ⟨tt, e1, e2, e3⟩ := hos.out
            have hcv := run_string_row _ hrow.out
            have RQ := hid (fun (w1 : World) (h : Below wc.heap.size wc w1) => js_ReadAny q (by omega) w1 (fun W' h2 => HL.out W' (bt h h2)))
            have RA := hid (fun (w1 : World) (h : Below wc.heap.size wc w1) => js_ReadAny os2 (by omega) w1 (fun W' h2 => HL.out W' (bt h h2)))
            have LV := hid (fun (w1 : World) (h : Below wc.heap.size wc w1) => js_lives w1 (fun W' h2 => HL.out W' (bt h h2)))
            have HRP := hid (show readP os2 = readP q by rw [e1, HPRE.out, read_behind _ _ e2, read_ahead _ _ BL1.out])
            have HB0 := hid hb.out
            have HROW := hid hrow.out
            clear hos hrow hb e1 e2 e3 hcv
            go_wp2_with fail
            refine (RQ.out _ HB0.out).mono ?_
            rintro e w2 ⟨x, rfl, jx, b2⟩
            have X2 := hid (Blk.new w2 40 x.ar)
            have HX := hid jx
            have HB2 := hid (bt HB0.out b2)
            have HB3 := hid (bt HB2.out ((Below.refl w2.heap.size w2).alloc (Nat.le_refl _) (.cells x.ar 40)))
            have ROW3 := hid (row_alloc (row_below HROW.out b2) (.cells x.ar 40))
            have hcv := run_string_row _ ROW3.out
            obtain ⟨k0, k1, k2', k3, k4, k5, k6, k7, k8⟩ := x
            simp only [J5.ar] at hcv
            clear jx b2 RQ HB0
            go_wp2_with fail
            refine (RA.out _ HB3.out).mono ?_
            rintro e w4 ⟨y, rfl, jy, b4⟩
            have X4 := hid (X2.out.below b4 X2.out.lt)
            have HX4 := hid ((HX.out.belowW ((Below.refl w2.heap.size w2).alloc (Nat.le_refl _) _)).belowW b4)
            have HY := hid jy
            have HB4 := hid (bt HB3.out b4)
            have HB5 := hid (bt HB4.out ((Below.refl w4.heap.size w4).alloc (Nat.le_refl _) (.cells y.ar 40)))
            obtain ⟨x0, x1, x2, x3, x4⟩ := ar5 X4.out
            have xl : w2.heap.size < w4.heap.size := X4.out.lt
            have BA := hid ((Below.refl w4.heap.size w4).alloc (Nat.le_refl _) (.cells y.ar 40))
            obtain ⟨l0, l1, l2, l3, l4, l5, l6, l7, l8⟩ := y
            simp only [] at x0 x1 x2 x3 x4
            clear jy b4 RA HB3 HX X2 hcv ROW3
            have e1 : readS os2 = readS q := by unfold readS; rw [if_neg (by omega), if_neg (by omega), HRP.out]
            have SM := hid (ref06_Same HX4.out (e1 ▸ HY.out) _ BA.out)
            rw [e1]
            clear e1 HX4 HY
            generalize (readS q).2 = rr at *
            go_wp2_with fail
            refine SM.out.mono ?_
            rintro e w6 ⟨rfl, b6⟩
            have HB6 := hid (bt HB5.out b6)
            clear b6
            go_wp2_with fail
            refine (LV.out _ HB6.out).mono ?_
            rintro e w7 ⟨rfl, b7⟩
            have HF := hid (bt HB6.out b7)
            clear b7
            go_wp2
            go_ret
            exact ⟨rfl, HF.out⟩
theorem row_JsonBlanks (s : ByteArray) (a b : Int) (w : World) (hs : s.size ≤ maxLen) (ha : (Lit.int .u8 a).wf = true) (hb : (Lit.int .u8 b).wf = true) (hL : LibW w) :
    Calls Tryd.prog 6 #[.string s, .int .u8 a, .int .u8 b] w fun e w' => e = .returned (.bool true) ∧ Below w.heap.size w w' := by
  have hr : ∀ {a : Int}, (Lit.int .u8 a).wf = true → 0 ≤ a ∧ a ≤ 255 := fun {a} h => by
    have hmin : IntKind.u8.min = 0 := rfl
    have hmax : IntKind.u8.max = 255 := rfl
    simp only [Lit.wf, Bool.and_eq_true, decide_eq_true_eq] at h
    omega
  unfold maxLen at hs
  rw [← S_of s]
  exact law_JsonBlanks s.data.toList a b (hr ha) (hr hb) (by rw [← S_size, S_of]; omega) w hL
end Go.Proofs.YtbjimikppdfmgaaDoor
