/- Walk of pantilelaw14.KvNames. -/
import Derived.Test.YtbjimikppdfmgaaGreatDoorKvNm
set_option linter.unusedVariables false
set_option linter.unusedSimpArgs false
set_option maxHeartbeats 12800000
set_option maxRecDepth 100000
namespace Go.Proofs.YtbjimikppdfmgaaGreatDoor
open Go.RowKit

/-- Open refuses a name that is none. -/
theorem kv_Open_bad (g : Nat) (nm : Key) (w : World) (hl : nm.length ≤ 1000) (hb : nm = [] ∨ 20 < nm.length ∨ ¬ ∀ c ∈ nm, lettB c = true) :
    Calls Tryz.prog 7 #[.pointer (some ⟨g, 0, none⟩), .string (S nm)] w fun e w' => e = .returned (.tuple #[.pointer none, .int .i64 1]) ∧ Below w.heap.size w w' := by
  have TR := hid (fun W' => str_Trim_abc nm hl W')
  unfold abcT at TR
  have hT : (Lib.trimS nm [97, 98, 99, 100, 101, 102, 103, 104, 105, 106, 107, 108, 109, 110, 111, 112, 113, 114, 115, 116, 117, 118, 119, 120, 121, 122] = []) → ∀ c ∈ nm, lettB c = true := fun h c hc => by rw [← lett_abc]; exact trimS_nil h c hc
  have HT := hid hT
  clear hT
  have hB : Blk (w.alloc (.cells #[.pointer (some ⟨g, 0, none⟩)] 22)) w.heap.size 22 #[.pointer (some ⟨g, 0, none⟩)] := Blk.new _ _ _
  have HB0 := hid (show Below w.heap.size w (w.alloc (.cells #[.pointer (some ⟨g, 0, none⟩)] 22)) from (Below.refl _ _).alloc (Nat.le_refl _) _)
  have HBK := hid hB
  clear hB
  generalize Lib.trimS nm [97, 98, 99, 100, 101, 102, 103, 104, 105, 106, 107, 108, 109, 110, 111, 112, 113, 114, 115, 116, 117, 118, 119, 120, 121, 122] = tr at *
  by_cases h0 : nm = []
  · subst h0
    by_cases ht : tr = []
    all_goals
      have kt : (tr == []) = decide (tr = []) := by cases tr <;> rfl
      simp only [ht, decide_true, decide_false] at kt
      go_enter Tryz.func7, Tryz.ntmps7
      go_wp2_with fail
      refine (TR.out _).mono ?_
      rintro e w2 ⟨rfl, hb2⟩
      have c2 := box1 (HBK.out.below hb2 HBK.out.lt)
      have HB2 := hid (bt HB0.out hb2)
      clear hb2
      go_wp2
      go_ret2
      exact ⟨rfl, HB2.out⟩
  · have k0 : (nm == []) = false := beq_eq_false_iff_ne.2 h0
    by_cases h20 : 20 < nm.length
    · have h20' : (20 : Int) < nm.length := by omega
      by_cases ht : tr = []
      all_goals
        have kt : (tr == []) = decide (tr = []) := by cases tr <;> rfl
        simp only [ht, decide_true, decide_false] at kt
        go_enter Tryz.func7, Tryz.ntmps7
        go_wp2_with fail
        refine (TR.out _).mono ?_
        rintro e w2 ⟨rfl, hb2⟩
        have c2 := box1 (HBK.out.below hb2 HBK.out.lt)
        have HB2 := hid (bt HB0.out hb2)
        clear hb2
        go_wp2
        go_ret2
        exact ⟨rfl, HB2.out⟩
    · have h20' : (nm.length : Int) ≤ 20 := by omega
      have ht : ¬ tr = [] := fun h => by
        rcases hb with hb | hb | hb
        · exact h0 hb
        · exact h20 hb
        · exact hb (HT.out h)
      have kt : (tr == []) = false := beq_eq_false_iff_ne.2 ht
      clear hb
      go_enter Tryz.func7, Tryz.ntmps7
      go_wp2_with fail
      refine (TR.out _).mono ?_
      rintro e w2 ⟨rfl, hb2⟩
      have c2 := box1 (HBK.out.below hb2 HBK.out.lt)
      have HB2 := hid (bt HB0.out hb2)
      clear hb2
      go_wp2
      go_ret2
      exact ⟨rfl, HB2.out⟩
theorem law_KvNames_bad (s : List UInt8) (w : World) (hb : (s.take 30) = [] ∨ 20 < (s.take 30).length ∨ ¬ ∀ c ∈ s.take 30, lettB c = true) :
    Calls Tryz.prog 3 #[.string (S s)] w fun e w' => e = .returned (.bool true) ∧ Below w.heap.size w w' := by
  have N0 := hid (FW.new (Fr.all w) 10000 rfl w (Fr.kept_self _))
  have LV := hid (fun W => law14_lives W)
  obtain ⟨nm, hnm⟩ : ∃ nm, nm = s.take 30 := ⟨_, rfl⟩
  have hnl : nm.length ≤ 30 := by rw [hnm]; simp; omega
  rw [← hnm] at hb
  have OB := hid (fun (g : Nat) (w : World) => kv_Open_bad g nm w (by omega) hb)
  have HB := hid hb
  clear hb
  by_cases hlong : 30 < s.length
  case' neg => obtain rfl : nm = s := by rw [hnm, List.take_of_length_le (by omega)]
  all_goals
    have HNM := hid hnm
    clear hnm
    go_enter Tryz.func3, Tryz.ntmps3
    go_wp2_with fail
  all_goals
    first
    | rw [← HNM.out]
    | skip
  all_goals
    clear HNM hlong
  all_goals
    refine N0.out.mono ?_
    rintro e w1 ⟨g, rfl, hg, hb1, hF⟩
    have HB1 := hid hb1
    clear hb1 hF hg N0
    go_wp2_with fail
    refine (OB.out g w1).mono ?_
    rintro e w2 ⟨rfl, hb2⟩
    have HB2 := hid (bt HB1.out hb2)
    clear hb2 HB1 OB
    by_cases h1 : nm = []
    · subst h1
      go_wp2
      go_loop [6, 7] (fun m i => m = .bool false ∧ i = .int .i64 0) (fun _ _ => 0)
      case atStart => exact ⟨rfl, rfl⟩
      case round =>
        obtain ⟨rfl, rfl⟩ := hrel
        go_wp2_with fail
        refine (LV.out _).mono ?_
        rintro e w3 ⟨rfl, hb3⟩
        go_wp2
        go_ret
        exact ⟨rfl, bt HB2.out hb3⟩
    · have hlp := List.length_pos_iff.2 h1
      have q1 : (1 : Int) ≤ nm.length := by omega
      by_cases h20 : 20 < nm.length
      · have q2 : (20 : Int) < nm.length := by omega
        go_wp2
        go_loop [6, 7] (fun m i => ∃ k : Nat, k ≤ nm.length ∧ m = .bool false ∧ i = .int .i64 k) (fun _ i => nm.length - (intOf i).toNat)
        case atStart => exact ⟨0, Nat.zero_le _, by first | rfl | rw [decide_eq_false (by omega)], rfl⟩
        case round =>
          obtain ⟨k, hk, rfl, rfl⟩ := hrel
          by_cases hlt : k < nm.length
          · go_wp2
            go_round
            case rel => exact ⟨k + 1, by omega, rfl, by go_num⟩
            case measure => simp [intOf]; omega
          · have hk' : k = nm.length := by omega
            subst hk'
            go_wp2_with fail
            refine (LV.out _).mono ?_
            rintro e w3 ⟨rfl, hb3⟩
            go_wp2
            go_ret
            exact ⟨rfl, bt HB2.out hb3⟩
      · have q2 : (nm.length : Int) ≤ 20 := by omega
        have HN := hid (show nm.all lettB = false by
          rcases HB.out with hb | hb | hb
          · exact absurd hb h1
          · exact absurd hb h20
          · cases ha : nm.all lettB with
            | false => rfl
            | true => exact absurd (List.all_eq_true.1 ha) hb)
        go_wp2
        go_loop [6, 7] (fun m i => ∃ (k : Nat) (b : Bool), k ≤ nm.length ∧ m = .bool b ∧ i = .int .i64 k ∧ Hid (b = (nm.take k).all lettB)) (fun _ i => nm.length - (intOf i).toNat)
        case atStart => exact ⟨0, true, Nat.zero_le _, by first | rfl | rw [decide_eq_true (by omega)], rfl, rfl⟩
        case round =>
          obtain ⟨k, b, hk, rfl, rfl, hbb⟩ := hrel
          by_cases hlt : k < nm.length
          · have HS := hid (show (nm.take (k + 1)).all lettB = (b && lettB nm[k]) by rw [List.take_succ_eq_append_getElem hlt, List.all_append, hbb.out]; simp)
            have hc := nm[k].toNat_lt
            cases b with
            | false =>
              go_wp2
              go_round
              case rel => exact ⟨k + 1, false, by omega, rfl, by go_num, by rw [Hid, HS.out]; rfl⟩
              case measure => simp [intOf]; omega
            | true =>
              by_cases c1 : 97 ≤ nm[k].toNat
              · by_cases c2 : nm[k].toNat ≤ 122
                · have HS2 := hid (show (nm.take (k + 1)).all lettB = true by rw [HS.out]; simp [lettB, c1, c2])
                  have c1' : (97 : Int) ≤ nm[k].toNat := by omega
                  have c2' : (nm[k].toNat : Int) ≤ 122 := by omega
                  clear HS hbb
                  go_wp2
                  go_round
                  case rel => exact ⟨k + 1, true, by omega, rfl, by go_num, by rw [Hid, HS2.out]⟩
                  case measure => simp [intOf]; omega
                · have HS2 := hid (show (nm.take (k + 1)).all lettB = false by rw [HS.out]; simp [lettB, c1, c2])
                  have c1' : (97 : Int) ≤ nm[k].toNat := by omega
                  have c2' : ¬ (nm[k].toNat : Int) ≤ 122 := by omega
                  clear HS hbb
                  go_wp2
                  go_round
                  case rel => exact ⟨k + 1, false, by omega, by first | rfl | simp [c2'], by go_num, by rw [Hid, HS2.out]⟩
                  case measure => simp [intOf]; omega
              · have HS2 := hid (show (nm.take (k + 1)).all lettB = false by rw [HS.out]; simp [lettB, c1])
                have c1' : ¬ (97 : Int) ≤ nm[k].toNat := by omega
                clear HS hbb
                go_wp2
                go_round
                case rel => exact ⟨k + 1, false, by omega, by first | rfl | simp [c1'], by go_num, by rw [Hid, HS2.out]⟩
                case measure => simp [intOf]; omega
          · have hk' : k = nm.length := by omega
            subst hk'
            have hb0 : b = false := by rw [hbb.out, List.take_length]; exact HN.out
            subst hb0
            go_wp2_with fail
            refine (LV.out _).mono ?_
            rintro e w3 ⟨rfl, hb3⟩
            go_wp2
            go_ret
            exact ⟨rfl, bt HB2.out hb3⟩
end Go.Proofs.YtbjimikppdfmgaaGreatDoor
