/- Walks of package text: Number. -/
import Derived.Test.YtecekflooihkoaaGreatDoorText
import Derived.Test.YtecekflooihkoaaGreatDoorPlain
import Derived.Deep.QuietTactic
import Derived.BigQuiet
set_option linter.unusedVariables false
set_option linter.unusedSimpArgs false
set_option maxHeartbeats 800000
set_option maxRecDepth 100000
namespace Go.Proofs.YtecekflooihkoaaGreatDoor
open Go.RowKit

theorem text_Number (l : List UInt8) (w : World) : Calls Tryz.prog 28 #[.string (S l)] w fun e w' => e = .returned (.tuple #[.int .i64 (numI l), .int .i64 (numE l)]) ∧ Below w.heap.size w w' := by
  by_cases hl : 16 < l.length
  · have hn : isNum l = false := by unfold isNum; simp; omega
    have H1 := hid (show numI l = 0 from by simp [numI, hn])
    have H2 := hid (show numE l = 2 from by simp [numE, hn])
    go_enter Tryz.func28, Tryz.ntmps28
    go_wp2
    go_ret2
    exact ⟨by rw [H1.out, H2.out]; rfl, Below.refl _ _⟩
  · go_enter Tryz.func28, Tryz.ntmps28
    go_wp2
    go_loop [4, 11] (fun n i => ∃ (k : Nat) (v : Int), k ≤ l.length ∧ i = .int .i64 k ∧ n = .int .i64 v ∧ Hid (v = valI (l.take k))) (fun _ i => l.length - (intOf i).toNat)
    case atStart => exact ⟨0, 0, Nat.zero_le _, rfl, rfl, rfl⟩
    case round =>
      obtain ⟨k, v, hk, rfl, rfl, hv⟩ := hrel
      by_cases hlt : k < l.length
      · have hb := valI_bound' (l.take k) (by simp; omega)
        rw [← hv.out] at hb
        obtain ⟨b1, b2⟩ := hb
        have hc := l[k].toNat_lt
        have hc' : (l[k].toNat : Int) < 256 := by omega
        have hs : Hid (10 * v + (l[k].toNat : Int) - 48 = valI (l.take (k + 1))) := by unfold Hid; rw [valI_take l k hlt, ← hv.out]
        go_wp2
        go_round
        case rel => exact ⟨k + 1, _, by omega, by go_num, rfl, hs⟩
        case measure => simp [intOf]; omega
      · have hk' : k = l.length := by omega
        subst hk'
        rw [List.take_length] at hv
        have hb := valI_bound l (by omega)
        rw [← hv.out] at hb
        obtain ⟨b1, b2⟩ := hb
        have hD : decI v = decI (valI l) := by rw [hv.out]
        by_cases hn : v < 0
        · have h0 : isNum l = false := by unfold isNum; rw [← hv.out]; simp; omega
          have H1 := hid (show numI l = 0 from by simp [numI, h0])
          have H2 := hid (show numE l = 2 from by simp [numE, h0])
          go_wp2
          go_ret2
          exact ⟨by rw [H1.out, H2.out]; rfl, Below.refl _ _⟩
        · by_cases hg : 9007199254740992 < v
          · have h0 : isNum l = false := by unfold isNum; rw [← hv.out]; simp; omega
            have H1 := hid (show numI l = 0 from by simp [numI, h0])
            have H2 := hid (show numE l = 2 from by simp [numE, h0])
            go_wp2
            go_ret2
            exact ⟨by rw [H1.out, H2.out]; rfl, Below.refl _ _⟩
          · by_cases he : (decI v == l) = true
            · have h0 : isNum l = true := by unfold isNum; rw [← hv.out, he]; simp; omega
              have H1 := hid (show numI l = v from by simp [numI, h0, hv.out])
              have H2 := hid (show numE l = 0 from by simp [numE, h0])
              clear hD
              go_wp2_with fail
              refine (text_Decimal v _ (by omega) (by omega)).mono ?_
              rintro e w1 ⟨rfl, hb⟩
              go_wp2
              go_ret2
              exact ⟨by rw [H1.out, H2.out]; rfl, hb⟩
            · have he' : (decI v == l) = false := by simpa using he
              have h0 : isNum l = false := by unfold isNum; rw [← hv.out, he']; simp
              have H1 := hid (show numI l = 0 from by simp [numI, h0])
              have H2 := hid (show numE l = 2 from by simp [numE, h0])
              clear hD
              go_wp2_with fail
              refine (text_Decimal v _ (by omega) (by omega)).mono ?_
              rintro e w1 ⟨rfl, hb⟩
              go_wp2
              go_ret2
              exact ⟨by rw [H1.out, H2.out]; rfl, hb⟩

end Go.Proofs.YtecekflooihkoaaGreatDoor
