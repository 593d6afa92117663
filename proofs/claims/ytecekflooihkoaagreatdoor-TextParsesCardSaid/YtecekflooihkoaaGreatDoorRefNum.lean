/- Walks of package pantileref07: Number. -/
import Derived.Test.YtecekflooihkoaaGreatDoorText
import Derived.Test.YtecekflooihkoaaGreatDoorPlain
set_option linter.unusedVariables false
set_option linter.unusedSimpArgs false
set_option maxHeartbeats 800000
set_option maxRecDepth 100000
namespace Go.Proofs.YtecekflooihkoaaGreatDoor
open Go.RowKit

def RefNumPost (l : List UInt8) (w : World) (e : Ending) (w' : World) : Prop := e = .returned (.tuple #[.int .i64 (numI l), .bool (isNum l)]) ∧ w' = w
theorem refNum_no {l : List UInt8} {w : World} (h : isNum l = false) : RefNumPost l w (.returned (.tuple #[.int .i64 0, .bool false])) w := ⟨by simp [numI, h], rfl⟩

theorem ref07_Number_loop (l : List UInt8) (w : World) (hp : 0 < l.length) (hl : ¬ 16 < l.length) (hz : l[0]? = some 48 → l.length = 1) : Calls Tryz.prog 36 #[.string (S l)] w (RefNumPost l w) := by
  have k0 : ((l.length : Int) == 0) = false := beq_eq_false_iff_ne.2 (by omega)
  have HZ := hid hz
  clear hz
  by_cases h48 : ((l[0].toNat : Int) == 48) = true
  · have h1 : ¬ (1 : Int) < l.length := by
      have h2 : l[0].toNat = 48 := by have := beq_iff_eq.1 h48; omega
      have h3 : l.length = 1 := HZ.out (by rw [List.getElem?_eq_getElem hp]; congr 1; apply UInt8.toNat_inj.1; rw [h2]; rfl)
      omega
    go_enter Tryz.func36, Tryz.ntmps36
    go_wp2
    go_loop [4, 5] (fun n i => ∃ (k : Nat) (v : Int), k ≤ l.length ∧ i = .int .i64 k ∧ n = .int .i64 v ∧ Hid (v = valI (l.take k)) ∧ Hid (∀ j, (h : j < l.length) → j < k → IsDig l[j])) (fun _ i => l.length - (intOf i).toNat)
    case atStart => exact ⟨0, 0, Nat.zero_le _, rfl, rfl, rfl, fun j _ h => absurd h (by omega)⟩
    case round =>
      obtain ⟨k, v, hk, rfl, rfl, hv, hd⟩ := hrel
      by_cases hlt : k < l.length
      · have hb := valI_bound' (l.take k) (by simp; omega)
        rw [← hv.out] at hb
        obtain ⟨b1, b2⟩ := hb
        have hc := l[k].toNat_lt
        have hc' : (l[k].toNat : Int) < 256 := by omega
        by_cases h1 : (l[k].toNat : Int) < 48
        · have H := hid (refNum_no (l := l) (w := w) (isNum_odd hlt (by unfold IsDig; omega)))
          go_wp2
          go_ret2
          exact H.out
        · by_cases h2 : (57 : Int) < l[k].toNat
          · have H := hid (refNum_no (l := l) (w := w) (isNum_odd hlt (by unfold IsDig; omega)))
            go_wp2
            go_ret2
            exact H.out
          · have hs := hid (show 10 * v + ((l[k].toNat : Int) - 48) = valI (l.take (k + 1)) by rw [valI_take l k hlt, ← hv.out]; omega)
            have hd' := hid (show ∀ j, (h : j < l.length) → j < k + 1 → IsDig l[j] from fun j h hj => by
              rcases Nat.lt_or_ge j k with h3 | h3
              · exact hd.out j h h3
              · obtain rfl : j = k := by omega
                unfold IsDig; omega)
            go_wp2
            go_round
            case rel => exact ⟨k + 1, _, by omega, by go_num, rfl, hs, hd'⟩
            case measure => simp [intOf]; omega
      · have hk' : k = l.length := by omega
        subst hk'
        rw [List.take_length] at hv
        by_cases hg : 9007199254740992 < v
        · have H := hid (refNum_no (l := l) (w := w) (isNum_big (by rw [← hv.out]; exact hg)))
          go_wp2
          go_ret2
          exact H.out
        · have h0 : isNum l = true := isNum_mk (by omega) (List.length_pos_iff.1 hp) (fun c hc => by
            obtain ⟨j, hj, rfl⟩ := List.mem_iff_getElem.1 hc
            exact hd.out j hj hj) HZ.out (by rw [← hv.out]; omega)
          have H := hid (show RefNumPost l w (.returned (.tuple #[.int .i64 v, .bool true])) w from ⟨by simp [numI, h0, hv.out], rfl⟩)
          clear h0
          go_wp2
          go_ret2
          exact H.out
  · have h48' : ((l[0].toNat : Int) == 48) = false := by cases h : ((l[0].toNat : Int) == 48) with | false => rfl | true => exact absurd h h48
    clear h48
    go_enter Tryz.func36, Tryz.ntmps36
    go_wp2
    go_loop [4, 5] (fun n i => ∃ (k : Nat) (v : Int), k ≤ l.length ∧ i = .int .i64 k ∧ n = .int .i64 v ∧ Hid (v = valI (l.take k)) ∧ Hid (∀ j, (h : j < l.length) → j < k → IsDig l[j])) (fun _ i => l.length - (intOf i).toNat)
    case atStart => exact ⟨0, 0, Nat.zero_le _, rfl, rfl, rfl, fun j _ h => absurd h (by omega)⟩
    case round =>
      obtain ⟨k, v, hk, rfl, rfl, hv, hd⟩ := hrel
      by_cases hlt : k < l.length
      · have hb := valI_bound' (l.take k) (by simp; omega)
        rw [← hv.out] at hb
        obtain ⟨b1, b2⟩ := hb
        have hc := l[k].toNat_lt
        have hc' : (l[k].toNat : Int) < 256 := by omega
        by_cases h1 : (l[k].toNat : Int) < 48
        · have H := hid (refNum_no (l := l) (w := w) (isNum_odd hlt (by unfold IsDig; omega)))
          go_wp2
          go_ret2
          exact H.out
        · by_cases h2 : (57 : Int) < l[k].toNat
          · have H := hid (refNum_no (l := l) (w := w) (isNum_odd hlt (by unfold IsDig; omega)))
            go_wp2
            go_ret2
            exact H.out
          · have hs := hid (show 10 * v + ((l[k].toNat : Int) - 48) = valI (l.take (k + 1)) by rw [valI_take l k hlt, ← hv.out]; omega)
            have hd' := hid (show ∀ j, (h : j < l.length) → j < k + 1 → IsDig l[j] from fun j h hj => by
              rcases Nat.lt_or_ge j k with h3 | h3
              · exact hd.out j h h3
              · obtain rfl : j = k := by omega
                unfold IsDig; omega)
            go_wp2
            go_round
            case rel => exact ⟨k + 1, _, by omega, by go_num, rfl, hs, hd'⟩
            case measure => simp [intOf]; omega
      · have hk' : k = l.length := by omega
        subst hk'
        rw [List.take_length] at hv
        by_cases hg : 9007199254740992 < v
        · have H := hid (refNum_no (l := l) (w := w) (isNum_big (by rw [← hv.out]; exact hg)))
          go_wp2
          go_ret2
          exact H.out
        · have h0 : isNum l = true := isNum_mk (by omega) (List.length_pos_iff.1 hp) (fun c hc => by
            obtain ⟨j, hj, rfl⟩ := List.mem_iff_getElem.1 hc
            exact hd.out j hj hj) HZ.out (by rw [← hv.out]; omega)
          have H := hid (show RefNumPost l w (.returned (.tuple #[.int .i64 v, .bool true])) w from ⟨by simp [numI, h0, hv.out], rfl⟩)
          clear h0
          go_wp2
          go_ret2
          exact H.out

theorem ref07_Number (l : List UInt8) (w : World) : Calls Tryz.prog 36 #[.string (S l)] w (RefNumPost l w) := by
  by_cases h0 : l = []
  · have H := hid (refNum_no (l := l) (w := w) (by rw [h0]; exact isNum_nil))
    subst h0
    go_enter Tryz.func36, Tryz.ntmps36
    go_wp2
    go_ret2
    exact H.out
  · have hp : 0 < l.length := List.length_pos_iff.2 h0
    by_cases hl : 16 < l.length
    · have H := hid (refNum_no (l := l) (w := w) (isNum_long hl))
      have k0 : ((l.length : Int) == 0) = false := beq_eq_false_iff_ne.2 (by omega)
      go_enter Tryz.func36, Tryz.ntmps36
      go_wp2
      go_ret2
      exact H.out
    · by_cases hz : l[0]? = some 48 ∧ 1 < l.length
      · have H := hid (refNum_no (l := l) (w := w) (isNum_zero hz.1 hz.2))
        have k0 : ((l.length : Int) == 0) = false := beq_eq_false_iff_ne.2 (by omega)
        have k1 : ((l[0].toNat : Int) == 48) = true := by
          have := hz.1
          rw [List.getElem?_eq_getElem hp] at this
          injection this with this
          rw [this]; rfl
        have k2 : (1 : Int) < l.length := by omega
        clear hz
        go_enter Tryz.func36, Tryz.ntmps36
        go_wp2
        go_ret2
        exact H.out
      · exact ref07_Number_loop l w hp hl (fun h => by
          rcases Nat.lt_or_ge 1 l.length with h1 | h1
          · exact absurd ⟨h, h1⟩ hz
          · omega)
end Go.Proofs.YtecekflooihkoaaGreatDoor
