/- Walks of package drive: deed. -/
import Derived.Test.YtioillenlgpcgaaDrive2
set_option linter.unusedVariables false
set_option linter.unusedSimpArgs false
set_option maxHeartbeats 800000
set_option maxRecDepth 100000
namespace Go.Proofs.Ytioillenlgpcgaa
open Go.RowKit

theorem deed_no {w : World} {g : Nat} {d : Dr} {fp : Nat → Prop} (h : IsDrive w g d fp) (e : Int) (hne : (d.may e).2 ≠ 0) (F : FuncId) (caps : Array Value) :
    Calls Try.prog 29 #[.pointer (some ⟨g, 0, none⟩), .int .i64 e, .func (.func F) #[] caps] w fun x w' => x = .returned (.int .i64 (d.may e).2) ∧ IsDrive w' g (d.may e).1 fp ∧ Touch w w' fp fp := by
  obtain ⟨mb, aft, rs, hb, ha, hf, hd⟩ := h.has
  have c4 := hb.cell 4
  have c5 := hb.cell 5
  have c6 := hb.cell 6
  simp [driveCells] at c4 c5 c6
  have f4 := hb.frozen 4
  have f5 := hb.frozen 5
  have H := hid h
  have HB := hid hb
  have HD := hid hd
  have HA := hid ha
  clear h hb ha hd
  cases hdn : d.down with
  | true =>
    have E := hid (show d.may e = (d, 13) by simp [Dr.may, hdn])
    rw [hdn] at c4
    clear hdn hne
    go_enter Try.func29, Try.ntmps29
    go_wp2
    go_ret
    exact ⟨by rw [E.out]; rfl, by rw [E.out]; exact H.out, Touch.refl _ _⟩
  | false =>
    rw [hdn] at c4
    by_cases he : e = 0
    · by_cases hl : d.left = 0
      · have E := hid (show d.may e = ({ d with down := true, left := -1 }, 13) by simp [Dr.may, hdn, he, hl])
        rw [hl] at c5
        have A := HA.out (by omega)
        rw [hl] at A
        subst A
        subst he
        simp at c5
        clear hdn hne hl
        go_enter Try.func29, Try.ntmps29
        go_wp2
        go_ret
        refine ⟨by rw [E.out]; rfl, ?_, (Touch.setCell _ _ H.out.own _).trans (Touch.setCell _ _ H.out.own _)⟩
        rw [E.out]
        refine IsDrive.mk' (aft := 0) H.out HB.out hf (by simp [set_size]) (fun k hk => (set_other _ _ _ _ k hk).trans (set_other _ _ _ _ k hk)) ?_ (fun h => absurd h (by simp)) HD.out
        exact (HB.out.set_ 4 (.bool true)).set_ 5 (.bool false)
      · exfalso
        apply hne
        simp [Dr.may, hdn, he, hl]
    · have E := hid (show d.may e = (d, e) by simp [Dr.may, hdn, he])
      have k0 : (e == 0) = false := by simpa using he
      clear hdn hne he
      go_enter Try.func29, Try.ntmps29
      go_wp2
      go_ret
      exact ⟨by rw [E.out]; rfl, by rw [E.out]; exact H.out, Touch.refl _ _⟩

theorem may_drive {w : World} {g mb : Nat} {d : Dr} {fp : Nat → Prop} {aft : Int} {rs : List (Key × FileR)} (H : IsDrive w g d fp) (HB : Blk w g 60 (driveCells d mb aft)) (hf : HasFiles w fp mb rs) (HD : d.files = kmap FileR.f rs)
    (HA : 0 ≤ d.left → aft = d.left) (hlm : d.left ≤ 9223372036854775807) (hl0 : d.left ≠ 0) :
    IsDrive ((w.setCell ⟨g, 6, none⟩ (.int .i64 (wrap64 (aft - 1)))).setCell ⟨g, 3, none⟩ (.int .i64 (wrap64 (d.deeds + 1)))) g { d with left := if 0 ≤ d.left then d.left - 1 else -1, deeds := wrap1 d.deeds } fp := by
  refine IsDrive.mk' (aft := wrap64 (aft - 1)) H HB hf (by simp [set_size]) (fun k hk => (set_other _ _ _ _ k hk).trans (set_other _ _ _ _ k hk)) ?_ ?_ HD
  · have h1 := (HB.set_ 6 (.int .i64 (wrap64 (aft - 1)))).set_ 3 (.int .i64 (wrap64 (d.deeds + 1)))
    have e2 : driveCells { d with left := if 0 ≤ d.left then d.left - 1 else -1, deeds := wrap1 d.deeds } mb (wrap64 (aft - 1)) = ((driveCells d mb aft).setIfInBounds 6 (.int .i64 (wrap64 (aft - 1)))).setIfInBounds 3 (.int .i64 (wrap64 (d.deeds + 1))) := by
      have e3 : decide (0 ≤ if 0 ≤ d.left then d.left - 1 else -1) = decide (0 ≤ d.left) := by
        rw [Bool.eq_iff_iff, decide_eq_true_eq, decide_eq_true_eq]
        split <;> omega
      unfold driveCells
      rw [e3]
      rfl
    rw [e2]; exact h1
  · intro h
    by_cases hl : 0 ≤ d.left
    · have h1 := HA hl
      show wrap64 (aft - 1) = if 0 ≤ d.left then d.left - 1 else -1
      rw [if_pos hl, h1]
      unfold wrap64
      omega
    · have h2 : (0 : Int) ≤ if 0 ≤ d.left then d.left - 1 else -1 := h
      rw [if_neg hl] at h2
      omega

theorem deed_do {w : World} {g : Nat} {d : Dr} {fp : Nat → Prop} (h : IsDrive w g d fp) (hlm : d.left ≤ 9223372036854775807) (hdo : (d.may 0).2 = 0) (F : FuncId) (caps : Array Value) (hcf : ∀ W, (callFunc F caps).run Try.prog W = .ok (.enter F caps) W) (R : World → Prop)
    (hF : ∀ w1, IsDrive w1 g (d.may 0).1 fp → Touch w w1 fp fp → Calls Try.prog F caps w1 fun x w2 => x = .returned (.tuple #[]) ∧ R w2) :
    Calls Try.prog 29 #[.pointer (some ⟨g, 0, none⟩), .int .i64 0, .func (.func F) #[] caps] w fun x w' => x = .returned (.int .i64 0) ∧ R w' := by
  obtain ⟨mb, aft, rs, hb, ha, hf, hd⟩ := h.has
  have c3 := hb.cell 3
  have c4 := hb.cell 4
  have c5 := hb.cell 5
  have c6 := hb.cell 6
  simp [driveCells] at c3 c4 c5 c6
  have f3 := hb.frozen 3
  have f6 := hb.frozen 6
  have hdn : d.down = false := by
    cases hx : d.down with
    | false => rfl
    | true => simp [Dr.may, hx] at hdo
  have hl0 : d.left ≠ 0 := by
    intro hx
    simp [Dr.may, hdn, hx] at hdo
  have E := hid (show d.may 0 = ({ d with left := if 0 ≤ d.left then d.left - 1 else -1, deeds := wrap1 d.deeds }, 0) by simp [Dr.may, hdn, hl0])
  have H := hid h
  have HB := hid hb
  have HD := hid hd
  have HA := hid ha
  have HF := hid hF
  rw [hdn] at c4
  clear h hb ha hd hdo hF hdn
  have M := hid (may_drive H.out HB.out hf HD.out HA.out hlm hl0)
  by_cases hl : 0 ≤ d.left
  · have A := HA.out hl
    have k1 : (aft == 0) = false := by rw [A]; simpa using hl0
    have k2 : decide (0 ≤ d.left) = true := decide_eq_true hl
    rw [k2] at c5
    clear A k2 hl0
    go_enter Try.func29, Try.ntmps29
    go_wp2_with fail
    refine (HF.out _ (by rw [E.out]; exact M.out) ((Touch.setCell _ _ H.out.own _).trans (Touch.setCell _ _ H.out.own _))).mono ?_
    rintro x w2 ⟨rfl, hR⟩
    go_wp2
    go_ret
    exact ⟨rfl, hR⟩
  · have k2 : decide (0 ≤ d.left) = false := decide_eq_false hl
    rw [k2] at c5
    clear k2 hl0
    go_enter Try.func29, Try.ntmps29
    go_wp2_with fail
    refine (HF.out _ (by rw [E.out]; exact M.out) ((Touch.setCell _ _ H.out.own _).trans (Touch.setCell _ _ H.out.own _))).mono ?_
    rintro x w2 ⟨rfl, hR⟩
    go_wp2
    go_ret
    exact ⟨rfl, hR⟩
end Go.Proofs.Ytioillenlgpcgaa
