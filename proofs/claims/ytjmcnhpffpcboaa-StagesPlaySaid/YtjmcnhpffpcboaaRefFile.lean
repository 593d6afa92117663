/- pantileref19.File tells what Open does. -/
import Derived.Test.YtjmcnhpffpcboaaStages2
set_option linter.unusedVariables false
set_option linter.unusedSimpArgs false
set_option maxHeartbeats 1600000
set_option maxRecDepth 100000
namespace Go.Proofs.Ytjmcnhpffpcboaa
open Go.RowKit

theorem isNum_one {l : List UInt8} (h : isNum l = true) (h1 : 1 ≤ valI l) (h5 : valI l ≤ 5) : ∃ c : UInt8, l = [c] ∧ 49 ≤ c.toNat ∧ c.toNat ≤ 53 ∧ valI l = c.toNat - 48 := by
  obtain ⟨h2, h3, h4, h6⟩ := isNum_true h
  rw [decN_small (by omega)] at h6
  refine ⟨dig (valI l).toNat, h6.symm, ?_, ?_, ?_⟩
  · rw [dig_toNat _ (by omega)]; omega
  · rw [dig_toNat _ (by omega)]; omega
  · rw [dig_toNat _ (by omega)]; omega
theorem isNum_digit (c : UInt8) (h1 : 49 ≤ c.toNat) (h5 : c.toNat ≤ 53) : isNum [c] = true ∧ valI [c] = c.toNat - 48 := by
  have hv : valI [c] = c.toNat - 48 := by simp [valI]
  refine ⟨isNum_mk (by simp) (by simp) (fun x hx => ?_) (fun _ => rfl) (by rw [hv]; omega), hv⟩
  simp at hx
  subst hx
  exact ⟨by omega, by omega⟩
/-- What a file of a stage is. -/
theorem fileN_two (a b : UInt8) : fileN [a, b] = if b.toNat ≠ 10 ∨ a.toNat < 49 ∨ 53 < a.toNat then 0 else (a.toNat : Int) - 48 := by
  by_cases hb : b = 10
  · subst hb
    have hc : cutS [a, 10] = ([a], true) := by simp [cutS]
    unfold fileN
    rw [hc]
    by_cases ha : 49 ≤ a.toNat ∧ a.toNat ≤ 53
    · obtain ⟨h1, h2⟩ := isNum_digit a ha.1 ha.2
      have hn : numI [a] = a.toNat - 48 := by simp [numI, h1, h2]
      have he : numE [a] = 0 := by simp [numE, h1]
      rw [hn, he, if_pos ⟨rfl, rfl, by omega, by omega⟩, if_neg (by simp; omega)]
    · rw [if_neg, if_pos (by simp; omega)]
      rintro ⟨-, h2, h3, h4⟩
      have hi : isNum [a] = true := by
        cases hi : isNum [a] with
        | true => rfl
        | false => simp [numE, hi] at h2
      simp only [numI, hi, if_true] at h3 h4
      obtain ⟨c, hc, h5, h6, _⟩ := isNum_one hi h3 h4
      injection hc with hc _
      subst hc
      exact ha ⟨h5, h6⟩
  · have hc : cutS [a, b] = ([a, b], false) := by simp [cutS, hb]
    unfold fileN
    rw [hc, if_neg (by simp), if_pos]
    refine .inl fun h => hb ?_
    exact UInt8.toNat_inj.1 (by simpa using h)
theorem fileN_other (l : List UInt8) (h : l.length ≠ 2) : fileN l = 0 := by
  unfold fileN
  split
  · rename_i hg
    obtain ⟨h1, h2, h3, h4⟩ := hg
    exfalso
    have hi : isNum (cutS l).1 = true := by
      cases hi : isNum (cutS l).1 with
      | true => rfl
      | false => simp [numE, hi] at h2
    simp only [numI, hi, if_true] at h3 h4
    obtain ⟨c, hc, -⟩ := isNum_one hi h3 h4
    unfold cutS at h1 hc
    split at h1
    · rename_i hl
      rw [if_pos hl] at hc
      have : l.length = 2 := by
        have h5 := congrArg List.length hc
        simp at h5
        have : l ≠ [] := by rintro rfl; simp at hl
        have := List.length_pos_iff.2 this
        omega
      exact h this
    · cases h1
  · rfl

theorem ref19_File (l : List UInt8) (w : World) : Calls Try.prog 33 #[.string (S l)] w fun e w' => e = .returned (.int .i64 (fileN l)) ∧ w' = w := by
  by_cases h2 : l.length = 2
  · match l, h2 with
    | [a, b], _ =>
      have H := hid (fileN_two a b)
      have ha := a.toNat_lt
      have hb := b.toNat_lt
      by_cases q1 : b.toNat = 10
      · by_cases q2 : a.toNat < 49
        · have H2 := hid (show fileN [a, b] = 0 by rw [H.out, if_pos (.inr (.inl q2))])
          clear H
          go_enter Try.func33, Try.ntmps33
          go_wp2
          go_ret
          exact ⟨by rw [H2.out]; rfl, rfl⟩
        · by_cases q3 : 53 < a.toNat
          · have H2 := hid (show fileN [a, b] = 0 by rw [H.out, if_pos (.inr (.inr q3))])
            clear H
            go_enter Try.func33, Try.ntmps33
            go_wp2
            go_ret
            exact ⟨by rw [H2.out]; rfl, rfl⟩
          · have H2 := hid (show fileN [a, b] = (a.toNat : Int) - 48 by rw [H.out, if_neg (by omega)])
            clear H
            go_enter Try.func33, Try.ntmps33
            go_wp2
            go_ret
            exact ⟨by rw [H2.out]; rfl, rfl⟩
      · have H2 := hid (show fileN [a, b] = 0 by rw [H.out, if_pos (.inl q1)])
        clear H
        go_enter Try.func33, Try.ntmps33
        go_wp2
        go_ret
        exact ⟨by rw [H2.out]; rfl, rfl⟩
  · have H := hid (fileN_other l h2)
    have q : ((l.length : Int) == 2) = false := by
      rw [beq_eq_false_iff_ne]; omega
    have q' : ¬ (l.length : Int) = 2 := by omega
    clear h2
    go_enter Try.func33, Try.ntmps33
    go_wp2
    go_ret
    exact ⟨by rw [H.out]; rfl, rfl⟩
end Go.Proofs.Ytjmcnhpffpcboaa
