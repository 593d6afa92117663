/- A journal's drive without power cuts, in plain Lean. -/
import Derived.Test.YtjmcnhpffpcboaaStages4
import Derived.Test.YtjmcnhpffpcboaaRefFile
set_option linter.unusedVariables false
set_option linter.unusedSimpArgs false
set_option maxRecDepth 100000
namespace Go.Proofs.Ytjmcnhpffpcboaa
open Go.RowKit

def stF (a : Nat) : List (Key × File) := if a = 1 then [] else [(stageK, ⟨[dig a, 10], []⟩)]
def tmF (t : Bool) : List (Key × File) := if t then [(tempK, ⟨[], []⟩)] else []
/-- The drive of a journal of stage a, whose power never went. -/
def Jd (q : Int) (a : Nat) (d : Dr) : Prop := 1 ≤ a ∧ a ≤ 5 ∧ ∃ t dd, d = ⟨stF a ++ tmF t, q, dd, false, -1⟩
theorem Jd.new (q : Int) : Jd q 1 (Dr.new q) := ⟨by omega, by omega, false, 0, rfl⟩
theorem Jd.open_ {q : Int} {a : Nat} {d : Dr} (h : Jd q a d) : openR d = ((a : Int), 0) := by
  obtain ⟨h1, h5, t, dd, rfl⟩ := h
  by_cases ha : a = 1
  · subst ha
    cases t <;> rfl
  · have e : stF a = [(stageK, ⟨[dig a, 10], []⟩)] := by unfold stF; rw [if_neg ha]
    rw [e]
    have r0 : (⟨[(stageK, ⟨[dig a, 10], []⟩)] ++ tmF t, q, dd, false, -1⟩ : Dr).readE stageK = 0 := by cases t <;> rfl
    have r1 : (⟨[(stageK, ⟨[dig a, 10], []⟩)] ++ tmF t, q, dd, false, -1⟩ : Dr).read stageK = [dig a, 10] := by cases t <;> rfl
    have hf : fileN [dig a, 10] = a := by
      rw [fileN_two, dig_toNat a (by omega), if_neg]
      · omega
      · rintro (h | h | h)
        · exact h rfl
        · omega
        · omega
    unfold openR
    rw [r0, r1, hf]
    simp
    omega

theorem moveC_jd (q dd : Int) (a : Nat) (h1 : 1 ≤ a) (h4 : a ≤ 4) (t : Bool) : ∃ dd', moveC ⟨stF a ++ tmF t, q, dd, false, -1⟩ = (⟨stF a ++ tmF true, q, dd', false, -1⟩, 0) := by
  rcases (show a = 1 ∨ a = 2 ∨ a = 3 ∨ a = 4 by omega) with rfl | rfl | rfl | rfl <;> cases t <;> exact ⟨_, rfl⟩
theorem used_jd (q dd : Int) (a : Nat) (h1 : 1 ≤ a) : (⟨stF a ++ tmF true, q, dd, false, -1⟩ : Dr).used = if a = 1 then 0 else 2 := by
  by_cases ha : a = 1
  · subst ha; rfl
  · unfold stF
    rw [if_neg ha, if_neg ha]
    rfl
/-- A move that may be. -/
theorem move_jd {q : Int} {a : Nat} {d : Dr} (h : Jd q a d) (n : Int) (hm : mayB a n = true) :
    if (if a = 1 then (2 : Int) else 4) ≤ q then (moveR d a n).2 = 0 ∧ Jd q n.toNat (moveR d a n).1 ∧ n = n.toNat else (moveR d a n).2 = 12 ∧ Jd q a (moveR d a n).1 := by
  obtain ⟨h1, h5, t, dd, rfl⟩ := h
  have hc : (a = 1 ∧ n = 2) ∨ (a = 2 ∧ n = 3) ∨ (a = 3 ∧ n = 2) ∨ (a = 3 ∧ n = 4) ∨ (a = 4 ∧ n = 5) := by
    unfold mayB at hm
    simp at hm
    omega
  have h4 : a ≤ 4 := by omega
  obtain ⟨dd', hC⟩ := moveC_jd q dd a h1 h4 t
  have hR : moveR ⟨stF a ++ tmF t, q, dd, false, -1⟩ a n = moveD ⟨stF a ++ tmF t, q, dd, false, -1⟩ n := by unfold moveR; rw [hm]; rfl
  have hn : decI n = [dig n.toNat] := by
    have e : n = ((n.toNat : Nat) : Int) := by omega
    unfold decI
    rw [if_neg (by omega), decN_small (by omega)]
    congr 2
    omega
  have hA : moveA ⟨stF a ++ tmF t, q, dd, false, -1⟩ n = (⟨stF a ++ tmF true, q, dd', false, -1⟩ : Dr).append tempK [dig n.toNat, 10] := by
    unfold moveA
    rw [hC, if_pos rfl, hn]
    rfl
  have hu := used_jd q dd' a h1
  have hth : (⟨stF a ++ tmF true, q, dd', false, -1⟩ : Dr).thereE tempK = 0 := by
    rcases (show a = 1 ∨ a = 2 ∨ a = 3 ∨ a = 4 by omega) with rfl | rfl | rfl | rfl <;> rfl
  rw [hR]
  by_cases hq : (if a = 1 then (2 : Int) else 4) ≤ q
  · rw [if_pos hq]
    have hE : (⟨stF a ++ tmF true, q, dd', false, -1⟩ : Dr).appendE tempK 2 = 0 := by
      unfold Dr.appendE
      rw [if_neg, hth]
      rintro ⟨-, hx⟩
      rw [hu] at hx
      simp only at hx
      split at hq <;> split at hx <;> omega
    have hA2 : moveA ⟨stF a ++ tmF t, q, dd, false, -1⟩ n = ((⟨stF a ++ tmF true, q, dd', false, -1⟩ : Dr).deed 0 fun d => { d with files := kset d.files tempK ⟨(fileOf d tempK).safe, (fileOf d tempK).pieces ++ [[dig n.toNat, 10]]⟩ }) := by
      rw [hA]
      show Dr.deed _ ((⟨stF a ++ tmF true, q, dd', false, -1⟩ : Dr).appendE tempK 2) _ = _
      rw [hE]
    unfold moveD moveS
    rw [hA2]
    rcases hc with ⟨rfl, rfl⟩ | ⟨rfl, rfl⟩ | ⟨rfl, rfl⟩ | ⟨rfl, rfl⟩ | ⟨rfl, rfl⟩ <;> exact ⟨rfl, ⟨by omega, by omega, false, _, rfl⟩, rfl⟩
  · rw [if_neg hq]
    have hE : (⟨stF a ++ tmF true, q, dd', false, -1⟩ : Dr).appendE tempK 2 = 12 := by
      unfold Dr.appendE
      rw [if_pos]
      refine ⟨hth, ?_⟩
      rw [hu]
      simp only
      split at hq <;> split <;> omega
    have hA2 : moveA ⟨stF a ++ tmF t, q, dd, false, -1⟩ n = (⟨stF a ++ tmF true, q, dd', false, -1⟩, 12) := by
      rw [hA]
      show Dr.deed _ ((⟨stF a ++ tmF true, q, dd', false, -1⟩ : Dr).appendE tempK 2) _ = _
      rw [hE]
      rfl
    unfold moveD moveS
    rw [hA2]
    exact ⟨rfl, h1, h5, true, dd', rfl⟩
theorem move_jd_no {q : Int} {a : Nat} {d : Dr} (h : Jd q a d) (n : Int) (hm : mayB a n = false) : moveR d a n = (d, 16) := by
  obtain ⟨h1, h5, t, dd, rfl⟩ := h
  unfold moveR
  rw [hm]
  rfl
end Go.Proofs.Ytjmcnhpffpcboaa
