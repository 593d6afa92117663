/- A journal's drive with power cuts, in plain Lean. A journal's drive with power cuts, in memory. -/
import Derived.Test.YtjmcnhpffpcboaaJPlain
import Derived.Test.YtjmcnhpffpcboaaUpMem
import Derived.Test.YtjmcnhpffpcboaaJMem
import Derived.Test.YtjmcnhpffpcboaaUp
set_option linter.unusedVariables false
set_option linter.unusedSimpArgs false
set_option maxRecDepth 100000
namespace Go.Proofs.Ytjmcnhpffpcboaa
open Go.RowKit

theorem deed_step {d : Dr} (hd : d.down = false) (f : Dr → Dr) : ((d.deed 0 f).2 = 13 ∧ (d.deed 0 f).1.down = true ∧ (d.deed 0 f).1.files = d.files ∧ (d.deed 0 f).1.quota = d.quota) ∨
    ∃ d1 : Dr, d1.files = d.files ∧ d1.quota = d.quota ∧ d1.down = false ∧ d.deed 0 f = (f d1, 0) := by
  by_cases hl : d.left = 0
  · left
    have : d.may 0 = ({ d with down := true, left := -1 }, 13) := by unfold Dr.may; simp [hd, hl]
    unfold Dr.deed
    rw [this]
    simp
  · right
    have : d.may 0 = ({ d with left := if 0 ≤ d.left then d.left - 1 else -1, deeds := wrap1 d.deeds }, 0) := by unfold Dr.may; simp [hd, hl]
    refine ⟨(d.may 0).1, ?_, ?_, ?_, ?_⟩
    · rw [this]
    · rw [this]
    · rw [this]; exact hd
    · unfold Dr.deed
      rw [this]
      simp
theorem deed_err {d : Dr} (hd : d.down = false) (f : Dr → Dr) {e : Int} (he : e ≠ 0) : d.deed e f = (d, e) := by
  have : d.may e = (d, e) := by unfold Dr.may; simp [hd, he]
  unfold Dr.deed
  rw [this]
  simp [he]

def tmG : Option File → List (Key × File)
  | none => []
  | some f => [(tempK, f)]
/-- The drive of a journal of stage a, whatever went. -/
def JP (a : Nat) (d : Dr) : Prop := 1 ≤ a ∧ a ≤ 5 ∧ d.quota = 1000 ∧ ∃ t, d.files = stF a ++ tmG t ∧ ∀ f, t = some f → f.all.length ≤ 2
theorem JP.new : JP 1 (Dr.new 1000) := ⟨by omega, by omega, rfl, none, rfl, fun f h => by cases h⟩
theorem JP.of {a : Nat} {d d' : Dr} (h : JP a d) (hf : d'.files = d.files) (hq : d'.quota = d.quota) : JP a d' := by
  obtain ⟨h1, h5, h6, t, h7, h8⟩ := h
  exact ⟨h1, h5, hq.trans h6, t, hf.trans h7, h8⟩
theorem JP.arm {a : Nat} {d : Dr} (h : JP a d) (n : Int) : JP a (d.arm n) := h.of rfl rfl
theorem JP.up {a : Nat} {d : Dr} (h : JP a d) (keep : List Int) : JP a (d.up keep) := by
  unfold Dr.up
  split
  · obtain ⟨h1, h5, h6, t, h7, h8⟩ := h
    have hs : ∀ i, upF keep i (stF a ++ tmG t) = stF a ++ upF keep i (tmG t) := by
      intro i
      unfold stF
      split
      · rfl
      · rfl
    refine ⟨h1, h5, h6, ?_⟩
    show ∃ t', upF keep 0 d.files = stF a ++ tmG t' ∧ _
    rw [h7, hs]
    cases t with
    | none => exact ⟨none, rfl, fun f h => by cases h⟩
    | some f =>
      by_cases hp : f.pieces = []
      · refine ⟨some f, ?_, h8⟩
        congr 1
        show (if f.pieces = [] then _ else _) = _
        rw [if_pos hp]
        rfl
      · refine ⟨some (cutF keep 0 f), ?_, fun g hg => ?_⟩
        · congr 1
          show (if f.pieces = [] then _ else _) = _
          rw [if_neg hp]
          rfl
        · injection hg with hg
          subst hg
          exact Nat.le_trans (cutF_le keep 0 f) (h8 f rfl)
  · exact h.of rfl rfl
theorem JP.open_ {a : Nat} {d : Dr} (h : JP a d) (hd : d.down = false) : openR d = ((a : Int), 0) := by
  obtain ⟨h1, h5, h6, t, h7, h8⟩ := h
  by_cases ha : a = 1
  · subst ha
    have r0 : d.readE stageK = 10 := by
      unfold Dr.readE Dr.thereE
      rw [hd, h7]
      cases t <;> rfl
    unfold openR
    rw [if_pos r0]
    rfl
  · have e : stF a = [(stageK, ⟨[dig a, 10], []⟩)] := by unfold stF; rw [if_neg ha]
    have r0 : d.readE stageK = 0 := by
      unfold Dr.readE Dr.thereE
      rw [hd, h7, e]
      cases t <;> rfl
    have r1 : d.read stageK = [dig a, 10] := by
      unfold Dr.read fileOf
      rw [r0, h7, e]
      cases t <;> rfl
    have hf : fileN [dig a, 10] = a := by
      rw [fileN_two, dig_toNat a (by omega), if_neg]
      · omega
      · rintro (h | h | h)
        · exact h rfl
        · omega
        · omega
    unfold openR
    rw [r0, r1, hf]
    simp
    omega
def Dead (a : Nat) (r : Dr × Int) : Prop := r.2 = 13 ∧ JP a r.1 ∧ r.1.down = true
def Live (fs : List (Key × File)) (r : Dr × Int) : Prop := r.2 = 0 ∧ r.1.down = false ∧ r.1.quota = 1000 ∧ r.1.files = fs
theorem JP.dead {a : Nat} {d : Dr} (h : JP a d) {r : Dr × Int} (h1 : r.2 = 13) (h2 : r.1.down = true) (h3 : r.1.files = d.files) (h4 : r.1.quota = d.quota) : Dead a r := ⟨h1, h.of h3 h4, h2⟩

theorem create_step {a : Nat} {d : Dr} (h1 : 1 ≤ a) (h4 : a ≤ 4) (hd : d.down = false) (hq : d.quota = 1000) (hf : d.files = stF a) : Dead a (d.create tempK) ∨ Live (stF a ++ tmF true) (d.create tempK) := by
  have e0 : d.createE tempK = 0 := by
    unfold Dr.createE
    rw [hf]
    rcases (show a = 1 ∨ a = 2 ∨ a = 3 ∨ a = 4 by omega) with rfl | rfl | rfl | rfl <;> rfl
  have hj : JP a d := ⟨h1, by omega, hq, none, by rw [hf]; simp [tmG], fun f h => by cases h⟩
  unfold Dr.create
  rw [e0]
  rcases deed_step hd (fun d => { d with files := kput d.files tempK ⟨[], []⟩ }) with ⟨k1, k2, k3, k5⟩ | ⟨d1, k1, k2, k3, k5⟩
  · exact .inl (hj.dead k1 k2 k3 k5)
  · rw [k5]
    refine .inr ⟨rfl, k3, k2.trans hq, ?_⟩
    show kput d1.files tempK ⟨[], []⟩ = _
    rw [k1, hf]
    rcases (show a = 1 ∨ a = 2 ∨ a = 3 ∨ a = 4 by omega) with rfl | rfl | rfl | rfl <;> rfl
theorem moveC_jp {a : Nat} {d : Dr} (h : JP a d) (h4 : a ≤ 4) (hd : d.down = false) : Dead a (moveC d) ∨ Live (stF a ++ tmF true) (moveC d) := by
  obtain ⟨h1, h5, hq, t, hf, ht⟩ := h
  cases t with
  | none =>
    have hf' : d.files = stF a := by rw [hf]; simp [tmG]
    have hc := create_step h1 h4 hd hq hf'
    have : moveC d = d.create tempK := by
      unfold moveC
      rw [if_neg]
      rcases hc with hc | hc <;> rw [hc.1] <;> omega
    rw [this]
    exact hc
  | some f =>
    have hj : JP a d := ⟨h1, h5, hq, some f, hf, ht⟩
    have hg : kget d.files tempK = some f := by
      rw [hf]
      rcases (show a = 1 ∨ a = 2 ∨ a = 3 ∨ a = 4 by omega) with rfl | rfl | rfl | rfl <;> rfl
    have e0 : d.createE tempK = 11 := by
      unfold Dr.createE
      rw [hg]
      rfl
    have hC : d.create tempK = (d, 11) := by
      unfold Dr.create
      rw [e0]
      exact deed_err hd _ (by omega)
    have e1 : d.thereE tempK = 0 := by unfold Dr.thereE; rw [hg]; rfl
    have hM : moveC d = if (d.remove tempK).2 = 0 then (d.remove tempK).1.create tempK else d.remove tempK := by
      unfold moveC
      rw [hC]
      rfl
    rw [hM]
    have hR : d.remove tempK = d.deed 0 (fun d => { d with files := kdel d.files tempK }) := by unfold Dr.remove; rw [e1]
    rcases deed_step hd (fun d => { d with files := kdel d.files tempK }) with ⟨k1, k2, k3, k5⟩ | ⟨d1, k1, k2, k3, k5⟩
    · rw [← hR] at k1 k2 k3 k5
      rw [if_neg (by rw [k1]; omega)]
      exact .inl (hj.dead k1 k2 k3 k5)
    · rw [hR, k5, if_pos rfl]
      refine create_step h1 h4 k3 (k2.trans hq) ?_
      show kdel d1.files tempK = _
      rw [k1, hf]
      rcases (show a = 1 ∨ a = 2 ∨ a = 3 ∨ a = 4 by omega) with rfl | rfl | rfl | rfl <;> rfl
theorem used_files {d d' : Dr} (h : d.files = d'.files) : d.used = d'.used := by unfold Dr.used; rw [h]
theorem jp_live {a : Nat} {d : Dr} (h1 : 1 ≤ a) (h4 : a ≤ 4) (hq : d.quota = 1000) (f : File) (hf : d.files = stF a ++ tmG (some f)) (hl : f.all.length ≤ 2) : JP a d := ⟨h1, by omega, hq, some f, hf, fun g hg => by injection hg with hg; subst hg; exact hl⟩
/-- A move that may be: done, or the power went. -/
theorem move_jp {a : Nat} {d : Dr} (h : JP a d) (hd : d.down = false) (n : Int) (hm : mayB a n = true) :
    Dead a (moveR d a n) ∨ ((moveR d a n).2 = 0 ∧ (moveR d a n).1.down = false ∧ JP n.toNat (moveR d a n).1 ∧ n = n.toNat) := by
  have hc : (a = 1 ∧ n = 2) ∨ (a = 2 ∧ n = 3) ∨ (a = 3 ∧ n = 2) ∨ (a = 3 ∧ n = 4) ∨ (a = 4 ∧ n = 5) := by
    unfold mayB at hm
    simp at hm
    omega
  have h4 : a ≤ 4 := by omega
  have h1 : 1 ≤ a := by omega
  have hR : moveR d a n = moveD d n := by unfold moveR; rw [hd, hm]; rfl
  have hn : decI n = [dig n.toNat] := by
    have e : n = ((n.toNat : Nat) : Int) := by omega
    unfold decI
    rw [if_neg (by omega), decN_small (by omega)]
    congr 2
    omega
  rw [hR]
  have FA : Dead a (moveA d n) → Dead a (moveD d n) := fun hx => by
    have hS : moveS d n = moveA d n := by unfold moveS; rw [if_neg (by rw [hx.1]; omega)]
    unfold moveD
    rw [hS, if_neg (by rw [hx.1]; omega)]
    exact hx
  rcases moveC_jp h h4 hd with hx | ⟨c1, c2, c3, c4⟩
  · have hA : moveA d n = moveC d := by unfold moveA; rw [if_neg (by rw [hx.1]; omega)]
    rw [hA] at FA
    exact .inl (FA hx)
  · have hA : moveA d n = (moveC d).1.append tempK [dig n.toNat, 10] := by
      unfold moveA
      rw [if_pos c1, hn]
      rfl
    generalize (moveC d).1 = dc at *
    have hgc : kget dc.files tempK = some ⟨[], []⟩ := by
      rw [c4]
      rcases (show a = 1 ∨ a = 2 ∨ a = 3 ∨ a = 4 by omega) with rfl | rfl | rfl | rfl <;> rfl
    have hu : dc.used ≤ 2 := by
      have e : dc.used = (⟨stF a ++ tmF true, 1000, 0, false, -1⟩ : Dr).used := used_files c4
      rw [e, used_jd 1000 0 a h1]
      split <;> omega
    have eA : dc.appendE tempK 2 = 0 := by
      unfold Dr.appendE Dr.thereE
      rw [hgc, if_neg]
      · rfl
      · rintro ⟨-, hx⟩
        rw [c3] at hx
        omega
    have hA2 : moveA d n = dc.deed 0 fun d => { d with files := kset d.files tempK ⟨(fileOf d tempK).safe, (fileOf d tempK).pieces ++ [[dig n.toNat, 10]]⟩ } := by
      rw [hA]
      show dc.deed (dc.appendE tempK 2) _ = _
      rw [eA]
    have hjc : JP a dc := jp_live h1 h4 c3 ⟨[], []⟩ (by rw [c4]; rfl) (by simp [File.all])
    rcases deed_step c2 (fun d => { d with files := kset d.files tempK ⟨(fileOf d tempK).safe, (fileOf d tempK).pieces ++ [[dig n.toNat, 10]]⟩ }) with ⟨k1, k2, k3, k5⟩ | ⟨d1, k1, k2, k3, k5⟩
    · rw [← hA2] at k1 k2 k3 k5
      exact .inl (FA (hjc.dead k1 k2 k3 k5))
    · rw [← hA2] at k5
      have f1 : ({ d1 with files := kset d1.files tempK ⟨(fileOf d1 tempK).safe, (fileOf d1 tempK).pieces ++ [[dig n.toNat, 10]]⟩ } : Dr).files = stF a ++ tmG (some ⟨[], [[dig n.toNat, 10]]⟩) := by
        have hfo : fileOf d1 tempK = ⟨[], []⟩ := by unfold fileOf; rw [k1, hgc]; rfl
        show kset d1.files tempK _ = _
        rw [hfo, k1, c4]
        rcases (show a = 1 ∨ a = 2 ∨ a = 3 ∨ a = 4 by omega) with rfl | rfl | rfl | rfl <;> rfl
      have f2 : ({ d1 with files := kset d1.files tempK ⟨(fileOf d1 tempK).safe, (fileOf d1 tempK).pieces ++ [[dig n.toNat, 10]]⟩ } : Dr).down = false := k3
      have f3 : ({ d1 with files := kset d1.files tempK ⟨(fileOf d1 tempK).safe, (fileOf d1 tempK).pieces ++ [[dig n.toNat, 10]]⟩ } : Dr).quota = 1000 := k2.trans c3
      generalize ({ d1 with files := kset d1.files tempK ⟨(fileOf d1 tempK).safe, (fileOf d1 tempK).pieces ++ [[dig n.toNat, 10]]⟩ } : Dr) = da at k5 f1 f2 f3
      have hgs : kget da.files tempK = some ⟨[], [[dig n.toNat, 10]]⟩ := by
        rw [f1]
        rcases (show a = 1 ∨ a = 2 ∨ a = 3 ∨ a = 4 by omega) with rfl | rfl | rfl | rfl <;> rfl
      have eS : da.thereE tempK = 0 := by unfold Dr.thereE; rw [hgs]; rfl
      have hja : JP a da := jp_live h1 h4 f3 _ f1 (by simp [File.all])
      have hS : moveS d n = da.deed 0 fun d => { d with files := kput d.files tempK ⟨(fileOf d tempK).all, []⟩ } := by
        unfold moveS
        rw [k5, if_pos rfl]
        show da.deed (da.thereE tempK) _ = _
        rw [eS]
      have FS : Dead a (moveS d n) → Dead a (moveD d n) := fun hx => by
        unfold moveD
        rw [if_neg (by rw [hx.1]; omega)]
        exact hx
      rcases deed_step f2 (fun d => { d with files := kput d.files tempK ⟨(fileOf d tempK).all, []⟩ }) with ⟨m1, m2, m3, m5⟩ | ⟨d2, m1, m2, m3, m5⟩
      · rw [← hS] at m1 m2 m3 m5
        exact .inl (FS (hja.dead m1 m2 m3 m5))
      · rw [← hS] at m5
        have g1 : ({ d2 with files := kput d2.files tempK ⟨(fileOf d2 tempK).all, []⟩ } : Dr).files = stF a ++ tmG (some ⟨[dig n.toNat, 10], []⟩) := by
          have hfo : fileOf d2 tempK = ⟨[], [[dig n.toNat, 10]]⟩ := by unfold fileOf; rw [m1, hgs]; rfl
          show kput d2.files tempK _ = _
          rw [hfo, m1, f1]
          rcases (show a = 1 ∨ a = 2 ∨ a = 3 ∨ a = 4 by omega) with rfl | rfl | rfl | rfl <;> rfl
        have g2 : ({ d2 with files := kput d2.files tempK ⟨(fileOf d2 tempK).all, []⟩ } : Dr).down = false := m3
        have g3 : ({ d2 with files := kput d2.files tempK ⟨(fileOf d2 tempK).all, []⟩ } : Dr).quota = 1000 := m2.trans f3
        generalize ({ d2 with files := kput d2.files tempK ⟨(fileOf d2 tempK).all, []⟩ } : Dr) = db at m5 g1 g2 g3
        have hgr : kget db.files tempK = some ⟨[dig n.toNat, 10], []⟩ := by
          rw [g1]
          rcases (show a = 1 ∨ a = 2 ∨ a = 3 ∨ a = 4 by omega) with rfl | rfl | rfl | rfl <;> rfl
        have eR : db.renameE tempK stageK = 0 := by
          have e : db.thereE tempK = 0 := by unfold Dr.thereE; rw [hgr]; rfl
          unfold Dr.renameE
          rw [e, if_neg]
          rintro ⟨-, hx⟩
          exact absurd hx (by decide)
        have hjb : JP a db := jp_live h1 h4 g3 _ g1 (by simp [File.all])
        have hD : moveD d n = db.deed 0 fun d => { d with files := kput (kdel d.files tempK) stageK (fileOf d tempK) } := by
          unfold moveD
          rw [m5, if_pos rfl]
          show db.deed (db.renameE tempK stageK) _ = _
          rw [eR]
        rcases deed_step g2 (fun d => { d with files := kput (kdel d.files tempK) stageK (fileOf d tempK) }) with ⟨r1, r2, r3, r5⟩ | ⟨d3, r1, r2, r3, r5⟩
        · rw [← hD] at r1 r2 r3 r5
          exact .inl (hjb.dead r1 r2 r3 r5)
        · rw [hD, r5]
          refine .inr ⟨rfl, r3, ⟨by omega, by omega, r2.trans g3, none, ?_, fun f h => by cases h⟩, by omega⟩
          have hfo : fileOf d3 tempK = ⟨[dig n.toNat, 10], []⟩ := by unfold fileOf; rw [r1, hgr]; rfl
          show kput (kdel d3.files tempK) stageK (fileOf d3 tempK) = _
          rw [hfo, r1, g1]
          rcases hc with ⟨rfl, rfl⟩ | ⟨rfl, rfl⟩ | ⟨rfl, rfl⟩ | ⟨rfl, rfl⟩ | ⟨rfl, rfl⟩ <;> rfl
theorem move_jp_no {a : Nat} {d : Dr} (hd : d.down = false) (n : Int) (hm : mayB a n = false) : moveR d a n = (d, 16) := by
  unfold moveR
  rw [hd, hm]
  rfl
theorem move_jp_down {a : Nat} {d : Dr} (hd : d.down = true) (n : Int) : moveR d a n = (d, 13) := by
  unfold moveR
  rw [hd]
  rfl
end Go.Proofs.Ytjmcnhpffpcboaa

set_option linter.unusedVariables false
set_option linter.unusedSimpArgs false
set_option maxHeartbeats 1600000
set_option maxRecDepth 100000
namespace Go.Proofs.Ytjmcnhpffpcboaa
open Go.RowKit

abbrev Xb := Nat × TypeId × Array Value
/-- A journal of stage a and its drive, behind w0; dn: the power is gone; N bounds what was written; X: blocks that neither has. -/
def PW (w0 : World) (j g : Nat) (a : Nat) (dn : Bool) (N : Nat) (X : List Xb) (W : World) : Prop :=
  ∃ d fp, IsDrive W g d fp ∧ IsJ W j g a ∧ ¬ fp j ∧ j < W.heap.size ∧ d.Ok N ∧ JP a d ∧ d.down = dn ∧ Below w0.heap.size w0 W ∧ (∀ k, fp k → w0.heap.size ≤ k) ∧ w0.heap.size ≤ j ∧ ∀ x ∈ X, ¬ fp x.1 ∧ x.1 ≠ j ∧ Blk W x.1 x.2.1 x.2.2
section
variable {w0 W : World} {j g a N : Nat} {dn : Bool} {X : List Xb}
theorem PW.jo (h : PW w0 j g a dn N X W) : IsJ W j g a := by
  obtain ⟨d, fp, h1, h2, -⟩ := h
  exact h2
theorem PW.bel (h : PW w0 j g a dn N X W) : Below w0.heap.size w0 W := by
  obtain ⟨d, fp, h1, h2, h3, h4, h5, h6, h7, h8, -⟩ := h
  exact h8
theorem PW.blk (h : PW w0 j g a dn N X W) {x : Xb} (hx : x ∈ X) : Blk W x.1 x.2.1 x.2.2 := by
  obtain ⟨d, fp, h1, h2, h3, h4, h5, h6, h7, h8, h9, h10, h11⟩ := h
  exact (h11 x hx).2.2
theorem PW.drop (h : PW w0 j g a dn N X W) : PW w0 j g a dn N [] W := by
  obtain ⟨d, fp, h1, h2, h3, h4, h5, h6, h7, h8, h9, h10, h11⟩ := h
  exact ⟨d, fp, h1, h2, h3, h4, h5, h6, h7, h8, h9, h10, by simp⟩
theorem PW.more (h : PW w0 j g a dn N X W) {M : Nat} (hM : N ≤ M) : PW w0 j g a dn M X W := by
  obtain ⟨d, fp, h1, h2, h3, h4, h5, h6⟩ := h
  exact ⟨d, fp, h1, h2, h3, h4, h5.more hM, h6⟩
theorem PW.with_ (h : PW w0 j g a dn N [] W) (t : TypeId) (cs : Array Value) : PW w0 j g a dn N [(W.heap.size, t, cs)] (W.alloc (.cells cs t)) := by
  obtain ⟨d, fp, h1, h2, h3, h4, h5, h6, h7, h8, h9, h10, -⟩ := h
  have hb : Below W.heap.size W (W.alloc (.cells cs t)) := (Below.refl _ _).alloc (Nat.le_refl _) _
  refine ⟨d, fp, h1.below hb, (hb.block j h4).trans h2, h3, Nat.lt_of_lt_of_le h4 hb.size, h5, h6, h7, bt h8 hb, h9, h10, fun x hx => ?_⟩
  simp at hx
  subst hx
  refine ⟨fun hk => ?_, by show W.heap.size ≠ j; omega, Blk.new W t cs⟩
  have := h1.lt _ hk
  simp at this
theorem PW.first {fp : Nat → Prop} (hdr : IsDrive W g (Dr.new 1000) fp) (hb : Below w0.heap.size w0 W) (hge : ∀ k, fp k → w0.heap.size ≤ k) :
    Calls Try.prog 32 #[.pointer (some ⟨g, 0, none⟩)] W fun e w' => ∃ j, e = .returned (.tuple #[.pointer (some ⟨j, 0, none⟩), .int .i64 0]) ∧ PW w0 j g 1 false 0 [] w' := by
  refine (stages_Open hdr (Dr.Ok.new 1000 rfl) (by omega)).mono ?_
  rintro e w2 ⟨v, rfl, hb2, hj, -⟩
  rw [open_new] at hj
  obtain ⟨j, rfl, hjl, hJ⟩ := hj rfl
  refine ⟨j, by rw [open_new], Dr.new 1000, fp, hdr.below hb2, hJ, fun hk => ?_, Blk.lt hJ, Dr.Ok.new 1000 rfl, JP.new, rfl, bt hb hb2, hge, Nat.le_trans hb.size hjl, by simp⟩
  have := hdr.lt _ hk
  omega
theorem PW.open_ (h : PW w0 j g a false N X W) (hN : N ≤ 1000000000) :
    Calls Try.prog 32 #[.pointer (some ⟨g, 0, none⟩)] W fun e w' => ∃ j', e = .returned (.tuple #[.pointer (some ⟨j', 0, none⟩), .int .i64 0]) ∧ PW w0 j' g a false N X w' := by
  obtain ⟨d, fp, h1, h2, h3, h4, h5, h6, h7, h8, h9, h10, h11⟩ := h
  refine (stages_Open h1 h5 hN).mono ?_
  rintro e w2 ⟨v, rfl, hb2, hj, -⟩
  rw [h6.open_ h7] at hj
  obtain ⟨j', rfl, hjl, hJ⟩ := hj rfl
  refine ⟨j', by rw [h6.open_ h7], d, fp, h1.below hb2, hJ, fun hk => ?_, Blk.lt hJ, h5, h6, h7, bt h8 hb2, h9, Nat.le_trans h8.size hjl, fun x hx => ?_⟩
  · have := h1.lt _ hk
    omega
  · obtain ⟨q1, q2, q3⟩ := h11 x hx
    have := q3.lt
    exact ⟨q1, by omega, q3.below hb2 q3.lt⟩
/-- A call that turned the drive alone. -/
theorem PW.turned {d d' : Dr} {fp : Nat → Prop} {W' : World} {N' : Nat} {dn' : Bool} (h1 : IsDrive W g d fp) (h2 : IsJ W j g a) (h3 : ¬ fp j) (h4 : j < W.heap.size) (h8 : Below w0.heap.size w0 W) (h9 : ∀ k, fp k → w0.heap.size ≤ k) (h10 : w0.heap.size ≤ j)
    (h11 : ∀ x ∈ X, ¬ fp x.1 ∧ x.1 ≠ j ∧ Blk W x.1 x.2.1 x.2.2)
    (ht : Then W g d' fp W') (ho : d'.Ok N') (hj : JP a d') (hd : d'.down = dn') : PW w0 j g a dn' N' X W' := by
  obtain ⟨fp', k1, k2⟩ := ht
  have hnew : ∀ q, q < W.heap.size → ¬ fp q → ¬ fp' q := fun q hq hn hk => by
    rcases k2.new q hk with hk | hk
    · exact hn hk
    · omega
  refine ⟨d', fp', k1, (k2.block j h4 h3).trans h2, hnew j h4 h3, Nat.lt_of_lt_of_le h4 k2.size, ho, hj, hd, h8.trans (k2.below h9 h8.size), fun k hk => ?_, h10, fun x hx => ?_⟩
  · rcases k2.new k hk with hk | hk
    · exact h9 k hk
    · exact Nat.le_trans h8.size hk
  · obtain ⟨q1, q2, q3⟩ := h11 x hx
    exact ⟨hnew _ q3.lt q1, q2, (k2.block _ q3.lt q1).trans q3⟩
theorem PW.alive (h : PW w0 j g a dn N X W) : Calls Try.prog 41 #[.pointer (some ⟨g, 0, none⟩)] W fun e w' => e = .returned (.bool (!dn)) ∧ w' = W := by
  obtain ⟨d, fp, h1, h2, h3, h4, h5, h6, h7, h8, h9, h10⟩ := h
  have := drive_Alive h1
  rw [h7] at this
  exact this
theorem PW.arm (h : PW w0 j g a dn N X W) (n : Int) (hn : In64 n) : Calls Try.prog 50 #[.pointer (some ⟨g, 0, none⟩), .int .i64 n] W fun e w' => e = .returned (.tuple #[]) ∧ PW w0 j g a dn N X w' := by
  obtain ⟨d, fp, h1, h2, h3, h4, h5, h6, h7, h8, h9, h10, h11⟩ := h
  refine (drive_Arm h1 n).mono ?_
  rintro e w' ⟨rfl, ht1, ht2⟩
  exact ⟨rfl, PW.turned h1 h2 h3 h4 h8 h9 h10 h11 ⟨fp, ht1, ht2⟩ (h5.arm n hn.2) (h6.arm n) h7⟩
theorem PW.up (h : PW w0 j g a dn N X W) (hN : N ≤ 1000000) (A : Option Addr) (keep : List Int) (cap : Nat) (hA : IntsAt w0 A keep) (hin : IntsIn keep) (hl : (keep.length : Int) ≤ 9223372036854775807) :
    Calls Try.prog 43 #[.pointer (some ⟨g, 0, none⟩), .slice A keep.length cap] W fun e w' => e = .returned (.tuple #[]) ∧ PW w0 j g a false N X w' := by
  obtain ⟨d, fp, h1, h2, h3, h4, h5, h6, h7, h8, h9, h10, h11⟩ := h
  refine (drive_Up h1 h5 hN A keep cap (hA.below h8) hin hl (fun h0 p hp hk => ?_)).mono ?_
  · have := h9 _ hk
    obtain ⟨b, off, rfl, hb, _⟩ := hA h0
    injection hp with hp
    subst hp
    simp at this
    omega
  · rintro e w' ⟨rfl, ht⟩
    refine ⟨rfl, PW.turned h1 h2 h3 h4 h8 h9 h10 h11 ht (h5.up keep) (h6.up keep) ?_⟩
    unfold Dr.up
    split
    · rfl
    · rename_i hd
      simpa using hd
theorem PW.move (h : PW w0 j g a dn N X W) (hN : N + 1 < 1000000000) (n : Int) (hn : In64 n) :
    Calls Try.prog 35 #[.pointer (some ⟨j, 0, none⟩), .int .i64 n] W fun e w' => (dn = true ∧ e = .returned (.int .i64 13) ∧ PW w0 j g a true (N + 1) X w') ∨ (dn = false ∧ mayB a n = false ∧ e = .returned (.int .i64 16) ∧ PW w0 j g a false (N + 1) X w') ∨
      (dn = false ∧ mayB a n = true ∧ e = .returned (.int .i64 13) ∧ PW w0 j g a true (N + 1) X w') ∨ (dn = false ∧ mayB a n = true ∧ ∃ m : Nat, n = m ∧ e = .returned (.int .i64 0) ∧ PW w0 j g m false (N + 1) X w') := by
  obtain ⟨d, fp, h1, h2, h3, h4, h5, h6, h7, h8, h9, h10, h11⟩ := h
  have ha := h6.1
  have ha5 := h6.2.1
  refine (journal_Move (n := n) ⟨h1, h2, h3, h4, Touch.refl _ _⟩ h5 (by omega) ⟨by omega, by omega⟩ hn).mono ?_
  rintro e w' ⟨rfl, fp', k1, k2, k3, k4⟩
  have B' : Below w0.heap.size w0 w' := h8.trans (k4.below (fun k hk => by
    rcases hk with hk | hk
    · exact h9 k hk
    · subst hk; exact h10) h8.size)
  have F' : ∀ k, fp' k → w0.heap.size ≤ k := fun k hk => by
    rcases k4.new k (.inl hk) with (h | h) | h
    · exact h9 k h
    · subst h; exact h10
    · have := h8.size; omega
  have X' : ∀ x ∈ X, ¬ fp' x.1 ∧ x.1 ≠ j ∧ Blk w' x.1 x.2.1 x.2.2 := fun x hx => by
    obtain ⟨q1, q2, q3⟩ := h11 x hx
    have ql := q3.lt
    refine ⟨fun hk => ?_, q2, (k4.block _ ql (fun hk => ?_)).trans q3⟩
    · rcases k4.new _ (.inl hk) with (h | h) | h
      · exact q1 h
      · exact q2 h
      · omega
    · rcases hk with h | h
      · exact q1 h
      · exact q2 h
  have L' : j < w'.heap.size := Nat.lt_of_lt_of_le h4 k4.size
  have O' := moveR_ok h5 a n
  cases dn with
  | true =>
    have hR := move_jp_down (a := a) h7 n
    rw [hR] at k1 k2 O'
    rw [hR]
    exact .inl ⟨rfl, rfl, d, fp', k1, k2, k3, L', O', h6, h7, B', F', h10, X'⟩
  | false =>
    cases hm : mayB a n with
    | false =>
      have hR := move_jp_no h7 n hm
      rw [hR] at k1 k2 O'
      rw [hR]
      exact .inr (.inl ⟨rfl, rfl, rfl, d, fp', k1, k2, k3, L', O', h6, h7, B', F', h10, X'⟩)
    | true =>
      rcases move_jp h6 h7 n hm with ⟨r1, r2, r3⟩ | ⟨r1, r2, r3, r4⟩
      · rw [r1, if_neg (by omega)] at k2
        rw [r1]
        exact .inr (.inr (.inl ⟨rfl, rfl, rfl, _, fp', k1, k2, k3, L', O', r2, r3, B', F', h10, X'⟩))
      · rw [r1, if_pos rfl, r4] at k2
        rw [r1]
        exact .inr (.inr (.inr ⟨rfl, rfl, n.toNat, r4, rfl, _, fp', k1, k2, k3, L', O', r3, r2, B', F', h10, X'⟩))
end
end Go.Proofs.Ytjmcnhpffpcboaa
