/- Keys and values, in plain Lean: writes, their bytes, what a batch does. No program is named here. -/
import Derived.Test.YtbjimikppdfmgaaDoorKeys
set_option linter.unusedVariables false
set_option linter.unusedSimpArgs false
namespace Go.Proofs.YtbjimikppdfmgaaDoor
open Go.RowKit Go.WideMaps Go.ChangeMaps Go.WideAt Go.WideShapes

structure Wr where
  key : List UInt8
  val : List UInt8
  gone : Bool
/-- A number's bytes, the lowest first. -/
def lowB (n : Nat) : Nat → List UInt8
  | 0 => []
  | k + 1 => lowB n k ++ [UInt8.ofNat (n / 2 ^ (8 * k))]
theorem lowB_len (n k : Nat) : (lowB n k).length = k := by
  induction k with
  | zero => rfl
  | succ k ih => simp [lowB, ih]
def wrB (x : Wr) : List UInt8 := lowB (if x.gone then 1 else 0) 1 ++ lowB x.key.length 2 ++ lowB x.val.length 4 ++ x.key ++ x.val
theorem wrB_len (x : Wr) : (wrB x).length = 7 + x.key.length + x.val.length := by
  simp [wrB, lowB_len]; omega
def bodyB (b : List Wr) : List UInt8 := (b.map wrB).flatten
theorem bodyB_nil : bodyB [] = [] := rfl
theorem bodyB_app (a b : List Wr) : bodyB (a ++ b) = bodyB a ++ bodyB b := by simp [bodyB]
theorem bodyB_snoc (b : List Wr) (x : Wr) : bodyB (b ++ [x]) = bodyB b ++ wrB x := by simp [bodyB]
def frameB (b : List Wr) : List UInt8 := lowB (bodyB b).length 4 ++ bodyB b
theorem frameB_len (b : List Wr) : (frameB b).length = 4 + (bodyB b).length := by simp [frameB, lowB_len]
def okW (x : Wr) : Bool := !(x.key == []) && decide (x.key.length ≤ 200) && decide (x.val.length ≤ 1048576) && !(x.gone && !(x.val == []))
def mayB (b : List Wr) : Bool := b.all okW
abbrev KM := List (Key × List UInt8)
def doW (m : KM) (x : Wr) : KM := if x.gone then kdel m x.key else kput m x.key x.val
def doB (m : KM) (b : List Wr) : KM := b.foldl doW m
theorem doB_snoc (m : KM) (b : List Wr) (x : Wr) : doB m (b ++ [x]) = doW (doB m b) x := by simp [doB]
theorem doW_len (m : KM) (x : Wr) : (doW m x).length ≤ m.length + 1 := by
  unfold doW
  split
  · unfold kdel
    have := List.length_filter_le (fun p : Key × List UInt8 => !(p.1 == x.key)) m
    omega
  · exact length_kput_le _ _ _
theorem doB_len (m : KM) (b : List Wr) : (doB m b).length ≤ m.length + b.length := by
  induction b generalizing m with
  | nil => simp [doB]
  | cons x b ih =>
    have h1 := ih (doW m x)
    have h2 := doW_len m x
    simp only [doB, List.foldl_cons, List.length_cons] at *
    omega
/-- A write, cut. -/
def cutW (x : Wr) : Wr := ⟨x.key.take 210, x.val.take 100, x.gone⟩
def cutB (b : List Wr) : List Wr := (b.take 5).map cutW
theorem cutB_len (b : List Wr) : (cutB b).length ≤ 5 := by simp [cutB]; omega
theorem cutB_mem {b : List Wr} {x : Wr} (h : x ∈ cutB b) : x.key.length ≤ 210 ∧ x.val.length ≤ 100 := by
  simp only [cutB, List.mem_map] at h
  obtain ⟨y, -, rfl⟩ := h
  simp [cutW]
  omega
theorem bodyB_le {b : List Wr} {k v : Nat} (h : ∀ x ∈ b, x.key.length ≤ k ∧ x.val.length ≤ v) : (bodyB b).length ≤ b.length * (7 + k + v) := by
  induction b with
  | nil => simp [bodyB]
  | cons x b ih =>
    have h1 := h x (by simp)
    have h2 := ih fun y hy => h y (by simp [hy])
    have h3 := wrB_len x
    have e : (bodyB (x :: b)).length = (wrB x).length + (bodyB b).length := by simp [bodyB]
    rw [e, List.length_cons, Nat.succ_mul]
    omega
/-! the document's list: keys rising -/
def wOf (p : Key × List UInt8) : Wr := ⟨p.1, p.2, false⟩
def oneR (l : List Wr) (w : Wr) (dn : Bool) : List Wr := match l with
  | [] => if dn then [] else [w]
  | y :: r =>
    let ins := !dn && !bytesBefore y.key w.key
    (if ins then [w] else []) ++ (if y.key = w.key then [] else [y]) ++ oneR r w (dn || ins)
def doR (l : List Wr) (b : List Wr) : List Wr := b.foldl (fun l w => oneR l w w.gone) l
theorem oneR_true (w : Wr) (m : KM) : oneR (m.map wOf) w true = (kdel m w.key).map wOf := by
  induction m with
  | nil => rfl
  | cons y r ih =>
    rw [List.map_cons]
    unfold oneR
    simp only [Bool.not_true, Bool.false_and, Bool.false_eq_true, if_false, List.nil_append, Bool.true_or]
    rw [ih]
    unfold kdel
    by_cases h : y.1 = w.key
    · simp [wOf, h]
    · simp [wOf, h]
theorem kins_first {k : Key} {v : List UInt8} {m : KM} (h : ∀ p ∈ m, bytesBefore k p.1 = true) : kins k v m = (k, v) :: m := by
  cases m with
  | nil => rfl
  | cons y r => unfold kins; rw [if_pos (h y (by simp))]
theorem oneR_put (k v : List UInt8) (m : KM) (hr : Rising m) : oneR (m.map wOf) ⟨k, v, false⟩ false = (kput m k v).map wOf := by
  induction m with
  | nil => rfl
  | cons y r ih =>
    have hr' := List.pairwise_cons.1 hr
    rw [List.map_cons]
    unfold oneR
    by_cases hb : bytesBefore y.1 k = true
    · have hne : y.1 ≠ k := by
        intro e
        rw [e, bytes_irrefl] at hb
        cases hb
      have hnb : ¬ bytesBefore k y.1 = true := fun h => by
        have := bytes_trans _ _ _ hb h
        rw [bytes_irrefl] at this
        cases this
      have e1 : kput (y :: r) k v = y :: kput r k v := by
        unfold kput kdel
        rw [List.filter_cons_of_pos (by simp [hne])]
        conv => lhs; unfold kins
        rw [if_neg hnb]
      have hb' : bytesBefore (wOf y).key k = true := hb
      have hne' : ¬ (wOf y).key = k := hne
      simp only [hb', Bool.not_true, Bool.and_false, Bool.false_eq_true, if_false, List.nil_append, Bool.false_or, hne', ih hr'.2, e1, List.map_cons]
      rfl
    · have hb' : bytesBefore (wOf y).key k = false := by cases h : bytesBefore (wOf y).key k with | false => rfl | true => exact absurd h hb
      have hall : ∀ p ∈ kdel (y :: r) k, bytesBefore k p.1 = true := by
        intro p hp
        obtain ⟨h1, h2⟩ := mem_kdel.1 hp
        rcases List.mem_cons.1 h1 with rfl | h1
        · rcases bytes_total k p.1 (fun e => h2 e.symm) with h | h
          · exact h
          · exact absurd h hb
        · have h3 := hr'.1 p h1
          by_cases he : y.1 = k
          · rw [← he]; exact h3
          · rcases bytes_total k y.1 (fun e => he e.symm) with h | h
            · exact bytes_trans _ _ _ h h3
            · exact absurd h hb
      have e1 : kput (y :: r) k v = (k, v) :: kdel (y :: r) k := by unfold kput; exact kins_first hall
      simp only [hb', Bool.not_false, Bool.and_self, if_true, Bool.or_true, e1, List.map_cons, oneR_true]
      unfold kdel
      by_cases he : y.1 = k
      · simp [wOf, he]
      · simp [wOf, he]
theorem oneR_do (m : KM) (hr : Rising m) (w : Wr) : oneR (m.map wOf) w w.gone = (doW m w).map wOf := by
  unfold doW
  cases hg : w.gone with
  | true => exact oneR_true w m
  | false =>
    have : w = ⟨w.key, w.val, false⟩ := by cases w; simp_all
    rw [this]
    exact oneR_put _ _ m hr
theorem doW_rising {m : KM} (hr : Rising m) (w : Wr) : Rising (doW m w) := by
  unfold doW
  split
  · exact hr.del _
  · exact hr.put _ _
theorem doR_do (b : List Wr) : ∀ m : KM, Rising m → doR (m.map wOf) b = (doB m b).map wOf ∧ Rising (doB m b) := by
  induction b with
  | nil => intro m hr; exact ⟨rfl, hr⟩
  | cons x b ih =>
    intro m hr
    have := ih (doW m x) (doW_rising hr x)
    simp only [doR, doB, List.foldl_cons] at *
    rw [oneR_do m hr x]
    exact this
end Go.Proofs.YtbjimikppdfmgaaDoor
