/-
  Plain: what a log's batch is; what a log has that took one certificate in, and sequenced it.
-/
import Derived.Test.YtiabfngiibabcaaGreatDoorM14
import Derived.Test.YtiabfngiibabcaaGreatDoorNd3
set_option linter.unusedVariables false
set_option linter.unusedSimpArgs false
set_option maxHeartbeats 1600000
set_option maxRecDepth 100000
namespace Go.Proofs.YtiabfngiibabcaaGreatDoor
open Go.RowKit

/-- A tree's peaks, the levels below k, the highest first. -/
def peaksP (m : KM) (n : Nat) : Nat → List (List UInt8)
  | 0 => []
  | k + 1 => if n / 2 ^ k % 2 = 1 then (kget m (nK k (n / 2 ^ k - 1))).getD [] :: peaksP m n k else peaksP m n k
/-- The root of peaks, of which there is one. -/
def rootP (tops : List (List UInt8)) : List UInt8 := tops.dropLast.foldr nodeH (tops.getLastD [])
/-- The writes of leaves, and of their hashes. -/
def leafWs (m : KM) : Nat → KMapI → List Lf → List Wr
  | _, _, [] => []
  | at_, fm, x :: r =>
    ⟨lK at_, leafB x, false⟩ :: (if (kget m (iK (leafH (leafB x)))).isSome = false ∧ (kget fm (leafH (leafB x))).getD 0 = 0 then ⟨iK (leafH (leafB x)), numK at_, false⟩ :: leafWs m (at_ + 1) (kput fm (leafH (leafB x)) 1) r else leafWs m (at_ + 1) fm r)
def hashesP (xs : List Lf) : List (List UInt8) := xs.map fun x => leafH (leafB x)
def growL (m : KM) (size : Nat) (xs : List Lf) : List Wr × List UInt8 :=
  (leafWs m size [] xs ++ (growP size (peaksP m size (Lib.bitLen size + 1)) (hashesP xs)).1, rootP (growP size (peaksP m size (Lib.bitLen size + 1)) (hashesP xs)).2)
def seqB (m : KM) (size : Nat) (xs : List Lf) (t : Nat) : List Wr :=
  (growL m size xs).1 ++ (List.range xs.length).map (fun i => ⟨pK (size + i), [], true⟩) ++ [⟨hK (size + xs.length), headV ⟨size + xs.length, t, (growL m size xs).2⟩, false⟩]
theorem num0 : numK 0 = [48, 48, 48, 48, 48, 48, 48] := by rw [numK_fix (by omega)]; rfl
theorem num1 : numK 1 = [48, 48, 48, 48, 48, 48, 49] := by rw [numK_fix (by omega)]; rfl
theorem lK0 : lK 0 = 108 :: [47, 48, 48, 48, 48, 48, 48, 48] := by unfold lK; rw [num0]; rfl
theorem pK0 : pK 0 = 112 :: [47, 48, 48, 48, 48, 48, 48, 48] := by unfold pK; rw [num0]; rfl
theorem hK1 : hK 1 = 104 :: [47, 48, 48, 48, 48, 48, 48, 49] := by unfold hK; rw [num1]; rfl
theorem nK0 : nK 0 0 = 110 :: [47, 48, 48, 47, 48, 48, 48, 48, 48, 48, 48] := by
  unfold nK
  rw [num0, padL_fix 0 2 (by omega) (by omega)]
  rfl
theorem iKc (h : List UInt8) : iK h = 105 :: (47 :: hexB h) := rfl
theorem once_do (a b c d e : Key) (vl vi vn vh vp : List UInt8) : doB [(112 :: e, vp)] [⟨108 :: c, vl, false⟩, ⟨105 :: b, vi, false⟩, ⟨110 :: d, vn, false⟩, ⟨112 :: e, [], true⟩, ⟨104 :: a, vh, false⟩] = [(104 :: a, vh), (105 :: b, vi), (108 :: c, vl), (110 :: d, vn)] := by
  simp [doB, doW, kput, kdel, kins, bytesBefore]
/-- The certificate is staged. -/
def mS (x : Lf) : KM := [(pK 0, leafB x)]
def bS (x : Lf) : List Wr := [⟨pK 0, leafB x, false⟩]
/-- It is a leaf. -/
def mL (x : Lf) (t : Nat) : KM := [(hK 1, headV ⟨1, t, leafH (leafB x)⟩), (iK (leafH (leafB x)), numK 0), (lK 0, leafB x), (nK 0 0, leafH (leafB x))]
theorem doB_S (x : Lf) : doB [] (bS x) = mS x := rfl
theorem growL_1 (x : Lf) : growL (mS x) 0 [x] = ([⟨lK 0, leafB x, false⟩, ⟨iK (leafH (leafB x)), numK 0, false⟩, ⟨nK 0 0, leafH (leafB x), false⟩], leafH (leafB x)) := by
  have hk : kget (mS x) (iK (leafH (leafB x))) = none := by
    unfold mS kget
    rw [pK0, iKc]
    simp
  have hp : peaksP (mS x) 0 (Lib.bitLen 0 + 1) = [] := by
    rw [show Lib.bitLen 0 = 0 by rfl]
    rfl
  unfold growL
  rw [hp]
  simp only [leafWs, hk, hashesP, List.map_cons, List.map_nil, growP, climbP]
  simp [rootP, kget]
theorem seqB_1 (x : Lf) (t : Nat) : seqB (mS x) 0 [x] t = [⟨lK 0, leafB x, false⟩, ⟨iK (leafH (leafB x)), numK 0, false⟩, ⟨nK 0 0, leafH (leafB x), false⟩, ⟨pK 0, [], true⟩, ⟨hK 1, headV ⟨1, t, leafH (leafB x)⟩, false⟩] := by
  unfold seqB
  rw [growL_1]
  simp
theorem doB_L (x : Lf) (t : Nat) : doB (mS x) (seqB (mS x) 0 [x] t) = mL x t := by
  rw [seqB_1]
  unfold mS mL
  rw [lK0, pK0, hK1, nK0, iKc]
  exact once_do _ _ _ _ _ _ _ _ _ _
theorem mS_rising (x : Lf) : Rising (mS x) := List.pairwise_singleton _ _
theorem mL_rising (x : Lf) (t : Nat) : Rising (mL x t) := by
  rw [← doB_L]
  exact (doR_do _ _ (mS_rising x)).2
theorem pre_cons {k : Key} {v : List UInt8} {m : KM} {pre : List UInt8} : preK ((k, v) :: m) pre = if hasP k pre then k :: preK m pre else preK m pre := by
  unfold preK
  rw [List.map_cons, List.filter_cons]
theorem hasP_yes (c : UInt8) (r : List UInt8) : hasP (c :: 47 :: r) [c, 47] = true := by simp [hasP]
theorem hasP_no (c d : UInt8) (r : List UInt8) (h : c ≠ d) : hasP (c :: 47 :: r) [d, 47] = false := by simp [hasP, h]
theorem preL (x : Lf) (t : Nat) : preK (mL x t) [108, 47] = [lK 0] ∧ preK (mL x t) [112, 47] = [] ∧ preK (mL x t) [104, 47] = [hK 1] := by
  unfold mL
  rw [lK0, hK1, nK0, iKc]
  simp only [pre_cons, hasP_yes, hasP_no _ _ _ (by decide : (104 : UInt8) ≠ 108), hasP_no _ _ _ (by decide : (105 : UInt8) ≠ 108), hasP_no _ _ _ (by decide : (110 : UInt8) ≠ 108), hasP_no _ _ _ (by decide : (104 : UInt8) ≠ 112), hasP_no _ _ _ (by decide : (105 : UInt8) ≠ 112), hasP_no _ _ _ (by decide : (108 : UInt8) ≠ 112), hasP_no _ _ _ (by decide : (110 : UInt8) ≠ 112), hasP_no _ _ _ (by decide : (105 : UInt8) ≠ 104), hasP_no _ _ _ (by decide : (108 : UInt8) ≠ 104), hasP_no _ _ _ (by decide : (110 : UInt8) ≠ 104)]
  exact ⟨rfl, rfl, rfl⟩
theorem getL (x : Lf) (t : Nat) : kget (mL x t) (lK 0) = some (leafB x) ∧ kget (mL x t) (hK 1) = some (headV ⟨1, t, leafH (leafB x)⟩) := by
  unfold mL kget
  rw [lK0, hK1, nK0, iKc]
  simp
theorem pre_nil (pre : List UInt8) : preK [] pre = [] := rfl
end Go.Proofs.YtiabfngiibabcaaGreatDoor
