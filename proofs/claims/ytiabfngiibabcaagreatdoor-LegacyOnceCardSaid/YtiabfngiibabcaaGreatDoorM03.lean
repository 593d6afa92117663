/- Walks of package kv: number. Walks of package kv: write. -/
import Derived.Test.YtiabfngiibabcaaGreatDoorM01
import Derived.Test.YtiabfngiibabcaaGreatDoorM02
import Derived.Laws.Shifts
import Derived.Laws.ShiftsVarLaws
import Derived.Laws.BitsAllLaws
import Derived.IntWalk
import Derived.Deep.QuietTactic
import Derived.BigQuiet
import Derived.BigRegion
import Derived.ChangeAlike
import Derived.Deep.RegionHeld3
set_option linter.unusedVariables false
set_option linter.unusedSimpArgs false
set_option maxHeartbeats 3200000
set_option maxRecDepth 100000
namespace Go.Proofs.YtiabfngiibabcaaGreatDoor
open Go.RowKit

/-- The number of bytes, the lowest first. -/
def numL : List UInt8 → Nat
  | [] => 0
  | c :: r => c.toNat + 256 * numL r
theorem numL_app (a b : List UInt8) : numL (a ++ b) = numL a + 256 ^ a.length * numL b := by
  induction a with
  | nil => simp [numL]
  | cons c r ih =>
    rw [List.cons_append, numL, ih, numL, List.length_cons, Nat.pow_succ, Nat.mul_add, Nat.mul_comm (256 ^ r.length) 256, Nat.mul_assoc, Nat.add_assoc]
theorem numL_lt (a : List UInt8) : numL a < 256 ^ a.length := by
  induction a with
  | nil => simp [numL]
  | cons c r ih =>
    rw [numL, List.length_cons, Nat.pow_succ]
    have := c.toNat_lt
    omega
theorem numL_snoc (a : List UInt8) (c : UInt8) : numL (a ++ [c]) = numL a + 256 ^ a.length * c.toNat := by rw [numL_app]; simp [numL]
theorem bits_or_i64_nat (a b : Nat) (ha : a < 9223372036854775808) (hb : b < 9223372036854775808) : bits .or .i64 (a : Int) (b : Int) = ((a ||| b : Nat) : Int) := by
  have hx : a ||| b < 2 ^ 63 := Nat.or_lt_two_pow (by omega) (by omega)
  have h1 : (BitVec.ofInt 64 (a : Int)).toNat = a := by
    rw [BitVec.ofInt_natCast, BitVec.toNat_ofNat]; exact Nat.mod_eq_of_lt (by omega)
  have h2 : (BitVec.ofInt 64 (b : Int)).toNat = b := by
    rw [BitVec.ofInt_natCast, BitVec.toNat_ofNat]; exact Nat.mod_eq_of_lt (by omega)
  show IntKind.i64.wrap ((BitVec.ofInt 64 (a : Int) ||| BitVec.ofInt 64 (b : Int)).toNat : Int) = _
  rw [BitVec.toNat_or, h1, h2, IntKind.wrap_i64]
  omega
theorem number_step (a k x : Nat) (hk : k < 4) (ha : a < 256 ^ k) (hx : x < 256) : bits .or .i64 (a : Int) (wrap64 ((x : Int) * 2 ^ (8 * k))) = ((a + 256 ^ k * x : Nat) : Int) := by
  have hp : (256 : Nat) ^ k = 2 ^ (8 * k) := by rw [Nat.pow_mul]
  have hle : (2 : Nat) ^ (8 * k) ≤ 2 ^ 24 := Nat.pow_le_pow_right (by omega) (by omega)
  have hxb : x * 2 ^ (8 * k) ≤ 255 * 2 ^ 24 := Nat.mul_le_mul (by omega) hle
  rw [hp] at ha
  rw [show (x : Int) * 2 ^ (8 * k) = ((x * 2 ^ (8 * k) : Nat) : Int) by push_cast; rfl, IntWalk.wrap64_in _ (by omega), bits_or_i64_nat _ _ (by omega) (by omega), hp]
  congr 1
  rw [Nat.or_comm, Nat.mul_comm, ← Nat.two_pow_add_eq_or_of_lt ha x, Nat.add_comm]
theorem kv_number (w : World) (A : Option Addr) (l : List UInt8) (c : Nat) (hB : BytesAt w A l) (hl : l.length ≤ 4) :
    Calls Tryz.prog 190 #[.slice A l.length c] w fun e w' => e = .returned (.int .i64 (numL l)) ∧ w' = w := by
  go_enter Tryz.func190, Tryz.ntmps190
  go_wp2
  go_loop [3, 8] (fun n i => ∃ k : Nat, k ≤ l.length ∧ i = .int .i64 k ∧ n = .int .i64 (numL (l.take k))) (fun _ i => l.length - (intOf i).toNat)
  case atStart => exact ⟨0, Nat.zero_le _, rfl, rfl⟩
  case round =>
    obtain ⟨k, hk, rfl, rfl⟩ := hrel
    by_cases h : k < l.length
    · obtain ⟨b, off, rfl, hb, hc⟩ := hB (by omega)
      have c1 : w.cell? ⟨b, off + k, none⟩ = some (.int .u8 l[k].toNat) := hc k h
      have HS := hid (show numL (l.take (k + 1)) = numL (l.take k) + 256 ^ k * l[k].toNat by rw [List.take_succ_eq_append_getElem h, numL_snoc, List.length_take, Nat.min_eq_left (by omega)])
      have hlt := numL_lt (l.take k)
      rw [List.length_take, Nat.min_eq_left (by omega)] at hlt
      have hlt2 := l[k].toNat_lt
      generalize l[k] = x at *
      generalize numL (l.take k) = a at *
      have hb8 : (8 * (k : Int)).toNat = 8 * k := by omega
      clear hc
      go_wp2
      go_round
      case rel => exact ⟨k + 1, by omega, by go_num, by rw [HS.out, number_step a k x.toNat (by omega) hlt hlt2]⟩
      case measure => simp [intOf]; omega
    · have hk' : k = l.length := by omega
      subst hk'
      rw [List.take_length]
      go_wp2
      go_ret
      exact ⟨rfl, rfl⟩
end Go.Proofs.YtiabfngiibabcaaGreatDoor

set_option linter.unusedVariables false
set_option linter.unusedSimpArgs false
set_option maxHeartbeats 6400000
set_option maxRecDepth 100000
namespace Go.Proofs.YtiabfngiibabcaaGreatDoor
open Go.RowKit

theorem mid {α : Type} (a m r : List α) : ((a ++ (m ++ r)).drop a.length).take m.length = m := by rw [List.drop_left, List.take_left]
theorem mid' {α : Type} {l a m r : List α} {i n : Nat} (h : l = a ++ (m ++ r)) (hi : i = a.length) (hn : n = m.length) : (l.drop i).take n = m := by subst h hi hn; exact mid a m r
/-- A part of a row of bytes. -/
theorem BytesAt.part {w : World} {b off : Nat} {l m : List UInt8} {i n : Nat} (h : BytesAt w (some ⟨b, off, none⟩) l) (hm : (l.drop i).take n = m) : BytesAt w (some ⟨b, off + i, none⟩) m := fun h0 => by
  subst hm
  have hl : i < l.length := by simp at h0; omega
  obtain ⟨b', off', hA, hlt, hc⟩ := h (by omega)
  injection hA with hA
  injection hA with h1 h2
  subst h1 h2
  refine ⟨b, off + i, rfl, hlt, fun j hj => ?_⟩
  have hj' : i + j < l.length := by simp at hj; omega
  rw [Nat.add_assoc, hc (i + j) hj']
  simp
theorem lowB_numL (n k : Nat) (h : n < 256 ^ k) : numL (lowB n k) = n := by
  have aux : ∀ k, numL (lowB n k) = n % 256 ^ k := by
    intro k
    induction k with
    | zero => simp [lowB, numL, Nat.mod_one]
    | succ k ih =>
      rw [lowB, numL_snoc, ih, lowB_len, show (2 : Nat) ^ (8 * k) = 256 ^ k by rw [Nat.pow_mul], Nat.pow_succ, Nat.mod_mul]
      simp
  rw [aux, Nat.mod_eq_of_lt h]
/-- The parts of a write's bytes. -/
theorem wrB_parts (x : Wr) (r : List UInt8) : (wrB x ++ r)[0]? = some (if x.gone then 1 else 0) ∧ ((wrB x ++ r).drop 1).take 2 = lowB x.key.length 2 ∧ ((wrB x ++ r).drop 3).take 4 = lowB x.val.length 4 ∧ ((wrB x ++ r).drop 7).take x.key.length = x.key ∧ ((wrB x ++ r).drop (7 + x.key.length)).take x.val.length = x.val := by
  have e0 : lowB (if x.gone then 1 else 0) 1 = [if x.gone then 1 else 0] := by cases x.gone <;> rfl
  refine ⟨?_, ?_, ?_, ?_, ?_⟩
  · simp [wrB, e0]
  · exact mid' (a := lowB (if x.gone then 1 else 0) 1) (r := lowB x.val.length 4 ++ x.key ++ x.val ++ r) (by simp [wrB]) (by simp [lowB_len]) (by simp [lowB_len])
  · exact mid' (a := lowB (if x.gone then 1 else 0) 1 ++ lowB x.key.length 2) (r := x.key ++ x.val ++ r) (by simp [wrB]) (by simp [lowB_len]) (by simp [lowB_len])
  · exact mid' (a := lowB (if x.gone then 1 else 0) 1 ++ lowB x.key.length 2 ++ lowB x.val.length 4) (r := x.val ++ r) (by simp [wrB]) (by simp [lowB_len]) rfl
  · exact mid' (a := lowB (if x.gone then 1 else 0) 1 ++ lowB x.key.length 2 ++ lowB x.val.length 4 ++ x.key) (r := r) (by simp [wrB]) (by simp [lowB_len]; omega) rfl
/-- string(b), b a part of bytes. -/
theorem conv_string_at (w : World) {b off n c : Nat} {l : List UInt8} (hn : n = l.length) (h : BytesAt w (some ⟨b, off, none⟩) l) : (convert 85 9 (.slice (some ⟨b, off, none⟩) n c)).run Tryz.prog w = .ok (.string (S l)) w := by
  subst hn
  refine run_string_of w 85 5 (by kernel_rfl) (by kernel_rfl) b off _ c l rfl (fun i hi => ?_) 9 (by kernel_rfl)
  obtain ⟨b', off', hA, hlt, hc⟩ := h (by omega)
  injection hA with hA
  injection hA with h1 h2
  subst h1 h2
  exact hc i hi
theorem size_u8 (W : World) : (sizeOf 5).run Tryz.prog W = .ok 1 W := by kernel_rfl
theorem slice_u8_lh (W : World) (b o L c l n : Nat) (h : Int) (hh : h = (l : Int) + n) (h2 : l + n ≤ c) (hne : l ≠ c) : (Instr.slice 85 (.slice (some ⟨b, o, none⟩) L c) (some (.int .i64 l)) (some (.int .i64 h)) none).run Tryz.prog W = .ok (.slice (some ⟨b, o + l, none⟩) n (c - l)) W := by
  subst hh
  rw [Go.run_slice_lh (P := Tryz.prog) (w := W) _ _ _ _ (by kernel_rfl) .i64 .i64 (l : Int) ((l : Int) + n) (by omega) (by omega) (by omega)]
  rw [show (Tryz.prog).elem 85 = 5 by kernel_rfl, size_u8]
  simp [Result.andThen, sliced, Ne.symm hne, add_plain']
  omega
theorem slice_u8_l (W : World) (b o L c l : Nat) (h2 : l ≤ L) (hne : l ≠ c) : (Instr.slice 85 (.slice (some ⟨b, o, none⟩) L c) (some (.int .i64 l)) none none).run Tryz.prog W = .ok (.slice (some ⟨b, o + l, none⟩) (L - l) (c - l)) W := by
  rw [Go.run_slice_l (P := Tryz.prog) (w := W) _ _ _ _ (by kernel_rfl) .i64 (l : Int) (by omega) (by omega)]
  rw [show (Tryz.prog).elem 85 = 5 by kernel_rfl, size_u8]
  simp [Result.andThen, sliced, Ne.symm hne, add_plain']
theorem slice_u8_cap (W : World) (b o c : Nat) : (Instr.slice 85 (.slice (some ⟨b, o, none⟩) (7 + c) (7 + c)) (some (.int .i64 (7 + (c : Int)))) none none).run Tryz.prog W = .ok (.slice (some ⟨b, o, none⟩) 0 0) W := by
  rw [Go.run_slice_l (P := Tryz.prog) (w := W) _ _ _ _ (by kernel_rfl) .i64 (7 + (c : Int)) (by omega) (by omega)]
  rw [show (Tryz.prog).elem 85 = 5 by kernel_rfl, size_u8, show ((7 : Int) + c).toNat = 7 + c by omega]
  simp [Result.andThen, sliced]
theorem kv_write (w : World) (bk off c : Nat) (x : Wr) (r : List UInt8) (hB : BytesAt w (some ⟨bk, off, none⟩) (wrB x ++ r)) (hc : (wrB x ++ r).length ≤ c) (hcm : (c : Int) ≤ 9223372036854775807) (hk1 : 1 ≤ x.key.length) (hk : x.key.length < 65536) (hv : x.val.length < 1000000000) (hr : r.length ≤ 1000000000) :
    Calls Tryz.prog 191 #[.slice (some ⟨bk, off, none⟩) (wrB x ++ r).length c] w fun e w' => e = .returned (.tuple #[.agg #[.string (S x.key), .string (S x.val), .bool x.gone], .int .i64 (wrB x).length]) ∧ Below w.heap.size w w' := by
  obtain ⟨p0, p1, p3, p7, pv⟩ := wrB_parts x r
  have hb0 : Below w.heap.size w (w.alloc (.cells #[.string (S []), .string (S []), .bool false] 104)) := (Below.refl _ _).alloc (Nat.le_refl _) _
  have hB1 := hB.below hb0
  have hlen : (wrB x ++ r).length = 7 + x.key.length + x.val.length + r.length := by rw [List.length_append, wrB_len]
  have hwl := wrB_len x
  obtain ⟨bk', off', hA, hlt, hcl⟩ := hB (by omega)
  injection hA with hA
  injection hA with h1 h2
  subst h1 h2
  have hc0 : w.cell? ⟨bk, off, none⟩ = some (.int .u8 (if x.gone then 1 else 0)) := by
    have := hcl 0 (by omega)
    rw [List.getElem?_eq_getElem (by omega)] at p0
    injection p0 with p0
    rw [p0] at this
    rw [← Nat.add_zero off, this]
    cases x.gone <;> rfl
  have hc1 := (World.cell?_alloc_lt w (.cells #[.string (S []), .string (S []), .bool false] 104) ⟨bk, off, none⟩ hlt).trans hc0
  obtain ⟨gv, hgv⟩ : ∃ gv : Int, gv = if x.gone then 1 else 0 := ⟨_, rfl⟩
  have hgb : (gv == 1) = x.gone := by rw [hgv]; cases x.gone <;> rfl
  rw [← hgv] at hc0 hc1
  clear hgv
  have n1 := fun n => kv_number ((w.alloc (.cells #[.string (S []), .string (S []), .bool false] 104)).drewN n) (some ⟨bk, off + 1, none⟩) (lowB x.key.length 2) (c - 1) (hB1.part p1) (by rw [lowB_len]; omega)
  have n3 := fun n => kv_number ((w.alloc (.cells #[.string (S []), .string (S []), .bool false] 104)).drewN n) (some ⟨bk, off + 3, none⟩) (lowB x.val.length 4) (c - 3) (hB1.part p3) (by rw [lowB_len]; omega)
  simp only [lowB_numL _ 2 (show x.key.length < 256 ^ 2 by omega), lowB_numL _ 4 (show x.val.length < 256 ^ 4 by omega), lowB_len] at n1 n3
  have N1 := hid n1
  have N3 := hid n3
  have CZ := hid (fun (W : World) (h : x.val.length = 0) => conv_string_at W (b := bk) (off := off) (n := 0) (c := 0) (l := x.val) h.symm (fun h0 => absurd h0 (by omega)))
  have CV := hid (fun (W : World) (hW : BytesAt W (some ⟨bk, off, none⟩) (wrB x ++ r)) n' => conv_string_at W (n := x.val.length) (c := n') rfl (hW.part pv))
  have CK := hid (fun (W : World) (hW : BytesAt W (some ⟨bk, off, none⟩) (wrB x ++ r)) n' => conv_string_at W (n := x.key.length) (c := n') rfl (hW.part p7))
  have HL := hid hwl
  have HB := hid hB1
  have HB0 := hid hb0
  have hge : 7 + x.key.length + x.val.length ≤ (wrB x ++ r).length := by omega
  have hnb : (wrB x ++ r).length ≤ 3000000000 := by omega
  clear hwl hB hB1 hb0 hcl p0 p1 p3 p7 pv n1 n3 hlen
  generalize hl : wrB x ++ r = l at *
  clear hl
  generalize (wrB x).length = wl at *
  obtain ⟨xk, xv, xg⟩ := x
  simp only [] at *
  generalize l.length = n at *
  generalize xk.length = kl at *
  generalize xv.length = vl at *
  go_enter Tryz.func191, Tryz.ntmps191
  go_wp2
  go_quiet ((go_at_call 190; first | with_reducible exact Calls.quiet_of_same (N1.out _) | with_reducible exact Calls.quiet_of_same (N3.out _)))
  have D1 : BytesAt ((w.alloc (.cells #[.string (S []), .string (S []), .bool false] 104)).drewN nq).drew (some ⟨bk, off, none⟩) l := HB.out
  have c7 := CK.out _ D1
  have cv := CV.out _ D1
  clear D1
  have e0 : ((w.alloc (.cells #[.string (S []), .string (S []), .bool false] 104)).drewN nq).cell? ⟨bk, off, none⟩ = some (.int .u8 gv) := hc1
  have HW := hid (show Blk ((w.alloc (.cells #[.string (S []), .string (S []), .bool false] 104)).drewN nq) w.heap.size 104 #[.string (S []), .string (S []), .bool false] from Blk.new _ _ _)
  have HBW := hid (show Below w.heap.size w ((w.alloc (.cells #[.string (S []), .string (S []), .bool false] 104)).drewN nq) from below_drewN HB0.out nq)
  have hsz : w.heap.size < ((w.alloc (.cells #[.string (S []), .string (S []), .bool false] 104)).drewN nq).heap.size := by simp [World.drewN]
  generalize ((w.alloc (.cells #[.string (S []), .string (S []), .bool false] 104)).drewN nq) = W1 at *
  by_cases hcap : 7 + kl = c
  · have hv0 : vl = 0 := by omega
    subst hv0
    subst hcap
    have hc7 : ¬ kl = 0 := by omega
    have hcl : 7 + kl - 7 = kl := by omega
    have s1 : ∀ W, (Instr.slice 85 (.slice (some ⟨bk, off, none⟩) (7 + kl) (7 + kl)) (some (.int .i64 7)) (some (.int .i64 (7 + (kl : Int)))) none).run Tryz.prog W = .ok (.slice (some ⟨bk, off + 7, none⟩) kl (7 + kl - 7)) W := fun W => slice_u8_lh W bk off (7 + kl) (7 + kl) 7 kl _ (by omega) (by omega) (by omega)
    have s2 : ∀ W, (Instr.slice 85 (.slice (some ⟨bk, off, none⟩) (7 + kl) (7 + kl)) (some (.int .i64 (7 + (kl : Int)))) none none).run Tryz.prog W = .ok (.slice (some ⟨bk, off, none⟩) 0 0) W := fun W => slice_u8_cap W bk off kl
    have cz := CZ.out W1.drew rfl
    go_wp2
    have r0 := HW.out.cell 0
    have r1 := HW.out.cell 1
    have r2 := HW.out.cell 2
    have f0 := HW.out.frozen 0
    have f1 := HW.out.frozen 1
    have f2 := HW.out.frozen 2
    simp at r0 r1 r2
    go_region
    have HB3 : Blk (((W1.setCell ⟨w.heap.size, 0, none⟩ (.string (S xk))).setCell ⟨w.heap.size, 1, none⟩ (.string (S xv))).setCell ⟨w.heap.size, 2, none⟩ (.bool xg)).drew w.heap.size 104 #[.string (S xk), .string (S xv), .bool xg] := by
      have := (((HW.out.set_ 0 (.string (S xk))).set_ 1 (.string (S xv))).set_ 2 (.bool xg)).drew
      simpa using this
    have HBF := hid (show Below w.heap.size w (((W1.setCell ⟨w.heap.size, 0, none⟩ (.string (S xk))).setCell ⟨w.heap.size, 1, none⟩ (.string (S xv))).setCell ⟨w.heap.size, 2, none⟩ (.bool xg)).drew from (((HBW.out.setCell (p := ⟨w.heap.size, 0, none⟩) (Nat.le_refl _) _).setCell (p := ⟨w.heap.size, 1, none⟩) (Nat.le_refl _) _).setCell (p := ⟨w.heap.size, 2, none⟩) (Nat.le_refl _) _).drew)
    generalize (((W1.setCell ⟨w.heap.size, 0, none⟩ (.string (S xk))).setCell ⟨w.heap.size, 1, none⟩ (.string (S xv))).setCell ⟨w.heap.size, 2, none⟩ (.bool xg)).drew = W2 at *
    clear r0 r1 r2 f0 f1 f2
    have g0 := HB3.cell 0
    have g1 := HB3.cell 1
    have g2 := HB3.cell 2
    simp at g0 g1 g2
    go_wp2
    refine bodyPost_ret (v := .tuple #[.agg #[.string (S xk), .string (S xv), .bool xg], .int .i64 wl]) (by rw [HL.out]; simp [results, Tryz.results191, go_sem, g0, g1, g2]) rfl ⟨rfl, HBF.out⟩
  · have hc7 : ¬ c = 7 := by omega
    have hc7' : 7 < c := by omega
    have hcap' : 7 + kl < c := by omega
    have q1 : (7 : Int) ≤ 7 + kl := by omega
    have q2 : (7 : Int) + kl ≤ c := by omega
    have q3 : (0 : Int) ≤ 7 + kl := by omega
    have q4 : (7 : Int) + kl + vl ≤ c := by omega
    have q5 : (7 : Int) + kl ≤ 7 + kl + vl := by omega
    have q6 : (0 : Int) ≤ 7 + kl + vl := by omega
    have z1 := hid (show ((7 : Int) + kl).toNat = 7 + kl by omega)
    have z2 := hid (show ((7 : Int) + kl + vl).toNat = 7 + kl + vl by omega)
    have s1 : ∀ W, (Instr.slice 85 (.slice (some ⟨bk, off, none⟩) (7 + kl + vl) c) (some (.int .i64 7)) (some (.int .i64 (7 + (kl : Int)))) none).run Tryz.prog W = .ok (.slice (some ⟨bk, off + 7, none⟩) kl (c - 7)) W := fun W => slice_u8_lh W bk off (7 + kl + vl) c 7 kl _ (by omega) (by omega) (by omega)
    have s2 : ∀ W, (Instr.slice 85 (.slice (some ⟨bk, off, none⟩) (7 + kl + vl) c) (some (.int .i64 (7 + (kl : Int)))) none none).run Tryz.prog W = .ok (.slice (some ⟨bk, off + (7 + kl), none⟩) vl (c - (7 + kl))) W := fun W => by
      have := slice_u8_l W bk off (7 + kl + vl) c (7 + kl) (by omega) (by omega)
      rw [show 7 + kl + vl - (7 + kl) = vl by omega] at this
      rw [← this]
      congr 4
    clear q1 q2 q3 q4 q5 q6
    go_wp2
    have r0 := HW.out.cell 0
    have r1 := HW.out.cell 1
    have r2 := HW.out.cell 2
    have f0 := HW.out.frozen 0
    have f1 := HW.out.frozen 1
    have f2 := HW.out.frozen 2
    simp at r0 r1 r2
    go_region
    have HB3 : Blk (((W1.setCell ⟨w.heap.size, 0, none⟩ (.string (S xk))).setCell ⟨w.heap.size, 1, none⟩ (.string (S xv))).setCell ⟨w.heap.size, 2, none⟩ (.bool xg)).drew w.heap.size 104 #[.string (S xk), .string (S xv), .bool xg] := by
      have := (((HW.out.set_ 0 (.string (S xk))).set_ 1 (.string (S xv))).set_ 2 (.bool xg)).drew
      simpa using this
    have HBF := hid (show Below w.heap.size w (((W1.setCell ⟨w.heap.size, 0, none⟩ (.string (S xk))).setCell ⟨w.heap.size, 1, none⟩ (.string (S xv))).setCell ⟨w.heap.size, 2, none⟩ (.bool xg)).drew from (((HBW.out.setCell (p := ⟨w.heap.size, 0, none⟩) (Nat.le_refl _) _).setCell (p := ⟨w.heap.size, 1, none⟩) (Nat.le_refl _) _).setCell (p := ⟨w.heap.size, 2, none⟩) (Nat.le_refl _) _).drew)
    generalize (((W1.setCell ⟨w.heap.size, 0, none⟩ (.string (S xk))).setCell ⟨w.heap.size, 1, none⟩ (.string (S xv))).setCell ⟨w.heap.size, 2, none⟩ (.bool xg)).drew = W2 at *
    clear r0 r1 r2 f0 f1 f2
    have g0 := HB3.cell 0
    have g1 := HB3.cell 1
    have g2 := HB3.cell 2
    simp at g0 g1 g2
    go_wp2
    refine bodyPost_ret (v := .tuple #[.agg #[.string (S xk), .string (S xv), .bool xg], .int .i64 wl]) (by rw [HL.out]; simp [results, Tryz.results191, go_sem, g0, g1, g2]) rfl ⟨rfl, HBF.out⟩
end Go.Proofs.YtiabfngiibabcaaGreatDoor
