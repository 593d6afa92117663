/-
  Walks of package nodes: Hash; OnesCount of none.
-/
import Derived.Test.YtiabfngiibabcaaGreatDoorM15
import Derived.Test.YtiabfngiibabcaaGreatDoorM16
import Derived.Test.YtiabfngiibabcaaGreatDoorM19
set_option linter.unusedVariables false
set_option linter.unusedSimpArgs false
set_option maxHeartbeats 6400000
set_option maxRecDepth 100000
namespace Go.Proofs.YtiabfngiibabcaaGreatDoor
open Go.RowKit

theorem nodes_Hash (h : List UInt8) (hl : h.length ≤ 5000) (w : World) :
    Calls Tryz.prog 108 #[.string (S h)] w fun e w' => e = .returned (.string (S (iK h))) ∧ Below w.heap.size w w' := by
  obtain ⟨W1, HW1⟩ : ∃ W1, Hid (W1 = Lib.bytesWorld w 5 (S h)) := ⟨_, rfl⟩
  have b1 : Below w.heap.size w W1 := by rw [HW1.out]; exact conv_below _ _
  have q1 := conv_run w h
  have a1 : BytesAt W1 (some ⟨w.heap.size, 0, none⟩) h := by rw [HW1.out]; exact conv_at _ _
  rw [← HW1.out] at q1
  have HX := hid (b64_Hex W1 (some ⟨w.heap.size, 0, none⟩) h (grownCap w h.length 0 5) a1 (by omega))
  have HK := hid (show iK h = [105, 47] ++ hexB h from rfl)
  have hln := hexB_len h
  generalize grownCap w h.length 0 5 = cp at *
  generalize iK h = kk at *
  generalize hexB h = hx at *
  have HB1 := hid b1
  clear a1 b1
  go_enter Tryz.func108, Tryz.ntmps108
  go_wp2_with fail
  refine HX.out.mono ?_
  rintro e w2 ⟨rfl, hb2⟩
  have HB := hid (bt HB1.out hb2)
  clear hb2
  go_wp2
  go_ret
  exact ⟨by rw [HK.out]; rfl, HB.out⟩
/-- How OnesCount64 reckons. -/
def popA (x : Int) : Int := IntKind.u64.wrap (bits BinOp.and IntKind.u64 (x / 2) 6148914691236517205 + bits BinOp.and IntKind.u64 x 6148914691236517205)
def popB (a : Int) : Int := IntKind.u64.wrap (bits BinOp.and IntKind.u64 (a / 4) 3689348814741910323 + bits BinOp.and IntKind.u64 a 3689348814741910323)
def popD (b : Int) : Int := bits BinOp.and IntKind.u64 (IntKind.u64.wrap (b / 16 + b)) 1085102592571150095
def popS (k c : Int) : Int := IntKind.u64.wrap (c + c / k)
def popE (x : Int) : Int := bits BinOp.and IntKind.i64 (wrap64 (popS 4294967296 (popS 65536 (popS 256 (popD (popB (popA x))))))) 127
/-- How many ones there are among a number's bits. -/
def popC : Nat → Nat → Nat
  | 0, _ => 0
  | f + 1, n => n % 2 + popC f (n / 2)
theorem pop_all : (List.range 2048).all (fun n => decide (popE (n : Int) = (popC 11 n : Int))) = true := by kernel_rfl
theorem pop_eq {n : Nat} (h : n < 2048) : popE (n : Int) = (popC 11 n : Int) := of_decide_eq_true (List.all_eq_true.1 pop_all n (List.mem_range.2 h))
theorem bits_OnesCount64 (x : Int) (w : World) : Calls Tryz.prog 202 #[.int .u64 x] w fun e w' => e = .returned (.int .i64 (popE x)) ∧ w' = w := by
  go_enter Tryz.func202, Tryz.ntmps202
  go_wp2
  go_ret
  exact ⟨rfl, rfl⟩
theorem bits_OnesCount (n : Nat) (h : n < 2048) (w : World) : Calls Tryz.prog 167 #[.int .u64 n] w fun e w' => e = .returned (.int .i64 (popC 11 n)) ∧ w' = w := by
  have OC := hid (bits_OnesCount64 n w)
  rw [pop_eq h] at OC
  have hw : IntKind.u64.wrap (n : Int) = n := IntWalk.u64_in _ (by omega)
  generalize (popC 11 n : Int) = z at *
  go_enter Tryz.func167, Tryz.ntmps167
  go_wp2_with fail
  refine OC.out.mono ?_
  rintro e w2 ⟨rfl, rfl⟩
  go_wp2
  go_ret
  exact ⟨rfl, rfl⟩
end Go.Proofs.YtiabfngiibabcaaGreatDoor
