/-
  Walk of slices.Chunk at bytes, two by two.
-/
import Derived.Test.YtiabfngiibabcaaGreatDoorM16
set_option linter.unusedVariables false
set_option linter.unusedSimpArgs false
set_option maxHeartbeats 6400000
set_option maxRecDepth 100000
namespace Go.Proofs.YtiabfngiibabcaaGreatDoor
open Go Go.RowKit

theorem slices_Chunk (A : Option Addr) (n c : Nat) (w : World) : Calls Tryz.prog 93 #[.slice A n c, .int .i64 2] w fun e w' => e = .returned (.func (.func 158) #[] #[.pointer (some ⟨w.heap.size, 0, none⟩), .pointer (some ⟨w.heap.size + 1, 0, none⟩)]) ∧ w' = (w.alloc (.cells #[.slice A n c] 85)).alloc (.cells #[.int .i64 2] 3) := by
  have hmf : ∀ (fn : Fn) (first cap : Array Value) (w : World), (Instr.makeFunc fn first cap).run Tryz.prog w = .ok (.func fn first cap) w := fun _ _ _ _ => rfl
  go_enter Tryz.func93, Tryz.ntmps93
  go_wp2
  go_ret
  exact ⟨rfl, rfl⟩
def cEnc (dk off i : Nat) : Array Value := #[.slice (some ⟨dk, off + 2 * i, none⟩) 2 2]
theorem slice_u8_lhm (W : World) (b o L c l h : Nat) (lI hI : Int) (hl : lI = l) (hh : hI = h) (h1 : l < h) (h2 : h ≤ c) : (Instr.slice 85 (.slice (some ⟨b, o, none⟩) L c) (some (.int .i64 lI)) (some (.int .i64 hI)) (some (.int .i64 hI))).run Tryz.prog W = .ok (.slice (some ⟨b, o + l, none⟩) (h - l) (h - l)) W := by
  subst hl hh
  rw [Go.run_slice_lhm (P := Tryz.prog) (w := W) _ _ _ _ (by kernel_rfl) .i64 .i64 .i64 (l : Int) (h : Int) (h : Int) (by omega) (by omega) (by omega) (by omega)]
  rw [show (Tryz.prog).elem 85 = 5 by kernel_rfl, size_u8]
  have hn : ¬ h = l := by omega
  simp [Result.andThen, sliced, add_plain', hn]
  try omega
theorem slices_Chunk1 (bb sx dk off c N : Nat) (A : Option Addr) (hA : 0 < N → A = some ⟨dk, off, none⟩) (W : World) (hb : Blk W bb 85 #[.slice A (2 * N) c]) (hs : Blk W sx 3 #[.int .i64 2]) (hne : sx ≠ bb) (hn : 2 * N ≤ c) (hc : (c : Int) ≤ 9223372036854775807) (hN : N ≤ 1000000) (m : Nat) :
    SeqRun Fence.wide m Tryz.prog 158 #[.pointer (some ⟨bb, 0, none⟩), .pointer (some ⟨sx, 0, none⟩)] (cEnc dk off) bb (BKp bb sx) (fun xs => xs = List.range N) (fun _ => True) (fun pre x => x = pre.length ∧ pre.length < N) W := by
  intro l J Jx hJ hJx hY h0
  have HA := hid hA
  have HB := hid hb
  have HSX := hid hs
  have HYH := hid hY
  have HJ := hid hJ
  have HJ0 := hid h0
  clear hA hb hs hJ hJx hY h0
  refine callsIn_of_wp Tryz.func158 rfl trivial ?_ rfl
  simp only [Tryz.ntmps158, List.size_toArray, List.length_cons, List.length_nil, Nat.reduceAdd, Nat.reduceSub, Array.replicate_succ, Array.replicate_zero, List.push_toArray, List.append_toArray, List.nil_append, List.cons_append]
  gi_wp2
  gi_loopw [4, 5] (fun i _ wr => ∃ k : Nat, k ≤ N ∧ i = .int .i64 (2 * (k : Int)) ∧ Hid (Blk wr bb 85 #[.slice A (2 * N) c]) ∧ Hid (Blk wr sx 3 #[.int .i64 2]) ∧ Hid (J (List.range k) wr)) (fun i _ _ => 2 * N - (intOf i).toNat)
  case atStart => exact ⟨0, by omega, rfl, HB, HSX, HJ0⟩
  case round =>
    obtain ⟨k, hk, rfl, hB, hS, hj⟩ := hrel
    have hc0 : wr.cell? ⟨bb, 0, none⟩ = some (.slice A (2 * N) c) := hB.out.cell 0
    have hc1 : wr.cell? ⟨sx, 0, none⟩ = some (.int .i64 2) := hS.out.cell 0
    by_cases hlt : k < N
    · obtain rfl := HA.out (by omega)
      have d1 : decide ((2 : Int) * (k : Int) < ((2 * N : Nat) : Int)) = true := by simp; omega
      have z2 : ((2 : Int) * (k : Int)).toNat = 2 * k := by omega
      have hc2 : ¬ c = 2 * k := by omega
      have hg0 : (0 : Int) ≤ 2 * (k : Int) := by omega
      have hg1 : (2 : Int) * (k : Int) ≤ 2 * (N : Int) := by omega
      have hmin : ¬ ((2 * N - 2 * k : Nat) : Int) < 2 := by omega
      have s28 := fun W => slice_u8_lhm W dk off (2 * N) c (2 * k) (2 * k + 2) (2 * (k : Int)) (2 * (k : Int) + 2) (by omega) (by omega) (by omega) (by omega)
      gi_wp2
      refine wpIn_region_quiet_lit rfl (by kernel_rfl) (by kernel_rfl) ?_
      repeat (quiet_step_in (fail))
      refine wpQuietIn_nil ?_
      intro _ hw'
      obtain ⟨nqa, hw''⟩ := hw'
      subst hw''
      have hmin2 : ¬ ((2 * N - 2 * k : Nat) : Int) < 2 := by omega
      first
        | rw [if_neg hmin2]
        | rw [show min (2 : Int) ((2 * N - 2 * k : Nat) : Int) = 2 from by omega]
        | simp only [show min (2 : Int) ((2 * N - 2 * k : Nat) : Int) = 2 from by omega]
      have HBn := hid (show Blk (wr.drewN nqa) bb 85 #[.slice (some ⟨dk, off, none⟩) (2 * N) c] from hB.out.drewN nqa)
      have HSn := hid (show Blk (wr.drewN nqa) sx 3 #[.int .i64 2] from hS.out.drewN nqa)
      have HJn := hid (HJ.out _ _ _ hj.out (Itr.of_below (below_drewN (Below.refl _ _) nqa)))
      generalize hV : wr.drewN nqa = V at *
      have cv0 : V.cell? ⟨bb, 0, none⟩ = some (.slice (some ⟨dk, off, none⟩) (2 * N) c) := HBn.out.cell 0
      have cv1 : V.cell? ⟨sx, 0, none⟩ = some (.int .i64 2) := HSn.out.cell 0
      have HNX : k = (List.range k).length ∧ (List.range k).length < N := by simp; omega
      obtain ⟨fn, tmps, assign, body, hy, hR⟩ := HYH.out _ k _ HJn.out HNX
      have HRR := hid hR
      have hfd : Fence.wide.depth.isSome = false := rfl
      clear hR HNX hV hB hS hj hc0 hc1
      dsimp only [cEnc] at hy
      have e22 : 2 * k + 2 - 2 * k = 2 := by omega
      rw [e22] at s28
      have w24 : IntKind.i64.wrap (2 * (k : Int) + 2) = 2 * (k : Int) + 2 := IntWalk.i64_in _ (by omega)
      gi_wp2_with fail
      refine HRR.out.mono ?_
      rintro e W' (⟨rfl, hJ', hk'⟩ | ⟨rfl, hJx'⟩)
      · have hb2 : Blk W' bb 85 #[.slice (some ⟨dk, off, none⟩) (2 * N) c] := hk'.2.1.trans HBn.out
        have hs2 : Blk W' sx 3 #[.int .i64 2] := hk'.2.2.trans HSn.out
        have cc1 : W'.cell? ⟨sx, 0, none⟩ = some (.int .i64 2) := hs2.cell 0
        have HJ2 := hid hJ'
        have HB2 := hid hb2
        have HS2 := hid hs2
        have HRN := hid (show List.range (k + 1) = List.range k ++ [k] from List.range_succ)
        clear hk' hJ' hb2 hs2
        gi_wp2
        go_roundw
        case rel => exact ⟨k + 1, by omega, by congr 1, HB2, HS2, by rw [HRN.out]; exact HJ2⟩
        case measure => simp only [intOf]; omega
      · have HJ6 := hid hJx'
        clear hJx'
        gi_wp2
        refine bodyPost_ret (results_none rfl _ _ _) rfl ?_
        exact ⟨⟨_, rfl⟩, .inr ⟨_, trivial, HJ6.out⟩⟩
    · have hke : k = N := by omega
      have d1 : decide ((2 : Int) * (k : Int) < ((2 * N : Nat) : Int)) = false := by simp; omega
      gi_wp2
      go_end0
      refine ⟨⟨_, rfl⟩, .inl ⟨_, by rw [hke], hj.out⟩⟩
end Go.Proofs.YtiabfngiibabcaaGreatDoor
