/- Walks of the library's Replacer: build. -/
import Derived.Test.YtecekflooihkoaaGreatDoorRep1
set_option linter.unusedVariables false
set_option linter.unusedSimpArgs false
set_option maxHeartbeats 6400000
set_option maxRecDepth 100000
namespace Go.Proofs.YtecekflooihkoaaGreatDoor
open Go.RowKit

theorem rep_build (g ob c : Nat) (w : World) (hg : w.cell? ⟨g, 4, none⟩ = some (.slice (some ⟨ob, 0, none⟩) 4 c)) (hO : Old w ob) :
    Calls Tryz.prog 111 #[.pointer (some ⟨g, 0, none⟩)] w fun e w' => ∃ q, e = .returned (.iface 184 (.pointer (some ⟨q, 0, none⟩))) ∧ w.heap.size ≤ q ∧ Tab w' w.heap.size q [120, 47] [[47], [120]] ∧ Below w.heap.size w w' := by
  have HO := hid hO
  obtain ⟨h0, h1, h2, h3, h4⟩ := hO
  have hmk : ∀ w, (Instr.makeSlice 65 (.int .i64 0) (.int .i64 2)).run Tryz.prog w = .ok (.slice (some ⟨w.heap.size, 0, none⟩) 0 2) (w.alloc (.cells #[.string ByteArray.empty, .string ByteArray.empty] 9)) := fun _ => by kernel_rfl
  obtain ⟨wq, hst, hT, hbq⟩ := tab_start w
  have HT := hid hT
  have HB := hid hbq
  clear hT hbq
  go_enter Tryz.func111, Tryz.ntmps111
  go_wp2
  go_loopw [4, 5] (fun b i wr => ((i = .int .i64 0 ∧ b = .bool true) ∨ (i = .int .i64 2 ∧ b = .bool false) ∨ (i = .int .i64 4 ∧ b = .bool false)) ∧ wr = w) (fun _ i _ => 4 - (intOf i).toNat)
  case atStart => exact ⟨.inl ⟨rfl, rfl⟩, rfl⟩
  case round =>
    obtain ⟨hi, rfl⟩ := hrel
    rcases hi with ⟨rfl, rfl⟩ | ⟨rfl, rfl⟩ | ⟨rfl, rfl⟩
    · go_wp2
      go_roundw
      case rel => exact ⟨.inr (.inl ⟨rfl, rfl⟩), by first | rfl | trivial⟩
      case measure => simp [intOf]
    · go_wp2
      go_roundw
      case rel => exact ⟨.inr (.inr ⟨rfl, rfl⟩), by first | rfl | trivial⟩
      case measure => simp [intOf]
    · go_wp2
      clear hst h1 h2 h3 h4 hg
      have qT : ∀ (w : World) (a : Option Addr) (n c n' c' : Nat), (binOp .eql 81 (.slice a n c) (.slice none n' c')).run Tryz.prog w = .ok (.bool a.isNone) w := fun w a n c n' c' => Lib.run_eql_slice_nil w _ _ a n c n' c' Tryz.underlying81
      obtain ⟨w0, rfl⟩ : ∃ w0 : World, w0 = wr := ⟨_, rfl⟩
      go_loopw [12] (fun i wr => ((i = .int .i64 2 ∧ Hid (Tab wr w0.heap.size (w0.heap.size + 1) [] [])) ∨ (i = .int .i64 0 ∧ Hid (Tab wr w0.heap.size (w0.heap.size + 1) [47] [[47]])) ∨ (i = .int .i64 (-2) ∧ Hid (Tab wr w0.heap.size (w0.heap.size + 1) [120, 47] [[47], [120]]))) ∧ Hid (Below w0.heap.size w0 wr)) (fun i _ => (4 + intOf i).toNat)
      case atStart => exact ⟨.inl ⟨rfl, HT⟩, HB⟩
      case round =>
        obtain ⟨hi, hb⟩ := hrel
        obtain ⟨o0, o1, o2, o3, o4⟩ := HO.out.below hb.out
        rcases hi with ⟨rfl, hT⟩ | ⟨rfl, hT⟩ | ⟨rfl, hT⟩
        · obtain ⟨A, c1, A', c', w1, u, wB, d, cc, u2, t1, t2, t3, t4, hrun, t5, t6, hcv, t7, t8, hT2, hb2⟩ := tab_step hT.out 47 (by omega) (by simp) [47] hb.out.size (by omega) (by simp) (.cells #[.int .u8 47] 5)
          have HT2 := hid hT2
          have HB2 := hid (hb.out.trans hb2)
          clear hT2 hb2 hT
          have hcv' : (convert 9 81 (.string (S []))).run Tryz.prog (w1.setCell ⟨w0.heap.size + 1, 256, none⟩ (.slice A' 1 c')) = .ok (.slice (some d) 0 cc) wB := hcv
          clear hcv
          have hs1 := run_string_one (P := Tryz.prog) wr 81 5 9 5 (by kernel_rfl) (by kernel_rfl) (by kernel_rfl) 47 (by omega) (by omega)
          go_wp2_with (first | (at_builtin; refine wpList_append_run rfl _ _ _ (by rfl) _ _ _ _ (by rfl) (by rfl) hrun ?_))
          go_roundw
          case rel => exact ⟨.inr (.inl ⟨rfl, HT2⟩), HB2⟩
          case measure => simp [intOf]
        · obtain ⟨A, c1, A', c', w1, u, wB, d, cc, u2, t1, t2, t3, t4, hrun, t5, t6, hcv, t7, t8, hT2, hb2⟩ := tab_step hT.out 120 (by omega) (by simp) [120] hb.out.size (by omega) (by simp) (.cells #[.int .u8 120] 5)
          have HT2 := hid hT2
          have HB2 := hid (hb.out.trans hb2)
          clear hT2 hb2 hT
          have hcv' : (convert 9 81 (.string (S []))).run Tryz.prog (w1.setCell ⟨w0.heap.size + 1, 256, none⟩ (.slice A' 2 c')) = .ok (.slice (some d) 0 cc) wB := hcv
          clear hcv
          have hs1 := run_string_one (P := Tryz.prog) wr 81 5 9 5 (by kernel_rfl) (by kernel_rfl) (by kernel_rfl) 120 (by omega) (by omega)
          go_wp2_with (first | (at_builtin; refine wpList_append_run rfl _ _ _ (by rfl) _ _ _ _ (by rfl) (by rfl) hrun ?_))
          go_roundw
          case rel => exact ⟨.inr (.inr ⟨rfl, HT2⟩), HB2⟩
          case measure => simp [intOf]
        · go_wp2
          go_ret
          exact ⟨_, rfl, by omega, hT.out, hb.out⟩
end Go.Proofs.YtecekflooihkoaaGreatDoor
