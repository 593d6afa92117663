/- Walk of kv.first: calls one behind the other, to the first error. -/
import Derived.Test.YtbjimikppdfmgaaGreatDoorBase
import Derived.Test.YtbjimikppdfmgaaGreatDoorChecked
set_option linter.unusedVariables false
set_option linter.unusedSimpArgs false
set_option maxHeartbeats 3200000
set_option maxRecDepth 100000
namespace Go.Proofs.YtbjimikppdfmgaaGreatDoor
open Go.RowKit

/-- What a call of the list does: it goes on, or it is the last. -/
def StepTo (I : World → Prop) (F : Int → World → Prop) (e : Ending) (w' : World) : Prop := ∃ x : Int, e = .returned (.int .i64 x) ∧ ((x = 0 ∧ I w') ∨ (x ≠ 0 ∧ F x w'))
theorem kv_first (w : World) (A : Option Addr) (c : Nat) (fs : List (FuncId × Array Value)) (Inv : Nat → World → Prop) (Fail : Int → World → Prop) (hn : fs.length ≤ 100) (h0 : Inv 0 w)
    (hcf : ∀ i, (h : i < fs.length) → ∀ W, (callFunc fs[i].1 fs[i].2).run Tryz.prog W = .ok (.enter fs[i].1 fs[i].2) W)
    (hrow : ∀ i W, (h : i < fs.length) → Inv i W → ∃ b off, A = some ⟨b, off, none⟩ ∧ W.cell? ⟨b, off + i, none⟩ = some (.func (.func fs[i].1) #[] fs[i].2))
    (hstep : ∀ i W, (h : i < fs.length) → Inv i W → Calls Tryz.prog fs[i].1 fs[i].2 W (StepTo (Inv (i + 1)) Fail)) :
    Calls Tryz.prog 20 #[.slice A fs.length c] w (StepTo (Inv fs.length) Fail) := by
  have HR := hid hrow
  have HS := hid hstep
  have HC := hid hcf
  clear hrow hstep hcf
  go_enter Tryz.func20, Tryz.ntmps20
  go_wp2
  go_loopw [8] (fun i wr => ∃ k : Nat, k ≤ fs.length ∧ i = .int .i64 k ∧ Hid (Inv k wr)) (fun i _ => fs.length - (intOf i).toNat)
  case atStart => exact ⟨0, Nat.zero_le _, rfl, h0⟩
  case round =>
    obtain ⟨k, hk, rfl, hI⟩ := hrel
    by_cases h : k < fs.length
    · obtain ⟨b, off, rfl, hc⟩ := HR.out k wr h hI.out
      have hs := hid (HS.out k wr h hI.out)
      have hf := HC.out k h
      generalize fs[k].1 = F at *
      generalize fs[k].2 = caps at *
      go_wp2_with fail
      refine hs.out.mono ?_
      rintro e w2 ⟨x, rfl, hx⟩
      rcases hx with ⟨rfl, h2⟩ | ⟨hne, h2⟩
      · have H2 := hid h2
        clear h2
        go_wp2
        go_roundw
        case rel => exact ⟨k + 1, by omega, by go_num, H2⟩
        case measure => simp [intOf]; omega
      · have H2 := hid (show StepTo (Inv fs.length) Fail (.returned (.int .i64 x)) w2 from ⟨x, rfl, .inr ⟨hne, h2⟩⟩)
        have k0 : (x == 0) = false := beq_eq_false_iff_ne.2 hne
        clear h2
        go_wp2
        go_ret
        exact H2.out
    · have hk' : k = fs.length := by omega
      have H2 := hid (show StepTo (Inv fs.length) Fail (.returned (.int .i64 0)) wr from ⟨0, rfl, .inl ⟨rfl, by rw [← hk']; exact hI.out⟩⟩)
      go_wp2
      go_ret
      exact H2.out
end Go.Proofs.YtbjimikppdfmgaaGreatDoor
