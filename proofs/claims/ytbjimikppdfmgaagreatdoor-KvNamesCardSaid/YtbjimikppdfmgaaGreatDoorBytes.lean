/- Slices of bytes: what reads, what is made. Walks of bytes.Clone, slices.Grow, slices.Concat at []byte. -/
import Derived.Test.YtbjimikppdfmgaaGreatDoorDMem
import Derived.Test.YtbjimikppdfmgaaGreatDoorBy
import Derived.Maps.AppendAt
import Derived.Lib.SliceRun
set_option linter.unusedVariables false
set_option linter.unusedSimpArgs false
set_option maxHeartbeats 800000
set_option maxRecDepth 100000
namespace Go.Proofs.YtbjimikppdfmgaaGreatDoor
open Go.RowKit

theorem bytes_Clone (A : Option Addr) (l : List UInt8) (c : Nat) (w : World) (hl : BytesAt w A l) (hm : l.length ≤ 140737488355328) : Calls Tryz.prog 65 #[.slice A l.length c] w (Made w l) := by
  have qT : ∀ (w : World) (a : Option Addr) (n c n' c' : Nat), (binOp .eql 60 (.slice a n c) (.slice none n' c')).run Tryz.prog w = .ok (.bool a.isNone) w := fun w a n c n' c' => Lib.run_eql_slice_nil w _ _ a n c n' c' Tryz.underlying60
  cases A with
  | none =>
    have h0 := hl.of_none
    have H := hid (show Made w l (.returned (.slice none 0 0)) w from ⟨_, rfl, by rw [h0]; exact World.ownsRow_nil _ _ _ _, Below.refl _ _⟩)
    clear h0 hl hm
    go_enter Tryz.func65, Tryz.ntmps65
    go_wp2
    go_ret
    exact H.out
  | some ad =>
    have b0 : Below w.heap.size w (w.alloc (.cells #[] 5)) := (Below.refl _ _).alloc (Nat.le_refl _) _
    have h0 : (w.alloc (.cells #[] 5)).ownsRow w.heap.size 5 1 (.slice (some ⟨w.heap.size, 0, none⟩) 0 0) ([] : List UInt8).length (([] : List UInt8).map B8) :=
      ⟨rfl, .inr ⟨w.heap.size, 0, #[], rfl, Nat.le_refl _, heap_alloc_new w _, Nat.le_refl _, by unfold maxLen; omega, rfl, rfl⟩⟩
    obtain ⟨v', w', hrun, hown, hgrow, hat⟩ := run_append_bytes _ w.heap.size _ [] l h0 (some ad) c (hl.below b0) (by simpa using hm) (by simp) 60
    have H := hid (show Made w l (.returned v') w' from ⟨_, rfl, hown, b0.grown hgrow (by simp) (fun k hk => by
      have : w.heap.size = k := by simpa [Value.ownBlock] using hk
      omega)⟩)
    clear hown hgrow hat h0 b0 hl hm
    go_enter Tryz.func65, Tryz.ntmps65
    go_wp2_with (at_builtin; refine wpList_append_run rfl _ _ _ rfl _ _ _ _ rfl rfl hrun ?_)
    go_ret
    exact H.out
end Go.Proofs.YtbjimikppdfmgaaGreatDoor
