/- Walk of kv.Len. -/
import Derived.Test.YtbjimikppdfmgaaDoorKv7
set_option linter.unusedVariables false
set_option linter.unusedSimpArgs false
set_option maxHeartbeats 1600000
set_option maxRecDepth 100000
namespace Go.Proofs.YtbjimikppdfmgaaDoor
open Go.RowKit

section
variable {w0 : Fr} {W : World} {g N mb sb : Nat} {d : Dr} {X : List Xc} {m : KM} {name : Key} {dead : Bool}
theorem kv_Len (h : MW w0 g d N X mb m W) (hs : (sb, 60, storeCells g name mb dead) ∈ X) :
    Calls Tryd.prog 51 #[.pointer (some ⟨sb, 0, none⟩)] W fun e w' => e = .returned (.int .i64 m.length) ∧ w' = W := by
  obtain ⟨s0, s1, s2, s3⟩ := store4 (h.blk hs)
  have hlen := fun ty => h.map.len (t := 58) (e := 9) (by kernel_rfl) ty
  clear h
  go_enter Tryd.func51, Tryd.ntmps51
  go_wp2
  go_ret
  exact ⟨rfl, rfl⟩
end
end Go.Proofs.YtbjimikppdfmgaaDoor
