/- What the laid condition gives of the library's variables. -/
import Derived.Test.YtbjimikppdfmgaaDoorRows
import Derived.Test.YtbjimikppdfmgaaDoorJs3
import Derived.Test.YtbjimikppdfmgaaDoorLayJ
import Derived.Lib.LaidTab
import Derived.Stop.LaidErr
import Derived.MakeChecks
set_option linter.unusedVariables false
set_option linter.unusedSimpArgs false
set_option maxRecDepth 100000
namespace Go.Proofs.YtbjimikppdfmgaaDoor
open Go.RowKit

theorem starF : "*" ++ "errors.errorString" = "*errors.errorString" := by decide
theorem rowF (u : TypeId) (h : (Tryd.prog).typeName? 3 u = some "*errors.errorString") : u = 205 :=
  typeName_ptr_named (nm := "errors.errorString") (by rw [starF]; kernel_rfl) (by kernel_rfl) (by decide) u (by rw [starF]; exact h)
theorem libW_laid {W : World} (hsh : W.ShapedOpen Tryd.prog) (hL : laidMetH Tryd.prog Rows.jsonLongRow.laid W) : LibW W := by
  rw [MakeChecks.laidMetH_plain _ _ _ (by kernel_rfl)] at hL
  have h3 := hL.tail.tail
  have h5 := h3.tail.tail
  have h6 := h5.tail
  refine ⟨layReplace.s1_3 W hsh, ?_, ?_, ?_⟩
  · exact Lib.tabIs_of_head (zs := Lib.pow10Tab) (k := .u64) (g := 3) (by kernel_rfl) (show _ = some 197 by kernel_rfl) Tryd.underlying197 Tryd.underlying161 (by kernel_rfl) (by kernel_rfl) h3
  · obtain ⟨a, s, hv, -⟩ := laid_sentinel h6 (g := 4) (by kernel_rfl) (show _ = some 143 by kernel_rfl) Tryd.underlying143 rowF Tryd.underlying205 Tryd.underlying207 rfl rfl Tryd.underlying9 (by kernel_rfl) (by kernel_rfl)
    exact ⟨_, _, hv⟩
  · obtain ⟨a, s, hv, -⟩ := laid_sentinel h5 (g := 5) (by kernel_rfl) (show _ = some 143 by kernel_rfl) Tryd.underlying143 rowF Tryd.underlying205 Tryd.underlying207 rfl rfl Tryd.underlying9 (by kernel_rfl) (by kernel_rfl)
    exact ⟨_, _, hv⟩
end Go.Proofs.YtbjimikppdfmgaaDoor
