/-
  What the laid condition gives of the library's variables, and of the digest's tables.
-/
import Derived.Test.YtiabfngiibabcaaGreatDoorRows
import Derived.Test.YtiabfngiibabcaaGreatDoorM14
import Derived.Lib.LaidTab
import Derived.Stop.LaidErr
import Derived.MakeChecks
set_option linter.unusedVariables false
set_option linter.unusedSimpArgs false
set_option maxRecDepth 100000
namespace Go.Proofs.YtiabfngiibabcaaGreatDoor
open Go.RowKit

theorem starG : "*" ++ "errors.errorString" = "*errors.errorString" := by decide
theorem rowG (u : TypeId) (h : (Tryz.prog).typeName? 3 u = some "*errors.errorString") : u = 277 :=
  typeName_ptr_named (nm := "errors.errorString") (by rw [starG]; kernel_rfl) (by kernel_rfl) (by decide) u (by rw [starG]; exact h)
theorem libL_laid {W : World} (hsh : W.ShapedOpen Tryz.prog) (hL : laidMetH Tryz.prog Rows.legacyOnceRow.laid W) : LibL W := by
  rw [MakeChecks.laidMetH_plain _ _ _ (by kernel_rfl)] at hL
  have h3 := hL.tail.tail
  have h5 := h3.tail.tail
  have h6 := h5.tail
  have h7 := h6.tail
  have h8 := h7.tail
  refine ⟨layCut.s1_3 W hsh, ?_, ?_, ?_, ?_, ?_⟩
  · exact Lib.tabIs_of_head (zs := Lib.pow10Tab) (k := .u64) (g := 9) (by kernel_rfl) (show _ = some 319 by kernel_rfl) Tryz.underlying319 Tryz.underlying237 (by kernel_rfl) (by kernel_rfl) h3
  · obtain ⟨a, s, hv, -⟩ := laid_sentinel h8 (g := 1) (by kernel_rfl) (show _ = some 91 by kernel_rfl) Tryz.underlying91 rowG Tryz.underlying277 Tryz.underlying279 rfl rfl Tryz.underlying9 (by kernel_rfl) (by kernel_rfl)
    exact ⟨_, _, hv⟩
  · obtain ⟨a, s, hv, -⟩ := laid_sentinel h7 (g := 2) (by kernel_rfl) (show _ = some 91 by kernel_rfl) Tryz.underlying91 rowG Tryz.underlying277 Tryz.underlying279 rfl rfl Tryz.underlying9 (by kernel_rfl) (by kernel_rfl)
    exact ⟨_, _, hv⟩
  · exact Lib.tabIs_of_head (zs := kTab) (k := .u64) (g := 4) (by kernel_rfl) (show _ = some 290 by kernel_rfl) Tryz.underlying290 Tryz.underlying237 (by kernel_rfl) (by kernel_rfl) h5
  · exact Lib.tabIs_of_head (zs := beginTab) (k := .u64) (g := 3) (by kernel_rfl) (show _ = some 259 by kernel_rfl) Tryz.underlying259 Tryz.underlying237 (by kernel_rfl) (by kernel_rfl) h6
end Go.Proofs.YtiabfngiibabcaaGreatDoor
