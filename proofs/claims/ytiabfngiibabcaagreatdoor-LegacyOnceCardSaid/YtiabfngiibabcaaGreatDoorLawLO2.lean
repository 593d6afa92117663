/-
  pantilelaw16.LegacyOnce at what comes in.
-/
import Derived.Test.YtiabfngiibabcaaGreatDoorLawLOnce
import Derived.Test.YtiabfngiibabcaaGreatDoorLgF
set_option linter.unusedVariables false
namespace Go.Proofs.YtiabfngiibabcaaGreatDoor
open Go.RowKit

theorem row_LegacyOnce (s : ByteArray) (A : Option Addr) (n c : Nat) (ts : List Int) (w : World) (hs : s.size ≤ maxLen) (h1 : n = ts.length ∧ ts.length ≤ c ∧ (c : Int) ≤ 9223372036854775807 ∧ IntsIn ts ∧ IntsAt w A ts) (hL : LibL w) :
    Calls Tryz.prog 3 #[.string s, .slice A n c] w fun e w' => e = .returned (.bool true) ∧ Below w.heap.size w w' := by
  obtain ⟨rfl, h2, h3, h4, h5⟩ := h1
  rw [← S_of s]
  exact law_LegacyOnce s.data.toList A ts c w h5 h4 (by omega) hL
end Go.Proofs.YtiabfngiibabcaaGreatDoor
