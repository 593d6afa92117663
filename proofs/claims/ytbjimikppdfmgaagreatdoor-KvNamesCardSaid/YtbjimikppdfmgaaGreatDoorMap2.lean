/- Maps of texts to addresses: how many there are, and that one goes. -/
import Derived.Test.YtbjimikppdfmgaaGreatDoorMap
set_option linter.unusedVariables false
set_option linter.unusedSimpArgs false
namespace Go.Proofs.YtbjimikppdfmgaaGreatDoor
open Go.RowKit Go.Maps
section
variable {P : Program} {k t e : TypeId} {w : World} {b : Nat} {m : List (Key × Nat)}
theorem OwnM.len (h : OwnM P k w b m) (ht : P.underlying t = some (.map k e)) (ty : TypeId) : (Builtin.len_ #[t] ty #[.map (some b)]).run P w = .ok (.int .i64 (m.length : Nat)) w := by
  have := World.ownsMap.len h ht ty
  rw [mapD_size] at this
  exact this
theorem OwnM.drop (h : OwnM P k w b m) (hk : P.underlying k = some .string) (ht : P.underlying t = some (.map k e)) (key : Key) (hl : key.length ≤ 1000000) (ty : TypeId) :
    ∃ w', (Builtin.delete_ #[t, k] ty #[.map (some b), .string (S key)]).run P w = .ok (.tuple #[]) w' ∧ OwnM P k w' b (kdel m key) ∧ w.mapTurned w' b := by
  obtain ⟨w', hrun, hown, hg⟩ := World.ownsMap.drop h (Maps.string_keyed hk) ht (key_of hk key hl) ty
  rw [mapD_del] at hown
  exact ⟨w', hrun, OwnM.tight hown, hg⟩
end
theorem turned_grown {w w' : World} {b : Nat} (h : w.mapTurned w' b) : w.grownBy w' (some b) := by
  first
  | exact h.grown
  | exact h.grownBy
  | exact World.mapTurned.grown h
  | exact World.mapTurned.grownBy h
end Go.Proofs.YtbjimikppdfmgaaGreatDoor
