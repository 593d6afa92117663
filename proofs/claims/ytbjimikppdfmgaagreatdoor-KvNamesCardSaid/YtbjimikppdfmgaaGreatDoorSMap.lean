/- What a Go map from texts to texts is good for. -/
import Derived.Test.YtbjimikppdfmgaaGreatDoorMap2
set_option linter.unusedVariables false
set_option linter.unusedSimpArgs false
namespace Go.Proofs.YtbjimikppdfmgaaGreatDoor
open Go.RowKit Go.WideMaps Go.ChangeMaps Go.Maps

/-- How a text reads. -/
def Rs (v : Value) : Option (DataW Unit × List MemPlace) :=
  match v with
  | .string b => some (.lit (.string b.data.toList), [])
  | _ => none
theorem Rs_str (l : List UInt8) : Rs (.string (S l)) = some (.lit (.string l), []) := by
  simp [Rs, S]
theorem Rs_inv {v : Value} {d : DataW Unit} {ps : List MemPlace} (h : Rs v = some (d, ps)) : ∃ l, v = .string (S l) ∧ d = .lit (.string l) := by
  unfold Rs at h
  split at h
  · rename_i b
    simp at h
    exact ⟨b.data.toList, by rw [S_of], h.1.symm⟩
  · cases h
abbrev KMap := List (Key × List UInt8)
def mapS (m : KMap) : DataW Unit := .map (m.map fun p => (.string p.1, .lit (.string p.2)))
theorem insert_mapS (k : Key) (b : List UInt8) (m : KMap) : DataW.insert ((.string k, .lit (.string b)) : Lit × DataW Unit) (m.map fun p => (.string p.1, .lit (.string p.2))) = (kins k b m).map fun p => (.string p.1, .lit (.string p.2)) := by
  induction m with
  | nil => rfl
  | cons y r ih =>
    rw [List.map_cons]
    unfold DataW.insert kins
    by_cases h : bytesBefore k y.1 = true
    · rw [if_pos (show ((Lit.string k).before (Lit.string y.1)) = true from h), if_pos h]; rfl
    · rw [if_neg (show ¬ ((Lit.string k).before (Lit.string y.1)) = true from h), if_neg h, ih]; rfl
theorem mapS_del (m : KMap) (k : Key) : (mapS m).del (.string k) = mapS (kdel m k) := by
  simp [mapS, DataW.del, kdel, List.filter_map, Function.comp_def, Lit.sameKey]
theorem mapS_put (m : KMap) (k : Key) (b : List UInt8) : (mapS m).put (.string k) (.lit (.string b)) = mapS (kput m k b) := by
  have h := mapS_del m k
  simp only [mapS, DataW.del, DataW.map.injEq] at h
  simp only [mapS, DataW.put, h]
  rw [insert_mapS, kput]
theorem mapS_at (m : KMap) (k : Key) : (mapS m).atKey (.string k) (.lit (.string [])) = .lit (.string ((kget m k).getD [])) := by
  simp only [mapS, DataW.atKey, kget, List.find?_map, Function.comp_def, Lit.sameKey]
  cases h : m.find? fun p => p.1 == k <;> simp [h]
theorem mapS_size (m : KMap) : Maps.size (mapS m) = m.length := by simp [mapS, Maps.size]

/-- Block b is a map from texts to texts. -/
def OwnS (P : Program) (k : TypeId) (w : World) (b : Nat) (m : KMap) : Prop := w.ownsMap P k Rs b m.length (mapS m)
section
variable {P : Program} {k t e : TypeId} {w : World} {b : Nat} {m : KMap}
theorem OwnS.made (w : World) : OwnS P k (w.alloc (.map #[] 0)) w.heap.size [] := World.ownsMap_made w P k Rs
theorem OwnS.tight {n : Nat} (h : w.ownsMap P k Rs b n (mapS m)) : OwnS P k w b m := by
  obtain ⟨es, clock, hb, F, hs, hD⟩ := h
  refine ⟨es, clock, hb, F, ?_, hD⟩
  have h1 := congrArg Maps.size hD
  rw [mapS_size, Maps.size_eq, length_read] at h1
  omega
theorem OwnS.kept {w' : World} (h : OwnS P k w b m) (hb : w'.heap[b]? = w.heap[b]?) : OwnS P k w' b m := by
  obtain ⟨es, clock, hb', F, hs, hD⟩ := h
  exact ⟨es, clock, hb.trans hb', F, hs, hD⟩
theorem OwnS.isMap (h : OwnS P k w b m) : ∃ es clock, w.heap[b]? = some (.map es clock) := by
  obtain ⟨es, clock, hb, _⟩ := h
  exact ⟨es, clock, hb⟩
theorem OwnS.look (h : OwnS P k w b m) (hk : P.underlying k = some .string) (ht : P.underlying t = some (.map k e)) (hz : (zeroValue e).run P w = .ok (.string (S [])) w) (key : Key) (hl : key.length ≤ 1000000) :
    (Instr.lookup t (.map (some b)) (.string (S key)) false).run P w = .ok (.string (S ((kget m key).getD []))) w := by
  obtain ⟨v, ps, hrun, hv⟩ := World.ownsMap.lookup h (Maps.string_keyed hk) ht hz (zd := .lit (.string [])) (zp := []) (Rs_str []) (key_of hk key hl)
  rw [mapS_at] at hv
  rw [hrun]
  congr 1
  obtain ⟨l, rfl, hd⟩ := Rs_inv hv
  simp only [DataW.lit.injEq, Lit.string.injEq] at hd
  rw [hd]
theorem OwnS.put (h : OwnS P k w b m) (hk : P.underlying k = some .string) (ht : P.underlying t = some (.map k e)) (hn : m.length < 9223372036854775807) (key : Key) (hl : key.length ≤ 1000000) (c : List UInt8) :
    ∃ w', (Instr.mapUpdate t (.map (some b)) (.string (S key)) (.string (S c))).run P w = .ok () w' ∧ OwnS P k w' b (kput m key c) ∧ w.grownBy w' (some b) := by
  obtain ⟨w', hrun, hown, hg⟩ := World.ownsMap.update h (Maps.string_keyed hk) ht (by unfold maxLen; omega) (val := .string (S c)) (key_of hk key hl) (Rs_str c)
  rw [mapS_put] at hown
  exact ⟨w', hrun, OwnS.tight hown, hg⟩
theorem OwnS.len (h : OwnS P k w b m) (ht : P.underlying t = some (.map k e)) (ty : TypeId) : (Builtin.len_ #[t] ty #[.map (some b)]).run P w = .ok (.int .i64 (m.length : Nat)) w := by
  have := World.ownsMap.len h ht ty
  rw [mapS_size] at this
  exact this
theorem OwnS.drop (h : OwnS P k w b m) (hk : P.underlying k = some .string) (ht : P.underlying t = some (.map k e)) (key : Key) (hl : key.length ≤ 1000000) (ty : TypeId) :
    ∃ w', (Builtin.delete_ #[t, k] ty #[.map (some b), .string (S key)]).run P w = .ok (.tuple #[]) w' ∧ OwnS P k w' b (kdel m key) ∧ w.mapTurned w' b := by
  obtain ⟨w', hrun, hown, hg⟩ := World.ownsMap.drop h (Maps.string_keyed hk) ht (key_of hk key hl) ty
  rw [mapS_del] at hown
  exact ⟨w', hrun, OwnS.tight hown, hg⟩
end
end Go.Proofs.YtbjimikppdfmgaaGreatDoor
