/- Walk of (*drive.Drive).names: all names, rising. -/
import Derived.Test.YtioillenlgpcgaaLayKeys
import Derived.Test.YtioillenlgpcgaaDrOk
import Derived.Test.YtioillenlgpcgaaDrive1
import Derived.CallsIn
set_option linter.unusedVariables false
set_option linter.unusedSimpArgs false
set_option maxHeartbeats 1600000
set_option maxRecDepth 100000
namespace Go.Proofs.Ytioillenlgpcgaa
open Go.RowKit Go.Maps Go.Sort Go.Shelf Go.WideMaps Go.ChangeMaps Go.WideAt Go.WideShapes

theorem before_lt : ∀ a b : List UInt8, bytesBefore a b = true → a < b
  | [], [], h => by simp [bytesBefore] at h
  | [], b :: s, _ => List.nil_lt_cons b s
  | a :: r, [], h => by simp [bytesBefore] at h
  | a :: r, b :: s, h => by
    simp only [bytesBefore, Bool.or_eq_true, decide_eq_true_eq, Bool.and_eq_true, beq_iff_eq] at h
    refine List.cons_lt_cons_iff.2 ?_
    rcases h with h | ⟨h1, h2⟩
    · exact .inl h
    · exact .inr ⟨h1, before_lt r s h2⟩
theorem sorted_keys {α : Type} {m : List (Key × α)} (hr : Rising m) {ss : List (List UInt8)} (hp : ss.Perm (m.map (·.1))) : ss.mergeSort (fun x y => decide (x ≤ y)) = m.map (·.1) := by
  have tr : ∀ a b c : List UInt8, leB a b = true → leB b c = true → leB a c = true := fun a b c h1 h2 => by simp only [leB, decide_eq_true_eq] at *; exact List.le_trans h1 h2
  have tot : ∀ a b : List UInt8, (leB a b || leB b a) = true := fun a b => by simp only [leB, Bool.or_eq_true, decide_eq_true_eq]; exact List.le_total a b
  refine List.Perm.eq_of_pairwise (le := fun a b => leB a b = true) (fun a b _ _ h1 h2 => ?_) (List.pairwise_mergeSort tr tot ss) ?_ ((List.mergeSort_perm ss leB).trans hp)
  · simp only [leB, decide_eq_true_eq] at h1 h2
    exact List.le_antisymm h1 h2
  · rw [List.pairwise_map]
    refine List.Pairwise.imp (fun {p q} hpq => ?_) hr
    simp only [leB, decide_eq_true_eq]
    exact List.le_of_lt (before_lt _ _ hpq)
theorem strKeys_mapD (m : List (Key × Nat)) : strKeys (mapD m) = m.map (·.1) := by
  simp [strKeys, mapD, strOf, Function.comp_def]

def NamesPost (w : World) (d : Dr) (e : Ending) (w' : World) : Prop :=
  ∃ v, e = .returned v ∧ w'.ownsRow w.heap.size 9 1 v d.files.length (d.files.map fun p => Value.string (S p.1)) ∧ (v = .slice none 0 0 ↔ d.files = []) ∧ Below w.heap.size w w'
theorem drive_names {w : World} {g : Nat} {d : Dr} {fp : Nat → Prop} {N : Nat} (h : IsDrive w g d fp) (hok : d.Ok N) : Calls Try.prog 46 #[.pointer (some ⟨g, 0, none⟩)] w (NamesPost w d) := by
  obtain ⟨mb, aft, rs, hb, ha, hf, hd⟩ := h.has
  have cg := hb.cell 0
  simp [driveCells] at cg
  have hlen : d.files.length = rs.length := by rw [hd]; simp [kmap]
  have hfl := hok.files
  have hown := hf.map
  unfold OwnM at hown
  have hsz : Maps.size (mapD (kmap FileR.blk rs)) = rs.length := by rw [mapD_size]; simp [kmap]
  have hmax : Maps.size (mapD (kmap FileR.blk rs)) ≤ maxLen := by rw [hsz]; unfold maxLen; omega
  have hbytes : Maps.size (mapD (kmap FileR.blk rs)) * 16 ≤ 140737488355328 := by rw [hsz]; omega
  have fin : ∀ (v : Value) (ss : List (List UInt8)) (w' : World), ss.Perm (strKeys (mapD (kmap FileR.blk rs))) →
      w'.ownsRow (w.alloc (.cells #[.map (some mb)] 58)).heap.size 9 1 v ss.length ((ss.mergeSort (fun x y => decide (x ≤ y))).map encStr) → (v = .slice none 0 0 ↔ ss = []) →
      Below (w.alloc (.cells #[.map (some mb)] 58)).heap.size (w.alloc (.cells #[.map (some mb)] 58)) w' → NamesPost w d (.returned v) w' := by
    intro v ss w' hS hrow hnil hbw
    rw [strKeys_mapD] at hS
    have hk : (kmap FileR.blk rs).map (·.1) = d.files.map (·.1) := by rw [hd]; simp [kmap, Function.comp_def]
    rw [hk] at hS
    have hl : ss.length = d.files.length := by rw [hS.length_eq]; simp
    rw [sorted_keys hok.rising hS, hl, List.map_map] at hrow
    refine ⟨v, rfl, row_base hrow (by simp), hnil.trans ?_, ((Below.refl _ w).alloc (Nat.le_refl _) _).trans (hbw.mono (by simp))⟩
    constructor
    · rintro rfl
      exact List.eq_nil_of_length_eq_zero (by rw [← hl]; rfl)
    · intro h0
      exact List.eq_nil_of_length_eq_zero (by rw [hl, h0]; rfl)
  have FIN := hid fin
  have cS := hid (slices_Sorted_keys mb rs.length.succ.pred (mapD (kmap FileR.blk rs)) Rp w)
  clear fin
  refine (callsIn_wide (n := 6)).1 ?_
  have hfK : Fence.wide.fn 71 := trivial
  have hfS : Fence.wide.fn 70 := trivial
  refine callsIn_of_wp Try.func46 rfl trivial ?_ rfl
  simp only [Try.ntmps46, List.size_toArray, List.length_cons, List.length_nil, Nat.reduceAdd, Nat.reduceSub, Array.replicate_succ, Array.replicate_zero, List.push_toArray, List.append_toArray, List.nil_append, List.cons_append]
  gi_wp2_with (first
    | (gi_at_call 71; refine (maps_Keys_any _ _).mono ?_; rintro e w' ⟨rfl, rfl⟩)
    | (gi_at_call 70; refine (slices_Sorted_keys mb _ (mapD (kmap FileR.blk rs)) Rp w hown hmax hbytes).mono ?_; rintro e w' ⟨v, ss, rfl, hS, hrow, hnil, hb⟩))
  go_ret
  exact FIN.out v ss _ hS hrow hnil hb
end Go.Proofs.Ytioillenlgpcgaa
