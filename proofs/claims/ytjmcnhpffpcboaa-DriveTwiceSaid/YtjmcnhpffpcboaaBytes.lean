/- Slices of bytes: what reads, what is made. Walks of bytes.Clone, slices.Grow, slices.Concat at []byte. -/
import Derived.Test.YtjmcnhpffpcboaaDMem
import Derived.Maps.AppendAt
import Derived.Lib.SliceRun
set_option linter.unusedVariables false
set_option linter.unusedSimpArgs false
set_option maxHeartbeats 800000
set_option maxRecDepth 100000
namespace Go.Proofs.Ytjmcnhpffpcboaa
open Go.RowKit

/-- A slice that reads as bytes. -/
def BytesAt (w : World) (A : Option Addr) (l : List UInt8) : Prop :=
  0 < l.length → ∃ b off, A = some ⟨b, off, none⟩ ∧ b < w.heap.size ∧ ∀ i, (h : i < l.length) → w.cell? ⟨b, off + i, none⟩ = some (B8 l[i])
theorem BytesAt.below {w w' : World} {A : Option Addr} {l : List UInt8} (h : BytesAt w A l) (hb : Below w.heap.size w w') : BytesAt w' A l := fun h0 => by
  obtain ⟨b, off, hA, hlt, hc⟩ := h h0
  exact ⟨b, off, hA, Nat.lt_of_lt_of_le hlt hb.size, fun i hi => (hb.cell (p := ⟨b, _, none⟩) hlt).trans (hc i hi)⟩
theorem add_plain' (b off j : Nat) : (⟨b, off, none⟩ : Addr).add j = ⟨b, off + j, none⟩ := by unfold Addr.add; split <;> simp_all
theorem BytesAt.news {w : World} {ad : Addr} {l : List UInt8} (h : BytesAt w (some ad) l) : ∀ j u, (l.map B8)[j]? = some u → w.cell? (ad.add j) = some u := by
  intro j u hu
  have hj : j < l.length := by
    have := (List.getElem?_eq_some_iff.1 hu).1
    simpa using this
  obtain ⟨b, off, hA, _, hc⟩ := h (by omega)
  injection hA with hA
  subst hA
  rw [add_plain', hc j hj]
  simp only [List.getElem?_map, List.getElem?_eq_getElem hj, Option.map_some] at hu
  exact hu
theorem BytesAt.of_none {w : World} {l : List UInt8} (h : BytesAt w none l) : l = [] := by
  rcases Nat.eq_zero_or_pos l.length with h0 | h0
  · exact List.eq_nil_of_length_eq_zero h0
  · obtain ⟨b, off, hA, _⟩ := h h0
    cases hA
/-- An owned row of bytes reads. -/
theorem bytesAt_row {w : World} {base : Nat} {A : Option Addr} {n c : Nat} {l : List UInt8} (h : w.ownsRow base 5 1 (.slice A n c) l.length (l.map B8)) : n = l.length ∧ BytesAt w A l := by
  rcases h.2 with ⟨h1, h2⟩ | ⟨g, cap, cur, hv, hb, hh, hc, hm, hs, ht⟩
  · simp only [Value.slice.injEq] at h1
    exact ⟨by omega, fun h0 => absurd h0 (by omega)⟩
  · simp only [Value.slice.injEq] at hv
    obtain ⟨rfl, rfl, rfl⟩ := hv
    refine ⟨rfl, fun h0 => ⟨g, 0, rfl, (Array.getElem?_eq_some_iff.1 hh).1, fun i hi => ?_⟩⟩
    have := h.cellAt i (by omega)
    rw [Nat.zero_add, this]
    simp [List.getElem?_map, List.getElem?_eq_getElem hi]
theorem row_form {w : World} {base : Nat} {e : TypeId} {size n : Nat} {v : Value} {xs : List Value} (h : w.ownsRow base e size v n xs) : ∃ A c, v = .slice A n c := by
  rcases h.2 with ⟨rfl, rfl⟩ | ⟨g, cap, cur, rfl, _⟩
  · exact ⟨none, 0, rfl⟩
  · exact ⟨_, cap, rfl⟩
theorem row_base {w : World} {base base' : Nat} {e : TypeId} {size n : Nat} {v : Value} {xs : List Value} (h : w.ownsRow base e size v n xs) (hb : base' ≤ base) : w.ownsRow base' e size v n xs := by
  obtain ⟨h1, h2⟩ := h
  refine ⟨h1, ?_⟩
  rcases h2 with h2 | ⟨g, cap, cur, rfl, hg, r⟩
  · exact .inl h2
  · exact .inr ⟨g, cap, cur, rfl, by omega, r⟩
theorem B8_one (l : List UInt8) : ∀ u ∈ l.map B8, u.oneCell' = true := by
  intro u hu
  obtain ⟨b, _, rfl⟩ := List.mem_map.1 hu
  rfl

theorem info_u8 : ∃ i, (Try.prog).info? 5 = some i ∧ i.zero = some (.int .u8 0) ∧ i.size = 1 ∧ i.bytes = 1 := by
  have h : ((Try.prog).info? 5).map (fun i => (i.zero, i.size, i.bytes)) = some (some (.int .u8 0), 1, 1) := by kernel_rfl
  obtain ⟨i, hi, he⟩ := Option.map_eq_some_iff.1 h
  simp only [Prod.mk.injEq] at he
  exact ⟨i, hi, he.1, he.2.1, he.2.2⟩

/-- append(own, bytes...). -/
theorem run_append_bytes (w : World) (base : Nat) (v : Value) (xs l : List UInt8) (hown : w.ownsRow base 5 1 v xs.length (xs.map B8)) (A : Option Addr) (c : Nat) (hl : BytesAt w A l) (hm : xs.length + l.length ≤ 140737488355328) (hbase : base ≤ w.heap.size) (ty : TypeId) :
    ∃ v' w', (Builtin.append_ #[47, 47] ty #[v, .slice A l.length c]).run Try.prog w = .ok v' w' ∧ w'.ownsRow base 5 1 v' (xs ++ l).length ((xs ++ l).map B8) ∧ w.grownBy w' v.ownBlock ∧ (v'.ownBlock = v.ownBlock ∨ v'.ownBlock = some w.heap.size) := by
  obtain ⟨i, hi, hz, hs, hb⟩ := info_u8
  cases A with
  | none =>
    have h0 := hl.of_none
    subst h0
    refine ⟨v, w, ?_, by simpa using hown, World.grownBy.refl w _, .inl rfl⟩
    obtain ⟨A', c', rfl⟩ := row_form hown
    simp [Builtin.append_, run_underlying (show (Try.prog).underlying 47 = some (.slice 5) by kernel_rfl), sizeOf, typeInfo, hi, Builtin.lenOf, Builtin.firstCells]
    rcases hown.2 with ⟨h1, h2⟩ | ⟨g, cap, cur, hv, hb, hh, hnc, r⟩
    · simp only [Value.slice.injEq] at h1
      obtain ⟨rfl, h1, rfl⟩ := h1
      simp [h1]
    · simp only [Value.slice.injEq] at hv
      obtain ⟨rfl, _, rfl⟩ := hv
      simp [hnc, storeCells]
  | some ad =>
    obtain ⟨v', w', hrun, h2, h3, _, h5⟩ := run_append_own_at (P := Try.prog) w base 47 ty 5 i (.int .u8 0) 1 1 (by kernel_rfl) hi hz hs hb rfl (by decide) v xs.length (xs.map B8) hown ad l.length c (l.map B8) (by simp) hl.news (B8_one l) (by unfold maxLen; omega) (by omega) hbase
    exact ⟨v', w', hrun, by simpa using h2, h3, h5⟩

def Made (w : World) (l : List UInt8) (e : Ending) (w' : World) : Prop := ∃ v, e = .returned v ∧ w'.ownsRow w.heap.size 5 1 v l.length (l.map B8) ∧ Below w.heap.size w w'

theorem bytes_Clone (A : Option Addr) (l : List UInt8) (c : Nat) (w : World) (hl : BytesAt w A l) (hm : l.length ≤ 140737488355328) : Calls Try.prog 60 #[.slice A l.length c] w (Made w l) := by
  have qT : ∀ (w : World) (a : Option Addr) (n c n' c' : Nat), (binOp .eql 47 (.slice a n c) (.slice none n' c')).run Try.prog w = .ok (.bool a.isNone) w := fun w a n c n' c' => Lib.run_eql_slice_nil w _ _ a n c n' c' Try.underlying47
  cases A with
  | none =>
    have h0 := hl.of_none
    have H := hid (show Made w l (.returned (.slice none 0 0)) w from ⟨_, rfl, by rw [h0]; exact World.ownsRow_nil _ _ _ _, Below.refl _ _⟩)
    clear h0 hl hm
    go_enter Try.func60, Try.ntmps60
    go_wp2
    go_ret
    exact H.out
  | some ad =>
    have b0 : Below w.heap.size w (w.alloc (.cells #[] 5)) := (Below.refl _ _).alloc (Nat.le_refl _) _
    have h0 : (w.alloc (.cells #[] 5)).ownsRow w.heap.size 5 1 (.slice (some ⟨w.heap.size, 0, none⟩) 0 0) ([] : List UInt8).length (([] : List UInt8).map B8) :=
      ⟨rfl, .inr ⟨w.heap.size, 0, #[], rfl, Nat.le_refl _, heap_alloc_new w _, Nat.le_refl _, by unfold maxLen; omega, rfl, rfl⟩⟩
    obtain ⟨v', w', hrun, hown, hgrow, hat⟩ := run_append_bytes _ w.heap.size _ [] l h0 (some ad) c (hl.below b0) (by simpa using hm) (by simp) 47
    have H := hid (show Made w l (.returned v') w' from ⟨_, rfl, hown, b0.grown hgrow (by simp) (fun k hk => by
      have : w.heap.size = k := by simpa [Value.ownBlock] using hk
      omega)⟩)
    clear hown hgrow hat h0 b0 hl hm
    go_enter Try.func60, Try.ntmps60
    go_wp2_with (at_builtin; refine wpList_append_run rfl _ _ _ rfl _ _ _ _ rfl rfl hrun ?_)
    go_ret
    exact H.out
end Go.Proofs.Ytjmcnhpffpcboaa
