/- Batches that came in, and batches beside a store. -/
import Derived.Test.YtbjimikppdfmgaaGreatDoorKv5
import Derived.Test.YtbjimikppdfmgaaGreatDoorWs
import Derived.Test.YtbjimikppdfmgaaGreatDoorOpen
set_option linter.unusedVariables false
set_option linter.unusedSimpArgs false
set_option maxRecDepth 100000
namespace Go.Proofs.YtbjimikppdfmgaaGreatDoor
open Go.RowKit

/-- A row of writes, as blocks beside a store. -/
theorem ws_row_blk {w : World} {base : Nat} {A : Option Addr} {c : Nat} {ps : List Wr} (h : w.ownsRow base 31 3 (.slice A ps.length c) ps.length (ps.flatMap wCells)) :
    ∃ X1 : List Xc, (∀ x ∈ X1, base ≤ x.1 ∧ Blk w x.1 x.2.1 x.2.2) ∧ ∀ W', (∀ x ∈ X1, Blk W' x.1 x.2.1 x.2.2) → WsAt W' A ps := by
  rcases h.2 with ⟨h1, h2⟩ | ⟨g, cap, cur, hv, hb, hh, r1, r2, r3, r4⟩
  · exact ⟨[], by simp, fun W' _ h0 => by omega⟩
  · simp only [Value.slice.injEq] at hv
    obtain ⟨rfl, -, rfl⟩ := hv
    refine ⟨[(g, 31, cur)], by simpa using ⟨hb, hh⟩, fun W' hW h0 => ?_⟩
    have hB := hW _ (List.mem_singleton.2 rfl)
    refine ⟨g, 0, rfl, hB.lt, fun i hi => ?_⟩
    obtain ⟨p1, p2, p3⟩ := wCells_get ps i hi
    have key : ∀ j, j < ps.length * 3 → cur[j]? = (ps.flatMap wCells)[j]? := fun j hj => by
      rw [← r4, List.getElem?_take, if_pos hj]
      simp
    simp only [Nat.zero_add]
    exact ⟨(hB.cell _).trans ((key _ (by omega)).trans p1), (hB.cell _).trans ((key _ (by omega)).trans p2), (hB.cell _).trans ((key _ (by omega)).trans p3)⟩
section
variable {w0 : Fr} {W : World} {g N mb : Nat} {d : Dr} {X : List Xc} {m : KM}
theorem MW.pushL (h : MW w0 g d N X mb m W) {W' : World} (hb : Below W.heap.size W W') {X1 : List Xc} (h1 : ∀ x ∈ X1, W.heap.size ≤ x.1 ∧ Blk W' x.1 x.2.1 x.2.2) : MW w0 g d N (X1 ++ X) mb m W' := by
  obtain ⟨fp, k1, h2, h3, h4, h5, h6, h7, h8⟩ := h
  refine ⟨fp, k1.below hb, h2, h3.below hb, h4, fun x hx => ?_, h6, h7, h8.kept (hb.block mb h8.lt)⟩
  rcases List.mem_append.1 hx with hx | hx
  · refine ⟨fun hk => ?_, (h1 x hx).2⟩
    have := k1.lt _ hk
    have := (h1 x hx).1
    omega
  · exact ⟨(h5 x hx).1, (h5 x hx).2.below hb (h5 x hx).2.lt⟩
end
/-- A batch that came in. -/
theorem open_writes {H : Type} {enc : TypeId × Value → H} {w : World} {base : Nat} {spare : Nat → Bool} {held : Bool} {A : Option Addr} {n cap : Nat} {d : DataW H} {ps : List MemPlace}
    (h : DataW.Trod enc Tryz.prog w base spare held 32 (.slice A n cap) d ps) : ∃ qs : List Wr, n = qs.length ∧ qs.length ≤ cap ∧ (cap : Int) ≤ 9223372036854775807 ∧ WsAt w A qs := by
  have hC : (Tryz.prog).cellsOf 31 = 3 := by kernel_rfl
  obtain ⟨h1, h2, h3⟩ := open_slice_any Tryz.underlying32 (by rw [hC]; omega) h
  rw [hC] at h3
  rcases Nat.eq_zero_or_pos n with h0 | h0
  · exact ⟨[], by simpa using h0, by simp, h2, fun h => absurd h (by simp)⟩
  · obtain ⟨b, off, hA, hb, hi⟩ := h3 h0
    obtain ⟨l, hl, hp⟩ := choose_list n (fun i (q : Wr) => w.cell? ⟨b, off + i * 3, none⟩ = some (.string (S q.key)) ∧ w.cell? ⟨b, off + i * 3 + 1, none⟩ = some (.string (S q.val)) ∧ w.cell? ⟨b, off + i * 3 + 2, none⟩ = some (.bool q.gone)) ⟨[], [], false⟩ (fun i hin => by
      obtain ⟨cs, m, y, hlen, hcell, ht⟩ := hi i hin
      have hf := open_fields Tryz.underlying31 (by kernel_rfl) ht
      obtain ⟨v0, m0, z0, e0, t0⟩ := hf 0 _ rfl (by omega)
      obtain ⟨v1, m1, z1, e1, t1⟩ := hf 1 _ rfl (by omega)
      obtain ⟨v2, m2, z2, e2, t2⟩ := hf 2 _ rfl (by omega)
      obtain ⟨s0, c0, -, -⟩ := DataW.trod_string Tryz.underlying9 t0
      obtain ⟨s1, c1, -, -⟩ := DataW.trod_string Tryz.underlying9 t1
      obtain ⟨b2, c2, -⟩ := DataW.trod_bool Tryz.underlying4 t2
      simp only [List.cons.injEq, and_true] at c0 c1 c2
      subst c0 c1 c2
      refine ⟨⟨s0.data.toList, s1.data.toList, b2⟩, ?_, ?_, ?_⟩
      · rw [S_of, ← e0, ← hcell 0 (by omega), Nat.add_zero]
      · rw [S_of, ← e1, ← hcell 1 (by omega), Nat.add_assoc]
      · rw [← e2, ← hcell 2 (by omega), Nat.add_assoc])
    exact ⟨l, hl.symm, by omega, h2, fun _ => ⟨b, off, hA, hb, hp⟩⟩
theorem filter_at {α : Type} (p : α → Bool) (l : List α) (i : Nat) (h : i < l.length) (hp : p l[i] = true) : ((l.take i).filter p).length < (l.filter p).length ∧ (l.filter p)[((l.take i).filter p).length]? = some l[i] := by
  have e : l.filter p = (l.take i).filter p ++ l[i] :: (l.drop (i + 1)).filter p := by
    conv => lhs; rw [← List.take_append_drop i l, List.drop_eq_getElem_cons h]
    rw [List.filter_append, List.filter_cons_of_pos hp]
  rw [e]
  constructor
  · simp
  · rw [List.getElem?_append_right (Nat.le_refl _)]
    simp
theorem filter_next {α : Type} (p : α → Bool) (l : List α) (i : Nat) (h : i < l.length) : ((l.take (i + 1)).filter p).length = ((l.take i).filter p).length + if p l[i] then 1 else 0 := by
  rw [List.take_succ_eq_append_getElem h, List.filter_append, List.length_append]
  cases hp : p l[i] <;> simp [hp]
end Go.Proofs.YtbjimikppdfmgaaGreatDoor
