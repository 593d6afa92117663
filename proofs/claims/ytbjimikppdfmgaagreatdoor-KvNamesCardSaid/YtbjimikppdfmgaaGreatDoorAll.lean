/- Walk of (*drive.file).all. -/
import Derived.Test.YtbjimikppdfmgaaGreatDoorConcat
import Derived.Test.YtbjimikppdfmgaaGreatDoorDrive3
import Derived.Deep.RegionHeld3
import Derived.Deep.DrawnRows
set_option linter.unusedVariables false
set_option linter.unusedSimpArgs false
set_option maxHeartbeats 1600000
set_option maxRecDepth 100000
attribute [local go_sem ↓] Go.wp_at_zero Go.wp_at_succ
namespace Go.Proofs.YtbjimikppdfmgaaGreatDoor
open Go.RowKit

theorem info_bytes : ∃ i, (Tryz.prog).info? 60 = some i ∧ i.zero = some (.slice none 0 0) ∧ i.size = 1 ∧ i.bytes = 24 := by
  have h : ((Tryz.prog).info? 60).map (fun i => (i.zero, i.size, i.bytes)) = some (some (.slice none 0 0), 1, 24) := by kernel_rfl
  obtain ⟨i, hi, he⟩ := Option.map_eq_some_iff.1 h
  simp only [Prod.mk.injEq] at he
  exact ⟨i, hi, he.1, he.2.1, he.2.2⟩

/-- The pieces of a file read as slices of bytes. -/
theorem piece_chunk {w : World} {fp : Nat → Prop} {v : Value} {ls : List (List UInt8)} {vs : List Value} (h : PiecesRow w fp v ls vs) : ∀ i, (hi : i < ls.length) → ∃ Ai ci, vs[i]? = some (.slice Ai ls[i].length ci) ∧ BytesAt w Ai ls[i] := by
  intro i hi
  obtain ⟨u, hu, hb⟩ := h.each i hi
  obtain ⟨A, c, rfl⟩ := row_form hb.row
  exact ⟨A, c, hu, (bytesAt_row hb.row).2⟩

theorem all_walk {w : World} {blk : Nat} {A A2 : Option Addr} {n c n2 c2 : Nat} (c0 : w.cell? ⟨blk, 0, none⟩ = some (.slice A n c)) (c1 : w.cell? ⟨blk, 1, none⟩ = some (.slice A2 n2 c2)) (hlt : blk < w.heap.size)
    {v' : Value} {w1 : World} (hrun : (Builtin.append_ #[81, 81] 81 #[.slice (some ⟨w.heap.size, 0, none⟩) 1 1, .slice A2 n2 c2]).run Tryz.prog (w.alloc (.cells #[.slice A n c] 60)).drew = .ok v' w1)
    (k0 : w1.cell? ⟨blk, 0, none⟩ = some (.slice A n c)) (k1 : w1.cell? ⟨blk, 1, none⟩ = some (.slice A2 n2 c2)) (R : Value → World → Prop)
    (hR : Calls Tryz.prog 82 #[v'] w1 fun e w' => ∃ v, e = .returned v ∧ R v w' ∧ w'.cell? ⟨blk, 0, none⟩ = some (.slice A n c) ∧ w'.cell? ⟨blk, 1, none⟩ = some (.slice A2 n2 c2)) : Calls Tryz.prog 58 #[.pointer (some ⟨blk, 0, none⟩)] w fun e w' => ∃ v, e = .returned v ∧ R v w' := by
  have HR := hid hR
  clear hR
  go_enter Tryz.func58, Tryz.ntmps58
  go_wp2
  go_region_held3 (fun w' => w'.cell? ⟨blk, 0, none⟩ = some (.slice A n c) ∧ w'.cell? ⟨blk, 1, none⟩ = some (.slice A2 n2 c2)) (simp [*, go_sem, World.cell?_alloc_past])
    (first | (refine step_append_run rfl _ _ _ (by rfl) _ _ _ _ (by rfl) (by rfl) hrun ?_) | (go_at_call 82; refine HR.out.mono ?_; rintro e w2 ⟨v2, rfl, hr, q0, q1⟩))
  all_goals
    go_wp2
    go_ret
    exact ⟨v2, rfl, hr⟩

/-- What an owned row offers to an append. -/
theorem row_offer {w : World} {base : Nat} {e : TypeId} {A : Option Addr} {n c : Nat} {xs : List Value} (h : w.ownsRow base e 1 (.slice A n c) n xs) : xs.length = n * 1 ∧ (A = none → n = 0) ∧ ∀ ad, A = some ad → ∀ j u, xs[j]? = some u → w.cell? (ad.add j) = some u := by
  refine ⟨h.1, fun hA => ?_, fun ad hA j u hu => ?_⟩
  · rcases h.2 with ⟨h1, h2⟩ | ⟨g, cap, cur, hv, _⟩
    · exact h2
    · rw [hA] at hv; simp at hv
  · subst hA
    rcases h.2 with ⟨h1, h2⟩ | ⟨g, cap, cur, hv, hb, hh, r⟩
    · simp at h1
    · simp only [Value.slice.injEq, Option.some.injEq] at hv
      obtain ⟨rfl, _, rfl⟩ := hv
      exact h.cells (g := g) rfl j u hu

theorem file_all {w : World} {fp : Nat → Prop} {r : FileR} (h : IsFile w fp r) (hn : r.f.pieces.length ≤ 1000000000) (ht : r.f.all.length ≤ 1000000000000) : Calls Tryz.prog 58 #[.pointer (some ⟨r.blk, 0, none⟩)] w (Made w r.f.all) := by
  have c0 := h.blk.cell 0
  have c1 := h.blk.cell 1
  obtain ⟨vs, hv⟩ := h.pieces
  have hch := piece_chunk hv
  have hs := h.safe.row
  have hlt := h.blk.lt
  obtain ⟨A, c, hsv⟩ := row_form hs
  obtain ⟨A2, c2, hpv⟩ := row_form hv.row
  have hrow := hv.row
  rw [hsv] at hs
  rw [hpv] at hrow
  have ho := row_offer hrow
  simp [hsv] at c0
  simp [hpv] at c1
  obtain ⟨i, hi, hz, hsz, hby⟩ := info_bytes
  have b0 : Below w.heap.size w (w.alloc (.cells #[.slice A r.f.safe.length c] 60)).drew := ((Below.refl _ _).alloc (Nat.le_refl _) _).drew
  have hown0 : (w.alloc (.cells #[.slice A r.f.safe.length c] 60)).drew.ownsRow w.heap.size 60 1 (.slice (some ⟨w.heap.size, 0, none⟩) 1 1) 1 [.slice A r.f.safe.length c] :=
    ⟨rfl, .inr ⟨w.heap.size, 1, _, rfl, Nat.le_refl _, heap_alloc_new w _, Nat.le_refl _, by unfold maxLen; omega, rfl, rfl⟩⟩
  obtain ⟨v', w1, hrun, hown1, hgrow, hat⟩ := run_append_row (P := Tryz.prog) _ w.heap.size 81 81 60 i (.slice none 0 0) 1 24 (by kernel_rfl) hi hz hsz hby rfl (by decide) _ _ _ hown0 A2 r.f.pieces.length c2 vs ho.1 ho.2.1
    (fun ad hA j u hu => by
      have hc := ho.2.2 ad hA j u hu
      have hb : (ad.add j).block < w.heap.size := World.block_lt_of_cell? w _ hc
      exact (b0.cell hb).trans hc)
    (fun u hu => by
      obtain ⟨j, hj, rfl⟩ := List.mem_iff_getElem.1 hu
      obtain ⟨Ai, ci, hx, _⟩ := hch j (by rw [← hv.len]; exact hj)
      rw [List.getElem?_eq_getElem hj] at hx
      injection hx with hx
      rw [hx]; rfl)
    (by unfold maxLen; omega) (by omega) (by simp)
  have b1 : Below w.heap.size w w1 := b0.grown hgrow (by simp) (fun k hk => by
    have : w.heap.size = k := by simpa [Value.ownBlock] using hk
    omega)
  have hB1 : BytesAt w A r.f.safe := (bytesAt_row hs).2
  obtain ⟨A3, c3, hv3⟩ := row_form hown1
  rw [hv3] at hown1 hrun
  have hchunks : ChunksAt w1 A3 (r.f.safe :: r.f.pieces) := by
    intro _
    rcases hown1.2 with ⟨h1, h2⟩ | ⟨g, cap, cur, hvv, hb, hh, r4⟩
    · omega
    · simp only [Value.slice.injEq] at hvv
      obtain ⟨rfl, _, rfl⟩ := hvv
      refine ⟨g, 0, rfl, (Array.getElem?_eq_some_iff.1 hh).1, fun j hj => ?_⟩
      have hcell := hown1.cellAt j (by simp at hj; omega)
      rcases j with _ | j
      · exact ⟨A, c, by rw [Nat.zero_add, hcell]; rfl, hB1.below b1⟩
      · obtain ⟨Ai, ci, hx, hy⟩ := hch j (by simpa using hj)
        exact ⟨Ai, ci, by rw [Nat.zero_add, hcell]; simpa using hx, hy.below b1⟩
  have hlen : 1 + r.f.pieces.length = (r.f.safe :: r.f.pieces).length := by simp; omega
  rw [hlen] at hrun
  have h9 : total (r.f.safe :: r.f.pieces) = r.f.all.length := by simp [total, File.all]
  have hC := concat A3 (r.f.safe :: r.f.pieces) c3 w1 hchunks (by simp; omega) (by rw [h9]; omega)
  refine all_walk c0 c1 hlt hrun ((b1.cell (p := ⟨r.blk, 0, none⟩) hlt).trans c0) ((b1.cell (p := ⟨r.blk, 1, none⟩) hlt).trans c1) (fun v w' => w'.ownsRow w.heap.size 5 1 v r.f.all.length (r.f.all.map B8) ∧ Below w.heap.size w w') (hC.mono ?_)
  rintro e w' ⟨v, rfl, ho', hb'⟩
  have b2 := bt b1 hb'
  exact ⟨v, rfl, ⟨row_base ho' b1.size, b2⟩, (b2.cell (p := ⟨r.blk, 0, none⟩) hlt).trans c0, (b2.cell (p := ⟨r.blk, 1, none⟩) hlt).trans c1⟩
end Go.Proofs.YtbjimikppdfmgaaGreatDoor
