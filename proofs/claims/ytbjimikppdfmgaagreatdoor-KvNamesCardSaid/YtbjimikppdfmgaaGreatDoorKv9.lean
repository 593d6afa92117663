/- Walks of package kv: Alive, and what Apply calls. -/
import Derived.Test.YtbjimikppdfmgaaGreatDoorKv7
import Derived.Test.YtbjimikppdfmgaaGreatDoorKv2
set_option linter.unusedVariables false
set_option linter.unusedSimpArgs false
set_option maxHeartbeats 6400000
set_option maxRecDepth 100000
namespace Go.Proofs.YtbjimikppdfmgaaGreatDoor
open Go.RowKit

section
variable {w0 : Fr} {W : World} {g N mb sb b2 b3 b5 : Nat} {d : Dr} {X : List Xc} {m : KM} {name : Key} {dead : Bool}
theorem kv_Alive (h : MW w0 g d N X mb m W) (hs : (sb, 52, storeCells g name mb dead) ∈ X) :
    Calls Tryz.prog 30 #[.pointer (some ⟨sb, 0, none⟩)] W fun e w' => e = .returned (.bool (!dead && !d.down)) ∧ w' = W := by
  obtain ⟨s0, s1, s2, s3⟩ := store4 (h.blk hs)
  have AL := hid h.alive
  clear h
  cases dead with
  | true =>
    go_enter Tryz.func30, Tryz.ntmps30
    go_wp2
    go_ret
    exact ⟨rfl, rfl⟩
  | false =>
    go_enter Tryz.func30, Tryz.ntmps30
    go_wp2_with fail
    refine AL.out.mono ?_
    rintro e w' ⟨rfl, rfl⟩
    go_wp2
    go_ret
    exact ⟨by simp, rfl⟩
/-- The log's bytes are put behind it. -/
theorem kv_apply1 (h : MW w0 g d N X mb m W) (hs : (sb, 52, storeCells g name mb dead) ∈ X) (h2 : (b2, 24, #[.pointer (some ⟨sb, 0, none⟩)]) ∈ X) (hfl : List UInt8) (h5 : (b5, 9, #[.string (S hfl)]) ∈ X) (A : Option Addr) (c : Nat) (l : List Wr)
    (h3 : (b3, 32, #[.slice A l.length c]) ∈ X) (hw : ∀ W', MW w0 g d N X mb m W' → WsAt W' A l) (hN : N < 1000000000) (hn : hfl.length ≤ 1000) (hl : l.length ≤ 1000) (hbl : (bodyB l).length ≤ 800000) :
    Calls Tryz.prog 33 #[.pointer (some ⟨b2, 0, none⟩), .pointer (some ⟨b5, 0, none⟩), .pointer (some ⟨b3, 0, none⟩)] W fun e w' => e = .returned (.int .i64 (d.append hfl (frameB l)).2) ∧ MW w0 g (d.append hfl (frameB l)).1 (N + 1) X mb m w' := by
  have M2 : MW w0 g d N X mb m W.drew := h.below (below_drew1 (Below.refl _ _))
  have c2 := box1 (M2.blk h2)
  have c5 := box1 (M2.blk h5)
  have c3 := box1 (M2.blk h3)
  obtain ⟨s0, s1, s2, s3⟩ := store4 (M2.blk hs)
  have FR := hid (kv_frame W.drew A c l (hw _ M2) hl hbl)
  have AP := hid (fun W' (hb : Below W.drew.heap.size W.drew W') A' c' (hB : BytesAt W' A' (frameB l)) hnew => M2.append_new hb hN hfl (by omega) A' (frameB l) c' hB hnew (by rw [frameB_len]; omega))
  have HX := hid (fun (W' : World) (hb : Below W.drew.heap.size W.drew W') => (⟨box1 ((M2.below hb).blk h2), box1 ((M2.below hb).blk h5), (store4 ((M2.below hb).blk hs)).1, box1 ((M2.below hb).blk h3)⟩ : W'.cell? ⟨b2, 0, none⟩ = some (.pointer (some ⟨sb, 0, none⟩)) ∧ W'.cell? ⟨b5, 0, none⟩ = some (.string (S hfl)) ∧ W'.cell? ⟨sb, 0, none⟩ = some (.pointer (some ⟨g, 0, none⟩)) ∧ W'.cell? ⟨b3, 0, none⟩ = some (.slice A l.length c)))
  clear h M2 hw hbl
  go_enter Tryz.func33, Tryz.ntmps33
  go_wp2
  go_region_held3 (fun w' => w'.cell? ⟨b2, 0, none⟩ = some (.pointer (some ⟨sb, 0, none⟩)) ∧ w'.cell? ⟨b5, 0, none⟩ = some (.string (S hfl)) ∧ w'.cell? ⟨sb, 0, none⟩ = some (.pointer (some ⟨g, 0, none⟩)) ∧ w'.cell? ⟨b3, 0, none⟩ = some (.slice A l.length c)) (simp [*, go_sem, World.cell?_alloc_past]) (first
    | (go_at_call 35; refine FR.out.mono ?_; rintro e w3 ⟨A3, c3', rfl, hr3, hb3⟩; obtain ⟨x1, x2, x3, x4⟩ := HX.out _ hb3)
    | (go_at_call 34; refine (AP.out _ hb3 _ _ (bytesAt_row hr3).2 (fun p hp => row_base_le hr3 (by rw [hp]; rfl))).mono ?_; rintro e w4 ⟨rfl, hM4⟩; have y1 := box1 (hM4.blk h2); have y2 := box1 (hM4.blk h5); have y5 := box1 (hM4.blk h3); obtain ⟨y3, -⟩ := store4 (hM4.blk hs)))
  all_goals
    go_wp2
    go_ret
    exact ⟨rfl, hM4⟩
theorem kv_apply2 (h : MW w0 g d N X mb m W) (hs : (sb, 52, storeCells g name mb dead) ∈ X) (h2 : (b2, 24, #[.pointer (some ⟨sb, 0, none⟩)]) ∈ X) (hfl : List UInt8) (h5 : (b5, 9, #[.string (S hfl)]) ∈ X) (hN : N ≤ 1000000000) (hn : hfl.length ≤ 1000) :
    Calls Tryz.prog 36 #[.pointer (some ⟨b2, 0, none⟩), .pointer (some ⟨b5, 0, none⟩)] W fun e w' => e = .returned (.int .i64 (d.sync hfl).2) ∧ MW w0 g (d.sync hfl).1 N X mb m w' := by
  have M2 : MW w0 g d N X mb m W.drew := h.below (below_drew1 (Below.refl _ _))
  have c2 := box1 (M2.blk h2)
  have c5 := box1 (M2.blk h5)
  obtain ⟨s0, s1, s2, s3⟩ := store4 (M2.blk hs)
  have SY := hid (M2.sync hN hfl (by omega))
  clear h M2
  go_enter Tryz.func36, Tryz.ntmps36
  go_wp2
  go_region_held3 (fun w' => w'.cell? ⟨b2, 0, none⟩ = some (.pointer (some ⟨sb, 0, none⟩)) ∧ w'.cell? ⟨b5, 0, none⟩ = some (.string (S hfl)) ∧ w'.cell? ⟨sb, 0, none⟩ = some (.pointer (some ⟨g, 0, none⟩))) (simp [*, go_sem, World.cell?_alloc_past]) (first
    | (go_at_call 27; refine SY.out.mono ?_; rintro e w4 ⟨rfl, hM4⟩; have y1 := box1 (hM4.blk h2); have y2 := box1 (hM4.blk h5); obtain ⟨y3, -⟩ := store4 (hM4.blk hs)))
  all_goals
    go_wp2
    go_ret
    exact ⟨rfl, hM4⟩
end
end Go.Proofs.YtbjimikppdfmgaaGreatDoor
