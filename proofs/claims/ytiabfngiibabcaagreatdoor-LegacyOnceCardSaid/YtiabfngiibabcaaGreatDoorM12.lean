/- Walks of package kv: frame. Walks of package kv: Alive, and what Apply calls. Walk of kv.Len. Walk of kv.Apply: where all goes well; where the batch may not be. Walks of package kv: Get, whole, ended. Walks of package kv: replace. Walk of kv.Compact where all goes well. -/
import Derived.Test.YtiabfngiibabcaaGreatDoorM11
import Derived.Test.YtiabfngiibabcaaGreatDoorM09
import Derived.Deep.RegionHeld3
import Derived.Test.YtiabfngiibabcaaGreatDoorM10
import Derived.Test.YtiabfngiibabcaaGreatDoorM05
import Derived.Maps.OwnSet
set_option linter.unusedVariables false
set_option linter.unusedSimpArgs false
set_option maxHeartbeats 6400000
set_option maxRecDepth 100000
namespace Go.Proofs.YtiabfngiibabcaaGreatDoor
open Go.RowKit

theorem step_append_run2 {P : Program} {w : World} {ops : Array Oper} {o : Oper} {a : Act} {K : Act → World → Prop} {Q : Exit → Act → World → Prop} {E : Prop} (hgd : o.guard = none) (s x : Operand) (t u : TypeId)
    (ho : o.op = .call { callee := .builtin .append, args := #[s, x], argTypes := #[t, u] }) (v1 v2 v' : Value) (w' : World) (hs : a.eval s = v1) (hx : a.eval x = v2)
    (hrun : (Builtin.append_ #[t, u] o.type #[v1, v2]).run P w = .ok v' w') (h : K (a.put o.dst v') w') : if Region.wanted o (yielded ops a.tmps) = true then Oper.wp P o a w K Q else E := by
  have hw : Region.wanted o (yielded ops a.tmps) = true := by simp [Region.wanted, hgd]
  rw [if_pos hw]
  unfold Oper.wp execOp
  simp only [ho, resolve, invoke, builtin, Sem.run_bind, Sem.run_pure, Result.andThen_ok, List.map_toArray, List.map_cons, List.map_nil, hs, hx, hrun]
  exact h
theorem grown_keep {w w' : World} {base m x : Nat} {v : Value} {xs : List Value} {t : TypeId} {cs : Array Value} (ht : w.grownBy w' v.ownBlock) (h : w.ownsRow base 5 1 v m xs) (hB : Blk w x t cs) (hne : t ≠ 5) : Blk w' x t cs :=
  (ht.block x hB.lt (fun e => row_ne h hB hne e.symm)).trans hB
theorem row_drew1 {w : World} {base m : Nat} {v : Value} {t : TypeId} {k : Nat} {xs : List Value} (h : w.ownsRow base t k v m xs) : w.drew.ownsRow base t k v m xs := row_drew h 1
theorem box3 {W : World} {x : Nat} {t : TypeId} {a b c : Value} (h : Blk W x t #[a, b, c]) : W.cell? ⟨x, 0, none⟩ = some a ∧ W.cell? ⟨x, 1, none⟩ = some b ∧ W.cell? ⟨x, 2, none⟩ = some c := ⟨h.cell 0, h.cell 1, h.cell 2⟩
theorem kv_frame (w : World) (A : Option Addr) (c : Nat) (l : List Wr) (hws : WsAt w A l) (hl : l.length ≤ 1000) (hbl : (bodyB l).length ≤ 800000) :
    Calls Tryz.prog 101 #[.slice A l.length c] w fun e w' => ∃ A' c', e = .returned (.slice A' (frameB l).length c') ∧ w'.ownsRow w.heap.size 5 1 (.slice A' (frameB l).length c') (frameB l).length ((frameB l).map B8) ∧ Below w.heap.size w w' := by
  have HW := hid hws
  have HBL := hid hbl
  go_enter Tryz.func101, Tryz.ntmps101
  go_wp2
  go_loopw [3, 9] (fun b i wr => ∃ (k : Nat) (A' : Option Addr) (c' : Nat) (os : List UInt8), k ≤ l.length ∧ i = .int .i64 k ∧ b = .slice A' os.length c' ∧ os.length ≤ 800000 ∧ Hid (os = bodyB (l.take k)) ∧ Hid (wr.ownsRow w.heap.size 5 1 (.slice A' os.length c') os.length (os.map B8)) ∧ Hid (Below w.heap.size w wr)) (fun _ i _ => l.length - (intOf i).toNat)
  case atStart => exact ⟨0, none, 0, [], Nat.zero_le _, rfl, rfl, by simp, rfl, World.ownsRow_nil _ _ _ _, Below.refl _ _⟩
  case round =>
    obtain ⟨k, A', c', os, hk, rfl, rfl, hol, ho, hr, hb⟩ := hrel
    by_cases h : k < l.length
    · obtain ⟨bb, off, rfl, hbb, hc⟩ := (HW.out.below hb.out) (by omega)
      obtain ⟨c1, c2, c3⟩ := hc k h
      clear hc
      have HS := hid (show bodyB (l.take (k + 1)) = os ++ wrB l[k] by rw [List.take_succ_eq_append_getElem h, bodyB_snoc, ho.out])
      have hle : os.length + (7 + l[k].key.length + l[k].val.length) ≤ 800000 := by
        have e : (bodyB l).length = (bodyB (l.take (k + 1))).length + (bodyB (l.drop (k + 1))).length := by
          rw [← List.length_append, ← bodyB_app, List.take_append_drop]
        have := HBL.out
        rw [HS.out, List.length_append, wrB_len] at e
        omega
      generalize l[k] = x at *
      have hz : w.heap.size ≤ (wr.alloc (.cells #[.string (S x.key), .string (S x.val), .bool x.gone] 104)).heap.size := by have := hb.out.size; simp; omega
      have HB1 := hid (Blk.new wr 104 #[.string (S x.key), .string (S x.val), .bool x.gone])
      have HB0 := hid (hb.out.alloc hb.out.size (.cells #[.string (S x.key), .string (S x.val), .bool x.gone] 104))
      have HR1 := hid (row_alloc hr.out (.cells #[.string (S x.key), .string (S x.val), .bool x.gone] 104))
      obtain ⟨xk, xv, xg⟩ := x
      simp only [] at *
      cases xg with
      | false =>
        go_wp2
        have hrd := row_drew1 HR1.out
        have hBd := HB1.out.drew
        obtain ⟨k0, k1, k2⟩ := box3 hBd
        have hzd : w.heap.size ≤ (World.drew (wr.alloc (.cells #[.string (S xk), .string (S xv), .bool false] 104))).heap.size := hz
        have hbd : Below w.heap.size w (World.drew (wr.alloc (.cells #[.string (S xk), .string (S xv), .bool false] 104))) := below_drewN HB0.out 1
        go_region_held3 (fun w' => w'.cell? ⟨wr.heap.size, 0, none⟩ = some (.string (S xk)) ∧ w'.cell? ⟨wr.heap.size, 1, none⟩ = some (.string (S xv))) (simp [*, go_sem, World.cell?_alloc_past]) (first | (go_at_call 164; (first | (with_reducible (show Calls _ _ #[_, _, Value.int _ 1] _ _); refine (kv_put1 _ w.heap.size _ _ _ _ (by assumption) (by assumption) (by omega) _ (by omega) (by omega)).mono ?_) | (with_reducible (show Calls _ _ #[_, _, Value.int _ 2] _ _); refine (kv_put2 _ w.heap.size _ _ _ _ (by assumption) (by assumption) (by omega) _ (by omega) (by omega)).mono ?_) | (with_reducible (show Calls _ _ #[_, _, Value.int _ 4] _ _); refine (kv_put4 _ w.heap.size _ _ _ _ (by assumption) (by assumption) (by omega) _ (by omega) (by omega)).mono ?_)); rintro e w' ⟨A9, c9, rfl, hr9, ht9⟩; have hz9 := Nat.le_trans (by assumption : w.heap.size ≤ _) ht9.size; have hb9 := Below.trans (by assumption : Below w.heap.size w _) (ht9.below (fun k hk => row_base_le (by assumption) hk) (by assumption)); have hB9 := box_keep ht9 (by assumption) (by assumption) (by decide); obtain ⟨k0, k1, k2⟩ := box3 hB9))
        have hrw := row_drew1 hr9
        have hBw := hB9.drew
        have hzw : w.heap.size ≤ (World.drew w').heap.size := hz9
        obtain ⟨A4, c4, w4, hrun4, hr4, hg4⟩ := append_text (World.drew w') xk hrw hzw (by omega) 85
        have hB4 := grown_keep hg4 hrw hBw (by decide)
        have hb4 := Below.grown (below_drewN hb9 1) hg4 hzw fun k hk => row_base_le hrw hk
        have hz4 : w.heap.size ≤ w4.heap.size := hb4.size
        obtain ⟨A5, c5, w5, hrun5, hr5, hg5⟩ := append_text w4 xv hr4 hz4 (by omega) 85
        have hB5 := grown_keep hg5 hr4 hB4 (by decide)
        have hb5 := Below.grown hb4 hg5 hz4 fun k hk => row_base_le hr4 hk
        obtain ⟨p0, p1, p2⟩ := box3 hBw
        obtain ⟨q0, q1, q2⟩ := box3 hB4
        obtain ⟨s0, s1, s2⟩ := box3 hB5
        have HB5 := hid hb5
        have HR5 := hid hr5
        clear hb5 hb4 hb9 hr5
        have HS2 := hid (show os ++ wrB ⟨xk, xv, false⟩ = os ++ lowB (Int.toNat 0) 1 ++ lowB (xk.length : Int).toNat 2 ++ lowB (xv.length : Int).toNat 4 ++ xk ++ xv by simp [wrB])
        have HL2 := hid (show (os ++ wrB ⟨xk, xv, false⟩).length = os.length + 1 + 2 + 4 + xk.length + xv.length by rw [List.length_append, wrB_len]; simp only []; omega)
        go_wp2
        go_region_held3 (fun w' => w'.cell? ⟨wr.heap.size, 0, none⟩ = some (.string (S xk)) ∧ w'.cell? ⟨wr.heap.size, 1, none⟩ = some (.string (S xv))) (simp [*, go_sem, World.cell?_alloc_past]) (first | (refine step_append_run2 rfl _ _ _ _ (by rfl) _ _ _ _ (by rfl) (by rfl) (by assumption) ?_))
        all_goals
          go_wp2
          go_roundw
          case rel => exact ⟨k + 1, A5, c5, os ++ wrB ⟨xk, xv, false⟩, by omega, by go_num, by rw [HL2.out], by rw [HL2.out]; omega, hid HS.out.symm, by rw [HL2.out, HS2.out]; exact HR5.out, HB5.out⟩
          case measure => simp [intOf]; omega
      | true =>
        go_wp2
        have hrd := row_drew1 HR1.out
        have hBd := HB1.out.drew
        obtain ⟨k0, k1, k2⟩ := box3 hBd
        have hzd : w.heap.size ≤ (World.drew (wr.alloc (.cells #[.string (S xk), .string (S xv), .bool true] 104))).heap.size := hz
        have hbd : Below w.heap.size w (World.drew (wr.alloc (.cells #[.string (S xk), .string (S xv), .bool true] 104))) := below_drewN HB0.out 1
        go_region_held3 (fun w' => w'.cell? ⟨wr.heap.size, 0, none⟩ = some (.string (S xk)) ∧ w'.cell? ⟨wr.heap.size, 1, none⟩ = some (.string (S xv))) (simp [*, go_sem, World.cell?_alloc_past]) (first | (go_at_call 164; (first | (with_reducible (show Calls _ _ #[_, _, Value.int _ 1] _ _); refine (kv_put1 _ w.heap.size _ _ _ _ (by assumption) (by assumption) (by omega) _ (by omega) (by omega)).mono ?_) | (with_reducible (show Calls _ _ #[_, _, Value.int _ 2] _ _); refine (kv_put2 _ w.heap.size _ _ _ _ (by assumption) (by assumption) (by omega) _ (by omega) (by omega)).mono ?_) | (with_reducible (show Calls _ _ #[_, _, Value.int _ 4] _ _); refine (kv_put4 _ w.heap.size _ _ _ _ (by assumption) (by assumption) (by omega) _ (by omega) (by omega)).mono ?_)); rintro e w' ⟨A9, c9, rfl, hr9, ht9⟩; have hz9 := Nat.le_trans (by assumption : w.heap.size ≤ _) ht9.size; have hb9 := Below.trans (by assumption : Below w.heap.size w _) (ht9.below (fun k hk => row_base_le (by assumption) hk) (by assumption)); have hB9 := box_keep ht9 (by assumption) (by assumption) (by decide); obtain ⟨k0, k1, k2⟩ := box3 hB9))
        have hrw := row_drew1 hr9
        have hBw := hB9.drew
        have hzw : w.heap.size ≤ (World.drew w').heap.size := hz9
        obtain ⟨A4, c4, w4, hrun4, hr4, hg4⟩ := append_text (World.drew w') xk hrw hzw (by omega) 85
        have hB4 := grown_keep hg4 hrw hBw (by decide)
        have hb4 := Below.grown (below_drewN hb9 1) hg4 hzw fun k hk => row_base_le hrw hk
        have hz4 : w.heap.size ≤ w4.heap.size := hb4.size
        obtain ⟨A5, c5, w5, hrun5, hr5, hg5⟩ := append_text w4 xv hr4 hz4 (by omega) 85
        have hB5 := grown_keep hg5 hr4 hB4 (by decide)
        have hb5 := Below.grown hb4 hg5 hz4 fun k hk => row_base_le hr4 hk
        obtain ⟨p0, p1, p2⟩ := box3 hBw
        obtain ⟨q0, q1, q2⟩ := box3 hB4
        obtain ⟨s0, s1, s2⟩ := box3 hB5
        have HB5 := hid hb5
        have HR5 := hid hr5
        clear hb5 hb4 hb9 hr5
        have HS2 := hid (show os ++ wrB ⟨xk, xv, true⟩ = os ++ lowB (Int.toNat 1) 1 ++ lowB (xk.length : Int).toNat 2 ++ lowB (xv.length : Int).toNat 4 ++ xk ++ xv by simp [wrB])
        have HL2 := hid (show (os ++ wrB ⟨xk, xv, true⟩).length = os.length + 1 + 2 + 4 + xk.length + xv.length by rw [List.length_append, wrB_len]; simp only []; omega)
        go_wp2
        go_region_held3 (fun w' => w'.cell? ⟨wr.heap.size, 0, none⟩ = some (.string (S xk)) ∧ w'.cell? ⟨wr.heap.size, 1, none⟩ = some (.string (S xv))) (simp [*, go_sem, World.cell?_alloc_past]) (first | (refine step_append_run2 rfl _ _ _ _ (by rfl) _ _ _ _ (by rfl) (by rfl) (by assumption) ?_))
        all_goals
          go_wp2
          go_roundw
          case rel => exact ⟨k + 1, A5, c5, os ++ wrB ⟨xk, xv, true⟩, by omega, by go_num, by rw [HL2.out], by rw [HL2.out]; omega, hid HS.out.symm, by rw [HL2.out, HS2.out]; exact HR5.out, HB5.out⟩
          case measure => simp [intOf]; omega
    · have hk' : k = l.length := by omega
      subst hk'
      rw [List.take_length] at ho
      have P4 := kv_put4 wr w.heap.size none 0 0 [] (World.ownsRow_nil _ _ _ _) hb.out.size (by omega) os.length (by omega) (by omega)
      simp only [Nat.zero_add, List.nil_append] at P4
      go_wp2_with fail
      refine P4.mono ?_
      rintro e w2 ⟨A2, c2, rfl, h1, h2⟩
      have hbw : Below wr.heap.size wr w2 := h2.below (fun k hk => by cases hk) (Nat.le_refl _)
      have hr2 := row_below hr.out hbw
      have hb2 := bt hb.out hbw
      have hx2 : ((os.length : Int).toNat) = os.length := Int.toNat_natCast _
      rw [hx2] at h1
      have h1' : w2.ownsRow w.heap.size 5 1 (.slice A2 4 c2) (lowB os.length 4).length ((lowB os.length 4).map B8) := by rw [lowB_len]; exact h1
      obtain ⟨v3, w3, hrun3, h3, hg3, -⟩ := run_append_bytes w2 w.heap.size (.slice A2 4 c2) (lowB os.length 4) os h1' A' c' (bytesAt_row hr2).2 (by rw [lowB_len]; omega) hb2.size 85
      have HF := hid (show lowB os.length 4 ++ os = frameB l by rw [ho.out]; rfl)
      have HB3 := hid (Below.grown hb2 hg3 hb2.size fun k hk => row_base_le h1' hk)
      have HR3 := hid h3
      clear hbw hr2 hb2 h3 hg3 h1 h1' h2
      go_wp2_with (first | (at_builtin; refine wpList_append_run rfl _ _ _ (by rfl) _ _ _ _ (by rfl) (by rfl) hrun3 ?_))
      obtain ⟨A3, c3, hv3⟩ := row_form HR3.out
      go_ret
      exact ⟨A3, c3, by rw [hv3, HF.out]; rfl, by rw [← HF.out, ← hv3]; exact HR3.out, HB3.out⟩
end Go.Proofs.YtiabfngiibabcaaGreatDoor

set_option linter.unusedVariables false
set_option linter.unusedSimpArgs false
set_option maxHeartbeats 6400000
set_option maxRecDepth 100000
namespace Go.Proofs.YtiabfngiibabcaaGreatDoor
open Go.RowKit

section
variable {w0 : Fr} {W : World} {g N mb sb b2 b3 b5 : Nat} {d : Dr} {X : List Xc} {m : KM} {name : Key} {dead : Bool}
theorem kv_Alive (h : MW w0 g d N X mb m W) (hs : (sb, 140, storeCells g name mb dead) ∈ X) :
    Calls Tryz.prog 39 #[.pointer (some ⟨sb, 0, none⟩)] W fun e w' => e = .returned (.bool (!dead && !d.down)) ∧ w' = W := by
  obtain ⟨s0, s1, s2, s3⟩ := store4 (h.blk hs)
  have AL := hid h.alive
  clear h
  cases dead with
  | true =>
    go_enter Tryz.func39, Tryz.ntmps39
    go_wp2
    go_ret
    exact ⟨rfl, rfl⟩
  | false =>
    go_enter Tryz.func39, Tryz.ntmps39
    go_wp2_with fail
    refine AL.out.mono ?_
    rintro e w' ⟨rfl, rfl⟩
    go_wp2
    go_ret
    exact ⟨by simp, rfl⟩
/-- The log's bytes are put behind it. -/
theorem kv_apply1 (h : MW w0 g d N X mb m W) (hs : (sb, 140, storeCells g name mb dead) ∈ X) (h2 : (b2, 43, #[.pointer (some ⟨sb, 0, none⟩)]) ∈ X) (hfl : List UInt8) (h5 : (b5, 9, #[.string (S hfl)]) ∈ X) (A : Option Addr) (c : Nat) (l : List Wr)
    (h3 : (b3, 105, #[.slice A l.length c]) ∈ X) (hw : ∀ W', MW w0 g d N X mb m W' → WsAt W' A l) (hN : N < 1000000000) (hn : hfl.length ≤ 1000) (hl : l.length ≤ 1000) (hbl : (bodyB l).length ≤ 800000) :
    Calls Tryz.prog 99 #[.pointer (some ⟨b2, 0, none⟩), .pointer (some ⟨b5, 0, none⟩), .pointer (some ⟨b3, 0, none⟩)] W fun e w' => e = .returned (.int .i64 (d.append hfl (frameB l)).2) ∧ MW w0 g (d.append hfl (frameB l)).1 (N + 1) X mb m w' := by
  have M2 : MW w0 g d N X mb m W.drew := h.below (below_drew1 (Below.refl _ _))
  have c2 := box1 (M2.blk h2)
  have c5 := box1 (M2.blk h5)
  have c3 := box1 (M2.blk h3)
  obtain ⟨s0, s1, s2, s3⟩ := store4 (M2.blk hs)
  have FR := hid (kv_frame W.drew A c l (hw _ M2) hl hbl)
  have AP := hid (fun W' (hb : Below W.drew.heap.size W.drew W') A' c' (hB : BytesAt W' A' (frameB l)) hnew => M2.append_new hb hN hfl (by omega) A' (frameB l) c' hB hnew (by rw [frameB_len]; omega))
  have HX := hid (fun (W' : World) (hb : Below W.drew.heap.size W.drew W') => (⟨box1 ((M2.below hb).blk h2), box1 ((M2.below hb).blk h5), (store4 ((M2.below hb).blk hs)).1, box1 ((M2.below hb).blk h3)⟩ : W'.cell? ⟨b2, 0, none⟩ = some (.pointer (some ⟨sb, 0, none⟩)) ∧ W'.cell? ⟨b5, 0, none⟩ = some (.string (S hfl)) ∧ W'.cell? ⟨sb, 0, none⟩ = some (.pointer (some ⟨g, 0, none⟩)) ∧ W'.cell? ⟨b3, 0, none⟩ = some (.slice A l.length c)))
  clear h M2 hw hbl
  go_enter Tryz.func99, Tryz.ntmps99
  go_wp2
  go_region_held3 (fun w' => w'.cell? ⟨b2, 0, none⟩ = some (.pointer (some ⟨sb, 0, none⟩)) ∧ w'.cell? ⟨b5, 0, none⟩ = some (.string (S hfl)) ∧ w'.cell? ⟨sb, 0, none⟩ = some (.pointer (some ⟨g, 0, none⟩)) ∧ w'.cell? ⟨b3, 0, none⟩ = some (.slice A l.length c)) (simp [*, go_sem, World.cell?_alloc_past]) (first
    | (go_at_call 101; refine FR.out.mono ?_; rintro e w3 ⟨A3, c3', rfl, hr3, hb3⟩; obtain ⟨x1, x2, x3, x4⟩ := HX.out _ hb3)
    | (go_at_call 100; refine (AP.out _ hb3 _ _ (bytesAt_row hr3).2 (fun p hp => row_base_le hr3 (by rw [hp]; rfl))).mono ?_; rintro e w4 ⟨rfl, hM4⟩; have y1 := box1 (hM4.blk h2); have y2 := box1 (hM4.blk h5); have y5 := box1 (hM4.blk h3); obtain ⟨y3, -⟩ := store4 (hM4.blk hs)))
  all_goals
    go_wp2
    go_ret
    exact ⟨rfl, hM4⟩
theorem kv_apply2 (h : MW w0 g d N X mb m W) (hs : (sb, 140, storeCells g name mb dead) ∈ X) (h2 : (b2, 43, #[.pointer (some ⟨sb, 0, none⟩)]) ∈ X) (hfl : List UInt8) (h5 : (b5, 9, #[.string (S hfl)]) ∈ X) (hN : N ≤ 1000000000) (hn : hfl.length ≤ 1000) :
    Calls Tryz.prog 102 #[.pointer (some ⟨b2, 0, none⟩), .pointer (some ⟨b5, 0, none⟩)] W fun e w' => e = .returned (.int .i64 (d.sync hfl).2) ∧ MW w0 g (d.sync hfl).1 N X mb m w' := by
  have M2 : MW w0 g d N X mb m W.drew := h.below (below_drew1 (Below.refl _ _))
  have c2 := box1 (M2.blk h2)
  have c5 := box1 (M2.blk h5)
  obtain ⟨s0, s1, s2, s3⟩ := store4 (M2.blk hs)
  have SY := hid (M2.sync hN hfl (by omega))
  clear h M2
  go_enter Tryz.func102, Tryz.ntmps102
  go_wp2
  go_region_held3 (fun w' => w'.cell? ⟨b2, 0, none⟩ = some (.pointer (some ⟨sb, 0, none⟩)) ∧ w'.cell? ⟨b5, 0, none⟩ = some (.string (S hfl)) ∧ w'.cell? ⟨sb, 0, none⟩ = some (.pointer (some ⟨g, 0, none⟩))) (simp [*, go_sem, World.cell?_alloc_past]) (first
    | (go_at_call 81; refine SY.out.mono ?_; rintro e w4 ⟨rfl, hM4⟩; have y1 := box1 (hM4.blk h2); have y2 := box1 (hM4.blk h5); obtain ⟨y3, -⟩ := store4 (hM4.blk hs)))
  all_goals
    go_wp2
    go_ret
    exact ⟨rfl, hM4⟩
end
end Go.Proofs.YtiabfngiibabcaaGreatDoor

set_option linter.unusedVariables false
set_option linter.unusedSimpArgs false
set_option maxHeartbeats 1600000
set_option maxRecDepth 100000
namespace Go.Proofs.YtiabfngiibabcaaGreatDoor
open Go.RowKit

section
variable {w0 : Fr} {W : World} {g N mb sb : Nat} {d : Dr} {X : List Xc} {m : KM} {name : Key} {dead : Bool}
end
end Go.Proofs.YtiabfngiibabcaaGreatDoor

set_option linter.unusedVariables false
set_option linter.unusedSimpArgs false
set_option maxHeartbeats 6400000
set_option maxRecDepth 100000
namespace Go.Proofs.YtiabfngiibabcaaGreatDoor
open Go.RowKit

section
variable {w0 : Fr} {W : World} {g N mb sb : Nat} {d : Dr} {X : List Xc} {m : KM} {name : Key}
/-- A cell of a block beside it is written. -/
theorem MW.set_head {q : Nat} {t : TypeId} {cs : Array Value} (h : MW w0 g d N ((q, t, cs) :: X) mb m W) (hq : w0.free q) (hne : ∀ x ∈ X, x.1 ≠ q) (i : Nat) (v : Value) : MW w0 g d N ((q, t, cs.setIfInBounds i v) :: X) mb m (W.setCell ⟨q, i, none⟩ v) := by
  obtain ⟨fp, h1, h2, h3, h4, h5, h6, h7, h8⟩ := h
  obtain ⟨q1, q2⟩ := h5 (q, t, cs) (by simp)
  have hmb : mb ≠ q := fun e => h8.not_blk q2 e.symm
  refine ⟨fp, h1.keep (by rw [set_size]; exact Nat.le_refl _) (fun k hk => set_other _ _ _ _ k (by rintro rfl; exact q1 hk)), h2, h3.setCell (p := ⟨q, i, none⟩) hq _, h4, fun x hx => ?_, h6, h7, h8.kept (set_other _ _ _ _ mb hmb)⟩
  rcases List.mem_cons.1 hx with rfl | hx
  · exact ⟨q1, q2.set_ i v⟩
  · obtain ⟨r1, r2⟩ := h5 x (List.mem_cons_of_mem _ hx)
    exact ⟨r1, r2.far (hne x hx) v⟩
theorem kv_Apply_arg (h : MW w0 g d N ((sb, 140, storeCells g name mb false) :: X) mb m W) (hd : d.down = false) (A : Option Addr) (c : Nat) (l : List Wr) (hw : WsAt W A l) (hl : l.length ≤ 1000) (hm : mayB l = false) :
    Calls Tryz.prog 42 #[.pointer (some ⟨sb, 0, none⟩), .slice A l.length c] W fun e w' => e = .returned (.int .i64 1) ∧ MW w0 g d N ((sb, 140, storeCells g name mb false) :: X) mb m w' := by
  have M1 := h.with_ 43 #[.pointer (some ⟨sb, 0, none⟩)]
  have M2 := M1.with_ 105 #[.slice A l.length c]
  have AL := hid (kv_Alive (sb := sb) (name := name) (dead := false) M2 (by simp))
  rw [hd] at AL
  have b2 : Below W.heap.size W ((W.alloc (.cells #[.pointer (some ⟨sb, 0, none⟩)] 43)).alloc (.cells #[.slice A l.length c] 105)) := ((Below.refl _ _).alloc (Nat.le_refl _) _).alloc (by simp) _
  have MA := hid (kv_may _ A c l (hw.below b2) hl)
  rw [hm] at MA
  have MM := hid M2
  clear h M1 M2 hw hm b2
  go_enter Tryz.func42, Tryz.ntmps42
  go_wp2_with fail
  refine AL.out.mono ?_
  rintro e w2 ⟨rfl, rfl⟩
  go_wp2_with fail
  refine MA.out.mono ?_
  rintro e w3 ⟨rfl, hb3⟩
  have M3 := hid ((MM.out.below hb3).sub (Y := (sb, 140, storeCells g name mb false) :: X) (fun x hx => by
    rcases List.mem_cons.1 hx with rfl | hx
    · simp
    · simp [hx]))
  clear hb3
  go_wp2
  go_ret
  exact ⟨rfl, M3.out⟩
/-- All goes well. -/
theorem kv_Apply_ok (h : MW w0 g d N ((sb, 140, storeCells g name mb false) :: X) mb m W) (hsb : w0.free sb) (hne : ∀ x ∈ X, x.1 ≠ sb) (hd : d.down = false) (A : Option Addr) (c : Nat) (l : List Wr) (hw : ∀ W', (∀ x ∈ X, Blk W' x.1 x.2.1 x.2.2) → WsAt W' A l)
    (hl : l.length ≤ 1000) (hm : mayB l = true) (hbl : (bodyB l).length ≤ 800000) (hml : m.length ≤ 100000) (hN : N < 1000000) (hn : name.length ≤ 20) (hA : (d.append (fileN name logN) (frameB l)).2 = 0) (hS : ((d.append (fileN name logN) (frameB l)).1.sync (fileN name logN)).2 = 0) :
    Calls Tryz.prog 42 #[.pointer (some ⟨sb, 0, none⟩), .slice A l.length c] W fun e w' => e = .returned (.int .i64 0) ∧ ∃ mb', MW w0 g ((d.append (fileN name logN) (frameB l)).1.sync (fileN name logN)).1 (N + 1) ((sb, 140, storeCells g name mb' false) :: X) mb' (doB m l) w' := by
  have M1 := h.with_ 43 #[.pointer (some ⟨sb, 0, none⟩)]
  have M2 : MW w0 g d N ((W.heap.size + 1, 105, #[.slice A l.length c]) :: (W.heap.size, 43, #[.pointer (some ⟨sb, 0, none⟩)]) :: (sb, 140, storeCells g name mb false) :: X) mb m ((W.alloc (.cells #[.pointer (some ⟨sb, 0, none⟩)] 43)).alloc (.cells #[.slice A l.length c] 105)) := by
    simpa using M1.with_ 105 #[.slice A l.length c]
  have HX := hid (show ∀ (d' : Dr) (N' mb' : Nat) (m' : KM) (Y : List Xc) (W' : World), (∀ x ∈ X, x ∈ Y) → MW w0 g d' N' Y mb' m' W' → WsAt W' A l from fun d' N' mb' m' Y W' hY hM => hw W' fun x hx => hM.blk (hY x hx))
  have AL := hid (kv_Alive (sb := sb) (name := name) (dead := false) M2 (by simp))
  rw [hd] at AL
  have MA := hid (kv_may _ A c l (HX.out _ _ _ _ _ _ (fun x hx => by simp [hx]) M2) hl)
  rw [hm] at MA
  have MM := hid M2
  have HK := hid (show ∀ x ∈ l, x.key.length ≤ 1000000 from fun x hx => by
    obtain ⟨a, b, rfl⟩ := List.append_of_mem hx
    have e : bodyB (a ++ x :: b) = bodyB a ++ (wrB x ++ bodyB b) := by rw [bodyB_app]; simp [bodyB]
    have := wrB_len x
    rw [e, List.length_append, List.length_append] at hbl
    omega)
  have HAS := hid (And.intro hA hS)
  have HN := hid hne
  have hfl1 : (fileN name logN).length ≤ 1000 := by unfold fileN logN; simp; omega
  have HFL := hid (fun W' (hc : W'.cell? ⟨sb, 1, none⟩ = some (.string (S name))) => kv_file W' sb name logN hc (by omega) (by decide))
  clear h M1 M2 hw hm hA hS hne
  generalize fileN name logN = fl at *
  unfold logN at HFL
  go_enter Tryz.func42, Tryz.ntmps42
  go_wp2_with fail
  refine AL.out.mono ?_
  rintro e w2 ⟨rfl, rfl⟩
  go_wp2_with fail
  refine MA.out.mono ?_
  rintro e w3 ⟨rfl, hb3⟩
  have M3 := hid (MM.out.below hb3)
  have c2 := box1 (M3.out.blk (x := (W.heap.size, 43, #[.pointer (some ⟨sb, 0, none⟩)])) (by simp))
  obtain ⟨s0, s1, s2, s3⟩ := store4 (M3.out.blk (x := (sb, 140, storeCells g name mb false)) (by simp))
  have FL := hid (HFL.out w3 s1)
  clear hb3
  go_wp2_with fail
  refine FL.out.mono ?_
  rintro e w4 ⟨rfl, rfl⟩
  have M4 := M3.out.with_ 9 #[.string (S fl)]
  have M5 : MW w0 g d N ((w4.heap.size + 1, 143, #[.func (.func 99) #[] #[.pointer (some ⟨W.heap.size, 0, none⟩), .pointer (some ⟨w4.heap.size, 0, none⟩), .pointer (some ⟨W.heap.size + 1, 0, none⟩)], .func (.func 102) #[] #[.pointer (some ⟨W.heap.size, 0, none⟩), .pointer (some ⟨w4.heap.size, 0, none⟩)]]) ::
      (w4.heap.size, 9, #[.string (S fl)]) :: (W.heap.size + 1, 105, #[.slice A l.length c]) :: (W.heap.size, 43, #[.pointer (some ⟨sb, 0, none⟩)]) :: (sb, 140, storeCells g name mb false) :: X) mb m
      ((w4.alloc (.cells #[.string (S fl)] 9)).alloc (.cells #[.func (.func 99) #[] #[.pointer (some ⟨W.heap.size, 0, none⟩), .pointer (some ⟨w4.heap.size, 0, none⟩), .pointer (some ⟨W.heap.size + 1, 0, none⟩)], .func (.func 102) #[] #[.pointer (some ⟨W.heap.size, 0, none⟩), .pointer (some ⟨w4.heap.size, 0, none⟩)]] 143)) := by
    simpa using M4.with_ 143 #[.func (.func 99) #[] #[.pointer (some ⟨W.heap.size, 0, none⟩), .pointer (some ⟨w4.heap.size, 0, none⟩), .pointer (some ⟨W.heap.size + 1, 0, none⟩)], .func (.func 102) #[] #[.pointer (some ⟨W.heap.size, 0, none⟩), .pointer (some ⟨w4.heap.size, 0, none⟩)]]
  have M5H := hid M5
  clear M4 M5
  obtain ⟨Y, hY⟩ : ∃ Y : List Xc, Y = ((w4.heap.size + 1, 143, #[.func (.func 99) #[] #[.pointer (some ⟨W.heap.size, 0, none⟩), .pointer (some ⟨w4.heap.size, 0, none⟩), .pointer (some ⟨W.heap.size + 1, 0, none⟩)], .func (.func 102) #[] #[.pointer (some ⟨W.heap.size, 0, none⟩), .pointer (some ⟨w4.heap.size, 0, none⟩)]]) ::
      (w4.heap.size, 9, #[.string (S fl)]) :: (W.heap.size + 1, 105, #[.slice A l.length c]) :: (W.heap.size, 43, #[.pointer (some ⟨sb, 0, none⟩)]) :: (sb, 140, storeCells g name mb false) :: X) := ⟨_, rfl⟩
  rw [← hY] at M5H
  have y0 : (w4.heap.size + 1, 143, #[.func (.func 99) #[] #[.pointer (some ⟨W.heap.size, 0, none⟩), .pointer (some ⟨w4.heap.size, 0, none⟩), .pointer (some ⟨W.heap.size + 1, 0, none⟩)], .func (.func 102) #[] #[.pointer (some ⟨W.heap.size, 0, none⟩), .pointer (some ⟨w4.heap.size, 0, none⟩)]]) ∈ Y := by rw [hY]; simp
  have y5 : (w4.heap.size, 9, #[.string (S fl)]) ∈ Y := by rw [hY]; simp
  have y3 : (W.heap.size + 1, 105, #[.slice A l.length c]) ∈ Y := by rw [hY]; simp
  have y2 : (W.heap.size, 43, #[.pointer (some ⟨sb, 0, none⟩)]) ∈ Y := by rw [hY]; simp
  have ys : (sb, 140, storeCells g name mb false) ∈ Y := by rw [hY]; simp
  have yx : ∀ x ∈ X, x ∈ Y := fun x hx => by rw [hY]; simp [hx]
  have YS := hid (And.intro y0 (And.intro y5 (And.intro y3 (And.intro y2 (And.intro ys yx)))))
  clear hY y0 y5 y3 y2 ys yx
  have FI := hid (kv_first _ (some ⟨w4.heap.size + 1, 0, none⟩) 2 [(99, #[.pointer (some ⟨W.heap.size, 0, none⟩), .pointer (some ⟨w4.heap.size, 0, none⟩), .pointer (some ⟨W.heap.size + 1, 0, none⟩)]), (102, #[.pointer (some ⟨W.heap.size, 0, none⟩), .pointer (some ⟨w4.heap.size, 0, none⟩)])]
    (fun i W' => MW w0 g (if i = 0 then d else if i = 1 then (d.append fl (frameB l)).1 else ((d.append fl (frameB l)).1.sync fl).1) (if i = 0 then N else N + 1) Y mb m W') (fun _ _ => False) (by simp) M5H.out
    (fun i hi W' => by
      have : i = 0 ∨ i = 1 := by simp at hi; omega
      rcases this with rfl | rfl
      · exact Go.MuLone.run_callFunc_enter Tryz.func99 (by kernel_rfl) rfl _ W'
      · exact Go.MuLone.run_callFunc_enter Tryz.func102 (by kernel_rfl) rfl _ W')
    (fun i W' hi hI => by
      have hb := hI.blk YS.out.1
      have : i = 0 ∨ i = 1 := by simp at hi; omega
      rcases this with rfl | rfl
      · exact ⟨_, _, rfl, hb.cell 0⟩
      · exact ⟨_, _, rfl, hb.cell 1⟩)
    (fun i W' hi hI => by
      have : i = 0 ∨ i = 1 := by simp at hi; omega
      rcases this with rfl | rfl
      · refine (kv_apply1 (sb := sb) (name := name) (dead := false) (d := d) (N := N) hI YS.out.2.2.2.2.1 YS.out.2.2.2.1 fl YS.out.2.1 A c l YS.out.2.2.1 (fun W'' hM => HX.out _ _ _ _ _ _ YS.out.2.2.2.2.2 hM) (by omega) hfl1 hl hbl).mono ?_
        rintro e w' ⟨rfl, hM⟩
        exact ⟨0, by rw [HAS.out.1], .inl ⟨rfl, hM⟩⟩
      · refine (kv_apply2 (sb := sb) (name := name) (dead := false) (d := (d.append fl (frameB l)).1) (N := N + 1) hI YS.out.2.2.2.2.1 YS.out.2.2.2.1 fl YS.out.2.1 (by omega) hfl1).mono ?_
        rintro e w' ⟨rfl, hM⟩
        exact ⟨0, by rw [HAS.out.2], .inl ⟨rfl, hM⟩⟩))
  go_wp2_with fail
  refine FI.out.mono ?_
  rintro e w5 ⟨x, rfl, hx⟩
  rcases hx with ⟨rfl, hM⟩ | ⟨-, hF⟩
  rotate_left
  · cases hF
  have M6 : Hid (MW w0 g ((d.append fl (frameB l)).1.sync fl).1 (N + 1) Y mb m w5) := hM
  obtain ⟨es, ck, he⟩ := M6.out.map.isMap
  have CL : Calls Tryz.prog 103 #[.map (some mb)] w5 fun e w' => e = .returned (.map (some w5.heap.size)) ∧ w' = w5.alloc (.map es ck) := AnyW.maps_Clone layClone mb es ck w5 he
  have CLH := hid CL
  have c2' := box1 (M6.out.blk YS.out.2.2.2.1)
  obtain ⟨s0', s1', s2', s3'⟩ := store4 (M6.out.blk YS.out.2.2.2.2.1)
  have M7 := hid (M6.out.clone he)
  clear hM CL he
  go_wp2_with fail
  refine CLH.out.mono ?_
  rintro e w6 ⟨rfl, rfl⟩
  have c3 := box1 (M7.out.blk YS.out.2.2.1)
  generalize hw7 : w5.alloc (.map es ck) = w7 at *
  go_wp2
  go_loopw [38] (fun i wr => ∃ k : Nat, k ≤ l.length ∧ i = .int .i64 k ∧ Hid (MW w0 g ((d.append fl (frameB l)).1.sync fl).1 (N + 1) Y w5.heap.size (doB m (l.take k)) wr)) (fun i _ => l.length - (intOf i).toNat)
  case atStart => exact ⟨0, Nat.zero_le _, rfl, M7⟩
  case round =>
    obtain ⟨k, hk, rfl, hM⟩ := hrel
    by_cases h : k < l.length
    · obtain ⟨bb, off, rfl, hbb, hc⟩ := (HX.out _ _ _ _ _ _ YS.out.2.2.2.2.2 hM.out) (by omega)
      obtain ⟨c1, c2x, c3x⟩ := hc k h
      clear hc
      have hx := HK.out l[k] (List.getElem_mem h)
      have HD := hid (show doB m (l.take (k + 1)) = doW (doB m (l.take k)) l[k] by rw [List.take_succ_eq_append_getElem h, doB_snoc])
      have hlen := doB_len m (l.take k)
      rw [List.length_take] at hlen
      generalize l[k] = x at *
      obtain ⟨xk, xv, xg⟩ := x
      simp only [] at c1 c2x c3x hx
      have b1 : Below wr.heap.size wr (wr.alloc (.cells #[.string (S xk), .string (S xv), .bool xg] 104)) := (Below.refl _ _).alloc (Nat.le_refl _) _
      have DO := hid ((hM.out.below b1).do_ ⟨xk, xv, xg⟩ (by omega) hx)
      go_wp2_with fail
      refine DO.out.mono ?_
      rintro e w8 ⟨rfl, hM8⟩
      have HM8 := hid hM8
      clear hM8
      go_wp2
      go_roundw
      case rel => exact ⟨k + 1, by omega, by go_num, by rw [HD.out]; exact HM8⟩
      case measure => simp [intOf]; omega
    · have hk' : k = l.length := by omega
      subst hk'
      rw [List.take_length] at hM
      have c2y := box1 (hM.out.blk YS.out.2.2.2.1)
      obtain ⟨z0, z1, z2, z3⟩ := store4 (hM.out.blk YS.out.2.2.2.2.1)
      have zf := (hM.out.blk YS.out.2.2.2.2.1).frozen 2
      have M9 := hid ((hM.out.sub (Y := (sb, 140, storeCells g name mb false) :: X) (fun x hx => by
        rcases List.mem_cons.1 hx with rfl | hx
        · exact YS.out.2.2.2.2.1
        · exact YS.out.2.2.2.2.2 x hx)).set_head hsb HN.out 2 (.map (some w5.heap.size)))
      go_wp2
      go_ret
      exact ⟨rfl, _, M9.out⟩
end
end Go.Proofs.YtiabfngiibabcaaGreatDoor

set_option linter.unusedVariables false
set_option linter.unusedSimpArgs false
set_option maxHeartbeats 6400000
set_option maxRecDepth 100000
namespace Go.Proofs.YtiabfngiibabcaaGreatDoor
open Go.RowKit Go.WideMaps Go.ChangeMaps Go.Maps

theorem has_mapS (m : KMap) (k : Key) : Maps.has (mapS m) (.string k) = (kget m k).isSome := by
  simp only [Maps.has, mapS, kget, List.any_map, Function.comp_def, Lit.sameKey, Option.isSome_map]
  induction m with
  | nil => rfl
  | cons p r ih =>
    rw [List.any_cons, List.find?_cons]
    cases p.1 == k with
    | true => rfl
    | false => simpa using ih
theorem OwnS.look2 {P : Program} {k t e : TypeId} {w : World} {b : Nat} {m : KMap} (h : OwnS P k w b m) (hk : P.underlying k = some .string) (ht : P.underlying t = some (.map k e)) (hz : (zeroValue e).run P w = .ok (.string (S [])) w) (key : Key) (hl : key.length ≤ 1000000) :
    (Instr.lookup t (.map (some b)) (.string (S key)) true).run P w = .ok (.tuple #[.string (S ((kget m key).getD [])), .bool (kget m key).isSome]) w := by
  obtain ⟨v, ps, hrun, hv⟩ := World.ownsMap.look_ok h (Maps.string_keyed hk) ht hz (zd := .lit (.string [])) (zp := []) (Rs_str []) (key_of hk key hl)
  rw [mapS_at] at hv
  rw [hrun, has_mapS]
  congr 1
  obtain ⟨l, rfl, hd⟩ := Rs_inv hv
  simp only [DataW.lit.injEq, Lit.string.injEq] at hd
  rw [hd]
section
variable {w0 : Fr} {W : World} {g N mb sb : Nat} {d : Dr} {X : List Xc} {m : KM} {name : Key} {dead : Bool}
theorem kv_Get (h : MW w0 g d N X mb m W) (hs : (sb, 140, storeCells g name mb dead) ∈ X) (key : Key) (hl : key.length ≤ 1000000) :
    Calls Tryz.prog 49 #[.pointer (some ⟨sb, 0, none⟩), .string (S key)] W fun e w' => e = .returned (.tuple #[.string (S ((kget m key).getD [])), .bool (kget m key).isSome]) ∧ w' = W := by
  obtain ⟨s0, s1, s2, s3⟩ := store4 (h.blk hs)
  have hz : ∀ w : World, (zeroValue 9).run Tryz.prog w = .ok (.string (S [])) w := fun w => by kernel_rfl
  have hlk := h.map.look2 (t := 138) (e := 9) (by kernel_rfl) (by kernel_rfl) (hz W) key hl
  generalize (kget m key).getD [] = v at *
  generalize (kget m key).isSome = b at *
  clear h
  go_enter Tryz.func49, Tryz.ntmps49
  go_wp2
  go_ret2
  exact ⟨rfl, rfl⟩
theorem kv_ended (h : MW w0 g d N ((sb, 140, storeCells g name mb false) :: X) mb m W) (x : Int) (hx : x ≠ 13) (hfr : w0.free sb) (hne : ∀ y ∈ X, y.1 ≠ sb) :
    Calls Tryz.prog 97 #[.pointer (some ⟨sb, 0, none⟩), .int .i64 x] W fun e w' => e = .returned (.int .i64 x) ∧ MW w0 g d N ((sb, 140, storeCells g name mb false) :: X) mb m w' := by
  have hb := h.blk (x := (sb, 140, storeCells g name mb false)) (by simp)
  obtain ⟨s0, s1, s2, s3⟩ := store4 hb
  have f3 := hb.frozen 3
  have k0 : (x == 13) = false := beq_eq_false_iff_ne.2 hx
  have HM := hid h
  clear h hb
  go_enter Tryz.func97, Tryz.ntmps97
  go_wp2
  go_ret
  have := HM.out.set_head hfr hne 3 (.bool false)
  exact ⟨rfl, by simpa [storeCells] using this⟩
theorem whole_step (m : KM) (k : Nat) (hk : k < m.length) (hr : Rising m) : (⟨m[k].1, (kget m m[k].1).getD [], false⟩ : Wr) = wOf m[k] := by
  have : kget m m[k].1 = some m[k].2 := kget_of_mem hr (List.getElem_mem hk)
  rw [this]
  rfl
theorem preK_all (m : KM) : preK m [] = m.map (·.1) := by
  unfold preK
  rw [List.filter_eq_self]
  intro x _
  simp [hasP]
/-- A row of texts, element by element. -/
theorem strs_rowG {w : World} {base n c : Nat} {A : Option Addr} {K : List (List UInt8)} (hn : n = K.length) (h : w.ownsRow base 9 1 (.slice A n c) n (K.map fun x => Value.string (S x))) :
    ∀ i x, K[i]? = some x → ∃ b, A = some ⟨b, 0, none⟩ ∧ b < w.heap.size ∧ w.cell? ⟨b, i, none⟩ = some (.string (S x)) := fun i x hx => by
  subst hn
  rcases h.2 with ⟨h1, h2⟩ | ⟨g, cap, cur, hv, hb, hh, r⟩
  · have := (List.getElem?_eq_some_iff.1 hx).1
    omega
  · simp only [Value.slice.injEq] at hv
    obtain ⟨rfl, -, rfl⟩ := hv
    refine ⟨g, rfl, (Array.getElem?_eq_some_iff.1 hh).1, ?_⟩
    rw [h.cellAt i (by have := (List.getElem?_eq_some_iff.1 hx).1; simpa using this), List.getElem?_map, hx]
    rfl
end
end Go.Proofs.YtiabfngiibabcaaGreatDoor

set_option linter.unusedVariables false
set_option linter.unusedSimpArgs false
set_option maxHeartbeats 6400000
set_option maxRecDepth 100000
namespace Go.Proofs.YtiabfngiibabcaaGreatDoor
open Go.RowKit

def tmpN : List UInt8 := [116, 109, 112]
section
variable {w0 : Fr} {W : World} {g N mb sb b3 b4 b5 b7 b8 : Nat} {d : Dr} {X : List Xc} {m : KM} {name : Key} {dead : Bool}
theorem MW.append_kept (h : MW w0 g d N X mb m W) (hN : N < 1000000000) (nm : Key) (hl : nm.length ≤ 1000000) (A : Option Addr) (data : List UInt8) (c : Nat) (hB : BytesAt W A data) (hA : ∀ p, A = some p → ∃ x ∈ X, x.1 = p.block) (hdl : data.length ≤ 1000000000) :
    Calls Tryz.prog 100 #[.pointer (some ⟨g, 0, none⟩), .string (S nm), .slice A data.length c] W fun e w' => e = .returned (.int .i64 (d.append nm data).2) ∧ MW w0 g (d.append nm data).1 (N + 1) X mb m w' := by
  obtain ⟨fp, h1, h2, h3, h4, h5, h6, h7, h8⟩ := h
  refine (drive_Append h1 h2 hN nm hl A data c hB (fun p hp hk => ?_) hdl).mono ?_
  · obtain ⟨x, hx, he⟩ := hA p hp
    rw [← he] at hk
    exact (h5 x hx).1 hk
  · rintro e w' ⟨rfl, ht⟩
    exact ⟨rfl, MW.turned h1 h3 h4 h5 h6 h7 h8 ht (h2.append nm data)⟩
/-- What replace makes of a drive. -/
def replD (d : Dr) (name : Key) (en data : List UInt8) : Dr := (((((d.remove (fileN name tmpN)).1.create (fileN name tmpN)).1.append (fileN name tmpN) data).1.sync (fileN name tmpN)).1.rename (fileN name tmpN) (fileN name en)).1
structure ReplOk (d : Dr) (name : Key) (en data : List UInt8) : Prop where
  rm : (d.remove (fileN name tmpN)).2 ≠ 13
  cr : ((d.remove (fileN name tmpN)).1.create (fileN name tmpN)).2 = 0
  ap : (((d.remove (fileN name tmpN)).1.create (fileN name tmpN)).1.append (fileN name tmpN) data).2 = 0
  sy : ((((d.remove (fileN name tmpN)).1.create (fileN name tmpN)).1.append (fileN name tmpN) data).1.sync (fileN name tmpN)).2 = 0
  rn : (((((d.remove (fileN name tmpN)).1.create (fileN name tmpN)).1.append (fileN name tmpN) data).1.sync (fileN name tmpN)).1.rename (fileN name tmpN) (fileN name en)).2 = 0
end
end Go.Proofs.YtiabfngiibabcaaGreatDoor

set_option linter.unusedVariables false
set_option linter.unusedSimpArgs false
set_option maxHeartbeats 6400000
set_option maxRecDepth 100000
namespace Go.Proofs.YtiabfngiibabcaaGreatDoor
open Go.RowKit

/-- A row of bytes, as blocks beside a store. -/
theorem bytes_row_blk {w : World} {base n c : Nat} {A : Option Addr} {l : List UInt8} (h : w.ownsRow base 5 1 (.slice A n c) l.length (l.map B8)) :
    ∃ X1 : List Xc, (∀ x ∈ X1, base ≤ x.1 ∧ Blk w x.1 x.2.1 x.2.2) ∧ (∀ W', (∀ x ∈ X1, Blk W' x.1 x.2.1 x.2.2) → BytesAt W' A l) ∧ ∀ p, A = some p → ∃ x ∈ X1, x.1 = p.block := by
  rcases h.2 with ⟨h1, h2⟩ | ⟨g, cap, cur, hv, hb, hh, r1, r2, r3, r4⟩
  · simp only [Value.slice.injEq] at h1
    obtain ⟨rfl, -, -⟩ := h1
    exact ⟨[], by simp, fun W' _ h0 => by omega, fun p hp => by cases hp⟩
  · simp only [Value.slice.injEq] at hv
    obtain ⟨rfl, -, rfl⟩ := hv
    refine ⟨[(g, 5, cur)], by simpa using ⟨hb, hh⟩, fun W' hW h0 => ?_, fun p hp => ⟨_, List.mem_singleton.2 rfl, by injection hp with hp; rw [← hp]⟩⟩
    have hB := hW _ (List.mem_singleton.2 rfl)
    refine ⟨g, 0, rfl, hB.lt, fun i hi => ?_⟩
    rw [Nat.zero_add, hB.cell i]
    have key : cur[i]? = (l.map B8)[i]? := by
      rw [← r4, List.getElem?_take, if_pos (by omega)]
      simp
    show cur[i]? = _
    rw [key]
    simp [hi]
section
variable {w0 : Fr} {W : World} {g N mb sb b1 : Nat} {d : Dr} {X : List Xc} {m : KM} {name : Key} {dead : Bool}
end
end Go.Proofs.YtiabfngiibabcaaGreatDoor
