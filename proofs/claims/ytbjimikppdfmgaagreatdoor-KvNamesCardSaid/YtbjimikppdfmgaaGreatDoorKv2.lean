/- Walks of package kv: frame. -/
import Derived.Test.YtbjimikppdfmgaaGreatDoorKv1
import Derived.Test.YtbjimikppdfmgaaGreatDoorWs
import Derived.Deep.RegionHeld3
set_option linter.unusedVariables false
set_option linter.unusedSimpArgs false
set_option maxHeartbeats 6400000
set_option maxRecDepth 100000
namespace Go.Proofs.YtbjimikppdfmgaaGreatDoor
open Go.RowKit

theorem step_append_run2 {P : Program} {w : World} {ops : Array Oper} {o : Oper} {a : Act} {K : Act → World → Prop} {Q : Exit → Act → World → Prop} {E : Prop} (hgd : o.guard = none) (s x : Operand) (t u : TypeId)
    (ho : o.op = .call { callee := .builtin .append, args := #[s, x], argTypes := #[t, u] }) (v1 v2 v' : Value) (w' : World) (hs : a.eval s = v1) (hx : a.eval x = v2)
    (hrun : (Builtin.append_ #[t, u] o.type #[v1, v2]).run P w = .ok v' w') (h : K (a.put o.dst v') w') : if Region.wanted o (yielded ops a.tmps) = true then Oper.wp P o a w K Q else E := by
  have hw : Region.wanted o (yielded ops a.tmps) = true := by simp [Region.wanted, hgd]
  rw [if_pos hw]
  unfold Oper.wp execOp
  simp only [ho, resolve, invoke, builtin, Sem.run_bind, Sem.run_pure, Result.andThen_ok, List.map_toArray, List.map_cons, List.map_nil, hs, hx, hrun]
  exact h
theorem grown_keep {w w' : World} {base m x : Nat} {v : Value} {xs : List Value} {t : TypeId} {cs : Array Value} (ht : w.grownBy w' v.ownBlock) (h : w.ownsRow base 5 1 v m xs) (hB : Blk w x t cs) (hne : t ≠ 5) : Blk w' x t cs :=
  (ht.block x hB.lt (fun e => row_ne h hB hne e.symm)).trans hB
theorem row_drew1 {w : World} {base m : Nat} {v : Value} {t : TypeId} {k : Nat} {xs : List Value} (h : w.ownsRow base t k v m xs) : w.drew.ownsRow base t k v m xs := row_drew h 1
theorem box3 {W : World} {x : Nat} {t : TypeId} {a b c : Value} (h : Blk W x t #[a, b, c]) : W.cell? ⟨x, 0, none⟩ = some a ∧ W.cell? ⟨x, 1, none⟩ = some b ∧ W.cell? ⟨x, 2, none⟩ = some c := ⟨h.cell 0, h.cell 1, h.cell 2⟩
theorem kv_frame (w : World) (A : Option Addr) (c : Nat) (l : List Wr) (hws : WsAt w A l) (hl : l.length ≤ 1000) (hbl : (bodyB l).length ≤ 800000) :
    Calls Tryz.prog 35 #[.slice A l.length c] w fun e w' => ∃ A' c', e = .returned (.slice A' (frameB l).length c') ∧ w'.ownsRow w.heap.size 5 1 (.slice A' (frameB l).length c') (frameB l).length ((frameB l).map B8) ∧ Below w.heap.size w w' := by
  have HW := hid hws
  have HBL := hid hbl
  go_enter Tryz.func35, Tryz.ntmps35
  go_wp2
  go_loopw [3, 9] (fun b i wr => ∃ (k : Nat) (A' : Option Addr) (c' : Nat) (os : List UInt8), k ≤ l.length ∧ i = .int .i64 k ∧ b = .slice A' os.length c' ∧ os.length ≤ 800000 ∧ Hid (os = bodyB (l.take k)) ∧ Hid (wr.ownsRow w.heap.size 5 1 (.slice A' os.length c') os.length (os.map B8)) ∧ Hid (Below w.heap.size w wr)) (fun _ i _ => l.length - (intOf i).toNat)
  case atStart => exact ⟨0, none, 0, [], Nat.zero_le _, rfl, rfl, by simp, rfl, World.ownsRow_nil _ _ _ _, Below.refl _ _⟩
  case round =>
    obtain ⟨k, A', c', os, hk, rfl, rfl, hol, ho, hr, hb⟩ := hrel
    by_cases h : k < l.length
    · obtain ⟨bb, off, rfl, hbb, hc⟩ := (HW.out.below hb.out) (by omega)
      obtain ⟨c1, c2, c3⟩ := hc k h
      clear hc
      have HS := hid (show bodyB (l.take (k + 1)) = os ++ wrB l[k] by rw [List.take_succ_eq_append_getElem h, bodyB_snoc, ho.out])
      have hle : os.length + (7 + l[k].key.length + l[k].val.length) ≤ 800000 := by
        have e : (bodyB l).length = (bodyB (l.take (k + 1))).length + (bodyB (l.drop (k + 1))).length := by
          rw [← List.length_append, ← bodyB_app, List.take_append_drop]
        have := HBL.out
        rw [HS.out, List.length_append, wrB_len] at e
        omega
      generalize l[k] = x at *
      have hz : w.heap.size ≤ (wr.alloc (.cells #[.string (S x.key), .string (S x.val), .bool x.gone] 31)).heap.size := by have := hb.out.size; simp; omega
      have HB1 := hid (Blk.new wr 31 #[.string (S x.key), .string (S x.val), .bool x.gone])
      have HB0 := hid (hb.out.alloc hb.out.size (.cells #[.string (S x.key), .string (S x.val), .bool x.gone] 31))
      have HR1 := hid (row_alloc hr.out (.cells #[.string (S x.key), .string (S x.val), .bool x.gone] 31))
      obtain ⟨xk, xv, xg⟩ := x
      simp only [] at *
      cases xg with
      | false =>
        go_wp2
        have hrd := row_drew1 HR1.out
        have hBd := HB1.out.drew
        obtain ⟨k0, k1, k2⟩ := box3 hBd
        have hzd : w.heap.size ≤ (World.drew (wr.alloc (.cells #[.string (S xk), .string (S xv), .bool false] 31))).heap.size := hz
        have hbd : Below w.heap.size w (World.drew (wr.alloc (.cells #[.string (S xk), .string (S xv), .bool false] 31))) := below_drewN HB0.out 1
        go_region_held3 (fun w' => w'.cell? ⟨wr.heap.size, 0, none⟩ = some (.string (S xk)) ∧ w'.cell? ⟨wr.heap.size, 1, none⟩ = some (.string (S xv))) (simp [*, go_sem, World.cell?_alloc_past]) (first | (go_at_call 66; (first | (with_reducible (show Calls _ _ #[_, _, Value.int _ 1] _ _); refine (kv_put1 _ w.heap.size _ _ _ _ (by assumption) (by assumption) (by omega) _ (by omega) (by omega)).mono ?_) | (with_reducible (show Calls _ _ #[_, _, Value.int _ 2] _ _); refine (kv_put2 _ w.heap.size _ _ _ _ (by assumption) (by assumption) (by omega) _ (by omega) (by omega)).mono ?_) | (with_reducible (show Calls _ _ #[_, _, Value.int _ 4] _ _); refine (kv_put4 _ w.heap.size _ _ _ _ (by assumption) (by assumption) (by omega) _ (by omega) (by omega)).mono ?_)); rintro e w' ⟨A9, c9, rfl, hr9, ht9⟩; have hz9 := Nat.le_trans (by assumption : w.heap.size ≤ _) ht9.size; have hb9 := Below.trans (by assumption : Below w.heap.size w _) (ht9.below (fun k hk => row_base_le (by assumption) hk) (by assumption)); have hB9 := box_keep ht9 (by assumption) (by assumption) (by decide); obtain ⟨k0, k1, k2⟩ := box3 hB9))
        have hrw := row_drew1 hr9
        have hBw := hB9.drew
        have hzw : w.heap.size ≤ (World.drew w').heap.size := hz9
        obtain ⟨A4, c4, w4, hrun4, hr4, hg4⟩ := append_text (World.drew w') xk hrw hzw (by omega) 60
        have hB4 := grown_keep hg4 hrw hBw (by decide)
        have hb4 := Below.grown (below_drewN hb9 1) hg4 hzw fun k hk => row_base_le hrw hk
        have hz4 : w.heap.size ≤ w4.heap.size := hb4.size
        obtain ⟨A5, c5, w5, hrun5, hr5, hg5⟩ := append_text w4 xv hr4 hz4 (by omega) 60
        have hB5 := grown_keep hg5 hr4 hB4 (by decide)
        have hb5 := Below.grown hb4 hg5 hz4 fun k hk => row_base_le hr4 hk
        obtain ⟨p0, p1, p2⟩ := box3 hBw
        obtain ⟨q0, q1, q2⟩ := box3 hB4
        obtain ⟨s0, s1, s2⟩ := box3 hB5
        have HB5 := hid hb5
        have HR5 := hid hr5
        clear hb5 hb4 hb9 hr5
        have HS2 := hid (show os ++ wrB ⟨xk, xv, false⟩ = os ++ lowB (Int.toNat 0) 1 ++ lowB (xk.length : Int).toNat 2 ++ lowB (xv.length : Int).toNat 4 ++ xk ++ xv by simp [wrB])
        have HL2 := hid (show (os ++ wrB ⟨xk, xv, false⟩).length = os.length + 1 + 2 + 4 + xk.length + xv.length by rw [List.length_append, wrB_len]; simp only []; omega)
        go_wp2
        go_region_held3 (fun w' => w'.cell? ⟨wr.heap.size, 0, none⟩ = some (.string (S xk)) ∧ w'.cell? ⟨wr.heap.size, 1, none⟩ = some (.string (S xv))) (simp [*, go_sem, World.cell?_alloc_past]) (first | (refine step_append_run2 rfl _ _ _ _ (by rfl) _ _ _ _ (by rfl) (by rfl) (by assumption) ?_))
        all_goals
          go_wp2
          go_roundw
          case rel => exact ⟨k + 1, A5, c5, os ++ wrB ⟨xk, xv, false⟩, by omega, by go_num, by rw [HL2.out], by rw [HL2.out]; omega, hid HS.out.symm, by rw [HL2.out, HS2.out]; exact HR5.out, HB5.out⟩
          case measure => simp [intOf]; omega
      | true =>
        go_wp2
        have hrd := row_drew1 HR1.out
        have hBd := HB1.out.drew
        obtain ⟨k0, k1, k2⟩ := box3 hBd
        have hzd : w.heap.size ≤ (World.drew (wr.alloc (.cells #[.string (S xk), .string (S xv), .bool true] 31))).heap.size := hz
        have hbd : Below w.heap.size w (World.drew (wr.alloc (.cells #[.string (S xk), .string (S xv), .bool true] 31))) := below_drewN HB0.out 1
        go_region_held3 (fun w' => w'.cell? ⟨wr.heap.size, 0, none⟩ = some (.string (S xk)) ∧ w'.cell? ⟨wr.heap.size, 1, none⟩ = some (.string (S xv))) (simp [*, go_sem, World.cell?_alloc_past]) (first | (go_at_call 66; (first | (with_reducible (show Calls _ _ #[_, _, Value.int _ 1] _ _); refine (kv_put1 _ w.heap.size _ _ _ _ (by assumption) (by assumption) (by omega) _ (by omega) (by omega)).mono ?_) | (with_reducible (show Calls _ _ #[_, _, Value.int _ 2] _ _); refine (kv_put2 _ w.heap.size _ _ _ _ (by assumption) (by assumption) (by omega) _ (by omega) (by omega)).mono ?_) | (with_reducible (show Calls _ _ #[_, _, Value.int _ 4] _ _); refine (kv_put4 _ w.heap.size _ _ _ _ (by assumption) (by assumption) (by omega) _ (by omega) (by omega)).mono ?_)); rintro e w' ⟨A9, c9, rfl, hr9, ht9⟩; have hz9 := Nat.le_trans (by assumption : w.heap.size ≤ _) ht9.size; have hb9 := Below.trans (by assumption : Below w.heap.size w _) (ht9.below (fun k hk => row_base_le (by assumption) hk) (by assumption)); have hB9 := box_keep ht9 (by assumption) (by assumption) (by decide); obtain ⟨k0, k1, k2⟩ := box3 hB9))
        have hrw := row_drew1 hr9
        have hBw := hB9.drew
        have hzw : w.heap.size ≤ (World.drew w').heap.size := hz9
        obtain ⟨A4, c4, w4, hrun4, hr4, hg4⟩ := append_text (World.drew w') xk hrw hzw (by omega) 60
        have hB4 := grown_keep hg4 hrw hBw (by decide)
        have hb4 := Below.grown (below_drewN hb9 1) hg4 hzw fun k hk => row_base_le hrw hk
        have hz4 : w.heap.size ≤ w4.heap.size := hb4.size
        obtain ⟨A5, c5, w5, hrun5, hr5, hg5⟩ := append_text w4 xv hr4 hz4 (by omega) 60
        have hB5 := grown_keep hg5 hr4 hB4 (by decide)
        have hb5 := Below.grown hb4 hg5 hz4 fun k hk => row_base_le hr4 hk
        obtain ⟨p0, p1, p2⟩ := box3 hBw
        obtain ⟨q0, q1, q2⟩ := box3 hB4
        obtain ⟨s0, s1, s2⟩ := box3 hB5
        have HB5 := hid hb5
        have HR5 := hid hr5
        clear hb5 hb4 hb9 hr5
        have HS2 := hid (show os ++ wrB ⟨xk, xv, true⟩ = os ++ lowB (Int.toNat 1) 1 ++ lowB (xk.length : Int).toNat 2 ++ lowB (xv.length : Int).toNat 4 ++ xk ++ xv by simp [wrB])
        have HL2 := hid (show (os ++ wrB ⟨xk, xv, true⟩).length = os.length + 1 + 2 + 4 + xk.length + xv.length by rw [List.length_append, wrB_len]; simp only []; omega)
        go_wp2
        go_region_held3 (fun w' => w'.cell? ⟨wr.heap.size, 0, none⟩ = some (.string (S xk)) ∧ w'.cell? ⟨wr.heap.size, 1, none⟩ = some (.string (S xv))) (simp [*, go_sem, World.cell?_alloc_past]) (first | (refine step_append_run2 rfl _ _ _ _ (by rfl) _ _ _ _ (by rfl) (by rfl) (by assumption) ?_))
        all_goals
          go_wp2
          go_roundw
          case rel => exact ⟨k + 1, A5, c5, os ++ wrB ⟨xk, xv, true⟩, by omega, by go_num, by rw [HL2.out], by rw [HL2.out]; omega, hid HS.out.symm, by rw [HL2.out, HS2.out]; exact HR5.out, HB5.out⟩
          case measure => simp [intOf]; omega
    · have hk' : k = l.length := by omega
      subst hk'
      rw [List.take_length] at ho
      have P4 := kv_put4 wr w.heap.size none 0 0 [] (World.ownsRow_nil _ _ _ _) hb.out.size (by omega) os.length (by omega) (by omega)
      simp only [Nat.zero_add, List.nil_append] at P4
      go_wp2_with fail
      refine P4.mono ?_
      rintro e w2 ⟨A2, c2, rfl, h1, h2⟩
      have hbw : Below wr.heap.size wr w2 := h2.below (fun k hk => by cases hk) (Nat.le_refl _)
      have hr2 := row_below hr.out hbw
      have hb2 := bt hb.out hbw
      have hx2 : ((os.length : Int).toNat) = os.length := Int.toNat_natCast _
      rw [hx2] at h1
      have h1' : w2.ownsRow w.heap.size 5 1 (.slice A2 4 c2) (lowB os.length 4).length ((lowB os.length 4).map B8) := by rw [lowB_len]; exact h1
      obtain ⟨v3, w3, hrun3, h3, hg3, -⟩ := run_append_bytes w2 w.heap.size (.slice A2 4 c2) (lowB os.length 4) os h1' A' c' (bytesAt_row hr2).2 (by rw [lowB_len]; omega) hb2.size 60
      have HF := hid (show lowB os.length 4 ++ os = frameB l by rw [ho.out]; rfl)
      have HB3 := hid (Below.grown hb2 hg3 hb2.size fun k hk => row_base_le h1' hk)
      have HR3 := hid h3
      clear hbw hr2 hb2 h3 hg3 h1 h1' h2
      go_wp2_with (first | (at_builtin; refine wpList_append_run rfl _ _ _ (by rfl) _ _ _ _ (by rfl) (by rfl) hrun3 ?_))
      obtain ⟨A3, c3, hv3⟩ := row_form HR3.out
      go_ret
      exact ⟨A3, c3, by rw [hv3, HF.out]; rfl, by rw [← HF.out, ← hv3]; exact HR3.out, HB3.out⟩
end Go.Proofs.YtbjimikppdfmgaaGreatDoor
