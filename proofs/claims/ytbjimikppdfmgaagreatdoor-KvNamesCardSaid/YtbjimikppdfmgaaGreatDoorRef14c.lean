/- Walks of package pantileref14: Cut. Walks of package pantileref14: one. Walks of package pantileref14: Do. -/
import Derived.Test.YtbjimikppdfmgaaGreatDoorWs
import Derived.Test.YtbjimikppdfmgaaGreatDoorDMem
import Derived.Deep.RegionHeld3
import Derived.BigQuiet
import Derived.Lib.Strings
import Derived.Deep.QuietTactic
set_option linter.unusedVariables false
set_option linter.unusedSimpArgs false
set_option maxHeartbeats 6400000
set_option maxRecDepth 100000
namespace Go.Proofs.YtbjimikppdfmgaaGreatDoor
open Go.RowKit

theorem ref14_Cut (w : World) (A : Option Addr) (c : Nat) (l : List Wr) (hws : WsAt w A l) :
    Calls Tryz.prog 12 #[.slice A l.length c] w fun e w' => ∃ A' c', e = .returned (.slice A' (cutB l).length c') ∧ w'.ownsRow w.heap.size 31 3 (.slice A' (cutB l).length c') (cutB l).length ((cutB l).flatMap wCells) ∧ Below w.heap.size w w' := by
  have HW := hid hws
  go_enter Tryz.func12, Tryz.ntmps12
  go_wp2
  go_loopw [3, 4] (fun o i wr => ∃ (k : Nat) (A' : Option Addr) (c' : Nat) (os : List Wr), k ≤ l.length ∧ k ≤ 5 ∧ i = .int .i64 k ∧ o = .slice A' os.length c' ∧ Hid (os.length = k) ∧ Hid (os = (l.take k).map cutW) ∧ Hid (wr.ownsRow w.heap.size 31 3 (.slice A' os.length c') os.length (os.flatMap wCells)) ∧ Hid (Below w.heap.size w wr)) (fun _ i _ => 5 - (intOf i).toNat)
  case atStart => exact ⟨0, none, 0, [], Nat.zero_le _, by omega, rfl, rfl, rfl, rfl, World.ownsRow_nil _ _ _ _, Below.refl _ _⟩
  case round =>
    obtain ⟨k, A', c', os, hk, hk5, rfl, rfl, hol, ho, hr, hb⟩ := hrel
    by_cases h : k < l.length
    · by_cases h5 : k < 5
      · obtain ⟨bb, off, rfl, hbb, hc⟩ := (HW.out.below hb.out) (by omega)
        obtain ⟨c1, c2, c3⟩ := hc k h
        clear hc
        have HS := hid (show (l.take (k + 1)).map cutW = os ++ [cutW l[k]] by rw [List.take_succ_eq_append_getElem h, List.map_append, ho.out]; rfl)
        generalize l[k] = x at *
        obtain ⟨xk, xv, xg⟩ := x
        simp only [] at c1 c2 c3
        by_cases d1 : 210 < xk.length
        · have d1' : (210 : Int) < xk.length := by omega
          have d1'' : (210 : Int) ≤ xk.length := by omega
          by_cases d2 : 100 < xv.length
          · have d2' : (100 : Int) < xv.length := by omega
            have d2'' : (100 : Int) ≤ xv.length := by omega
            have HY := hid (show cutW ⟨xk, xv, xg⟩ = ⟨xk.take 210, xv.take 100, xg⟩ by unfold cutW; first | rfl | (simp only []; rfl))
            have HB := hid (hb.out.alloc hb.out.size (.cells #[.string (S (xk.take 210)), .string (S (xv.take 100)), .bool xg] 31))
            have HR := hid (row_alloc hr.out (.cells #[.string (S (xk.take 210)), .string (S (xv.take 100)), .bool xg] 31))
            clear hb hr
            go_wp2_with (at_builtin; (refine wpList_append_write (os := os) (y := ⟨xk.take 210, xv.take 100, xg⟩) (base := w.heap.size) rfl _ _ (by rfl) (by rfl) (by rfl) (by rw [show (wr.alloc (.cells #[.string (S (xk.take 210)), .string (S (xv.take 100)), .bool xg] 31)).heap.size = wr.heap.size + 1 by simp]; rfl) HR.out (by have := hol.out; omega) HB.out.size ?_; intro A2 c2' w2 hr2 hb2))
            have HR2 := hid hr2
            have HB2 := hid (HB.out.trans hb2)
            clear hr2 hb2
            go_wp2
            go_roundw
            case rel => exact ⟨k + 1, A2, c2', os ++ [⟨xk.take 210, xv.take 100, xg⟩], by omega, by omega, by go_num, by simp, hid (by simp [hol.out]), by rw [HS.out, HY.out]; exact rfl, HR2, HB2⟩
            case measure => simp [intOf]; omega
          · have d2' : (xv.length : Int) ≤ 100 := by omega
            have HY := hid (show cutW ⟨xk, xv, xg⟩ = ⟨xk.take 210, xv, xg⟩ by unfold cutW; first | rfl | (simp only []; rw [List.take_of_length_le (l := xv) (by omega)]))
            have HB := hid (hb.out.alloc hb.out.size (.cells #[.string (S (xk.take 210)), .string (S (xv)), .bool xg] 31))
            have HR := hid (row_alloc hr.out (.cells #[.string (S (xk.take 210)), .string (S (xv)), .bool xg] 31))
            clear hb hr
            go_wp2_with (at_builtin; (refine wpList_append_write (os := os) (y := ⟨xk.take 210, xv, xg⟩) (base := w.heap.size) rfl _ _ (by rfl) (by rfl) (by rfl) (by rw [show (wr.alloc (.cells #[.string (S (xk.take 210)), .string (S (xv)), .bool xg] 31)).heap.size = wr.heap.size + 1 by simp]; rfl) HR.out (by have := hol.out; omega) HB.out.size ?_; intro A2 c2' w2 hr2 hb2))
            have HR2 := hid hr2
            have HB2 := hid (HB.out.trans hb2)
            clear hr2 hb2
            go_wp2
            go_roundw
            case rel => exact ⟨k + 1, A2, c2', os ++ [⟨xk.take 210, xv, xg⟩], by omega, by omega, by go_num, by simp, hid (by simp [hol.out]), by rw [HS.out, HY.out]; exact rfl, HR2, HB2⟩
            case measure => simp [intOf]; omega
        · have d1' : (xk.length : Int) ≤ 210 := by omega
          by_cases d2 : 100 < xv.length
          · have d2' : (100 : Int) < xv.length := by omega
            have d2'' : (100 : Int) ≤ xv.length := by omega
            have HY := hid (show cutW ⟨xk, xv, xg⟩ = ⟨xk, xv.take 100, xg⟩ by unfold cutW; first | rfl | (simp only []; rw [List.take_of_length_le (l := xk) (by omega)]))
            have HB := hid (hb.out.alloc hb.out.size (.cells #[.string (S (xk)), .string (S (xv.take 100)), .bool xg] 31))
            have HR := hid (row_alloc hr.out (.cells #[.string (S (xk)), .string (S (xv.take 100)), .bool xg] 31))
            clear hb hr
            go_wp2_with (at_builtin; (refine wpList_append_write (os := os) (y := ⟨xk, xv.take 100, xg⟩) (base := w.heap.size) rfl _ _ (by rfl) (by rfl) (by rfl) (by rw [show (wr.alloc (.cells #[.string (S (xk)), .string (S (xv.take 100)), .bool xg] 31)).heap.size = wr.heap.size + 1 by simp]; rfl) HR.out (by have := hol.out; omega) HB.out.size ?_; intro A2 c2' w2 hr2 hb2))
            have HR2 := hid hr2
            have HB2 := hid (HB.out.trans hb2)
            clear hr2 hb2
            go_wp2
            go_roundw
            case rel => exact ⟨k + 1, A2, c2', os ++ [⟨xk, xv.take 100, xg⟩], by omega, by omega, by go_num, by simp, hid (by simp [hol.out]), by rw [HS.out, HY.out]; exact rfl, HR2, HB2⟩
            case measure => simp [intOf]; omega
          · have d2' : (xv.length : Int) ≤ 100 := by omega
            have HY := hid (show cutW ⟨xk, xv, xg⟩ = ⟨xk, xv, xg⟩ by unfold cutW; first | rfl | (simp only []; rw [List.take_of_length_le (l := xk) (by omega)]; rw [List.take_of_length_le (l := xv) (by omega)]))
            have HB := hid (hb.out.alloc hb.out.size (.cells #[.string (S (xk)), .string (S (xv)), .bool xg] 31))
            have HR := hid (row_alloc hr.out (.cells #[.string (S (xk)), .string (S (xv)), .bool xg] 31))
            clear hb hr
            go_wp2_with (at_builtin; (refine wpList_append_write (os := os) (y := ⟨xk, xv, xg⟩) (base := w.heap.size) rfl _ _ (by rfl) (by rfl) (by rfl) (by rw [show (wr.alloc (.cells #[.string (S (xk)), .string (S (xv)), .bool xg] 31)).heap.size = wr.heap.size + 1 by simp]; rfl) HR.out (by have := hol.out; omega) HB.out.size ?_; intro A2 c2' w2 hr2 hb2))
            have HR2 := hid hr2
            have HB2 := hid (HB.out.trans hb2)
            clear hr2 hb2
            go_wp2
            go_roundw
            case rel => exact ⟨k + 1, A2, c2', os ++ [⟨xk, xv, xg⟩], by omega, by omega, by go_num, by simp, hid (by simp [hol.out]), by rw [HS.out, HY.out]; exact rfl, HR2, HB2⟩
            case measure => simp [intOf]; omega
      · have hk' : k = 5 := by omega
        have HF := hid (show os = cutB l by rw [ho.out, hk']; rfl)
        have q5 : (5 : Int) ≤ (k : Int) := by omega
        clear ho
        go_wp2
        go_ret
        exact ⟨A', c', by rw [← HF.out]; rfl, by rw [← HF.out]; exact hr.out, hb.out⟩
    · have hk' : k = l.length := by omega
      have HF := hid (show os = cutB l by rw [ho.out, hk', List.take_length, cutB, List.take_of_length_le (by omega)])
      clear ho
      go_wp2
      go_ret
      exact ⟨A', c', by rw [← HF.out]; rfl, by rw [← HF.out]; exact hr.out, hb.out⟩
end Go.Proofs.YtbjimikppdfmgaaGreatDoor

set_option linter.unusedVariables false
set_option linter.unusedSimpArgs false
set_option maxHeartbeats 6400000
set_option maxRecDepth 100000
namespace Go.Proofs.YtbjimikppdfmgaaGreatDoor
open Go.RowKit

theorem less_before : ∀ a b : List UInt8, Op.bytesLess a b = bytesBefore a b
  | [], [] => rfl
  | [], _ :: _ => rfl
  | _ :: _, [] => rfl
  | a :: x, b :: y => by
    unfold Op.bytesLess bytesBefore
    rw [less_before x y]
theorem S_list (l : List UInt8) : (S l).toList = l := by
  rw [Lib.toList_data]
  rfl
@[go_sem] theorem geq_S (t : TypeId) (a b : List UInt8) : binOp .geq t (.string (S a)) (.string (S b)) = pure (.bool (!bytesBefore a b)) := by
  rw [← less_before, ← S_list a, ← S_list b, S_list a, S_list b]
  show Op.stringOp .geq (S a) (S b) = _
  unfold Op.stringOp
  rw [S_list, S_list]
theorem oneR_cons (x y : Wr) (r : List Wr) (b : Bool) : oneR (y :: r) x b = (if (!b && !bytesBefore y.key x.key) = true then [x] else []) ++ (if y.key = x.key then [] else [y]) ++ oneR r x (b || (!b && !bytesBefore y.key x.key)) := rfl
theorem ref14_one (w : World) (A : Option Addr) (c : Nat) (l : List Wr) (x : Wr) (hws : WsAt w A l) (hl : l.length ≤ 1000) :
    Calls Tryz.prog 43 #[.slice A l.length c, .agg #[.string (S x.key), .string (S x.val), .bool x.gone]] w fun e w' => ∃ A' c', e = .returned (.slice A' (oneR l x x.gone).length c') ∧ w'.ownsRow w.heap.size 31 3 (.slice A' (oneR l x x.gone).length c') (oneR l x x.gone).length ((oneR l x x.gone).flatMap wCells) ∧ Below w.heap.size w w' := by
  have HW := hid hws
  obtain ⟨xk, xv, xg⟩ := x
  simp only []
  have hb0 : Below w.heap.size w (w.alloc (.cells #[.string (S xk), .string (S xv), .bool xg] 31)) := (Below.refl _ _).alloc (Nat.le_refl _) _
  have HB00 := hid hb0
  have HB0 := hid (Blk.new w 31 #[.string (S xk), .string (S xv), .bool xg])
  clear hb0
  go_enter Tryz.func43, Tryz.ntmps43
  go_wp2
  go_loopw [5, 6, 7] (fun o dn i wr => ∃ (k : Nat) (b : Bool) (A' : Option Addr) (c' : Nat) (os : List Wr), k ≤ l.length ∧ i = .int .i64 k ∧ dn = .bool b ∧ o = .slice A' os.length c' ∧ os.length ≤ 2 * k ∧ Hid (os ++ oneR (l.drop k) ⟨xk, xv, xg⟩ b = oneR l ⟨xk, xv, xg⟩ xg) ∧ Hid (wr.ownsRow (w.heap.size + 1) 31 3 (.slice A' os.length c') os.length (os.flatMap wCells)) ∧ Hid (Below (w.heap.size + 1) (w.alloc (.cells #[.string (S xk), .string (S xv), .bool xg] 31)) wr)) (fun _ _ i _ => l.length - (intOf i).toNat)
  case atStart => exact ⟨0, xg, none, 0, [], Nat.zero_le _, rfl, rfl, rfl, by simp, hid (by simp), World.ownsRow_nil _ _ _ _, Below.refl _ _⟩
  case round =>
    obtain ⟨k, b, A', c', os, hk, rfl, rfl, rfl, hol, ho, hO, hBw⟩ := hrel
    have hsz : w.heap.size + 1 ≤ wr.heap.size := by have := hBw.out.size; simp at this; omega
    have hbx := HB0.out.below hBw.out (by simp)
    obtain ⟨x0, x1, x2⟩ : wr.cell? ⟨w.heap.size, 0, none⟩ = some (.string (S xk)) ∧ wr.cell? ⟨w.heap.size, 1, none⟩ = some (.string (S xv)) ∧ wr.cell? ⟨w.heap.size, 2, none⟩ = some (.bool xg) := ⟨hbx.cell 0, hbx.cell 1, hbx.cell 2⟩
    clear hbx
    by_cases h : k < l.length
    · obtain ⟨bb, off, rfl, hbb, hc⟩ := HW.out (by omega)
      obtain ⟨e0w, e1w, e2w⟩ := hc k h
      clear hc
      have HP2 := hid (show os ++ oneR (l[k] :: l.drop (k + 1)) ⟨xk, xv, xg⟩ b = oneR l ⟨xk, xv, xg⟩ xg by rw [← List.drop_eq_getElem_cons h]; exact ho.out)
      clear ho
      generalize l[k] = y at *
      obtain ⟨yk, yv, yg⟩ := y
      simp only [] at e0w e1w e2w
      have FACTS := hid (fun W (hB : Below (w.heap.size + 1) (w.alloc (.cells #[.string (S xk), .string (S xv), .bool xg] 31)) W) => show W.cell? ⟨w.heap.size, 0, none⟩ = some (.string (S xk)) ∧ W.cell? ⟨w.heap.size, 1, none⟩ = some (.string (S xv)) ∧ W.cell? ⟨w.heap.size, 2, none⟩ = some (.bool xg) ∧ W.cell? ⟨bb, off + k * 3, none⟩ = some (.string (S yk)) ∧ W.cell? ⟨bb, off + k * 3 + 1, none⟩ = some (.string (S yv)) ∧ W.cell? ⟨bb, off + k * 3 + 2, none⟩ = some (.bool yg) ∧ w.heap.size + 1 ≤ W.heap.size from
        have hbx := HB0.out.below hB (by simp)
        ⟨hbx.cell 0, hbx.cell 1, hbx.cell 2, ((HB00.out.trans (hB.mono (by simp))).cell (p := ⟨bb, _, none⟩) hbb).trans e0w, ((HB00.out.trans (hB.mono (by simp))).cell (p := ⟨bb, _, none⟩) hbb).trans e1w, ((HB00.out.trans (hB.mono (by simp))).cell (p := ⟨bb, _, none⟩) hbb).trans e2w, by have := hB.size; simp at this; omega⟩)
      obtain ⟨-, -, -, e0, e1, e2, -⟩ := FACTS.out wr hBw.out
      clear e0w e1w e2w
      rw [oneR_cons] at HP2
      by_cases hq : yk = xk
      · have hbb2 : bytesBefore yk xk = false := by rw [hq]; exact Go.WideAt.bytes_irrefl _
        have hqb : (yk == xk) = true := by simpa using hq
        cases b with
        | true =>
          have HP3 := hid (show (os) ++ oneR (l.drop (k + 1)) ⟨xk, xv, xg⟩ true = oneR l ⟨xk, xv, xg⟩ xg by rw [← HP2.out]; simp [hq])
          clear HP2 hq
          go_wp2
          go_quiet (fail)
          go_wp2
          go_quiet (fail)
          go_wp2
          go_roundw
          case rel => exact ⟨k + 1, true, _, _, os, by omega, by go_num, rfl, by first | rfl | simp, by first | omega | (simp; omega), HP3, row_keep hO.out (fun _ _ => rfl), by first | exact below_drewN hBw.out _ | exact hBw.out⟩
          case measure => simp [intOf]; omega
        | false =>
          have HP3 := hid (show (os ++ [⟨xk, xv, xg⟩]) ++ oneR (l.drop (k + 1)) ⟨xk, xv, xg⟩ true = oneR l ⟨xk, xv, xg⟩ xg by rw [← HP2.out]; simp [hq, Go.WideAt.bytes_irrefl])
          clear HP2 hq
          go_wp2
          go_quiet (fail)
          go_wp2_with (at_builtin; refine wpList_append_write (y := ⟨xk, xv, xg⟩) (os := os) rfl _ _ rfl rfl (by rfl) (by rfl) (row_keep hO.out (fun _ _ => rfl)) (by first | omega | (simp; omega)) hsz ?_; intro A1 c1 w1 hown1 hbw1)
          obtain ⟨x0, x1, x2, e0, e1, e2, hsz1⟩ := FACTS.out w1 (hBw.out.trans (below_from hbw1))
          have HO1 := hid hown1
          have HB1 := hid (show Below (w.heap.size + 1) (w.alloc (.cells #[.string (S xk), .string (S xv), .bool xg] 31)) w1 from hBw.out.trans (below_from hbw1))
          clear hown1 hbw1
          go_wp2
          go_quiet (fail)
          go_wp2
          go_roundw
          case rel => exact ⟨k + 1, true, _, _, os ++ [⟨xk, xv, xg⟩], by omega, by go_num, rfl, by first | rfl | simp, by first | omega | (simp; omega), HP3, row_keep HO1.out (fun _ _ => rfl), by first | exact below_drewN HB1.out _ | exact HB1.out⟩
          case measure => simp [intOf]; omega
      · have hqb : (yk == xk) = false := by simpa using hq
        cases b with
        | true =>
          have HP3 := hid (show (os ++ [⟨yk, yv, yg⟩]) ++ oneR (l.drop (k + 1)) ⟨xk, xv, xg⟩ true = oneR l ⟨xk, xv, xg⟩ xg by rw [← HP2.out]; simp [hq])
          clear HP2
          clear hq
          go_wp2
          go_quiet (fail)
          go_wp2
          go_quiet (fail)
          go_wp2_with (at_builtin; refine wpList_append_write (y := ⟨yk, yv, yg⟩) (os := os) rfl _ _ rfl rfl (by rfl) (by rfl) (row_keep hO.out (fun _ _ => rfl)) (by first | omega | (simp; omega)) hsz ?_; intro A1 c1 w1 hown1 hbw1)
          obtain ⟨x0, x1, x2, e0, e1, e2, hsz1⟩ := FACTS.out w1 (hBw.out.trans (below_from hbw1))
          have HO1 := hid hown1
          have HB1 := hid (show Below (w.heap.size + 1) (w.alloc (.cells #[.string (S xk), .string (S xv), .bool xg] 31)) w1 from hBw.out.trans (below_from hbw1))
          clear hown1 hbw1
          go_wp2
          go_roundw
          case rel => exact ⟨k + 1, true, _, _, os ++ [⟨yk, yv, yg⟩], by omega, by go_num, rfl, by first | rfl | simp, by first | omega | (simp; omega), HP3, row_keep HO1.out (fun _ _ => rfl), by first | exact below_drewN HB1.out _ | exact HB1.out⟩
          case measure => simp [intOf]; omega
        | false =>
          cases hbb2 : bytesBefore yk xk with
          | true =>
            have HP3 := hid (show (os ++ [⟨yk, yv, yg⟩]) ++ oneR (l.drop (k + 1)) ⟨xk, xv, xg⟩ false = oneR l ⟨xk, xv, xg⟩ xg by rw [← HP2.out]; simp [hq, hbb2])
            clear HP2
            clear hq
            go_wp2
            go_quiet (fail)
            go_wp2
            go_quiet (fail)
            go_wp2_with (at_builtin; refine wpList_append_write (y := ⟨yk, yv, yg⟩) (os := os) rfl _ _ rfl rfl (by rfl) (by rfl) (row_keep hO.out (fun _ _ => rfl)) (by first | omega | (simp; omega)) hsz ?_; intro A1 c1 w1 hown1 hbw1)
            obtain ⟨x0, x1, x2, e0, e1, e2, hsz1⟩ := FACTS.out w1 (hBw.out.trans (below_from hbw1))
            have HO1 := hid hown1
            have HB1 := hid (show Below (w.heap.size + 1) (w.alloc (.cells #[.string (S xk), .string (S xv), .bool xg] 31)) w1 from hBw.out.trans (below_from hbw1))
            clear hown1 hbw1
            go_wp2
            go_roundw
            case rel => exact ⟨k + 1, false, _, _, os ++ [⟨yk, yv, yg⟩], by omega, by go_num, rfl, by first | rfl | simp, by first | omega | (simp; omega), HP3, row_keep HO1.out (fun _ _ => rfl), by first | exact below_drewN HB1.out _ | exact HB1.out⟩
            case measure => simp [intOf]; omega
          | false =>
            have HL2 := hid (show (os ++ [(⟨xk, xv, xg⟩ : Wr)]).length = os.length + 1 by simp)
            have HP3 := hid (show (os ++ [⟨xk, xv, xg⟩] ++ [⟨yk, yv, yg⟩]) ++ oneR (l.drop (k + 1)) ⟨xk, xv, xg⟩ true = oneR l ⟨xk, xv, xg⟩ xg by rw [← HP2.out]; simp [hq, hbb2])
            clear HP2
            clear hq
            go_wp2
            go_quiet (fail)
            go_wp2_with (at_builtin; refine wpList_append_write (y := ⟨xk, xv, xg⟩) (os := os) rfl _ _ rfl rfl (by rfl) (by rfl) (row_keep hO.out (fun _ _ => rfl)) (by first | omega | (simp; omega)) hsz ?_; intro A1 c1 w1 hown1 hbw1)
            obtain ⟨x0, x1, x2, e0, e1, e2, hsz1⟩ := FACTS.out w1 (hBw.out.trans (below_from hbw1))
            have HO1 := hid hown1
            have HB1 := hid (show Below (w.heap.size + 1) (w.alloc (.cells #[.string (S xk), .string (S xv), .bool xg] 31)) w1 from hBw.out.trans (below_from hbw1))
            clear hown1 hbw1
            go_wp2
            go_quiet (fail)
            go_wp2_with (at_builtin; refine wpList_append_write (y := ⟨yk, yv, yg⟩) (os := os ++ [⟨xk, xv, xg⟩]) rfl _ _ rfl rfl (by rw [HL2.out]; rfl) (by rfl) (row_keep HO1.out (fun _ _ => rfl)) (by first | omega | (simp; omega)) hsz1 ?_; intro A2 c2 w2 hown2 hbw2)
            obtain ⟨x0, x1, x2, e0, e1, e2, hsz2⟩ := FACTS.out w2 (HB1.out.trans (below_from hbw2))
            have HO2 := hid hown2
            have HB2 := hid (show Below (w.heap.size + 1) (w.alloc (.cells #[.string (S xk), .string (S xv), .bool xg] 31)) w2 from HB1.out.trans (below_from hbw2))
            clear hown2 hbw2
            go_wp2
            go_roundw
            case rel => exact ⟨k + 1, true, _, _, os ++ [⟨xk, xv, xg⟩] ++ [⟨yk, yv, yg⟩], by omega, by go_num, rfl, by first | rfl | simp, by first | omega | (simp; omega), HP3, row_keep HO2.out (fun _ _ => rfl), by first | exact below_drewN HB2.out _ | exact HB2.out⟩
            case measure => simp [intOf]; omega
    · have hk' : k = l.length := by omega
      have HP2 := hid (show os ++ oneR [] ⟨xk, xv, xg⟩ b = oneR l ⟨xk, xv, xg⟩ xg by rw [← List.drop_of_length_le (l := l) (i := k) (by omega)]; exact ho.out)
      clear ho
      cases b with
      | true =>
        have HF := hid (show os = oneR l ⟨xk, xv, xg⟩ xg by rw [← HP2.out]; simp [oneR])
        go_wp2
        go_ret
        exact ⟨_, _, by rw [← HF.out]; rfl, by rw [← HF.out]; exact row_base hO.out (by omega), HB00.out.trans (hBw.out.mono (by simp))⟩
      | false =>
        have HF := hid (show os ++ [⟨xk, xv, xg⟩] = oneR l ⟨xk, xv, xg⟩ xg by rw [← HP2.out]; simp [oneR])
        go_wp2_with (at_builtin; refine wpList_append_write (y := ⟨xk, xv, xg⟩) (os := os) rfl _ _ rfl rfl (by rfl) (by rfl) (row_keep hO.out (fun _ _ => rfl)) (by omega) hsz ?_; intro A1 c1 w1 hown1 hbw1)
        have HO1 := hid hown1
        have HB1 := hid (HB00.out.trans ((hBw.out.trans hbw1).mono (by simp)))
        clear hown1 hbw1
        go_wp2
        go_ret
        exact ⟨A1, c1, by rw [← HF.out]; simp, by rw [← HF.out]; exact row_base HO1.out (by omega), HB1.out⟩
end Go.Proofs.YtbjimikppdfmgaaGreatDoor

set_option linter.unusedVariables false
set_option linter.unusedSimpArgs false
set_option maxHeartbeats 6400000
set_option maxRecDepth 100000
namespace Go.Proofs.YtbjimikppdfmgaaGreatDoor
open Go.RowKit

theorem oneR_len (x : Wr) : ∀ (l : List Wr) (b : Bool), (oneR l x b).length ≤ l.length + (if b then 0 else 1)
  | [], b => by cases b <;> simp [oneR]
  | y :: r, b => by
    rw [oneR_cons]
    have h := oneR_len x r (b || (!b && !bytesBefore y.key x.key))
    simp only [List.length_append, List.length_cons]
    cases b with
    | true =>
      simp only [Bool.not_true, Bool.false_and, Bool.or_false, Bool.false_eq_true, if_false, if_true, List.length_nil] at h ⊢
      split <;> simp <;> omega
    | false =>
      cases hb : bytesBefore y.key x.key with
      | true =>
        rw [hb] at h
        simp at h ⊢
        split <;> simp <;> omega
      | false =>
        rw [hb] at h
        simp at h ⊢
        split <;> simp <;> omega
theorem ref14_Do (w : World) (A B : Option Addr) (c cb : Nat) (l bt : List Wr) (hl : WsAt w A l) (hb : WsAt w B bt) (hll : l.length + bt.length ≤ 1000) :
    Calls Tryz.prog 14 #[.slice A l.length c, .slice B bt.length cb] w fun e w' => ∃ A' c', e = .returned (.slice A' (doR l bt).length c') ∧ WsAt w' A' (doR l bt) ∧ Below w.heap.size w w' := by
  have HB := hid hb
  have HL := hid hl
  clear hb hl
  go_enter Tryz.func14, Tryz.ntmps14
  go_wp2
  go_loopw [0, 5] (fun s i wr => ∃ (k : Nat) (A' : Option Addr) (c' : Nat) (ls : List Wr), k ≤ bt.length ∧ i = .int .i64 k ∧ s = .slice A' ls.length c' ∧ ls.length ≤ l.length + k ∧ Hid (ls = doR l (bt.take k)) ∧ Hid (WsAt wr A' ls) ∧ Hid (Below w.heap.size w wr)) (fun _ i _ => bt.length - (intOf i).toNat)
  case atStart => exact ⟨0, A, c, l, Nat.zero_le _, rfl, rfl, by omega, rfl, HL, Below.refl _ _⟩
  case round =>
    obtain ⟨k, A', c', ls, hk, rfl, rfl, hlen, hd, hws, hbw⟩ := hrel
    by_cases h : k < bt.length
    · obtain ⟨bb, off, rfl, hbb, hc⟩ := (HB.out.below hbw.out) (by omega)
      obtain ⟨e0, e1, e2⟩ := hc k h
      clear hc
      have HD := hid (show doR l (bt.take (k + 1)) = oneR ls bt[k] bt[k].gone by rw [hd.out, List.take_succ_eq_append_getElem h, doR, List.foldl_append]; rfl)
      have HLN := hid (oneR_len bt[k] ls bt[k].gone)
      have ON := hid (ref14_one wr A' c' ls bt[k] hws.out (by omega))
      generalize bt[k] = x at *
      obtain ⟨xk, xv, xg⟩ := x
      simp only [] at e0 e1 e2
      go_wp2_with fail
      refine ON.out.mono ?_
      rintro e w2 ⟨A2, c2, rfl, hr2, hb2⟩
      have HW2 := hid (ws_row hr2)
      have HB2 := hid (Below.trans hbw.out (hb2.mono hbw.out.size))
      clear hr2 hb2
      go_wp2
      go_roundw
      case rel => exact ⟨k + 1, A2, c2, _, by omega, by go_num, rfl, by have := HLN.out; split at this <;> omega, hid HD.out.symm, HW2, HB2⟩
      case measure => simp [intOf]; omega
    · have hk' : k = bt.length := by omega
      have HF := hid (show ls = doR l bt by rw [hd.out, hk', List.take_length])
      clear hd
      go_wp2
      go_ret
      exact ⟨A', c', by rw [← HF.out]; rfl, by rw [← HF.out]; exact hws.out, hbw.out⟩
end Go.Proofs.YtbjimikppdfmgaaGreatDoor
