/- The law StagesMay, and the document's examples of layer 19. -/
import Derived.Test.YtjmcnhpffpcboaaStages5
import Derived.Test.YtjmcnhpffpcboaaDrive1
set_option linter.unusedVariables false
set_option linter.unusedSimpArgs false
set_option maxHeartbeats 1600000
set_option maxRecDepth 100000
namespace Go.Proofs.Ytjmcnhpffpcboaa
open Go.RowKit

theorem decI_one (n : Nat) (h : n < 10) : decI n = [dig n] := by
  unfold decI
  rw [if_neg (by omega)]
  exact decN_small h
theorem open_new (q : Int) : openR (Dr.new q) = (1, 0) := rfl
theorem move_new : (moveR (Dr.new 100) 1 2).2 = 0 := by
  have hd : decI 2 = [50] := decI_one 2 (by omega)
  unfold moveR moveD moveS moveA
  rw [hd]
  rfl

theorem law19_lives (w : World) : Calls Try.prog 28 #[] w fun e w' => e = .returned (.bool true) ∧ Below w.heap.size w w' := by
  have Nw := hid (drive_New 100 rfl w)
  have hok : (Dr.new 100).Ok 0 := Dr.Ok.new 100 rfl
  have M1 := hid (fun W => stages_May 1 2 ⟨by omega, by omega⟩ ⟨by omega, by omega⟩ W)
  have M2 := hid (fun W => stages_May 2 4 ⟨by omega, by omega⟩ ⟨by omega, by omega⟩ W)
  go_enter Try.func28, Try.ntmps28
  go_wp2_with fail
  refine Nw.out.mono ?_
  rintro e w1 ⟨g, fp, rfl, hdr, hb1, hge1⟩
  have Op := hid (stages_Open hdr hok (by omega))
  have B1 := hid hb1
  have D1 := hid hdr
  have G1 := hid hge1
  clear hb1 hdr hge1
  go_wp2_with fail
  refine Op.out.mono ?_
  rintro e w2 ⟨v, rfl, hb2, hj, -⟩
  rw [open_new] at hj
  obtain ⟨j, rfl, hjl, hJ⟩ := hj rfl
  have hst : St w2 fp j g 1 w2 (Dr.new 100) fp := ⟨D1.out.below hb2, hJ, fun hk => by have := D1.out.lt _ hk; omega, Blk.lt hJ, Touch.refl _ _⟩
  have B2 := hid (bt B1.out hb2)
  have Mv := hid (journal_Move (n := 2) hst hok (by omega) ⟨by omega, by omega⟩ ⟨by omega, by omega⟩)
  have HB := hid hb2
  have HJ := hid hjl
  rw [open_new]
  clear hb2 hjl hJ hst Op hj
  go_wp2_with fail
  refine Mv.out.mono ?_
  rintro e w3 ⟨rfl, fp3, h3, hj3, hn3, ht3⟩
  rw [move_new] at hj3 ⊢
  have B3 := hid (show Below w.heap.size w w3 from by
    have h1 : Below w.heap.size w2 w3 := ht3.below (B := w.heap.size) (fun k hk => by
      rcases hk with hk | hk
      · exact G1.out k hk
      · have := HJ.out; have := B1.out.size; omega) B2.out.size
    exact B2.out.trans h1)
  have Sg := hid (journal_Stage hj3)
  clear h3 hj3 hn3 ht3 Mv
  go_wp2_with fail
  refine Sg.out.mono ?_
  rintro e w4 ⟨rfl, hw⟩
  have hw' := hw.symm
  subst hw'
  go_wp2_with fail
  refine (M1.out _).mono ?_
  rintro e w5 ⟨rfl, hb5⟩
  have B5 := hid (bt B3.out hb5)
  clear hb5
  go_wp2_with fail
  refine (M2.out _).mono ?_
  rintro e w6 ⟨rfl, hb6⟩
  have B6 := hid (bt B5.out hb6)
  clear hb6
  go_wp2
  go_ret
  exact ⟨rfl, B6.out⟩

theorem law_StagesMay (a b : Int) (ha : In64 a) (hb : In64 b) (w : World) : Calls Try.prog 6 #[.int .i64 a, .int .i64 b] w fun e w' => e = .returned (.bool true) ∧ Below w.heap.size w w' := by
  have M := hid (stages_May a b ha hb w)
  have R := hid (fun W => ref19_May a b W)
  have Lv := hid law19_lives
  generalize mayB a b = r at M R
  have e1 : (r == r) = true := by simp
  go_enter Try.func6, Try.ntmps6
  go_wp2_with fail
  refine M.out.mono ?_
  rintro e w1 ⟨rfl, hb1⟩
  have B1 := hid hb1
  clear hb1
  go_wp2_with fail
  refine (R.out _).mono ?_
  rintro e w2 ⟨rfl, hw⟩
  have hw' := hw.symm
  subst hw'
  go_wp2_with fail
  refine (Lv.out _).mono ?_
  rintro e w3 ⟨rfl, hb3⟩
  have B3 := hid (bt B1.out hb3)
  clear hb3
  go_wp2
  go_ret
  exact ⟨rfl, B3.out⟩
theorem row_StagesMay (a b : Int) (w : World) (ha : (Lit.int .i64 a).wf = true) (hb : (Lit.int .i64 b).wf = true) :
    Calls Try.prog 6 #[.int .i64 a, .int .i64 b] w fun e w' => e = .returned (.bool true) ∧ Below w.heap.size w w' := law_StagesMay a b (wf64 ha) (wf64 hb) w
end Go.Proofs.Ytjmcnhpffpcboaa
