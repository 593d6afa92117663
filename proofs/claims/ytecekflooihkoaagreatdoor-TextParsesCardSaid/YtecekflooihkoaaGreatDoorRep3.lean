/- Walks of the library's Replacer: buildOnce, once. -/
import Derived.Test.YtecekflooihkoaaGreatDoorRep2
set_option linter.unusedVariables false
set_option linter.unusedSimpArgs false
set_option maxHeartbeats 6400000
set_option maxRecDepth 100000
namespace Go.Proofs.YtecekflooihkoaaGreatDoor
open Go.RowKit

def TabX (w : World) (q : Nat) : Prop := ∃ base, base ≤ q ∧ Tab w base q [120, 47] [[47], [120]]
theorem TabX.below {w w' : World} {q : Nat} (h : TabX w q) (hb : Below w.heap.size w w') : TabX w' q := by
  obtain ⟨b, h1, h2⟩ := h
  exact ⟨b, h1, h2.below hb⟩
theorem TabX.lt {w : World} {q : Nat} (h : TabX w q) : q < w.heap.size := by
  obtain ⟨b, h1, h2⟩ := h
  obtain ⟨cs, A, c, k1, -⟩ := h2.has
  exact k1.lt
/-- A cell of another block is written. -/
theorem TabX.set_ {w : World} {q g : Nat} {t : TypeId} {cs : Array Value} (h : TabX w q) (hB : Blk w g t cs) (ht1 : t ≠ 183) (ht2 : t ≠ 9) (i : Nat) (v : Value) : TabX (w.setCell ⟨g, i, none⟩ v) q := by
  obtain ⟨b, h1, h2⟩ := h
  obtain ⟨cs', A, c, k1, k2, k3, k4, k5, k6⟩ := h2.has
  refine ⟨b, h1, ⟨cs', A, c, k1.far (hB.ne_ k1 ht1).symm v, k2, k3, row_keep k4 fun k hk => Below.heap_setCell _ _ _ k ?_, k5, k6⟩⟩
  rintro rfl
  obtain ⟨cs2, hcs⟩ := row_heap k4 hk
  unfold Blk at hB
  rw [hB] at hcs
  injection hcs with hcs
  injection hcs with _ ht
  exact ht2 ht
theorem TabX.drew {w : World} {q : Nat} (h : TabX w q) : TabX w.drew q := by
  obtain ⟨b, h1, h2⟩ := h
  obtain ⟨cs', A, c, k1, k2, k3, k4, k5, k6⟩ := h2.has
  exact ⟨b, h1, ⟨cs', A, c, k1, k2, k3, row_drew k4 1, k5, k6⟩⟩

theorem rep_buildOnce (g ob c : Nat) (u0 u1 u2 : Value) (w : World) (hB : Blk w g 112 #[u0, u1, u2, .nilIface, .slice (some ⟨ob, 0, none⟩) 4 c]) (hO : Old w ob) (B : Nat) (hBg : B ≤ g) :
    Calls Tryz.prog 72 #[.pointer (some ⟨g, 0, none⟩)] w fun e w' => e = .returned (.tuple #[]) ∧ ∃ q, TabX w' q ∧ Blk w' g 112 #[u0, u1, u2, .iface 184 (.pointer (some ⟨q, 0, none⟩)), .slice none 0 0] ∧ Below B w w' := by
  have hlt := hB.lt
  have BU := hid (rep_build g ob c w (by rw [hB.cell]; rfl) hO)
  have HB := hid hB
  clear hB hO
  go_enter Tryz.func72, Tryz.ntmps72
  go_wp2_with fail
  refine BU.out.mono ?_
  rintro e w1 ⟨q, rfl, hq, hT, hb⟩
  have hB1 := HB.out.below hb hlt
  have c3 := hB1.cell 3
  have f3 := hB1.frozen 3
  simp only [List.getElem?_toArray, List.getElem?_cons_zero, List.getElem?_cons_succ] at c3
  have hB2 := hB1.set_ 3 (.iface 184 (.pointer (some ⟨q, 0, none⟩)))
  have c4 := hB2.cell 4
  have f4 := hB2.frozen 4
  simp at c4
  have hB3 := hB2.set_ 4 (.slice none 0 0)
  have T1 : TabX w1 q := ⟨_, hq, hT⟩
  have T3 := (T1.set_ hB1 (by decide) (by decide) 3 (.iface 184 (.pointer (some ⟨q, 0, none⟩)))).set_ hB2 (by decide) (by decide) 4 (.slice none 0 0)
  have hb3 := ((hb.mono (show B ≤ w.heap.size by omega)).setCell (p := ⟨g, 3, none⟩) hBg (.iface 184 (.pointer (some ⟨q, 0, none⟩)))).setCell (p := ⟨g, 4, none⟩) hBg (.slice none 0 0)
  have HX := hid (show _ ∧ _ ∧ _ from ⟨T3, hB3, hb3⟩)
  clear T3 hB3 hb3 hB2 hB1 T1 hT hb
  go_wp2
  first | go_end0 | refine bodyPost_ret (results_none rfl _ _ _) rfl ?_
  exact ⟨rfl, q, HX.out.1, HX.out.2.1, HX.out.2.2⟩

/-- A replacer before and behind the first use. -/
def Rep0 (w : World) (g ob c : Nat) : Prop := Blk w g 112 #[.int .u32 0, .int .i32 0, .int .u32 0, .nilIface, .slice (some ⟨ob, 0, none⟩) 4 c] ∧ Old w ob
def Rep1 (w : World) (g q : Nat) : Prop := Blk w g 112 #[.int .u32 1, .int .i32 0, .int .u32 0, .iface 184 (.pointer (some ⟨q, 0, none⟩)), .slice none 0 0] ∧ TabX w q
theorem Old.set_ {w : World} {ob g : Nat} (h : Old w ob) (hne : ob ≠ g) (i : Nat) (v : Value) : Old (w.setCell ⟨g, i, none⟩ v) ob := by
  have k : ∀ j, (w.setCell ⟨g, i, none⟩ v).cell? ⟨ob, j, none⟩ = w.cell? ⟨ob, j, none⟩ := fun j => World.cell?_setCell_other _ _ _ _ (fun e => hne (by injection e with e; exact e.symm))
  exact ⟨by simpa using h.lt, (k 0).trans h.c0, (k 1).trans h.c1, (k 2).trans h.c2, (k 3).trans h.c3⟩
theorem once_slow (g ob c : Nat) (w : World) (h : Rep0 w g ob c) (hne : ob ≠ g) (B : Nat) (hBg : B ≤ g) :
    Calls Tryz.prog 110 #[.pointer (some ⟨g, 0, none⟩), .func (.func 72) #[.pointer (some ⟨g, 0, none⟩)] #[]] w fun e w' => e = .returned (.tuple #[]) ∧ ∃ q, Rep1 w' g q ∧ Below B w w' := by
  obtain ⟨hB, hO⟩ := h
  have hlt := hB.lt
  have c1 := hB.cell 1
  have f1 := hB.frozen 1
  simp only [List.getElem?_toArray, List.getElem?_cons_zero, List.getElem?_cons_succ] at c1
  have hB1 := hB.set_ 1 (.int .i32 1)
  have c0 := hB1.cell 0
  simp at c0
  have LK := hid (lock_free ⟨g, 1, none⟩ w c1 f1)
  have LD := hid (bool_load ⟨g, 0, none⟩ 0 (w.setCell ⟨g, 1, none⟩ (.int .i32 1)) c0)
  have hnot : ∀ (x : Bool) (w : World), (Op.unary .not (.bool x)).run Tryz.prog w = .ok (.bool (!x)) w := fun _ _ => rfl
  have BO := hid (rep_buildOnce g ob c (.int .u32 0) (.int .i32 1) (.int .u32 0) (w.setCell ⟨g, 1, none⟩ (.int .i32 1)) (by simpa using hB1) (hO.set_ hne 1 _) B hBg)
  clear hO hB hB1 c1 f1
  go_enter_defers Tryz.func110, Tryz.ntmps110
  go_wp2_with (go_at_call 135; refine LK.out.mono ?_; rintro e w' ⟨rfl, rfl⟩)
  go_wp2_with fail
  refine LD.out.mono ?_
  rintro e w' ⟨rfl, rfl⟩
  go_wp2_with fail
  refine BO.out.mono ?_
  rintro e w2 ⟨rfl, q, hT, hB2, hb2⟩
  have HT := hid hT
  have HB2 := hid hB2
  have Hb2 := hid (((Below.refl B w).setCell (p := ⟨g, 1, none⟩) hBg (.int .i32 1)).trans hb2)
  clear hT hb2 hB2
  go_wp2
  refine leaves_cons (f := 137) (args := #[.pointer (some ⟨g, 0, none⟩), .bool true]) (by simp) (by simp [go_sem]) ?_
  refine (store_deferred ⟨g, 0, none⟩ (.int .u32 0) .returning _ (by rw [HB2.out.cell]; rfl) (HB2.out.frozen 0)).mono ?_
  rintro e u' w'' ⟨rfl, rfl, rfl⟩
  have hB3 := HB2.out.drew.set_ 0 (.int .u32 1)
  refine leaves_cons (f := 136) (args := #[.pointer (some ⟨g, 1, none⟩)]) (by simp [settle]) (by simp [go_sem]) ?_
  refine (unlock_deferred ⟨g, 1, none⟩ _ _ (by rw [hB3.cell]; simp) (hB3.frozen 1)).mono ?_
  rintro e u' w'' ⟨rfl, rfl, rfl⟩
  have hB4 := hB3.set_ 1 (.int .i32 0)
  have hT4 := (HT.out.drew.set_ HB2.out.drew (by decide) (by decide) 0 (.int .u32 1)).set_ hB3 (by decide) (by decide) 1 (.int .i32 0)
  have hb4 := ((below_drewN Hb2.out 1).setCell (p := ⟨g, 0, none⟩) hBg (.int .u32 1)).setCell (p := ⟨g, 1, none⟩) hBg (.int .i32 0)
  have HF := hid (show ∃ q, Rep1 _ g q ∧ Below B w _ from ⟨q, ⟨by simpa using hB4, hT4⟩, hb4⟩)
  clear hB4 hT4 hb4 hB3
  simp [Leaves, settle, results, Tryz.results110]
  obtain ⟨q', k1, k2⟩ := HF.out
  exact ⟨⟨q', k1⟩, k2⟩
theorem once_Do (g ob c : Nat) (w : World) (h : Rep0 w g ob c) (hne : ob ≠ g) (B : Nat) (hBg : B ≤ g) :
    Calls Tryz.prog 71 #[.pointer (some ⟨g, 0, none⟩), .func (.func 72) #[.pointer (some ⟨g, 0, none⟩)] #[]] w fun e w' => e = .returned (.tuple #[]) ∧ ∃ q, Rep1 w' g q ∧ Below B w w' := by
  have LD := hid (bool_load ⟨g, 0, none⟩ 0 w (by rw [h.1.cell]; rfl))
  have SL := hid (once_slow g ob c w h hne B hBg)
  clear h
  go_enter Tryz.func71, Tryz.ntmps71
  go_wp2_with fail
  refine LD.out.mono ?_
  rintro e w' ⟨rfl, rfl⟩
  go_wp2_with fail
  refine SL.out.mono ?_
  rintro e w2 ⟨rfl, h2⟩
  have H2 := hid h2
  clear h2
  go_wp2
  first | go_end0 | refine bodyPost_ret (results_none rfl _ _ _) rfl ?_
  exact ⟨rfl, H2.out⟩
end Go.Proofs.YtecekflooihkoaaGreatDoor
