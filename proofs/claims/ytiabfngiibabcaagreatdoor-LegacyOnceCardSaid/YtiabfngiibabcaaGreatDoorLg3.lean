/-
  Walks of the closures of legacy.Open: a leaf is noted.
-/
import Derived.Test.YtiabfngiibabcaaGreatDoorM15
import Derived.Test.YtiabfngiibabcaaGreatDoorTl5
set_option linter.unusedVariables false
set_option linter.unusedSimpArgs false
set_option maxHeartbeats 6400000
set_option maxRecDepth 100000
namespace Go.Proofs.YtiabfngiibabcaaGreatDoor
open Go.RowKit

section
variable {W : World} {lx lb sb size cm : Nat} {st hd : Value} {m : KMapI}
theorem legacy_open1 (hx : W.cell? ⟨lx, 0, none⟩ = some (.pointer (some ⟨lb, 0, none⟩))) (hxm : lx ≠ cm) (h : Blk W lb 49 (logCells sb size st hd cm)) (hm : OwnI Tryz.prog 9 W cm m) (x : Lf) (hok : okL x = true) (hml : m.length ≤ 100000000) (at_ : Int) :
    Calls Tryz.prog 31 #[.int .i64 at_, .string (S (leafB x)), .pointer (some ⟨lx, 0, none⟩)] W fun e w' => e = .returned (.bool true) ∧ OwnI Tryz.prog 9 w' cm (noteM m x) ∧ Touch W w' (fun k => k = cm) (fun k => k = cm) := by
  have hlx := World.block_lt_of_cell? W _ hx
  have hlx' : lx < W.heap.size := hlx
  obtain ⟨W1, HW1⟩ : ∃ W1, Hid (W1 = Lib.bytesWorld W 5 (S (leafB x))) := ⟨_, rfl⟩
  have b1 : Below W.heap.size W W1 := by rw [HW1.out]; exact conv_below _ _
  have q1 := conv_run W (leafB x)
  have a1 : BytesAt W1 (some ⟨W.heap.size, 0, none⟩) (leafB x) := by rw [HW1.out]; exact conv_at _ _
  rw [← HW1.out] at q1
  have hcap : (leafB x).length ≤ grownCap W (leafB x).length 0 5 := grownCap_ge _ _ _ _
  have hcm : ((grownCap W (leafB x).length 0 5 : Nat) : Int) ≤ 9223372036854775807 := by
    have := grownCap_le_maxLen W (leafB x).length 0 5 (by rw [leafB_len]; unfold maxLen; have := (okL_of hok).2.2; omega)
    unfold maxLen at this
    omega
  obtain ⟨-, -, hcl⟩ := okL_of hok
  have PS := hid (tls_Parse x hok W1 W.heap.size 0 (grownCap W (leafB x).length 0 5) a1 hcap hcm)
  have NT := hid (fun (w2 : World) (hb : Below W1.heap.size W1 w2) => by
    have hb2 : Below W.heap.size W (w2.alloc (.cells #[.int .i64 x.time, .string (S x.cert)] 30)) := (bt b1 hb).alloc (bt b1 hb).size _
    exact And.intro ((hb2.cell (p := ⟨lx, 0, none⟩) hlx').trans hx) (And.intro hb2 (legacy_note (h.below hb2 h.lt) (hm.kept (hb2.block cm hm.lt)) x (by omega) hml)))
  generalize grownCap W (leafB x).length 0 5 = cp at *
  generalize leafB x = lf at *
  obtain ⟨t, ce⟩ := x
  simp only [leafV] at *
  clear a1 hcap hcm h hm b1
  go_enter Tryz.func31, Tryz.ntmps31
  go_wp2_with fail
  refine PS.out.mono ?_
  rintro e w2 ⟨rfl, hb2⟩
  obtain ⟨y0, hbb, nt⟩ := NT.out w2 hb2
  have NT2 := hid nt
  have HBB := hid hbb
  clear nt hbb hb2 NT PS
  go_wp2_with fail
  refine NT2.out.mono ?_
  rintro e w3 ⟨rfl, ho3, ht3⟩
  have HF := hid (And.intro ho3 ((Touch.of_below HBB.out (fun k => k = cm)).trans ht3))
  clear ho3 ht3 NT2
  go_wp2
  go_ret
  exact ⟨rfl, HF.out.1, HF.out.2⟩
end
end Go.Proofs.YtiabfngiibabcaaGreatDoor
