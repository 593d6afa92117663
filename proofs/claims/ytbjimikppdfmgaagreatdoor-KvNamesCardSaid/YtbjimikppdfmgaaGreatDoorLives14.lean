/- Walk of pantilelaw14.lives: the document's example. -/
import Derived.Test.YtbjimikppdfmgaaGreatDoorKv8
import Derived.Test.YtbjimikppdfmgaaGreatDoorKv10
import Derived.Test.YtbjimikppdfmgaaGreatDoorKvK2
import Derived.Test.YtbjimikppdfmgaaGreatDoorKvMem
set_option linter.unusedVariables false
set_option linter.unusedSimpArgs false
set_option maxHeartbeats 6400000
set_option maxRecDepth 100000
namespace Go.Proofs.YtbjimikppdfmgaaGreatDoor
open Go.RowKit

def lv14 : List Wr := [⟨[97], [49], false⟩, ⟨[98], [50], false⟩, ⟨[97], [], true⟩]
def lv14d : Dr := ((Dr.new 1000).create (fileN [97] logN)).1
theorem lv14_keys : preK (doB [] lv14) [] = [[98]] := by decide
theorem lv14_row (w : World) : ∀ W' : World, Blk W' w.heap.size 31 #[.string (S [97]), .string (S [49]), .bool false, .string (S [98]), .string (S [50]), .bool false, .string (S [97]), .string (S []), .bool true] → WsAt W' (some ⟨w.heap.size, 0, none⟩) lv14 := fun W' hB h0 => by
  refine ⟨w.heap.size, 0, rfl, hB.lt, fun i hi => ?_⟩
  have : i = 0 ∨ i = 1 ∨ i = 2 := by simp [lv14] at hi; omega
  rcases this with rfl | rfl | rfl
  · exact ⟨hB.cell 0, hB.cell 1, hB.cell 2⟩
  · exact ⟨hB.cell 3, hB.cell 4, hB.cell 5⟩
  · exact ⟨hB.cell 6, hB.cell 7, hB.cell 8⟩
theorem doB_rising (b : List Wr) : Rising (doB [] b) := (doR_do b [] List.Pairwise.nil).2
theorem law14_lives (w : World) : Calls Tryz.prog 8 #[] w fun e w' => e = .returned (.bool true) ∧ Below w.heap.size w w' := by
  have N0 := hid (FW.new (Fr.all w) 1000 rfl w (Fr.kept_self _))
  have hK := hid lv14_keys
  go_enter Tryz.func8, Tryz.ntmps8
  go_wp2_with fail
  refine N0.out.mono ?_
  rintro e w1 ⟨g, rfl, -, -, h1⟩
  have OP := hid (kv_Open_new (name := [97]) h1 (by omega) (by decide) (by decide) (by decide) rfl rfl rfl rfl)
  have HZ := hid h1.bel.size
  clear h1 N0
  go_wp2_with fail
  refine OP.out.mono ?_
  rintro e w2 ⟨sb, mb, rfl, hsb, h2⟩
  have hsblt := (h2.blk (x := (sb, 52, storeCells g [97] mb false)) (by simp)).lt
  simp only [] at hsblt
  have M3 := (h2.with_ 31 #[.string (S [97]), .string (S [49]), .bool false, .string (S [98]), .string (S [50]), .bool false, .string (S [97]), .string (S []), .bool true]).sub (Y := [(sb, 52, storeCells g [97] mb false), (w2.heap.size, 31, #[.string (S [97]), .string (S [49]), .bool false, .string (S [98]), .string (S [50]), .bool false, .string (S [97]), .string (S []), .bool true])]) (by simp)
  have hfree : (Fr.all w).free sb := (Fr.all w).free_new (Nat.le_trans HZ.out hsb)
  have AP := hid (kv_Apply_ok M3 hfree (by simp; omega) rfl (some ⟨w2.heap.size, 0, none⟩) 3 lv14 (fun W' hW => lv14_row w2 W' (hW (w2.heap.size, 31, #[.string (S [97]), .string (S [49]), .bool false, .string (S [98]), .string (S [50]), .bool false, .string (S [97]), .string (S []), .bool true]) (by simp))) (by decide) rfl (by decide) (by simp) (by omega) (by decide) rfl rfl)
  clear h2 M3 OP hsb hfree HZ
  go_wp2_with fail
  refine AP.out.mono ?_
  rintro e w3 ⟨rfl, mb3, h3⟩
  have b3 := h3.blk (x := (sb, 52, storeCells g [97] mb3 false)) (by simp)
  obtain ⟨s0, s1, s2, s3⟩ := store4 b3
  have KY := hid (kv_Keys s2 b3.lt h3.map (doB_rising _) (by decide) [])
  have H3 := hid h3
  clear h3 AP b3 s0 s1 s2 s3
  go_wp2_with fail
  refine KY.out.mono ?_
  rintro e w4 ⟨v, rfl, hr, hb⟩
  rw [hK.out] at hr
  rcases hr.2 with ⟨-, h0⟩ | ⟨gk, cap, cur, rfl, hbk, hh, -⟩
  · cases h0
  have ck := hr.cellAt 0 (by simp)
  have LN := hid (kv_Len (H3.out.below hb) (sb := sb) (g := g) (name := [97]) (dead := false) (by simp))
  have HB := hid (Fr.all_below (H3.out.below hb).bel)
  clear hr hb hh hbk H3 KY
  go_wp2_with fail
  refine LN.out.mono ?_
  rintro e w5 ⟨rfl, rfl⟩
  go_wp2
  go_ret
  exact ⟨rfl, HB.out⟩
end Go.Proofs.YtbjimikppdfmgaaGreatDoor
