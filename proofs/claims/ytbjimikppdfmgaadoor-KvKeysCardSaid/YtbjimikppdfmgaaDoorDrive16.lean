/- Walks of package drive: the closure of Rename. Walks of package drive: the closure of Rename, whole. Walks of package drive: Rename, whole. -/
import Derived.Test.YtbjimikppdfmgaaDoorDrive13
import Derived.Test.YtbjimikppdfmgaaDoorLawK
set_option linter.unusedVariables false
set_option linter.unusedSimpArgs false
set_option maxHeartbeats 3200000
set_option maxRecDepth 100000
attribute [local go_sem ↓] Go.wp_at_zero Go.wp_at_succ
namespace Go.Proofs.YtbjimikppdfmgaaDoor
open Go.RowKit

/-- The cells that the closure of Rename reads. -/
structure Ren (w : World) (g mb pb ab bb : Nat) (a b : Key) (u : Int) : Prop where
  c0 : w.cell? ⟨pb, 0, none⟩ = some (.pointer (some ⟨g, 0, none⟩))
  c1 : w.cell? ⟨ab, 0, none⟩ = some (.string (S a))
  c2 : w.cell? ⟨bb, 0, none⟩ = some (.string (S b))
  c3 : w.cell? ⟨g, 0, none⟩ = some (.map (some mb))
  c4 : w.cell? ⟨g, 2, none⟩ = some (.int .i64 u)
  f2 : w.frozen? ⟨g, 2, none⟩ = false

end Go.Proofs.YtbjimikppdfmgaaDoor

set_option linter.unusedVariables false
set_option linter.unusedSimpArgs false
set_option maxHeartbeats 1600000
set_option maxRecDepth 100000
namespace Go.Proofs.YtbjimikppdfmgaaDoor
open Go.RowKit

theorem ren_of {w W : World} {g mb pb ab bb : Nat} {d : Dr} {fp : Nat → Prop} {a b : Key} {cs : Array Value} {u : Int} (h : IsDrive w g d fp) (hmb : fp mb) (hC : Caps w g pb ab a fp) (cb : w.cell? ⟨bb, 0, none⟩ = some (.string (S b))) (hbl : bb < w.heap.size) (hbn : ¬ fp bb)
    (hkk : ∀ k, k < w.heap.size → k ≠ mb → k ≠ g → W.heap[k]? = w.heap[k]?) (hBg : Blk W g 68 cs) (h0 : cs[0]? = some (.map (some mb))) (h2 : cs[2]? = some (.int .i64 u)) : Ren W g mb pb ab bb a b u := by
  have hkeep : ∀ (k : Nat) x, k < w.heap.size → ¬ fp k → w.cell? ⟨k, 0, none⟩ = some x → W.cell? ⟨k, 0, none⟩ = some x := fun k x hk hn hc =>
    (World.cell?_of_block (a := ⟨k, 0, none⟩) (hkk k hk (by rintro rfl; exact hn hmb) (by rintro rfl; exact hn h.own))).trans hc
  exact ⟨hkeep _ _ hC.hp hC.np hC.cp, hkeep _ _ hC.hn hC.nn hC.cn, hkeep _ _ hbl hbn cb, (hBg.cell 0).trans h0, (hBg.cell 2).trans h2, hBg.frozen 2⟩

def lenOf : Option File → Int
  | some o => o.all.length
  | none => 0
theorem used_rename {d : Dr} {a b : Key} {f : File} (hr : Rising d.files) (hk : kget d.files a = some f) (o : Option File) (ho : kget (kdel d.files a) b = o) :
    ({ d with files := kput (kdel d.files a) b f } : Dr).used = d.used - lenOf o := by
  have h1 : d.used = ((ksum (fun f : File => f.all.length) d.files : Nat) : Int) := d.used_eq
  have h2 : ({ d with files := kput (kdel d.files a) b f } : Dr).used = ((ksum (fun f : File => f.all.length) (kput (kdel d.files a) b f) : Nat) : Int) := Dr.used_eq _
  rw [h1, h2, ksum_del _ hr hk, ksum_put]
  cases o with
  | none =>
    rw [kdel_none ho]
    simp [lenOf]
  | some o =>
    rw [ksum_del _ (hr.del a) ho]
    simp only [lenOf]
    omega

end Go.Proofs.YtbjimikppdfmgaaDoor

set_option linter.unusedVariables false
set_option linter.unusedSimpArgs false
set_option maxHeartbeats 1600000
set_option maxRecDepth 100000
attribute [local go_sem ↓] Go.wp_at_zero Go.wp_at_succ
namespace Go.Proofs.YtbjimikppdfmgaaDoor
open Go.RowKit

end Go.Proofs.YtbjimikppdfmgaaDoor
