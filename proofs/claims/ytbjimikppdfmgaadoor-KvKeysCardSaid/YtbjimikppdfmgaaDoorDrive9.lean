/- Walks of package drive: Remove. -/
import Derived.Test.YtbjimikppdfmgaaDoorDrive8
import Derived.Test.YtbjimikppdfmgaaDoorLawK
set_option linter.unusedVariables false
set_option linter.unusedSimpArgs false
set_option maxHeartbeats 1600000
set_option maxRecDepth 100000
attribute [local go_sem ↓] Go.wp_at_zero Go.wp_at_succ
namespace Go.Proofs.YtbjimikppdfmgaaDoor
open Go.RowKit

/-- The cells that a closure of two captured variables reads. -/
structure Three (w : World) (g mb pb nb : Nat) (name : Key) (u : Int) : Prop where
  c0 : w.cell? ⟨pb, 0, none⟩ = some (.pointer (some ⟨g, 0, none⟩))
  c1 : w.cell? ⟨nb, 0, none⟩ = some (.string (S name))
  c2 : w.cell? ⟨g, 0, none⟩ = some (.map (some mb))
  c3 : w.cell? ⟨g, 2, none⟩ = some (.int .i64 u)
  f2 : w.frozen? ⟨g, 2, none⟩ = false

theorem pairwise_two {α : Type} {R : α → α → Prop} (hs : ∀ a b, R a b → R b a) {l : List α} (h : l.Pairwise R) {a b : α} (ha : a ∈ l) (hb : b ∈ l) (hne : a ≠ b) : R a b := by
  induction l with
  | nil => simp at ha
  | cons x r ih =>
    have h1 := List.pairwise_cons.1 h
    rcases List.mem_cons.1 ha with h2 | h2
    · rcases List.mem_cons.1 hb with h3 | h3
      · exact absurd (h2.trans h3.symm) hne
      · rw [h2]; exact h1.1 _ h3
    · rcases List.mem_cons.1 hb with h3 | h3
      · rw [h3]; exact hs _ _ (h1.1 _ h2)
      · exact ih h1.2 h2 h3
/-- A drive's map was turned, and its own block: its files are some of those that it had. -/
theorem IsDrive.turn {w w2 : World} {g mb : Nat} {d d' : Dr} {fp : Nat → Prop} {aft : Int} {rs rs' : List (Key × FileR)} (h : IsDrive w g d fp) (hb : Blk w g 68 (driveCells d mb aft)) (hf : HasFiles w fp mb rs)
    (hs : w.heap.size ≤ w2.heap.size) (hk : ∀ k, k < w.heap.size → k ≠ mb → k ≠ g → w2.heap[k]? = w.heap[k]?) (hm2 : OwnM Tryd.prog 9 w2 mb (kmap FileR.blk rs')) (hsub : ∀ p ∈ rs', ∃ q ∈ rs, q.2 = p.2) (hap : rs'.Pairwise FApart)
    (hb2 : Blk w2 g 68 (driveCells d' mb aft)) (ha : 0 ≤ d'.left → aft = d'.left) (hd : d'.files = kmap FileR.f rs') : IsDrive w2 g d' fp := by
  refine ⟨fun k hk => Nat.lt_of_lt_of_le (h.lt k hk) hs, h.own, mb, aft, rs', hb2, ha, ⟨hm2, hf.own, fun p hp => ?_, hap⟩, hd⟩
  obtain ⟨q, hq, he⟩ := hsub p hp
  have hF := hf.each q hq
  rw [he] at hF
  obtain ⟨es0, cl0, hmb⟩ := hf.map.isMap
  refine hF.keepAll (fun k cs t h1 h2 h3 => hk k (h.lt k h1) ?_ ?_) (fun _ h => h)
  · rintro rfl
    rw [hmb] at h3; cases h3
  · rintro rfl
    have hb' : w.heap[k]? = _ := hb
    rw [hb'] at h3
    injection h3 with h3
    injection h3 with _ h4
    exact h2 h4.symm

theorem used_del {d : Dr} {name : Key} {f : File} (hr : Rising d.files) (hk : kget d.files name = some f) : ({ d with files := kdel d.files name } : Dr).used = d.used - f.all.length := by
  have h1 : d.used = ((ksum (fun f : File => f.all.length) d.files : Nat) : Int) := d.used_eq
  have h2 : ({ d with files := kdel d.files name } : Dr).used = ((ksum (fun f : File => f.all.length) (kdel d.files name) : Nat) : Int) := Dr.used_eq _
  rw [h1, h2, ksum_del _ hr hk]
  omega
theorem used_nonneg (d : Dr) : 0 ≤ d.used := by rw [Dr.used_eq]; omega
theorem wrap_small {n : Int} (h0 : -9223372036854775808 ≤ n) (h1 : n ≤ 9223372036854775807) : IntKind.i64.wrap n = n := by
  unfold IntKind.wrap
  simp [IntKind.bits, IntKind.signed]
  omega

end Go.Proofs.YtbjimikppdfmgaaDoor
