/- Walk of json.items where it is bad already, or too deep. -/
import Derived.Test.YtbjimikppdfmgaaDoorJs5
set_option linter.unusedVariables false
set_option linter.unusedSimpArgs false
set_option maxHeartbeats 8000000
set_option maxRecDepth 100000
namespace Go.Proofs.YtbjimikppdfmgaaDoor
open Go.RowKit

theorem jr_items_bad {V : Value} (fin : UInt8) (g : Nat) (W : World) (s : List UInt8) (d : Int) (b : Bool) (h : Rd W g s d b) (hd : 0 ≤ d ∧ d ≤ 5) (hb : b = true ∨ d = 5) :
    Calls Tryd.prog 97 #[.pointer (some ⟨g, 0, none⟩), .string (S [fin]), V] W fun e w' => e = .returned (.slice none 0 0) ∧ ∃ s', RdTo g W w' s' d true := by
  have SG := hid (fun (W : World) (s : List UInt8) (d : Int) (b : Bool) (h : Rd W g s d b) (c : UInt8) => jr_sign h c)
  have A1 := ((RdTo.refl h).set1 (d + 1)).below ((Below.refl _ _).alloc (Nat.le_refl _) (.cells #[.pointer (some ⟨g, 0, none⟩)] 85))
  have A2 := (((RdTo.refl h).set1 (d + 1)).set2 true).below ((Below.refl _ _).alloc (Nat.le_refl _) (.cells #[.pointer (some ⟨g, 0, none⟩)] 85))
  have H1 := hid A1
  have H2 := hid A2
  have K1 := hid ((RdTo.refl h).set1 (d + 1))
  obtain ⟨d0, d1, d2, e0, e1, e2⟩ := (RdTo.refl h).b0
  have B1 := hid (Blk.new (W.setCell ⟨g, 1, none⟩ (.int .i64 (d + 1))) 85 #[.pointer (some ⟨g, 0, none⟩)])
  have B2 := hid (Blk.new ((W.setCell ⟨g, 1, none⟩ (.int .i64 (d + 1))).setCell ⟨g, 2, none⟩ (.bool true)) 85 #[.pointer (some ⟨g, 0, none⟩)])
  have glt := h.lt
  have gne : W.heap.size ≠ g := by omega
  have hd0 := hd.1
  have hd1 := hd.2
  clear h A1 A2
  by_cases h5 : d = 5
  case' neg =>
    obtain rfl : b = true := hb.resolve_right h5
    have hdd : ¬ (5 : Int) < d + 1 := by omega
  case' pos =>
    have hdd : (5 : Int) < d + 1 := by omega
  all_goals
    clear hb h5
    go_enter_defers Tryd.func97, Tryd.ntmps97
    go_wp2_with fail
    first
    | refine (SG.out _ _ _ _ H2.out.blk fin).mono ?_
    | refine (SG.out _ _ _ _ H1.out.blk fin).mono ?_
    rintro e w2 ⟨rfl, h2⟩
    have hbox2 : w2.cell? ⟨W.heap.size, 0, none⟩ = some (.pointer (some ⟨g, 0, none⟩)) := by
      have e1 := h2.tou.block W.heap.size (by simp [World.alloc, set_size]) (by omega)
      rw [cell_same e1]
      first
      | simpa using B1.out.cell 0
      | simpa using B2.out.cell 0
    have hr2 : RdTo g W w2 (signP fin s).1 (d + 1) true := by
      first
      | exact H1.out.trans h2
      | exact H2.out.trans h2
    have HR2 := hid hr2
    obtain ⟨x0, x1, x2, y0, y1, y2⟩ := hr2.b0
    have HF := hid (show ∃ s', RdTo g W (w2.setCell ⟨g, 1, none⟩ (.int .i64 (d + 1 - 1))) s' d true from ⟨_, by have := hr2.set1 (d + 1 - 1); rw [show d + 1 - 1 = d by omega] at this ⊢; exact this⟩)
    clear h2 H1 H2 K1 B1 B2 d0 d1 d2 e0 e1 e2 hr2
    generalize signP fin s = q at *
    obtain ⟨q1, q2⟩ := q
    cases q2 with
    | true =>
      go_wp2
      refine leaves_cons (f := 121) (args := #[.pointer (some ⟨W.heap.size, 0, none⟩)]) (by simp) (by simp [go_sem]) ?_
      refine (items_deferred .returning w2 hbox2 HR2.out.blk (by omega)).mono ?_
      rintro e u' w'' ⟨rfl, rfl, rfl⟩
      exact ⟨_, results_tmp rfl _ _ _, rfl, HF.out⟩
    | false =>
      go_wp2
      go_loopw [7] (fun o wr => o = .slice none 0 0 ∧ wr = w2) (fun _ _ => 0)
      case atStart => exact ⟨rfl, rfl⟩
      case round =>
        obtain ⟨rfl, rfl⟩ := hrel
        go_wp2
        refine leaves_cons (f := 121) (args := #[.pointer (some ⟨W.heap.size, 0, none⟩)]) (by simp) (by simp [go_sem]) ?_
        refine (items_deferred .returning _ hbox2 HR2.out.blk (by omega)).mono ?_
        rintro e u' w'' ⟨rfl, rfl, rfl⟩
        exact ⟨_, results_tmp rfl _ _ _, rfl, HF.out⟩
end Go.Proofs.YtbjimikppdfmgaaDoor
