/- Walks of the library's Replacer: made, used. -/
import Derived.Test.YtecekflooihkoaaGreatDoorRep4
set_option linter.unusedVariables false
set_option linter.unusedSimpArgs false
set_option maxHeartbeats 6400000
set_option maxRecDepth 100000
namespace Go.Proofs.YtecekflooihkoaaGreatDoor
open Go.RowKit

theorem newReplacer (b : Nat) (w : World) (hB : Blk w b 9 #[.string (S [120]), .string (S []), .string (S [47]), .string (S [])]) :
    Calls Tryz.prog 32 #[.slice (some ⟨b, 0, none⟩) 4 4] w fun e w' => ∃ g ob c, e = .returned (.pointer (some ⟨g, 0, none⟩)) ∧ w.heap.size ≤ g ∧ Rep0 w' g ob c ∧ ob ≠ g ∧ Below w.heap.size w w' := by
  obtain ⟨i, hi, hz, hsz, hby⟩ := info_str
  obtain ⟨v', w', hrun, hown1, hgrow, hat⟩ := run_append_row (P := Tryz.prog) w w.heap.size 65 65 9 i _ 1 16 (by kernel_rfl) hi hz hsz hby rfl (by decide) _ 0 [] (World.ownsRow_nil _ _ _ _) (some ⟨b, 0, none⟩) 4 4 [.string (S [120]), .string (S []), .string (S [47]), .string (S [])] rfl (fun h => by cases h)
    (fun ad had j u hu => by
      injection had with had
      subst had
      rw [add_plain', Nat.zero_add, hB.cell j, ← hu]
      simp)
    (fun u hu => by
      simp only [List.mem_cons, List.not_mem_nil, or_false] at hu
      rcases hu with rfl | rfl | rfl | rfl <;> rfl)
    (by unfold maxLen; omega) (by omega) (Nat.le_refl _)
  obtain ⟨A', c', rfl⟩ := row_form hown1
  have hb1 : Below w.heap.size w w' := (Below.refl _ w).grown hgrow (Nat.le_refl _) fun k hk => by simp [Value.ownBlock] at hk
  obtain ⟨ob, hA, hob⟩ : ∃ ob, A' = some ⟨ob, 0, none⟩ ∧ ob < w'.heap.size := by
    rcases hown1.2 with ⟨e, h0⟩ | ⟨g, cap, cur, e, hb, hh, _⟩
    · simp at h0
    · simp only [Value.slice.injEq] at e
      exact ⟨g, e.1, (Array.getElem?_eq_some_iff.1 hh).1⟩
  subst hA
  have hO : Old w' ob := ⟨hob, (hown1.cellAt 0 (by simp)).trans rfl, (hown1.cellAt 1 (by simp)).trans rfl, (hown1.cellAt 2 (by simp)).trans rfl, (hown1.cellAt 3 (by simp)).trans rfl⟩
  have HX := hid (show ∀ cs, Blk (w'.alloc (.cells cs 112)) w'.heap.size 112 cs ∧ Old (w'.alloc (.cells cs 112)) ob ∧ Below w.heap.size w (w'.alloc (.cells cs 112)) from fun cs => ⟨Blk.new w' _ _, hO.below ((Below.refl _ _).alloc (Nat.le_refl _) _), hb1.alloc hb1.size _⟩)
  have HS := hid hb1.size
  clear hown1 hgrow hat hb1 hO hB
  go_enter Tryz.func32, Tryz.ntmps32
  go_wp2_with (first | (at_builtin; refine wpList_append_run rfl _ _ _ (by rfl) _ _ _ _ (by rfl) (by rfl) hrun ?_))
  go_ret
  exact ⟨w'.heap.size, ob, c', rfl, HS.out, ⟨(HX.out _).1, (HX.out _).2.1⟩, by omega, (HX.out _).2.2⟩

theorem method_Replace (a : Addr) (w : World) : (method 269 184 (.pointer (some a)) "Replace").run Tryz.prog w = .ok (216, .pointer (some a)) w := by kernel_rfl
theorem rep_Replace (g ob c : Nat) (l : List UInt8) (hl : l.length ≤ 1000) (w : World) (h : Rep0 w g ob c) (hne : ob ≠ g) (B : Nat) (hBg : B ≤ g) :
    Calls Tryz.prog 33 #[.pointer (some ⟨g, 0, none⟩), .string (S l)] w fun e w' => e = .returned (.string (S (keepT l))) ∧ Below B w w' := by
  have DO := hid (once_Do g ob c w h hne B hBg)
  have hlt := h.1.lt
  have hmf : ∀ (fn : Fn) (first cap : Array Value) (w : World), (Instr.makeFunc fn first cap).run Tryz.prog w = .ok (.func fn first cap) w := fun _ _ _ _ => rfl
  clear h
  go_enter Tryz.func33, Tryz.ntmps33
  go_wp2_with fail
  refine DO.out.mono ?_
  rintro e w1 ⟨rfl, q, hR, hb1⟩
  have c3 := hR.1.cell 3
  simp only [List.getElem?_toArray, List.getElem?_cons_zero, List.getElem?_cons_succ] at c3
  have BS := hid (bsr_Replace q l hl w1 hR.2)
  have HB := hid hb1
  have hmt := method_Replace
  clear hR hb1
  go_wp2_with fail
  refine BS.out.mono ?_
  rintro e w2 ⟨rfl, hb2⟩
  have HB2 := hid (HB.out.trans (hb2.mono (show B ≤ w1.heap.size by have := HB.out.size; omega)))
  clear hb2
  go_wp2
  go_ret
  exact ⟨rfl, HB2.out⟩
end Go.Proofs.YtecekflooihkoaaGreatDoor
