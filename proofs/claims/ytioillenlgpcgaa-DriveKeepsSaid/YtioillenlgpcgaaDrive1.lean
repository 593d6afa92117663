/- Walks of package drive: New, Alive, Used, Deeds, Arm, Quota. -/
import Derived.Test.YtioillenlgpcgaaDrPlain
set_option linter.unusedVariables false
set_option linter.unusedSimpArgs false
set_option maxHeartbeats 800000
set_option maxRecDepth 100000
namespace Go.Proofs.Ytioillenlgpcgaa
open Go.RowKit

theorem drive_quotable (n : Int) (w : World) : Calls Try.prog 27 #[.int .i64 n] w fun e w' => e = .returned (.bool (quotableB n)) ∧ w' = w := by
  by_cases h : 0 ≤ n
  · go_enter Try.func27, Try.ntmps27
    go_wp2
    go_ret
    exact ⟨by simp [quotableB, h], rfl⟩
  · go_enter Try.func27, Try.ntmps27
    go_wp2
    go_ret
    exact ⟨by simp [quotableB]; omega, rfl⟩

theorem drive_Alive {w : World} {g : Nat} {d : Dr} {fp : Nat → Prop} (h : IsDrive w g d fp) : Calls Try.prog 13 #[.pointer (some ⟨g, 0, none⟩)] w fun e w' => e = .returned (.bool (!d.down)) ∧ w' = w := by
  obtain ⟨mb, aft, rs, hb, ha, hf, hd⟩ := h.has
  have c4 := hb.cell 4
  simp [driveCells] at c4
  have hnot : ∀ (x : Bool) (w : World), (Op.unary .not (.bool x)).run Try.prog w = .ok (.bool (!x)) w := fun _ _ => rfl
  clear hb ha hf hd h
  go_enter Try.func13, Try.ntmps13
  go_wp2
  go_ret
  exact ⟨rfl, rfl⟩

theorem drive_Used {w : World} {g : Nat} {d : Dr} {fp : Nat → Prop} (h : IsDrive w g d fp) : Calls Try.prog 51 #[.pointer (some ⟨g, 0, none⟩)] w fun e w' => e = .returned (.int .i64 d.used) ∧ w' = w := by
  obtain ⟨mb, aft, rs, hb, ha, hf, hd⟩ := h.has
  have c4 := hb.cell 2
  simp [driveCells] at c4
  clear hb ha hf hd h
  go_enter Try.func51, Try.ntmps51
  go_wp2
  go_ret
  exact ⟨rfl, rfl⟩

theorem drive_Deeds {w : World} {g : Nat} {d : Dr} {fp : Nat → Prop} (h : IsDrive w g d fp) : Calls Try.prog 53 #[.pointer (some ⟨g, 0, none⟩)] w fun e w' => e = .returned (.int .i64 d.deeds) ∧ w' = w := by
  obtain ⟨mb, aft, rs, hb, ha, hf, hd⟩ := h.has
  have c4 := hb.cell 3
  simp [driveCells] at c4
  clear hb ha hf hd h
  go_enter Try.func53, Try.ntmps53
  go_wp2
  go_ret
  exact ⟨rfl, rfl⟩

theorem drive_New_no (q : Int) (hq : quotableB q = false) (w : World) : Calls Try.prog 7 #[.int .i64 q] w fun e w' => e = .returned (.pointer none) ∧ w' = w := by
  have Q := hid (drive_quotable q)
  rw [hq] at Q
  clear hq
  go_enter Try.func7, Try.ntmps7
  go_wp2_with fail
  refine (Q.out _).mono ?_
  rintro e w1 ⟨rfl, rfl⟩
  go_wp2
  go_ret
  exact ⟨rfl, rfl⟩

theorem drive_New (q : Int) (hq : quotableB q = true) (w : World) : Calls Try.prog 7 #[.int .i64 q] w fun e w' => ∃ g fp, e = .returned (.pointer (some ⟨g, 0, none⟩)) ∧ IsDrive w' g (Dr.new q) fp ∧ Below w.heap.size w w' ∧ ∀ k, fp k → w.heap.size ≤ k := by
  have Q := hid (drive_quotable q)
  rw [hq] at Q
  clear hq
  have hmm := @run_makeMap Try.prog
  go_enter Try.func7, Try.ntmps7
  go_wp2_with fail
  refine (Q.out _).mono ?_
  rintro e w1 ⟨rfl, rfl⟩
  go_wp2
  go_ret
  have hB : Below w1.heap.size w1 (w1.alloc (.map #[] 0)) := (Below.refl _ _).alloc (Nat.le_refl _) _
  refine ⟨w1.heap.size + 1, fun k => k = w1.heap.size ∨ k = w1.heap.size + 1, rfl, ⟨?_, .inr rfl, w1.heap.size, 0, [], ?_, fun h => absurd h (by simp [Dr.new]), ⟨?_, .inl rfl, by simp, List.Pairwise.nil⟩, rfl⟩, hB.alloc (by simp) _, ?_⟩
  · intro k hk
    simp
    omega
  · have := Blk.new (w1.alloc (.map #[] 0)) 60 (driveCells (Dr.new q) w1.heap.size 0)
    simpa [driveCells, Dr.new, Dr.used] using this
  · exact (OwnM.made w1).kept (Below.heap_alloc _ _ _ (by simp))
  · intro k hk
    omega

theorem drive_Arm {w : World} {g : Nat} {d : Dr} {fp : Nat → Prop} (h : IsDrive w g d fp) (n : Int) : Calls Try.prog 22 #[.pointer (some ⟨g, 0, none⟩), .int .i64 n] w fun e w' => e = .returned (.tuple #[]) ∧ IsDrive w' g (d.arm n) fp ∧ Touch w w' fp fp := by
  obtain ⟨mb, aft, rs, hb, ha, hf, hd⟩ := h.has
  have c5 := hb.cell 5
  have c6 := hb.cell 6
  simp [driveCells] at c5 c6
  have f5 := hb.frozen 5
  have f6 := hb.frozen 6
  have H := hid h
  have HB := hid hb
  have HD := hid hd
  clear h hb ha hd
  go_enter Try.func22, Try.ntmps22
  go_wp2
  go_end0
  refine ⟨rfl, IsDrive.mk' (aft := n) H.out HB.out hf (by simp [set_size]) (fun k hk => (set_other _ _ _ _ k hk).trans (set_other _ _ _ _ k hk)) ?_ ?_ HD.out, (Touch.setCell _ _ H.out.own _).trans (Touch.setCell _ _ H.out.own _)⟩
  · have := (HB.out.set_ 5 (.bool (decide (0 ≤ n)))).set_ 6 (.int .i64 n)
    have e : decide (0 ≤ (d.arm n).left) = decide (0 ≤ n) := by
      simp only [Dr.arm]; split <;> simp_all
    have e2 : driveCells (d.arm n) mb n = ((driveCells d mb aft).setIfInBounds 5 (.bool (decide (0 ≤ n)))).setIfInBounds 6 (.int .i64 n) := by
      unfold driveCells; rw [e]; rfl
    rw [e2]; exact this
  · simp only [Dr.arm]; split <;> simp_all

theorem drive_Quota {w : World} {g : Nat} {d : Dr} {fp : Nat → Prop} (h : IsDrive w g d fp) (n : Int) : Calls Try.prog 44 #[.pointer (some ⟨g, 0, none⟩), .int .i64 n] w fun e w' => e = .returned (.int .i64 (d.quotaE n)) ∧ IsDrive w' g (d.setQuota n) fp ∧ Touch w w' fp fp := by
  obtain ⟨mb, aft, rs, hb, ha, hf, hd⟩ := h.has
  have c4 := hb.cell 4
  have c1 := hb.cell 1
  simp [driveCells] at c4 c1
  have f1 := hb.frozen 1
  have H := hid h
  have HB := hid hb
  have HA := hid ha
  have HD := hid hd
  clear h hb ha hd
  cases hdn : d.down with
  | true =>
    have E1 := hid (show d.quotaE n = 13 by simp [Dr.quotaE, hdn])
    have E2 := hid (show d.setQuota n = d by simp [Dr.setQuota, E1.out])
    rw [hdn] at c4
    clear hdn
    go_enter Try.func44, Try.ntmps44
    go_wp2
    go_ret
    exact ⟨by rw [E1.out]; rfl, by rw [E2.out]; exact H.out, Touch.refl _ _⟩
  | false =>
    have Q := hid (drive_quotable n)
    rw [hdn] at c4
    have HN := hid hdn
    clear hdn
    cases hq : quotableB n with
    | false =>
      have E1 := hid (show d.quotaE n = 1 by simp [Dr.quotaE, HN.out, hq])
      have E2 := hid (show d.setQuota n = d by simp [Dr.setQuota, E1.out])
      rw [hq] at Q
      clear hq
      go_enter Try.func44, Try.ntmps44
      go_wp2_with fail
      refine (Q.out _).mono ?_
      rintro e w1 ⟨rfl, rfl⟩
      go_wp2
      go_ret
      exact ⟨by rw [E1.out]; rfl, by rw [E2.out]; exact H.out, Touch.refl _ _⟩
    | true =>
      have E1 := hid (show d.quotaE n = 0 by simp [Dr.quotaE, HN.out, hq])
      have E2 := hid (show d.setQuota n = { d with quota := n } by simp [Dr.setQuota, E1.out])
      rw [hq] at Q
      clear hq
      go_enter Try.func44, Try.ntmps44
      go_wp2_with fail
      refine (Q.out _).mono ?_
      rintro e w1 ⟨rfl, rfl⟩
      go_wp2
      go_ret
      refine ⟨by rw [E1.out]; rfl, ?_, Touch.setCell _ _ H.out.own _⟩
      rw [E2.out]
      refine IsDrive.mk' (aft := aft) H.out HB.out hf (by simp [set_size]) (fun k hk => set_other _ _ _ _ k hk) ?_ HA.out HD.out
      have := HB.out.set_ 1 (.int .i64 n)
      simpa [driveCells, Dr.used] using this
end Go.Proofs.Ytioillenlgpcgaa
