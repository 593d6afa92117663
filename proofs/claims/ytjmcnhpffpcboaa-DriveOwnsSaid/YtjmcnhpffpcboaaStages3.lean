/- Walk of stages.Open. -/
import Derived.Test.YtjmcnhpffpcboaaStages2
import Derived.Test.YtjmcnhpffpcboaaDrOk
import Derived.Test.YtjmcnhpffpcboaaDrive4
set_option linter.unusedVariables false
set_option linter.unusedSimpArgs false
set_option maxHeartbeats 1600000
set_option maxRecDepth 100000
namespace Go.Proofs.Ytjmcnhpffpcboaa
open Go.RowKit

def stageK : Key := [115, 116, 97, 103, 101]
def tempK : Key := [115, 116, 97, 103, 101, 46, 116, 109, 112]
/-- What Open tells of a drive: the stage, the error. -/
def openR (d : Dr) : Int × Int := if d.readE stageK = 10 then (1, 0) else if d.readE stageK = 0 then (if fileN (d.read stageK) = 0 then (0, 14) else (fileN (d.read stageK), 0)) else (0, d.readE stageK)
def OpenPost (w : World) (g : Nat) (d : Dr) (e : Ending) (w' : World) : Prop :=
  ∃ v, e = .returned (.tuple #[v, .int .i64 (openR d).2]) ∧ Below w.heap.size w w' ∧ ((openR d).2 = 0 → ∃ j, v = .pointer (some ⟨j, 0, none⟩) ∧ w.heap.size ≤ j ∧ IsJ w' j g (openR d).1) ∧ ((openR d).2 ≠ 0 → v = .pointer none)

/-- string(b), b a row of bytes. -/
theorem run_string_row (w : World) {base : Nat} {A : Option Addr} {c n : Nat} {l : List UInt8} (h : w.ownsRow base 5 1 (.slice A n c) l.length (l.map B8)) : (convert 47 9 (.slice A n c)).run Try.prog w = .ok (.string (S l)) w := by
  have hB := bytesAt_row h
  rcases h.2 with ⟨h1, h2⟩ | ⟨g, cap, cur, hv, hb, hh, r⟩
  · simp only [Value.slice.injEq] at h1
    obtain ⟨rfl, rfl, rfl⟩ := h1
    have hl : l = [] := List.eq_nil_of_length_eq_zero h2
    subst hl
    have h1 : (Try.prog).underlying 47 = some (.slice 5) := by kernel_rfl
    have h2 : (Try.prog).underlying 9 = some .string := by kernel_rfl
    have h3 : (Try.prog).underlying 5 = some (.int .u8) := by kernel_rfl
    simp [convert, run_underlying h1, run_underlying h2, run_underlying h3, Result.andThen, go_sem]
    try rfl
  · simp only [Value.slice.injEq] at hv
    obtain ⟨rfl, rfl, rfl⟩ := hv
    refine run_string_of w 47 5 (by kernel_rfl) (by kernel_rfl) g 0 _ c l rfl (fun i hi => ?_) 9 (by kernel_rfl)
    have := h.cellAt i (by omega)
    rw [Nat.zero_add, this]
    simp [List.getElem?_map, List.getElem?_eq_getElem hi]

theorem numI_bound (l : List UInt8) : 0 ≤ numI l ∧ numI l ≤ 9007199254740992 := by
  unfold numI
  split
  · rename_i h
    have := isNum_true h
    exact ⟨this.2.1, this.2.2.1⟩
  · exact ⟨by omega, by omega⟩

theorem stages_Open {w : World} {g : Nat} {d : Dr} {fp : Nat → Prop} {N : Nat} (h : IsDrive w g d fp) (hok : d.Ok N) (hN : N ≤ 1000000000) : Calls Try.prog 32 #[.pointer (some ⟨g, 0, none⟩)] w (OpenPost w g d) := by
  have Rd := hid (drive_Read h hok hN stageK (by decide))
  have hlen : (d.read stageK).length ≤ 1000000000000 := by
    unfold Dr.read
    split
    · rename_i h0
      have hu := hok.used
      unfold Dr.readE at h0
      split at h0
      · cases h0
      · obtain ⟨f, hf⟩ := there_some h0
        have := used_all hf
        have e : fileOf d stageK = f := by simp [fileOf, hf]
        rw [e]; omega
    · simp
  have Cs := hid (fun W => strings_CutSuffix (d.read stageK) hlen W)
  by_cases h10 : d.readE stageK = 10
  · have R := hid (show openR d = (1, 0) by unfold openR; rw [if_pos h10])
    have Rd' := Rd
    unfold Hid at Rd'
    unfold ReadPost at Rd'
    rw [h10] at Rd'
    have RD := hid Rd'
    clear Rd Rd' Cs hlen h10 hok h
    go_enter Try.func32, Try.ntmps32
    go_wp2_with fail
    refine RD.out.mono ?_
    rintro e w1 ⟨v, rfl, hrow, hb⟩
    have HB := hid hb
    clear hb hrow
    go_wp2
    go_ret2
    refine ⟨_, by rw [R.out]; rfl, HB.out.alloc HB.out.size _, fun _ => ⟨w1.heap.size, rfl, HB.out.size, ?_⟩, fun hne => absurd (by rw [R.out]) hne⟩
    rw [R.out]
    exact Blk.new w1 _ _
  · by_cases h0 : d.readE stageK = 0
    · have Rd' := Rd
      unfold Hid at Rd'
      unfold ReadPost at Rd'
      rw [h0] at Rd'
      have RD := hid Rd'
      generalize hl : d.read stageK = l at *
      have Nu := hid (fun W => text_Number (cutS l).1 W)
      have hR : openR d = if fileN l = 0 then (0, 14) else (fileN l, 0) := by
        unfold openR
        rw [if_neg h10, if_pos h0, hl]
      clear Rd Rd' h10 h0 hok h hl
      have hn := numI_bound (cutS l).1
      have he : numE (cutS l).1 = 0 ∨ numE (cutS l).1 = 2 := by unfold numE; split <;> simp
      have hfn : fileN l = if (cutS l).2 = true ∧ numE (cutS l).1 = 0 ∧ 1 ≤ numI (cutS l).1 ∧ numI (cutS l).1 ≤ 5 then numI (cutS l).1 else 0 := rfl
      have FAIL : fileN l = 0 → Hid (openR d = (0, 14)) := fun hf => by unfold Hid; rw [hR, if_pos hf]
      by_cases hg : (cutS l).2 = true ∧ numE (cutS l).1 = 0 ∧ 1 ≤ numI (cutS l).1 ∧ numI (cutS l).1 ≤ 5
      · rw [if_pos hg] at hfn
        have R := hid (show openR d = (numI (cutS l).1, 0) by rw [hR, hfn, if_neg (by omega)])
        obtain ⟨g1, g2, g3, g4⟩ := hg
        rw [g1] at Cs
        rw [g2] at Nu
        clear FAIL hR hfn he hn hlen g1 g2
        generalize (cutS l).1 = s at *
        generalize numI s = n at *
        go_enter Try.func32, Try.ntmps32
        go_wp2_with fail
        refine RD.out.mono ?_
        rintro e w1 ⟨v, rfl, hrow, hb⟩
        obtain ⟨A, c, rfl⟩ := row_form hrow
        have HS := run_string_row w1 hrow
        have HB := hid hb
        clear hb hrow
        go_wp2_with fail
        refine (Cs.out _).mono ?_
        rintro e w2 ⟨rfl, rfl⟩
        go_wp2_with fail
        refine (Nu.out _).mono ?_
        rintro e w3 ⟨rfl, hb3⟩
        have HB3 := hid (bt HB.out hb3)
        clear hb3
        go_wp2
        go_ret2
        refine ⟨_, by rw [R.out]; rfl, HB3.out.alloc HB3.out.size _, fun _ => ⟨w3.heap.size, rfl, HB3.out.size, ?_⟩, fun hne => absurd (by rw [R.out]) hne⟩
        rw [R.out]
        exact Blk.new w3 _ _
      · rw [if_neg hg] at hfn
        have R := FAIL hfn
        cases g1 : (cutS l).2 with
        | false =>
          rw [g1] at Cs
          clear g1
          rcases he with g2 | g2
          · rw [g2] at Nu
            clear g2
            clear FAIL hR hfn hn hlen hg
            generalize (cutS l).1 = s at *
            generalize numI s = n at *
            go_enter Try.func32, Try.ntmps32
            go_wp2_with fail
            refine RD.out.mono ?_
            rintro e w1 ⟨v, rfl, hrow, hb⟩
            obtain ⟨A, c, rfl⟩ := row_form hrow
            have HS := run_string_row w1 hrow
            have HB := hid hb
            clear hb hrow
            go_wp2_with fail
            refine (Cs.out _).mono ?_
            rintro e w2 ⟨rfl, rfl⟩
            go_wp2_with fail
            refine (Nu.out _).mono ?_
            rintro e w3 ⟨rfl, hb3⟩
            have HB3 := hid (bt HB.out hb3)
            clear hb3
            go_wp2
            go_ret2
            exact ⟨_, by rw [R.out]; rfl, HB3.out, fun h => absurd h (by rw [R.out]; simp), fun _ => rfl⟩
          · rw [g2] at Nu
            clear g2
            clear FAIL hR hfn hn hlen hg
            generalize (cutS l).1 = s at *
            generalize numI s = n at *
            go_enter Try.func32, Try.ntmps32
            go_wp2_with fail
            refine RD.out.mono ?_
            rintro e w1 ⟨v, rfl, hrow, hb⟩
            obtain ⟨A, c, rfl⟩ := row_form hrow
            have HS := run_string_row w1 hrow
            have HB := hid hb
            clear hb hrow
            go_wp2_with fail
            refine (Cs.out _).mono ?_
            rintro e w2 ⟨rfl, rfl⟩
            go_wp2_with fail
            refine (Nu.out _).mono ?_
            rintro e w3 ⟨rfl, hb3⟩
            have HB3 := hid (bt HB.out hb3)
            clear hb3
            go_wp2
            go_ret2
            exact ⟨_, by rw [R.out]; rfl, HB3.out, fun h => absurd h (by rw [R.out]; simp), fun _ => rfl⟩
        | true =>
          rw [g1] at Cs
          rcases he with g2 | g2
          · rw [g2] at Nu
            by_cases g3 : 1 ≤ numI (cutS l).1
            · have g4 : 5 < numI (cutS l).1 := by
                refine Int.not_le.1 fun g4 => hg ⟨g1, g2, g3, g4⟩
              clear g1 g2
              clear FAIL hR hfn hn hlen hg
              generalize (cutS l).1 = s at *
              generalize numI s = n at *
              go_enter Try.func32, Try.ntmps32
              go_wp2_with fail
              refine RD.out.mono ?_
              rintro e w1 ⟨v, rfl, hrow, hb⟩
              obtain ⟨A, c, rfl⟩ := row_form hrow
              have HS := run_string_row w1 hrow
              have HB := hid hb
              clear hb hrow
              go_wp2_with fail
              refine (Cs.out _).mono ?_
              rintro e w2 ⟨rfl, rfl⟩
              go_wp2_with fail
              refine (Nu.out _).mono ?_
              rintro e w3 ⟨rfl, hb3⟩
              have HB3 := hid (bt HB.out hb3)
              clear hb3
              go_wp2
              go_ret2
              exact ⟨_, by rw [R.out]; rfl, HB3.out, fun h => absurd h (by rw [R.out]; simp), fun _ => rfl⟩
            · have g4 : numI (cutS l).1 < 1 := by omega
              clear g1 g2 g3
              clear FAIL hR hfn hn hlen hg
              generalize (cutS l).1 = s at *
              generalize numI s = n at *
              go_enter Try.func32, Try.ntmps32
              go_wp2_with fail
              refine RD.out.mono ?_
              rintro e w1 ⟨v, rfl, hrow, hb⟩
              obtain ⟨A, c, rfl⟩ := row_form hrow
              have HS := run_string_row w1 hrow
              have HB := hid hb
              clear hb hrow
              go_wp2_with fail
              refine (Cs.out _).mono ?_
              rintro e w2 ⟨rfl, rfl⟩
              go_wp2_with fail
              refine (Nu.out _).mono ?_
              rintro e w3 ⟨rfl, hb3⟩
              have HB3 := hid (bt HB.out hb3)
              clear hb3
              go_wp2
              go_ret2
              exact ⟨_, by rw [R.out]; rfl, HB3.out, fun h => absurd h (by rw [R.out]; simp), fun _ => rfl⟩
          · rw [g2] at Nu
            clear g1 g2
            clear FAIL hR hfn hn hlen hg
            generalize (cutS l).1 = s at *
            generalize numI s = n at *
            go_enter Try.func32, Try.ntmps32
            go_wp2_with fail
            refine RD.out.mono ?_
            rintro e w1 ⟨v, rfl, hrow, hb⟩
            obtain ⟨A, c, rfl⟩ := row_form hrow
            have HS := run_string_row w1 hrow
            have HB := hid hb
            clear hb hrow
            go_wp2_with fail
            refine (Cs.out _).mono ?_
            rintro e w2 ⟨rfl, rfl⟩
            go_wp2_with fail
            refine (Nu.out _).mono ?_
            rintro e w3 ⟨rfl, hb3⟩
            have HB3 := hid (bt HB.out hb3)
            clear hb3
            go_wp2
            go_ret2
            exact ⟨_, by rw [R.out]; rfl, HB3.out, fun h => absurd h (by rw [R.out]; simp), fun _ => rfl⟩
    · have R := hid (show openR d = (0, 13) by
        unfold openR
        rw [if_neg h10, if_neg h0]
        have : d.readE stageK = 13 := by
          unfold Dr.readE Dr.thereE at *
          split <;> simp_all
        rw [this])
      have h13 : d.readE stageK = 13 := by
        unfold Dr.readE Dr.thereE at *
        split <;> simp_all
      have Rd' := Rd
      unfold Hid at Rd'
      unfold ReadPost at Rd'
      rw [h13] at Rd'
      have RD := hid Rd'
      clear Rd Rd' Cs hlen h10 h0 h13 hok h
      go_enter Try.func32, Try.ntmps32
      go_wp2_with fail
      refine RD.out.mono ?_
      rintro e w1 ⟨v, rfl, hrow, hb⟩
      have HB := hid hb
      clear hb hrow
      go_wp2
      go_ret2
      exact ⟨_, by rw [R.out]; rfl, HB.out, fun h => absurd h (by rw [R.out]; simp), fun _ => rfl⟩
end Go.Proofs.Ytjmcnhpffpcboaa
