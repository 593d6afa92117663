/- JSON's reader in memory. Walks of (*json.reader).skip and sign. -/
import Derived.Test.YtbjimikppdfmgaaDoorLayJ
import Derived.Test.YtbjimikppdfmgaaDoorJsP
import Derived.Test.YtbjimikppdfmgaaDoorDMem
set_option linter.unusedVariables false
set_option linter.unusedSimpArgs false
set_option maxHeartbeats 4000000
set_option maxRecDepth 100000
namespace Go.Proofs.YtbjimikppdfmgaaDoor
open Go.RowKit

theorem js_Trim (l : List UInt8) (w : World) : Calls Tryd.prog 119 #[.string (S l), .string (S [32, 9, 10, 13])] w fun e w' => e = .returned (.string (S (skipP l))) ∧ Below w.heap.size w w' :=
  Any.strings_TrimLeft_laid layTrimLeft (by kernel_rfl) (S l) (S [32, 9, 10, 13]) w (by decide) (ascii_of_all (by decide))
theorem js_Cut (l p : List UInt8) (w : World) : Calls Tryd.prog 120 #[.string (S l), .string (S p)] w fun e w' => e = .returned (.tuple #[.string (S (Lib.trimPrefix l p)), .bool (Lib.hasPrefix l p)]) ∧ w' = w :=
  Any.strings_CutPrefix layCutPrefix (S l) (S p) w

def rC (s : List UInt8) (d : Int) (b : Bool) : Array Value := #[.string (S s), .int .i64 d, .bool b]
abbrev Rd (W : World) (g : Nat) (s : List UInt8) (d : Int) (b : Bool) : Prop := Blk W g 87 (rC s d b)
structure RdTo (g : Nat) (W W' : World) (s : List UInt8) (d : Int) (b : Bool) : Prop where
  blk : Rd W' g s d b
  tou : Touch W W' (· = g) (· = g)
section
variable {g : Nat} {W W1 W2 : World} {s s' : List UInt8} {d d' : Int} {b b' : Bool}
theorem RdTo.refl (h : Rd W g s d b) : RdTo g W W s d b := ⟨h, .refl _ _⟩
theorem RdTo.trans (h : RdTo g W W1 s d b) (k : RdTo g W1 W2 s' d' b') : RdTo g W W2 s' d' b' := ⟨k.blk, h.tou.trans k.tou⟩
theorem RdTo.below (h : RdTo g W W1 s d b) (k : Below W1.heap.size W1 W2) : RdTo g W W2 s d b := ⟨h.blk.below k h.blk.lt, h.tou.trans (.of_below k _)⟩
theorem RdTo.set0 (h : RdTo g W W1 s d b) (s' : List UInt8) : RdTo g W (W1.setCell ⟨g, 0, none⟩ (.string (S s'))) s' d b := ⟨by have := h.blk.set_ 0 (.string (S s')); simpa [Rd, rC] using this, h.tou.trans (Touch.setCell W1 (· = g) (p := ⟨g, 0, none⟩) rfl _)⟩
theorem RdTo.set1 (h : RdTo g W W1 s d b) (d' : Int) : RdTo g W (W1.setCell ⟨g, 1, none⟩ (.int .i64 d')) s d' b := ⟨by have := h.blk.set_ 1 (.int .i64 d'); simpa [Rd, rC] using this, h.tou.trans (Touch.setCell W1 (· = g) (p := ⟨g, 1, none⟩) rfl _)⟩
theorem RdTo.set2 (h : RdTo g W W1 s d b) (b' : Bool) : RdTo g W (W1.setCell ⟨g, 2, none⟩ (.bool b')) s d b' := ⟨by have := h.blk.set_ 2 (.bool b'); simpa [Rd, rC] using this, h.tou.trans (Touch.setCell W1 (· = g) (p := ⟨g, 2, none⟩) rfl _)⟩
theorem RdTo.b0 (h : RdTo g W W1 s d b) : W1.cell? ⟨g, 0, none⟩ = some (.string (S s)) ∧ W1.cell? ⟨g, 1, none⟩ = some (.int .i64 d) ∧ W1.cell? ⟨g, 2, none⟩ = some (.bool b) ∧ W1.frozen? ⟨g, 0, none⟩ = false ∧ W1.frozen? ⟨g, 1, none⟩ = false ∧ W1.frozen? ⟨g, 2, none⟩ = false :=
  ⟨by simpa [rC] using h.blk.cell 0, by simpa [rC] using h.blk.cell 1, by simpa [rC] using h.blk.cell 2, h.blk.frozen 0, h.blk.frozen 1, h.blk.frozen 2⟩

theorem jr_skip (h : Rd W g s d b) : Calls Tryd.prog 94 #[.pointer (some ⟨g, 0, none⟩)] W fun e w' => e = .returned (.tuple #[]) ∧ RdTo g W w' (skipP s) d b := by
  obtain ⟨c0, c1, c2, f0, f1, f2⟩ := (RdTo.refl h).b0
  have T := hid (js_Trim s W)
  have H := hid h
  clear h
  go_enter Tryd.func94, Tryd.ntmps94
  go_wp2_with fail
  refine T.out.mono ?_
  rintro e w1 ⟨rfl, hb⟩
  have H1 := hid ((RdTo.refl H.out).below hb)
  obtain ⟨d0, d1, d2, e0, e1, e2⟩ := H1.out.b0
  clear c0 c1 c2 f0 f1 f2 T H hb
  go_wp2
  go_end0
  exact ⟨rfl, H1.out.set0 _⟩
theorem sign_cases (c : UInt8) (s : List UInt8) : (Lib.hasPrefix (skipP s) [c] = (signP c s).2) ∧ ((signP c s).2 = false → (signP c s).1 = skipP s) ∧ ((signP c s).2 = true → (signP c s).1 = skipP (Lib.trimPrefix (skipP s) [c])) := by
  unfold signP
  split
  · rename_i e
    rw [e]
    simp [Lib.hasPrefix]
  · rename_i x r e
    rw [e]
    by_cases hx : x = c
    · subst hx
      simp [Lib.hasPrefix, Lib.trimPrefix]
    · simp [Lib.hasPrefix, Lib.trimPrefix, hx, List.isPrefixOf]
      try (intro h; exact absurd h.symm hx)
theorem jr_sign (h : Rd W g s d b) (c : UInt8) : Calls Tryd.prog 96 #[.pointer (some ⟨g, 0, none⟩), .string (S [c])] W fun e w' => e = .returned (.bool (signP c s).2) ∧ RdTo g W w' (signP c s).1 d b := by
  have SK := hid (jr_skip h)
  have SK2 := hid (fun (W : World) (s : List UInt8) (h : Rd W g s d b) => jr_skip h)
  have CT := hid (js_Cut (skipP s) [c])
  obtain ⟨x1, x2, x3⟩ := sign_cases c s
  rw [x1] at CT
  have X2 := hid x2
  have X3 := hid x3
  clear h x1 x2 x3
  generalize Lib.trimPrefix (skipP s) [c] = tp at *
  obtain ⟨r, hr⟩ : ∃ r, r = signP c s := ⟨_, rfl⟩
  rw [← hr] at CT X2 X3 ⊢
  obtain ⟨r1, r2⟩ := r
  clear hr
  go_enter Tryd.func96, Tryd.ntmps96
  go_wp2_with fail
  refine SK.out.mono ?_
  rintro e w1 ⟨rfl, h1⟩
  have H1 := hid h1
  obtain ⟨d0, d1, d2, e0, e1, e2⟩ := H1.out.b0
  clear h1 SK
  go_wp2_with fail
  refine (CT.out _).mono ?_
  rintro e w2 ⟨rfl, rfl⟩
  clear CT
  cases r2 with
  | false =>
    obtain rfl := X2.out rfl
    clear X2 X3
    go_wp2
    go_ret
    exact ⟨rfl, H1.out⟩
  | true =>
    have K := X3.out rfl
    subst K
    clear X2 X3
    go_wp2_with fail
    refine (SK2.out _ _ (H1.out.set0 tp).blk).mono ?_
    rintro e w3 ⟨rfl, h3⟩
    have H3 := hid ((H1.out.set0 tp).trans h3)
    clear H1 SK2 h3 d0 d1 d2 e0 e1 e2
    go_wp2
    go_ret
    exact ⟨rfl, H3.out⟩
end
end Go.Proofs.YtbjimikppdfmgaaDoor
