/- The library's contracts on texts, in this seat's words: Split, Cut, IndexByte. -/
import Derived.Test.YtecekflooihkoaaDoorLayQ
import Derived.Test.YtecekflooihkoaaDoorQPlain
import Derived.Test.YtecekflooihkoaaDoorMem
set_option linter.unusedVariables false
set_option linter.unusedSimpArgs false
set_option maxRecDepth 100000
namespace Go.Proofs.YtecekflooihkoaaDoor
open Go.RowKit

/-- The library's own variable holds some number. -/
def HasMax (w : World) : Prop := ∃ m, w.cell? ⟨0, 0, none⟩ = some (.int .i64 m)
theorem HasMax.below {w w' : World} (h : HasMax w) (hb : Below w.heap.size w w') : HasMax w' := by
  obtain ⟨m, hm⟩ := h
  exact ⟨m, (hb.cell (World.block_lt_of_cell? w _ hm)).trans hm⟩
theorem hasMax_shape {w : World} (h : w.ShapedOpen Tryd.prog) : HasMax w := laySplit.s1_3 w h

theorem words_count (c : UInt8) : ∀ (n : Nat) (s : List UInt8), s.length ≤ n → (wordsC c s).length = Lib.count s [c] + 1
  | 0, s, h => by
    obtain rfl : s = [] := List.eq_nil_of_length_eq_zero (by omega)
    rw [Lib.count_miss rfl]; rfl
  | n + 1, s, h => by
    have hi := index_ahead c s
    have hs := ahead_behind c s
    rcases wordsC_form c s with ⟨h1, h2⟩ | ⟨r, h1, h2⟩
    · rw [h1] at hi
      rw [h2, Lib.count_miss (by simpa using hi)]; rfl
    · rw [h1] at hi hs
      rw [if_neg (by simp)] at hi
      have hc := Lib.count_hit (s := s) (sub := [c]) (by simp) hi
      have e2 : s.drop ((ahead c s).length + 1) = r := by
        have := List.drop_left (l₁ := ahead c s ++ [c]) (l₂ := r)
        rw [List.append_assoc, List.singleton_append, hs, List.length_append] at this
        exact this
      simp only [List.length_singleton] at hc
      rw [e2] at hc
      have hl := congrArg List.length hs
      simp at hl
      rw [h2, List.length_cons, words_count c n r (by omega), hc]
      omega
theorem splitB_words (c : UInt8) (l : List UInt8) : (Lib.splitB (S [c]) 0 (Lib.countB (S l) (S [c])) (S l)).map Value.string = (wordsC c l).map fun x => Value.string (S x) := by
  have h := Lib.splitB_data (S [c]) 0 (Lib.countB (S l) (S [c])) (S l)
  rw [S_toList, S_toList, splitK_words c (Lib.countB (S l) (S [c])) l rfl] at h
  rw [← h, List.map_map]
  apply List.map_congr_left
  intro x _
  simp [Function.comp, S_of]
theorem str_Split (c : UInt8) (l : List UInt8) (w : World) (hm : HasMax w) (hl : l.length ≤ 1000000) :
    Calls Tryd.prog 35 #[.string (S l), .string (S [c])] w fun e w' => e = .returned (.slice (some ⟨w.heap.size, 0, none⟩) (wordsC c l).length (wordsC c l).length) ∧ w' = w.alloc (.cells ((wordsC c l).map fun x => Value.string (S x)).toArray 9) := by
  obtain ⟨m, hm⟩ := hm
  refine (Any.strings_Split { laySplit with } laySplit.i9 (S l) (S [c]) m w (by rw [S_size]; omega) hm (by rw [S_size]; simp)).mono ?_
  rintro e w' ⟨rfl, rfl⟩
  rw [splitB_words, words_count c l.length l (Nat.le_refl _)]
  exact ⟨rfl, rfl⟩
theorem str_Cut (l sep : List UInt8) (w : World) (hm : HasMax w) (hl : l.length ≤ 1000000) :
    Calls Tryd.prog 36 #[.string (S l), .string (S sep)] w fun e w' => e = .returned (.tuple #[.string (S (Lib.cut l sep).1), .string (S (Lib.cut l sep).2.1), .bool (Lib.cut l sep).2.2]) ∧ ∃ n, w' = w.drewN n := by
  obtain ⟨m, hm⟩ := hm
  exact Any.strings_Cut { layCut with } (S l) (S sep) m w (by rw [S_size]; omega) hm
theorem str_CutC (c : UInt8) (l : List UInt8) (w : World) (hm : HasMax w) (hl : l.length ≤ 1000000) :
    Calls Tryd.prog 36 #[.string (S l), .string (S [c])] w fun e w' => e = .returned (.tuple #[.string (S (ahead c l)), .string (S (behind c l).tail), .bool (!(behind c l).isEmpty)]) ∧ ∃ n, w' = w.drewN n := by
  have := str_Cut l [c] w hm hl
  rwa [cut_ahead] at this
theorem str_IndexByte (l : List UInt8) (c : Int) (w : World) :
    Calls Tryd.prog 128 #[.string (S l), .int .u8 c] w fun e w' => e = .returned (.int .i64 (Lib.indexByte l c.toNat.toUInt8)) ∧ w' = w :=
  Any.strings_IndexByte layIndexByte (S l) c w
end Go.Proofs.YtecekflooihkoaaDoor
