/- Walks of json.odd, quote, alone; strings.ReplaceAll and Join. -/
import Derived.Test.YtbjimikppdfmgaaDoorJsN
import Derived.Test.YtbjimikppdfmgaaDoorJsW
import Derived.Test.YtbjimikppdfmgaaDoorJs13
import Derived.Test.YtbjimikppdfmgaaDoorLayJ2
import Derived.Test.YtbjimikppdfmgaaDoorJsS
set_option linter.unusedVariables false
set_option linter.unusedSimpArgs false
set_option maxHeartbeats 4000000
set_option maxRecDepth 100000
namespace Go.Proofs.YtbjimikppdfmgaaDoor
open Go.RowKit Go.Shelf

theorem extraJoin : Builder.Extra Tryd.prog layJoin_ren where
  sizeBuilder := by kernel_rfl
  liesBuilder := by kernel_rfl
  t5 := layReplace.t5
  a5 := layReplace.a5
  z5 := layReplace.z5
  v5 := layReplace.v5
  infoByte := by kernel_rfl
  cellsByte := by kernel_rfl
  sizeByte := by kernel_rfl
  neB5 := by decide
theorem extraRep : Builder.Extra Tryd.prog layReplace_ren where
  sizeBuilder := by kernel_rfl
  liesBuilder := by kernel_rfl
  t5 := layReplace.t5
  a5 := layReplace.a5
  z5 := layReplace.z5
  v5 := layReplace.v5
  infoByte := by kernel_rfl
  cellsByte := by kernel_rfl
  sizeByte := by kernel_rfl
  neB5 := by decide
theorem js_Rep (l : List UInt8) (c d : UInt8) (hl : l.length ≤ 1000000) (w : World) (hL : LibW w) : Calls Tryd.prog 114 #[.string (S l), .string (S [c]), .string (S [d, c])] w fun e w' => e = .returned (.string (S (Lib.replaceAll l [c] [d, c]))) ∧ Below w.heap.size w w' := by
  obtain ⟨m, hm⟩ := hL.max
  have hc : Lib.countB (S l) (S [c]) ≤ (S l).size := Lib.countB_le (S [c]) (by exact Nat.le_refl 1) _ (S l) (Nat.le_refl _)
  have h2 : (S [d, c]).size = 2 := rfl
  rw [S_size] at hc
  have := Any.strings_ReplaceAll { layReplace with } extraRep (S l) (S [c]) (S [d, c]) m w (by rw [S_size]; omega) hm (by exact Nat.le_refl 1) (by rw [h2, S_size]; omega)
  simp [S] at this ⊢
  exact this
theorem js_Join {w : World} {ok : Nat → Prop} {A : Option Addr} {c : Nat} (xs : List (List UInt8)) (h : NamesAt w ok A xs) (hc : xs.length ≤ c) (hn : xs.length ≤ 1000000) (hlen : (Lib.join xs [44]).length ≤ 140737488355328) :
    Calls Tryd.prog 93 #[.slice A xs.length c, .string (S [44])] w fun e w' => e = .returned (.string (S (Lib.join xs [44]))) ∧ Below w.heap.size w w' := by
  by_cases h0 : 0 < xs.length
  · obtain ⟨b, o, rfl, -, hlt, hx⟩ := h h0
    have e1 : (xs.map S).map (·.data.toList) = xs := by
      rw [List.map_map]
      conv => rhs; rw [← List.map_id xs]
      exact List.map_congr_left fun x _ => by simp [S]
    have e2 : (S [44]).data.toList = [44] := by simp [S]
    have := Any.strings_Join layJoin extraJoin b o c (xs.map S) (S [44]) w (fun j x hj => by
      simp at hj
      obtain ⟨y, hy, rfl⟩ := hj
      obtain ⟨hj2, rfl⟩ := List.getElem?_eq_some_iff.1 hy
      exact hx j hj2) hlt (by simp; omega) (by simpa using hc) (by rw [e1, e2]; exact hlen)
    rw [e1, e2, List.length_map] at this
    exact this
  · obtain rfl : xs = [] := List.eq_nil_of_length_eq_zero (by omega)
    exact (Any.strings_Join_none layJoin extraJoin A c (S [44]) w).mono fun e w' ⟨he, hw⟩ => ⟨he, hw ▸ Below.refl _ _⟩
theorem js_quote (l : List UInt8) (hl : l.length ≤ 1000) (W : World) (hL : ∀ W', Below W.heap.size W W' → LibW W') : Calls Tryd.prog 91 #[.string (S l)] W fun e w' => e = .returned (.string (S (quoteP l))) ∧ Below W.heap.size W w' := by
  have R1 := hid (js_Rep l 92 92 (by omega) W (hL W (Below.refl _ _)))
  have R2 := hid (fun (W' : World) (hb : Below W.heap.size W W') => js_Rep (Lib.replaceAll l [92] [92, 92]) 34 92 (by have := rep_len 92 l 92 (.inr trivial); omega) W' (hL W' hb))
  have Q := hid (quote_rep l)
  have hb3 : (Lib.replaceAll (Lib.replaceAll l [92] [92, 92]) [34] [92, 34]).length ≤ 4000 := by
    have h1 := rep_len 92 l 92 (.inr trivial)
    have h2 := rep_len 34 (Lib.replaceAll l [92] [92, 92]) 92 (.inr trivial)
    omega
  clear hL hl
  generalize Lib.replaceAll l [92] [92, 92] = l2 at *
  generalize Lib.replaceAll l2 [34] [92, 34] = l3 at *
  have hn1 : ¬ 9223372036854775807 < 1 + l3.length := by omega
  have hn2 : ¬ 9223372036854775807 < l3.length + 1 + 1 := by omega
  go_enter Tryd.func91, Tryd.ntmps91
  go_wp2_with fail
  refine R1.out.mono ?_
  rintro e w1 ⟨rfl, h1⟩
  go_wp2_with fail
  refine (R2.out _ h1).mono ?_
  rintro e w2 ⟨rfl, h2⟩
  have HB := hid (bt h1 h2)
  clear h1 h2 R1 R2
  go_wp2
  go_ret
  exact ⟨by rw [← Q.out]; rfl, HB.out⟩
theorem js_odd (s : List UInt8) (hl : s.length ≤ 1000000) (W : World) : Calls Tryd.prog 86 #[.string (S s)] W fun e w' => e = .returned (.bool (oddP s)) ∧ w' = W := by
  go_enter Tryd.func86, Tryd.ntmps86
  go_wp2
  go_loop [3, 6] (fun _ i => ∃ k : Nat, k ≤ s.length ∧ i = .int .i64 k ∧ Hid (∀ j, (hj : j < s.length) → j < k → ¬ (s[j].toNat < 32 ∨ 126 < s[j].toNat))) (fun _ i => s.length - (intOf i).toNat)
  case atStart => exact ⟨0, Nat.zero_le _, rfl, fun j _ h => absurd h (by omega)⟩
  case round =>
    obtain ⟨k, hk, rfl, hd⟩ := hrel
    by_cases hlt : k < s.length
    · have ODD := hid (show (s[k].toNat < 32 ∨ 126 < s[k].toNat) → oddP s = true from fun h => List.any_eq_true.2 ⟨s[k], List.getElem_mem hlt, by simpa using h⟩)
      by_cases h1 : s[k].toNat < 32
      · have h1' : (s[k].toNat : Int) < 32 := by omega
        have O := hid (ODD.out (.inl h1))
        clear ODD hd
        go_wp2
        go_ret
        exact ⟨by rw [O.out]; rfl, rfl⟩
      · by_cases h2 : 126 < s[k].toNat
        · have h1' : ¬ (s[k].toNat : Int) < 32 := by omega
          have h2' : (126 : Int) < s[k].toNat := by omega
          have O := hid (ODD.out (.inr h2))
          clear ODD hd
          go_wp2
          go_ret
          exact ⟨by rw [O.out]; rfl, rfl⟩
        · have h1' : ¬ (s[k].toNat : Int) < 32 := by omega
          have h2' : ¬ (126 : Int) < s[k].toNat := by omega
          have hdd := hid (show ∀ j, (hj : j < s.length) → j < k + 1 → ¬ (s[j].toNat < 32 ∨ 126 < s[j].toNat) from fun j hj hjk => by
            rcases Nat.lt_or_ge j k with h3 | h3
            · exact hd.out j hj h3
            · obtain rfl : j = k := by omega
              omega)
          clear ODD hd
          go_wp2
          go_round
          case rel => exact ⟨k + 1, by omega, by go_num, hdd⟩
          case measure => simp [intOf]; omega
    · obtain rfl : k = s.length := by omega
      have O := hid (show oddP s = false from List.any_eq_false.2 fun x hx => by
        obtain ⟨i, hi, rfl⟩ := List.mem_iff_getElem.1 hx
        have := hd.out i hi hi
        simpa using this)
      clear hd
      go_wp2
      go_ret
      exact ⟨by rw [O.out]; rfl, rfl⟩
end Go.Proofs.YtbjimikppdfmgaaDoor
