/- Walk of pantileref06.Is. -/
import Derived.Test.YtbjimikppdfmgaaDoorJsIa
import Derived.Test.YtbjimikppdfmgaaDoorJsI3
import Derived.Test.YtbjimikppdfmgaaDoorJsI4
set_option linter.unusedVariables false
set_option maxRecDepth 100000
namespace Go.Proofs.YtbjimikppdfmgaaDoor
open Go.RowKit

theorem ref06_Is : ∀ (n : Nat), n ≤ 100 → ∀ (j : Jv), fewJ n j → ∀ (W : World) (ok : Nat → Prop) (x : J5), JAt W ok j x →
    Calls Tryd.prog 17 #[.agg #[.int .i64 x.kind, .string (S x.text), .int .i64 x.num, .slice x.nA x.nn x.nc, .slice x.kA x.kn x.kc], .int .i64 n] W fun e w' => e = .returned (.bool (rightP n j)) ∧ Below W.heap.size W w'
  | n, hn, j, hf, W, ok, x, hj => by
    cases hj with
    | mk x ns ks xs hnn hnc hkn hkc hbn hbk hN hl hK hs =>
      obtain ⟨k, t, u, A, nn, nc, B, kn, kc⟩ := x
      simp only [] at *
      subst hnn hkn
      rw [fewJ.eq_def] at hf
      simp only [] at hf
      obtain ⟨ft, fn, fk, fs, fr⟩ := hf
      have hIS : ∀ m, n = m + 1 → ∀ i (h : i < ks.length) (h' : i < xs.length) (w1 : World), Below W.heap.size W w1 → Calls Tryd.prog 17 #[.agg #[.int .i64 xs[i].kind, .string (S xs[i].text), .int .i64 xs[i].num, .slice xs[i].nA xs[i].nn xs[i].nc, .slice xs[i].kA xs[i].kn xs[i].kc], .int .i64 m] w1 (fun e w' => e = .returned (.bool (rightP m ks[i])) ∧ Below w1.heap.size w1 w') := fun m hm i h h' w1 hb => by
        subst hm
        exact ref06_Is m (by omega) ks[i] (fr _ (List.getElem_mem h)) w1 ok xs[i] ((hs i h h').belowW hb)
      by_cases k1 : k = 1
      · subst k1; exact is_text n hn t u A nc B kc ns ks xs ft fn fk fs W ok hN hl hK hIS
      · by_cases k2 : k = 2
        · subst k2; exact is_int n hn t u A nc B kc ns ks xs ft fn fk fs W ok hN hl hK hIS
        · by_cases k3 : k = 3
          · subst k3; exact is_list n hn t u A nc B kc ns ks xs ft fn fk fs W ok hN hl hK hIS
          · by_cases k4 : k = 4
            · subst k4; exact is_map n hn t u A nc B kc ns ks xs ft fn fk fs W ok hN hl hK hIS
            · exact is_none n hn k k1 k2 k3 k4 t u A nc B kc ns ks xs ft fn fk fs W ok hN hl hK hIS
end Go.Proofs.YtbjimikppdfmgaaDoor
