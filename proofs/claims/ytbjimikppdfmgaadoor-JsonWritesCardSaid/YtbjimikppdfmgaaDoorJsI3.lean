/- Walk of pantileref06.Is. -/
import Derived.Test.YtbjimikppdfmgaaDoorJsRf
import Derived.IntWalk
set_option linter.unusedVariables false
set_option linter.unusedSimpArgs false
set_option maxHeartbeats 16000000
set_option maxRecDepth 100000
namespace Go.Proofs.YtbjimikppdfmgaaDoor
open Go.RowKit

theorem is_list (n : Nat) (hn : n ≤ 100) (t : List UInt8) (u : Int) (A : Option Addr) (nc : Nat) (B : Option Addr) (kc : Nat) (ns : List (List UInt8)) (ks : List Jv) (xs : List J5) (ft : t.length ≤ 50) (fn : ns.length ≤ 5) (fk : ks.length ≤ 5) (fs : ∀ s ∈ ns, s.length ≤ 50) (W : World) (ok : Nat → Prop) (hN : NamesAt W ok A ns) (hl : xs.length = ks.length) (hK : KidsAt W ok B xs)
    (hIS : ∀ m, n = m + 1 → ∀ i (h : i < ks.length) (h' : i < xs.length) (w1 : World), Below W.heap.size W w1 → Calls Tryd.prog 17 #[.agg #[.int .i64 xs[i].kind, .string (S xs[i].text), .int .i64 xs[i].num, .slice xs[i].nA xs[i].nn xs[i].nc, .slice xs[i].kA xs[i].kn xs[i].kc], .int .i64 m] w1 (fun e w' => e = .returned (.bool (rightP m ks[i])) ∧ Below w1.heap.size w1 w')) :
    Calls Tryd.prog 17 #[.agg #[.int .i64 3, .string (S t), .int .i64 u, .slice A ns.length nc, .slice B ks.length kc], .int .i64 n] W fun e w' => e = .returned (.bool (rightP n (.mk 3 t u ns ks))) ∧ Below W.heap.size W w' := by
      obtain ⟨N, hN'⟩ : ∃ N : Int, N = (n : Int) := ⟨_, rfl⟩
      have T0 := hid (TW.start W ⟨3, t, u, A, ns.length, nc, B, ks.length, kc⟩)
      have HP := hid (rightP_eq n 3 t u ns ks)
      have TX := hid (fun (s : List UInt8) (hs : s.length ≤ 50) (w1 : World) => ref06_text s (by omega) w1)
      have NC := hid hN
      have HKX := hid hK
      have FS := hid fs
      have LX := hid hl
      have IS := hid hIS
      rw [← hN']
      have HN := hid hN'
      have hn0 : 0 ≤ N := by omega
      have hn1 : N ≤ 100 := by omega
      clear hN hl hK fs hN' hIS
      obtain ⟨r, hr⟩ : ∃ r, r = rightP n (.mk 3 t u ns ks) := ⟨_, rfl⟩
      rw [← hr] at HP ⊢
      clear hr
      have TT : t = [] ∨ ((t == []) = false ∧ ¬ t = []) := by cases t <;> simp
      have UU : u = 0 ∨ ((u == 0) = false ∧ ¬ u = 0) := by by_cases h : u = 0 <;> simp [h]
      have NN : ns.length = 0 ∨ (((ns.length : Int) == 0) = false ∧ ¬ ns.length = 0) := by by_cases h : ns.length = 0 <;> simp [h]
      have MM : ks.length = 0 ∨ (((ks.length : Int) == 0) = false ∧ ¬ ks.length = 0) := by by_cases h : ks.length = 0 <;> simp [h]
      have HR0 := hid (show r = (decide (t = []) && decide (u = 0) && decide (ns.length = 0) && deepAll n ks) by rw [HP.out]; simp [aloneX, Bool.and_assoc])
      clear HP
      rcases TT with rfl | ⟨t1, t2⟩
      case inr =>
        have HR := hid (show r = false by rw [HR0.out]; simp [t2])
        clear HR0 IS TX UU NN MM
        go_enter Tryd.func17, Tryd.ntmps17
        go_wp2
        go_ret
        exact ⟨by rw [HR.out]; rfl, T0.out.bel⟩
      rcases UU with rfl | ⟨u1, u2⟩
      case inr =>
        have HR := hid (show r = false by rw [HR0.out]; simp [u2])
        clear HR0 IS TX NN MM
        go_enter Tryd.func17, Tryd.ntmps17
        go_wp2
        go_ret
        exact ⟨by rw [HR.out]; rfl, T0.out.bel⟩
      cases n with
      | zero =>
        have HR := hid (show r = false by rw [HR0.out]; simp [deepAll])
        obtain rfl : N = 0 := by have := HN.out; simpa using this
        clear HR0 IS TX NN MM HN
        go_enter Tryd.func17, Tryd.ntmps17
        go_wp2
        go_ret
        exact ⟨by rw [HR.out]; rfl, T0.out.bel⟩
      | succ m =>
        have hnb : (N == 0) = false := by have := HN.out; simp only [beq_eq_false_iff_ne, ne_eq]; omega
        have hnn : ¬ N = 0 := by have := HN.out; omega
        rcases NN with hz | ⟨q1, q2⟩
        · have HR1 := hid (show r = ks.all (rightP m) by rw [HR0.out]; simp [hz, deepAll])
          rw [hz] at T0 ⊢
          clear HR0 hz MM fn TX
          go_enter Tryd.func17, Tryd.ntmps17
          go_wp2
          go_loopw [6, 7, 8] (fun i _ _ wr => i = .int .i64 0 ∧ Hid (TW W wr ⟨3, [], 0, A, 0, nc, B, ks.length, kc⟩ none 0 [])) (fun _ _ _ _ => 0)
          case atStart => exact ⟨rfl, T0⟩
          case round =>
            obtain ⟨rfl, hM0⟩ := hrel
            obtain ⟨x0, x1, x2, x3, x4, x5⟩ := hM0.out.cells
            simp only [] at x0 x1 x2 x3 x4 x5
            go_wp2
            clear x0 x1 x2 x3 x4 x5
            go_loopw [9, 10] (fun i _ wr => ∃ c : Nat, c ≤ ks.length ∧ i = .int .i64 c ∧ Hid (∀ q (h : q < ks.length), q < c → rightP m ks[q] = true) ∧ Hid (TW W wr ⟨3, [], 0, A, 0, nc, B, ks.length, kc⟩ none 0 [])) (fun i _ _ => ks.length - (intOf i).toNat)
            case atStart => exact ⟨0, Nat.zero_le _, rfl, fun q _ h => absurd h (by omega), hM0⟩
            case round =>
              obtain ⟨c, hc, rfl, hall, hM⟩ := hrel
              obtain ⟨x0, x1, x2, x3, x4, x5⟩ := hM.out.cells
              simp only [] at x0 x1 x2 x3 x4 x5
              by_cases hlt : c < ks.length
              · have lx : c < xs.length := by have := LX.out; omega
                obtain ⟨b1, o1, rfl, l1, hc1⟩ := kids_cell HKX.out lx
                obtain ⟨p0, p1, p2, p3, p4⟩ := hc1 wr hM.out.bel
                have CALL := hid (IS.out m rfl c hlt lx wr hM.out.bel)
                have HNX := hid (show rightP m ks[c] = true → ∀ q (h : q < ks.length), q < c + 1 → rightP m ks[q] = true from fun hr q hq hqc => by
                  rcases Nat.lt_or_ge q c with h3 | h3
                  · exact hall.out q hq h3
                  · obtain rfl : q = c := by omega
                    exact hr)
                have HNO := hid (show rightP m ks[c] = false → r = false from fun hf => by
                  rw [HR1.out]
                  exact List.all_eq_false.2 ⟨ks[c], List.getElem_mem hlt, by simp [hf]⟩)
                have hsub2 : N - 1 = (m : Int) := by have := HN.out; omega
                clear hc1 hall IS
                generalize rightP m ks[c] = rv at *
                generalize xs[c] = X at *
                obtain ⟨xk, xt, xn, xA, xa, xb, xB, xc, xd⟩ := X
                simp only [] at *
                go_wp2_with fail
                try rw [hsub2]
                refine CALL.out.mono ?_
                rintro e w3 ⟨rfl, h3⟩
                have M3 := hid (hM.out.below h3)
                clear h3 hM CALL x0 x1 x2 x3 x4 x5 p0 p1 p2 p3 p4 hsub2
                cases rv with
                | true =>
                  have HA := hid (HNX.out rfl)
                  clear HNX HNO
                  go_wp2
                  go_roundw
                  case rel => first | exact ⟨c + 1, by omega, by go_num, HA, M3⟩ | (refine ⟨_, _, _, _, _, _, _, _, _, _, _, _, _, _, _, _, _, _, _, _, ⟨c + 1, ?_, ?_, HA, M3⟩, rfl⟩ <;> first | omega | go_num)
                  case measure => simp [intOf]; omega
                | false =>
                  have HR := hid (HNO.out rfl)
                  clear HNX HNO
                  go_wp2
                  go_ret
                  exact ⟨by rw [HR.out]; rfl, M3.out.bel⟩
              · have HR := hid (show r = true by
                  rw [HR1.out]
                  exact List.all_eq_true.2 fun x hx => by
                    obtain ⟨q, hq, rfl⟩ := List.mem_iff_getElem.1 hx
                    exact hall.out q hq (by omega))
                clear IS hall
                go_wp2
                go_ret
                exact ⟨by rw [HR.out]; rfl, hM.out.bel⟩
        · have HR := hid (show r = false by rw [HR0.out]; simp [q2])
          have hnp : (0 : Int) < ns.length := by omega
          clear HR0 IS TX MM
          go_enter Tryd.func17, Tryd.ntmps17
          go_wp2
          go_ret
          exact ⟨by rw [HR.out]; rfl, T0.out.bel⟩
end Go.Proofs.YtbjimikppdfmgaaDoor
