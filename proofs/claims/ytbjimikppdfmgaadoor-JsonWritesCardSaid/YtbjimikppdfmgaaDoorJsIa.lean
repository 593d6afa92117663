/- Walk of pantileref06.Is. -/
import Derived.Test.YtbjimikppdfmgaaDoorJsRf
import Derived.IntWalk
set_option linter.unusedVariables false
set_option linter.unusedSimpArgs false
set_option maxHeartbeats 16000000
set_option maxRecDepth 100000
namespace Go.Proofs.YtbjimikppdfmgaaDoor
open Go.RowKit

theorem is_text (n : Nat) (hn : n ≤ 100) (t : List UInt8) (u : Int) (A : Option Addr) (nc : Nat) (B : Option Addr) (kc : Nat) (ns : List (List UInt8)) (ks : List Jv) (xs : List J5) (ft : t.length ≤ 50) (fn : ns.length ≤ 5) (fk : ks.length ≤ 5) (fs : ∀ s ∈ ns, s.length ≤ 50) (W : World) (ok : Nat → Prop) (hN : NamesAt W ok A ns) (hl : xs.length = ks.length) (hK : KidsAt W ok B xs)
    (hIS : ∀ m, n = m + 1 → ∀ i (h : i < ks.length) (h' : i < xs.length) (w1 : World), Below W.heap.size W w1 → Calls Tryd.prog 17 #[.agg #[.int .i64 xs[i].kind, .string (S xs[i].text), .int .i64 xs[i].num, .slice xs[i].nA xs[i].nn xs[i].nc, .slice xs[i].kA xs[i].kn xs[i].kc], .int .i64 m] w1 (fun e w' => e = .returned (.bool (rightP m ks[i])) ∧ Below w1.heap.size w1 w')) :
    Calls Tryd.prog 17 #[.agg #[.int .i64 1, .string (S t), .int .i64 u, .slice A ns.length nc, .slice B ks.length kc], .int .i64 n] W fun e w' => e = .returned (.bool (rightP n (.mk 1 t u ns ks))) ∧ Below W.heap.size W w' := by
      obtain ⟨N, hN'⟩ : ∃ N : Int, N = (n : Int) := ⟨_, rfl⟩
      have T0 := hid (TW.start W ⟨1, t, u, A, ns.length, nc, B, ks.length, kc⟩)
      have HP := hid (rightP_eq n 1 t u ns ks)
      have TX := hid (fun (s : List UInt8) (hs : s.length ≤ 50) (w1 : World) => ref06_text s (by omega) w1)
      have NC := hid hN
      have HKX := hid hK
      have FS := hid fs
      have LX := hid hl
      have IS := hid hIS
      rw [← hN']
      have HN := hid hN'
      have hn0 : 0 ≤ N := by omega
      have hn1 : N ≤ 100 := by omega
      clear hN hl hK fs hN' hIS
      obtain ⟨r, hr⟩ : ∃ r, r = rightP n (.mk 1 t u ns ks) := ⟨_, rfl⟩
      rw [← hr] at HP ⊢
      clear hr
      have TT : t = [] ∨ ((t == []) = false ∧ ¬ t = []) := by cases t <;> simp
      have UU : u = 0 ∨ ((u == 0) = false ∧ ¬ u = 0) := by by_cases h : u = 0 <;> simp [h]
      have NN : ns.length = 0 ∨ (((ns.length : Int) == 0) = false ∧ ¬ ns.length = 0) := by by_cases h : ns.length = 0 <;> simp [h]
      have MM : ks.length = 0 ∨ (((ks.length : Int) == 0) = false ∧ ¬ ks.length = 0) := by by_cases h : ks.length = 0 <;> simp [h]
      have HR0 := hid (show r = (decide (u = 0) && decide (ns.length = 0) && decide (ks.length = 0) && !oddP t) by rw [HP.out]; simp [aloneX])
      have TX1 := hid (fun w1 => TX.out t ft w1)
      clear HP IS TX TT
      cases ho : oddP t with
      | true =>
        rw [ho] at TX1
        have HR := hid (show r = false by rw [HR0.out, ho]; simp)
        clear HR0 UU NN MM
        go_enter Tryd.func17, Tryd.ntmps17
        go_wp2_with fail
        refine (TX1.out _).mono ?_
        rintro e w1 ⟨rfl, rfl⟩
        go_wp2
        go_ret
        exact ⟨by rw [HR.out]; rfl, T0.out.bel⟩
      | false =>
        rw [ho] at TX1
        rcases UU with rfl | ⟨u1, u2⟩
        · rcases NN with hz | ⟨q1, q2⟩
          · rcases MM with hm | ⟨m1, m2⟩
            · rw [hz, hm] at HR0 T0 ⊢
              clear hz hm fn fk
              have HR := hid (show r = true by rw [HR0.out, ho]; simp [*])
              clear HR0
              go_enter Tryd.func17, Tryd.ntmps17
              go_wp2_with fail
              refine (TX1.out _).mono ?_
              rintro e w1 ⟨rfl, rfl⟩
              go_wp2
              go_ret
              exact ⟨by rw [HR.out]; rfl, T0.out.bel⟩
            · rw [hz] at HR0 T0 ⊢
              clear hz fn
              have HR := hid (show r = false by rw [HR0.out, ho]; simp [*])
              clear HR0
              go_enter Tryd.func17, Tryd.ntmps17
              go_wp2_with fail
              refine (TX1.out _).mono ?_
              rintro e w1 ⟨rfl, rfl⟩
              go_wp2
              go_ret
              exact ⟨by rw [HR.out]; rfl, T0.out.bel⟩
          · clear MM
            have HR := hid (show r = false by rw [HR0.out, ho]; simp [*])
            clear HR0
            go_enter Tryd.func17, Tryd.ntmps17
            go_wp2_with fail
            refine (TX1.out _).mono ?_
            rintro e w1 ⟨rfl, rfl⟩
            go_wp2
            go_ret
            exact ⟨by rw [HR.out]; rfl, T0.out.bel⟩
        · clear NN MM
          have HR := hid (show r = false by rw [HR0.out, ho]; simp [*])
          clear HR0
          go_enter Tryd.func17, Tryd.ntmps17
          go_wp2_with fail
          refine (TX1.out _).mono ?_
          rintro e w1 ⟨rfl, rfl⟩
          go_wp2
          go_ret
          exact ⟨by rw [HR.out]; rfl, T0.out.bel⟩
theorem is_int (n : Nat) (hn : n ≤ 100) (t : List UInt8) (u : Int) (A : Option Addr) (nc : Nat) (B : Option Addr) (kc : Nat) (ns : List (List UInt8)) (ks : List Jv) (xs : List J5) (ft : t.length ≤ 50) (fn : ns.length ≤ 5) (fk : ks.length ≤ 5) (fs : ∀ s ∈ ns, s.length ≤ 50) (W : World) (ok : Nat → Prop) (hN : NamesAt W ok A ns) (hl : xs.length = ks.length) (hK : KidsAt W ok B xs)
    (hIS : ∀ m, n = m + 1 → ∀ i (h : i < ks.length) (h' : i < xs.length) (w1 : World), Below W.heap.size W w1 → Calls Tryd.prog 17 #[.agg #[.int .i64 xs[i].kind, .string (S xs[i].text), .int .i64 xs[i].num, .slice xs[i].nA xs[i].nn xs[i].nc, .slice xs[i].kA xs[i].kn xs[i].kc], .int .i64 m] w1 (fun e w' => e = .returned (.bool (rightP m ks[i])) ∧ Below w1.heap.size w1 w')) :
    Calls Tryd.prog 17 #[.agg #[.int .i64 2, .string (S t), .int .i64 u, .slice A ns.length nc, .slice B ks.length kc], .int .i64 n] W fun e w' => e = .returned (.bool (rightP n (.mk 2 t u ns ks))) ∧ Below W.heap.size W w' := by
      obtain ⟨N, hN'⟩ : ∃ N : Int, N = (n : Int) := ⟨_, rfl⟩
      have T0 := hid (TW.start W ⟨2, t, u, A, ns.length, nc, B, ks.length, kc⟩)
      have HP := hid (rightP_eq n 2 t u ns ks)
      have TX := hid (fun (s : List UInt8) (hs : s.length ≤ 50) (w1 : World) => ref06_text s (by omega) w1)
      have NC := hid hN
      have HKX := hid hK
      have FS := hid fs
      have LX := hid hl
      have IS := hid hIS
      rw [← hN']
      have HN := hid hN'
      have hn0 : 0 ≤ N := by omega
      have hn1 : N ≤ 100 := by omega
      clear hN hl hK fs hN' hIS
      obtain ⟨r, hr⟩ : ∃ r, r = rightP n (.mk 2 t u ns ks) := ⟨_, rfl⟩
      rw [← hr] at HP ⊢
      clear hr
      have TT : t = [] ∨ ((t == []) = false ∧ ¬ t = []) := by cases t <;> simp
      have UU : u = 0 ∨ ((u == 0) = false ∧ ¬ u = 0) := by by_cases h : u = 0 <;> simp [h]
      have NN : ns.length = 0 ∨ (((ns.length : Int) == 0) = false ∧ ¬ ns.length = 0) := by by_cases h : ns.length = 0 <;> simp [h]
      have MM : ks.length = 0 ∨ (((ks.length : Int) == 0) = false ∧ ¬ ks.length = 0) := by by_cases h : ks.length = 0 <;> simp [h]
      have HR0 := hid (show r = (decide (t = []) && decide (ns.length = 0) && decide (ks.length = 0) && (decide (0 ≤ u) && decide (u ≤ 9007199254740992))) by rw [HP.out]; simp [aloneX])
      clear HP IS TX UU
      rcases TT with rfl | ⟨t1, t2⟩
      · by_cases u0 : 0 ≤ u
        · by_cases u9 : u ≤ 9007199254740992
          · rcases NN with hz | ⟨q1, q2⟩
            · rcases MM with hm | ⟨m1, m2⟩
              · rw [hz, hm] at HR0 T0 ⊢
                clear hz hm fn fk
                have HR := hid (show r = true by rw [HR0.out]; simp [*])
                clear HR0
                go_enter Tryd.func17, Tryd.ntmps17
                go_wp2
                go_ret
                exact ⟨by rw [HR.out]; rfl, T0.out.bel⟩
              · rw [hz] at HR0 T0 ⊢
                clear hz fn
                have HR := hid (show r = false by rw [HR0.out]; simp [*])
                clear HR0
                go_enter Tryd.func17, Tryd.ntmps17
                go_wp2
                go_ret
                exact ⟨by rw [HR.out]; rfl, T0.out.bel⟩
            · clear MM
              have HR := hid (show r = false by rw [HR0.out]; simp [*])
              clear HR0
              go_enter Tryd.func17, Tryd.ntmps17
              go_wp2
              go_ret
              exact ⟨by rw [HR.out]; rfl, T0.out.bel⟩
          · clear NN MM
            have HR := hid (show r = false by rw [HR0.out]; rw [decide_eq_false u9]; simp)
            clear HR0
            go_enter Tryd.func17, Tryd.ntmps17
            go_wp2
            go_ret
            exact ⟨by rw [HR.out]; rfl, T0.out.bel⟩
        · clear NN MM
          have HR := hid (show r = false by rw [HR0.out]; rw [decide_eq_false u0]; simp)
          clear HR0
          go_enter Tryd.func17, Tryd.ntmps17
          go_wp2
          go_ret
          exact ⟨by rw [HR.out]; rfl, T0.out.bel⟩
      · clear NN MM
        have HR := hid (show r = false by rw [HR0.out]; simp [*])
        clear HR0
        go_enter Tryd.func17, Tryd.ntmps17
        go_wp2
        go_ret
        exact ⟨by rw [HR.out]; rfl, T0.out.bel⟩
theorem is_none (n : Nat) (hn : n ≤ 100) (k : Int) (k1 : ¬ k = 1) (k2 : ¬ k = 2) (k3 : ¬ k = 3) (k4 : ¬ k = 4) (t : List UInt8) (u : Int) (A : Option Addr) (nc : Nat) (B : Option Addr) (kc : Nat) (ns : List (List UInt8)) (ks : List Jv) (xs : List J5) (ft : t.length ≤ 50) (fn : ns.length ≤ 5) (fk : ks.length ≤ 5) (fs : ∀ s ∈ ns, s.length ≤ 50) (W : World) (ok : Nat → Prop) (hN : NamesAt W ok A ns) (hl : xs.length = ks.length) (hK : KidsAt W ok B xs)
    (hIS : ∀ m, n = m + 1 → ∀ i (h : i < ks.length) (h' : i < xs.length) (w1 : World), Below W.heap.size W w1 → Calls Tryd.prog 17 #[.agg #[.int .i64 xs[i].kind, .string (S xs[i].text), .int .i64 xs[i].num, .slice xs[i].nA xs[i].nn xs[i].nc, .slice xs[i].kA xs[i].kn xs[i].kc], .int .i64 m] w1 (fun e w' => e = .returned (.bool (rightP m ks[i])) ∧ Below w1.heap.size w1 w')) :
    Calls Tryd.prog 17 #[.agg #[.int .i64 k, .string (S t), .int .i64 u, .slice A ns.length nc, .slice B ks.length kc], .int .i64 n] W fun e w' => e = .returned (.bool (rightP n (.mk k t u ns ks))) ∧ Below W.heap.size W w' := by
      obtain ⟨N, hN'⟩ : ∃ N : Int, N = (n : Int) := ⟨_, rfl⟩
      have T0 := hid (TW.start W ⟨k, t, u, A, ns.length, nc, B, ks.length, kc⟩)
      have HP := hid (rightP_eq n k t u ns ks)
      have TX := hid (fun (s : List UInt8) (hs : s.length ≤ 50) (w1 : World) => ref06_text s (by omega) w1)
      have NC := hid hN
      have HKX := hid hK
      have FS := hid fs
      have LX := hid hl
      have IS := hid hIS
      rw [← hN']
      have HN := hid hN'
      have hn0 : 0 ≤ N := by omega
      have hn1 : N ≤ 100 := by omega
      clear hN hl hK fs hN' hIS
      obtain ⟨r, hr⟩ : ∃ r, r = rightP n (.mk k t u ns ks) := ⟨_, rfl⟩
      rw [← hr] at HP ⊢
      clear hr
      have TT : t = [] ∨ ((t == []) = false ∧ ¬ t = []) := by cases t <;> simp
      have UU : u = 0 ∨ ((u == 0) = false ∧ ¬ u = 0) := by by_cases h : u = 0 <;> simp [h]
      have NN : ns.length = 0 ∨ (((ns.length : Int) == 0) = false ∧ ¬ ns.length = 0) := by by_cases h : ns.length = 0 <;> simp [h]
      have MM : ks.length = 0 ∨ (((ks.length : Int) == 0) = false ∧ ¬ ks.length = 0) := by by_cases h : ks.length = 0 <;> simp [h]
      have HR := hid (show r = false by rw [HP.out]; simp [k1, k2, k3, k4])
      have k1' : (k == 1) = false := by simpa using k1
      have k2' : (k == 2) = false := by simpa using k2
      have k3' : (k == 3) = false := by simpa using k3
      have k4' : (k == 4) = false := by simpa using k4
      clear HP IS TX TT UU NN MM
      go_enter Tryd.func17, Tryd.ntmps17
      go_wp2
      go_ret
      exact ⟨by rw [HR.out]; rfl, T0.out.bel⟩
end Go.Proofs.YtbjimikppdfmgaaDoor
