/- slices.ContainsFunc at names and at kids; walk of json.right. -/
import Derived.Test.YtbjimikppdfmgaaDoorJsR
import Derived.IntWalk
set_option linter.unusedVariables false
set_option linter.unusedSimpArgs false
set_option maxHeartbeats 8000000
set_option maxRecDepth 100000
namespace Go.Proofs.YtbjimikppdfmgaaDoor
open Go.RowKit Go.Shelf

theorem fin_any {X : Type} (l : List X) (m : Nat) (h : l.length = m + 1) (f : X → Bool) : ((List.finRange (m + 1)).take (m + 1)).any (fun i => f (l[i.1]'(by omega))) = l.any f := by
  rw [List.take_of_length_le (by simp), Bool.eq_iff_iff, List.any_eq_true, List.any_eq_true]
  constructor
  · rintro ⟨i, -, hi⟩
    exact ⟨_, List.getElem_mem _, hi⟩
  · rintro ⟨x, hx, hf⟩
    obtain ⟨i, hi, rfl⟩ := List.mem_iff_getElem.1 hx
    exact ⟨⟨i, by omega⟩, List.mem_finRange _, hf⟩
theorem fin_at (m j : Nat) (h : j < m + 1) : (List.finRange (m + 1))[j]! = ⟨j, h⟩ := by
  rw [getElem!_pos _ _ (by simpa using h)]
  simp
theorem js_ContOdd {w : World} {ok : Nat → Prop} {A : Option Addr} (ns : List (List UInt8)) (c : Nat) (h : NamesAt w ok A ns) (hl : ns.length ≤ 1000000) (hs : ∀ s ∈ ns, s.length ≤ 1000000) :
    Calls Tryd.prog 87 #[.slice A ns.length c, .func (.func 86) #[] #[]] w fun e w' => e = .returned (.bool (ns.any oddP)) ∧ Below w.heap.size w w' := by
  by_cases h0 : 0 < ns.length
  · obtain ⟨b, o, rfl, -, -, hc⟩ := h h0
    obtain ⟨m, hm⟩ : ∃ m, ns.length = m + 1 := ⟨ns.length - 1, by omega⟩
    have := AnyE.slices_ContainsFunc layContainsF (α := Fin (m + 1)) (fun i => .string (S (ns[i.1]'(by omega)))) (fun i => oddP (ns[i.1]'(by omega))) 86 #[] (fun args w => by kernel_rfl) b o (m + 1) c (List.finRange (m + 1)) w
      (fun W i hb => (js_odd _ (hs _ (List.getElem_mem _)) W).mono fun e w' ⟨he, hw⟩ => ⟨he, 0, hw⟩) (by simp) (by omega) (fun j hj => by
        have hj' : j < m + 1 := by simpa using hj
        rw [fin_at m j hj']
        exact hc j (by omega))
    rw [fin_any ns m hm oddP] at this
    rw [hm]
    exact this.mono fun e w' ⟨he, q, hw⟩ => ⟨he, hw ▸ below_drewN (Below.refl _ _) q⟩
  · obtain rfl : ns = [] := List.eq_nil_of_length_eq_zero (by omega)
    exact (AnyE.slices_ContainsFunc_empty layContainsF A c _ w).mono fun e w' ⟨he, hw⟩ => ⟨he, hw ▸ Below.refl _ _⟩
theorem js_IndexJ_empty (A : Option Addr) (c : Nat) (fv : Value) (w : World) : Calls Tryd.prog 113 #[.slice A 0 c, fv] w fun e w' => e = .returned (.int .i64 (-1)) ∧ w' = w := by
  go_enter Tryd.func113, Tryd.ntmps113
  go_wp2
  go_loop [5, 8] (fun _ i => i = .int .i64 0) (fun _ _ => 0)
  case atStart => rfl
  case round =>
    obtain rfl := hrel
    go_wp2
    go_ret
    exact ⟨rfl, rfl⟩
theorem js_ContJ_empty (A : Option Addr) (c : Nat) (fv : Value) (w : World) : Calls Tryd.prog 89 #[.slice A 0 c, fv] w fun e w' => e = .returned (.bool false) ∧ w' = w := by
  have T := hid (js_IndexJ_empty A c fv w)
  go_enter Tryd.func89, Tryd.ntmps89
  go_wp2_with fail
  refine T.out.mono ?_
  rintro e w' ⟨rfl, rfl⟩
  go_wp2
  go_ret
  exact ⟨rfl, rfl⟩
theorem js_ContKids {w : World} {ok : Nat → Prop} {B : Option Addr} (ks : List Jv) (xs : List J5) (hl : xs.length = ks.length) (c : Nat) (hK : KidsAt w ok B xs) (hn : ks.length ≤ 1000000) (f : Jv → Bool) (g : Nat) (lb : Array Value) (eg : ∀ args w, (callFunc g args).run Tryd.prog w = .ok (.enter g args) w)
    (CALL : ∀ i (h : i < ks.length) (h' : i < xs.length) (W : World), Below w.heap.size w W → Calls Tryd.prog g (#[.agg xs[i].ar] ++ lb) W fun e w' => e = .returned (.bool (f ks[i])) ∧ Below w.heap.size w w') :
    Calls Tryd.prog 89 #[.slice B ks.length c, .func (.func g) #[] lb] w fun e w' => e = .returned (.bool (ks.any f)) ∧ Below w.heap.size w w' := by
  by_cases h0 : 0 < ks.length
  · obtain ⟨b, o, rfl, -, hlt, hc⟩ := hK (by omega)
    obtain ⟨m, hm⟩ : ∃ m, ks.length = m + 1 := ⟨ks.length - 1, by omega⟩
    have := AnyQ.slices_ContainsFunc layContainsJ 5 (fun w => by kernel_rfl) (fun w => by kernel_rfl) (α := Fin (m + 1)) (fun i => (xs[i.1]'(by omega)).cs) (fun i => rfl) (fun i => f (ks[i.1]'(by omega))) g lb eg b o (m + 1) c (List.finRange (m + 1)) w
      (fun W i hb => CALL i.1 (by omega) (by omega) W hb) (by simp) (by omega) hlt (fun j hj i u hu => by
        have hj' : j < m + 1 := by simpa using hj
        rw [fin_at m j hj'] at hu
        rw [Nat.add_assoc]
        exact hc j (by omega) i u hu)
    rw [fin_any ks m hm f] at this
    rw [hm]
    exact this
  · have hz : ks = [] := List.eq_nil_of_length_eq_zero (by omega)
    subst hz
    exact (js_ContJ_empty B c _ w).mono fun e w' ⟨he, hw⟩ => ⟨he, hw ▸ Below.refl _ _⟩

/-- The worlds of right: a box with the value, one with the number. -/
structure RW (W wr : World) (x : J5) (n : Int) : Prop where
  bel : Below W.heap.size W wr
  bx : Blk wr W.heap.size 40 x.ar
  bn : Blk wr (W.heap.size + 1) 3 #[.int .i64 n]
theorem RW.start (W : World) (x : J5) (n : Int) : RW W ((W.alloc (.cells x.ar 40)).alloc (.cells #[.int .i64 n] 3)) x n := by
  refine ⟨((Below.refl _ _).alloc (Nat.le_refl _) _).alloc (by rw [alloc_sizeS]; omega) _, (Blk.new W _ _).alloc _, ?_⟩
  have := Blk.new (W.alloc (.cells x.ar 40)) 3 #[.int .i64 n]
  rwa [alloc_sizeS] at this
theorem RW.below {W wr wn : World} {x : J5} {n : Int} (h : RW W wr x n) (hb : Below wr.heap.size wr wn) : RW W wn x n := ⟨bt h.bel hb, h.bx.below hb h.bx.lt, h.bn.below hb h.bn.lt⟩
theorem RW.cells {W wr : World} {x : J5} {n : Int} (h : RW W wr x n) : wr.cell? ⟨W.heap.size, 0, none⟩ = some (.int .i64 x.kind) ∧ wr.cell? ⟨W.heap.size, 1, none⟩ = some (.string (S x.text)) ∧ wr.cell? ⟨W.heap.size, 2, none⟩ = some (.int .i64 x.num) ∧ wr.cell? ⟨W.heap.size, 3, none⟩ = some (.slice x.nA x.nn x.nc) ∧ wr.cell? ⟨W.heap.size, 4, none⟩ = some (.slice x.kA x.kn x.kc) ∧ wr.cell? ⟨W.heap.size + 1, 0, none⟩ = some (.int .i64 n) :=
  ⟨(h.bx.cell 0).trans rfl, (h.bx.cell 1).trans rfl, (h.bx.cell 2).trans rfl, (h.bx.cell 3).trans rfl, (h.bx.cell 4).trans rfl, (h.bn.cell 0).trans rfl⟩
theorem aloneP_X (k : Int) (t : List UInt8) (u : Int) (ns : List (List UInt8)) (ks : List Jv) : aloneP k t u ns ks = aloneX k t u ns.length ks.length := by
  unfold aloneP aloneX
  cases ns <;> simp
theorem js_right1 (n : Nat) (hn : n ≤ 100) (x : J5) (p : Nat) (W : World) (hc : W.cell? ⟨p, 0, none⟩ = some (.int .i64 ((n + 1 : Nat) : Int))) (r : Bool)
    (R : ∀ W', Below W.heap.size W W' → Calls Tryd.prog 53 #[.agg #[.int .i64 x.kind, .string (S x.text), .int .i64 x.num, .slice x.nA x.nn x.nc, .slice x.kA x.kn x.kc], .int .i64 n] W' fun e w' => e = .returned (.bool r) ∧ Below W'.heap.size W' w') :
    Calls Tryd.prog 90 #[.agg #[.int .i64 x.kind, .string (S x.text), .int .i64 x.num, .slice x.nA x.nn x.nc, .slice x.kA x.kn x.kc], .pointer (some ⟨p, 0, none⟩)] W fun e w' => e = .returned (.bool (!r)) ∧ Below W.heap.size W w' := by
  have hb := (Below.refl W.heap.size W).alloc (Nat.le_refl _) (.cells #[.int .i64 x.kind, .string (S x.text), .int .i64 x.num, .slice x.nA x.nn x.nc, .slice x.kA x.kn x.kc] 40)
  have T := hid (R _ hb)
  have HB := hid hb
  have hlt : p < W.heap.size := World.block_lt_of_cell? W _ hc
  have hw : IntKind.i64.wrap (((n + 1 : Nat) : Int) - 1) = (n : Int) := by rw [IntWalk.i64_in _ (by omega)]; omega
  clear R hb
  obtain ⟨xk, xt, xu, xA, xn, xc, xB, xm, xd⟩ := x
  go_enter Tryd.func90, Tryd.ntmps90
  go_wp2_with fail
  refine T.out.mono ?_
  rintro e w1 ⟨rfl, h1⟩
  have HF := hid (bt HB.out h1)
  clear h1 T HB
  go_wp2
  go_ret
  exact ⟨rfl, HF.out⟩
end Go.Proofs.YtbjimikppdfmgaaDoor
