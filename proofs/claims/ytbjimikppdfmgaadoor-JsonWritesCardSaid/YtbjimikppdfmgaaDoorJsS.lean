/- Walk of pantileref06.Same, at two values that are the same. -/
import Derived.Test.YtbjimikppdfmgaaDoorJsM
import Derived.Deep.RegionHeld3
set_option linter.unusedVariables false
set_option linter.unusedSimpArgs false
set_option maxHeartbeats 8000000
set_option maxRecDepth 100000
namespace Go.Proofs.YtbjimikppdfmgaaDoor
open Go.RowKit

theorem names_cell {w : World} {ok : Nat → Prop} {A : Option Addr} {ns : List (List UInt8)} (h : NamesAt w ok A ns) {i : Nat} (hi : i < ns.length) : ∃ b o, A = some ⟨b, o, none⟩ ∧ b < w.heap.size ∧ w.cell? ⟨b, o + i, none⟩ = some (.string (S ns[i])) := by
  obtain ⟨b, o, hA, -, hlt, hc⟩ := h (by omega)
  exact ⟨b, o, hA, hlt, hc i hi⟩
theorem alloc_sizeS (w : World) (o : Obj) : (w.alloc o).heap.size = w.heap.size + 1 := by unfold World.alloc; exact Array.size_push ..
def J5.ar (x : J5) : Array Value := #[.int .i64 x.kind, .string (S x.text), .int .i64 x.num, .slice x.nA x.nn x.nc, .slice x.kA x.kn x.kc]
structure Two (W wr : World) (x y : J5) : Prop where
  bel : Below W.heap.size W wr
  bx : Blk wr W.heap.size 40 x.ar
  by' : Blk wr (W.heap.size + 1) 40 y.ar
theorem Two.start (W : World) (x y : J5) : Two W ((W.alloc (.cells x.ar 40)).alloc (.cells y.ar 40)) x y := by
  refine ⟨((Below.refl _ _).alloc (Nat.le_refl _) _).alloc (by rw [alloc_sizeS]; omega) _, (Blk.new W _ _).alloc _, ?_⟩
  have := Blk.new (W.alloc (.cells x.ar 40)) 40 y.ar
  rwa [alloc_sizeS] at this
theorem Two.drew {W wr : World} {x y : J5} (h : Two W wr x y) : Two W wr.drew x y := ⟨h.bel.drew, h.bx.drew, h.by'.drew⟩
theorem Two.below {W wr wn : World} {x y : J5} (h : Two W wr x y) (hb : Below wr.heap.size wr wn) : Two W wn x y := ⟨bt h.bel hb, h.bx.below hb h.bx.lt, h.by'.below hb h.by'.lt⟩
theorem Two.cells {W wr : World} {x y : J5} (h : Two W wr x y) : wr.cell? ⟨W.heap.size, 3, none⟩ = some (.slice x.nA x.nn x.nc) ∧ wr.cell? ⟨W.heap.size, 4, none⟩ = some (.slice x.kA x.kn x.kc) ∧ wr.cell? ⟨W.heap.size + 1, 3, none⟩ = some (.slice y.nA y.nn y.nc) ∧ wr.cell? ⟨W.heap.size + 1, 4, none⟩ = some (.slice y.kA y.kn y.kc) :=
  ⟨(h.bx.cell 3).trans rfl, (h.bx.cell 4).trans rfl, (h.by'.cell 3).trans rfl, (h.by'.cell 4).trans rfl⟩
/-- A kid's five cells. -/
theorem kids_cell {w : World} {ok : Nat → Prop} {A : Option Addr} {xs : List J5} (h : KidsAt w ok A xs) {i : Nat} (hi : i < xs.length) : ∃ b o, A = some ⟨b, o, none⟩ ∧ b < w.heap.size ∧ ∀ w', Below w.heap.size w w' → w'.cell? ⟨b, o + i * 5, none⟩ = some (.int .i64 xs[i].kind) ∧ w'.cell? ⟨b, o + i * 5 + 1, none⟩ = some (.string (S xs[i].text)) ∧ w'.cell? ⟨b, o + i * 5 + 2, none⟩ = some (.int .i64 xs[i].num) ∧ w'.cell? ⟨b, o + i * 5 + 3, none⟩ = some (.slice xs[i].nA xs[i].nn xs[i].nc) ∧ w'.cell? ⟨b, o + i * 5 + 4, none⟩ = some (.slice xs[i].kA xs[i].kn xs[i].kc) := by
  obtain ⟨b, o, hA, -, hlt, hc⟩ := h (by omega)
  refine ⟨b, o, hA, hlt, fun w' hb => ?_⟩
  have hk : ∀ j u, xs[i].cs[j]? = some u → w'.cell? ⟨b, o + i * 5 + j, none⟩ = some u := fun j u hu => by
    rw [Nat.add_assoc]
    exact (hb.cell (p := ⟨b, o + (i * 5 + j), none⟩) hlt).trans (hc i hi j u hu)
  exact ⟨hk 0 _ rfl, hk 1 _ rfl, hk 2 _ rfl, hk 3 _ rfl, hk 4 _ rfl⟩
theorem ref06_Same {W0 : World} {ok ok' : Nat → Prop} {j : Jv} {x y : J5} (hx : JAt W0 ok j x) (hy : JAt W0 ok' j y) : ∀ W, Below W0.heap.size W0 W →
    Calls Tryd.prog 21 #[.agg #[.int .i64 x.kind, .string (S x.text), .int .i64 x.num, .slice x.nA x.nn x.nc, .slice x.kA x.kn x.kc], .agg #[.int .i64 y.kind, .string (S y.text), .int .i64 y.num, .slice y.nA y.nn y.nc, .slice y.kA y.kn y.kc]] W fun e w' => e = .returned (.bool true) ∧ Below W.heap.size W w' := by
  induction hx generalizing y with
  | mk x ns ks xs hn hnc hk hkc hbn hbk hN hl hK hs ih =>
    intro W hb
    obtain ⟨k, t, n, A, nn, nc, B, kn, kc⟩ := x
    obtain ⟨k2, t2, n2, A2, nn2, nc2, B2, kn2, kc2⟩ := y
    cases hy with
    | mk _ _ _ ys hn' hnc' hk' hkc' _ _ hN' hl' hK' hs' =>
      simp only [] at *
      subst hn hk hn' hk'
      have IH := hid ih
      have HSY := hid hs'
      have HNX := hid hN
      have HNY := hid hN'
      have HKX := hid hK
      have HKY := hid hK'
      have HB := hid hb
      have T0 := hid (Two.start W ⟨k2, t2, n2, A, ns.length, nc, B, ks.length, kc⟩ ⟨k2, t2, n2, A2, ns.length, nc2, B2, ks.length, kc2⟩)
      have LX := hid hl
      have LY := hid hl'
      clear ih hs hs' hN hN' hK hK' hb hl hl'
      go_enter Tryd.func21, Tryd.ntmps21
      go_wp2
      go_loopw [5] (fun i wr => ∃ k : Nat, k ≤ ns.length ∧ i = .int .i64 k ∧ Hid (Two W wr ⟨k2, t2, n2, A, ns.length, nc, B, ks.length, kc⟩ ⟨k2, t2, n2, A2, ns.length, nc2, B2, ks.length, kc2⟩)) (fun i _ => ns.length - (intOf i).toNat)
      case atStart => exact ⟨0, Nat.zero_le _, rfl, T0⟩
      case round =>
        obtain ⟨k, hk, rfl, hW⟩ := hrel
        obtain ⟨x3, x4, y3, y4⟩ := hW.out.cells
        simp only [] at x3 x4 y3 y4
        by_cases hlt : k < ns.length
        · obtain ⟨b1, o1, rfl, l1, c1⟩ := names_cell HNX.out hlt
          obtain ⟨b2, o2, rfl, l2, c2⟩ := names_cell HNY.out hlt
          have hbb := bt HB.out hW.out.bel
          have c1' := (hbb.cell (p := ⟨b1, o1 + k, none⟩) l1).trans c1
          have c2' := (hbb.cell (p := ⟨b2, o2 + k, none⟩) l2).trans c2
          have HN := hid hW.out.drew
          clear c1 c2 hbb hW
          go_wp2
          go_region
          go_wp2
          go_roundw
          case rel => exact ⟨k + 1, by omega, by go_num, HN⟩
          case measure => simp [intOf]; omega
        · obtain rfl : k = ns.length := by omega
          go_wp2
          go_loopw [6, 7] (fun i _ wr => ∃ k : Nat, k ≤ ks.length ∧ i = .int .i64 k ∧ Hid (Two W wr ⟨k2, t2, n2, A, ns.length, nc, B, ks.length, kc⟩ ⟨k2, t2, n2, A2, ns.length, nc2, B2, ks.length, kc2⟩)) (fun i _ _ => ks.length - (intOf i).toNat)
          case atStart => exact ⟨0, Nat.zero_le _, rfl, hW⟩
          case round =>
            obtain ⟨m, hm, rfl, hV⟩ := hrel
            clear x3 x4 y3 y4 hW
            obtain ⟨x3, x4, y3, y4⟩ := hV.out.cells
            simp only [] at x3 x4 y3 y4
            by_cases hlt2 : m < ks.length
            · have lx : m < xs.length := by have := LX.out; omega
              have ly : m < ys.length := by have := LY.out; omega
              obtain ⟨b1, o1, rfl, l1, c1⟩ := kids_cell HKX.out lx
              obtain ⟨b2, o2, rfl, l2, c2⟩ := kids_cell HKY.out ly
              have CALL := hid (IH.out m hlt2 lx (HSY.out m hlt2 ly) wr.drew (bt HB.out hV.out.drew.bel))
              have CX := hid c1
              have CY := hid c2
              obtain ⟨p0, p1, p2, p3, p4⟩ := c1 wr (bt HB.out hV.out.bel)
              obtain ⟨q0, q1, q2, q3, q4⟩ := c2 wr (bt HB.out hV.out.bel)
              clear c1 c2
              generalize xs[m] = X at *
              generalize ys[m] = Y at *
              obtain ⟨xk, xt, xn, xA, xa, xb, xB, xc, xd⟩ := X
              obtain ⟨yk, yt, yn, yA, ya, yb, yB, yc, yd⟩ := Y
              simp only [] at *
              go_wp2
              go_region_held3 (fun w' => w'.cell? ⟨W.heap.size, 4, none⟩ = some (.slice (some ⟨b1, o1, none⟩) ks.length kc) ∧ w'.cell? ⟨W.heap.size + 1, 4, none⟩ = some (.slice (some ⟨b2, o2, none⟩) ks.length kc2) ∧ w'.cell? ⟨b1, o1 + m * 5, none⟩ = some (.int .i64 xk) ∧ w'.cell? ⟨b1, o1 + m * 5 + 1, none⟩ = some (.string (S xt)) ∧ w'.cell? ⟨b1, o1 + m * 5 + 2, none⟩ = some (.int .i64 xn) ∧ w'.cell? ⟨b1, o1 + m * 5 + 3, none⟩ = some (.slice xA xa xb) ∧ w'.cell? ⟨b1, o1 + m * 5 + 4, none⟩ = some (.slice xB xc xd) ∧ w'.cell? ⟨b2, o2 + m * 5, none⟩ = some (.int .i64 yk) ∧ w'.cell? ⟨b2, o2 + m * 5 + 1, none⟩ = some (.string (S yt)) ∧ w'.cell? ⟨b2, o2 + m * 5 + 2, none⟩ = some (.int .i64 yn) ∧ w'.cell? ⟨b2, o2 + m * 5 + 3, none⟩ = some (.slice yA ya yb) ∧ w'.cell? ⟨b2, o2 + m * 5 + 4, none⟩ = some (.slice yB yc yd)) (simp [*, go_sem, World.cell?_alloc_past]) (first
                | (go_at_call 21; refine CALL.out.mono ?_; rintro e w3 ⟨rfl, hb3⟩; (have V3 := hid (hV.out.drew.below hb3)); obtain ⟨-, z4, -, z5⟩ := V3.out.cells; simp only [] at z4 z5; obtain ⟨r0, r1, r2, r3, r4⟩ := CX.out w3 (bt HB.out V3.out.bel); obtain ⟨t0, t1, t2, t3, t4⟩ := CY.out w3 (bt HB.out V3.out.bel)))
              all_goals
                go_wp2
                go_roundw
                case rel => exact ⟨m + 1, by omega, by go_num, V3⟩
                case measure => simp [intOf]; omega
            · go_wp2
              go_ret
              exact ⟨rfl, hV.out.bel⟩
end Go.Proofs.YtbjimikppdfmgaaDoor
