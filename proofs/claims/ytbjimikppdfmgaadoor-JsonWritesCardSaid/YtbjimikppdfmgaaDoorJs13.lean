/- Walk of (*json.reader).value, whole; json.Read. -/
import Derived.Test.YtbjimikppdfmgaaDoorJs12
set_option linter.unusedVariables false
set_option linter.unusedSimpArgs false
set_option maxHeartbeats 8000000
set_option maxRecDepth 100000
namespace Go.Proofs.YtbjimikppdfmgaaDoor
open Go.RowKit

theorem jr_value : ∀ (n : Nat), n ≤ 5 → ∀ (g : Nat) (W : World) (s : List UInt8) (b : Bool), Rd W g s (5 - n) b → s.length < 70000 → (∀ W', Touch W W' (· = g) (· = g) → LibW W') →
    Calls Tryd.prog 58 #[.pointer (some ⟨g, 0, none⟩)] W (ValPost g W (5 - n) (if b then none else valP 70000 n s))
  | n, hn, g, W, s, b, h, hs, hL => by
    by_cases hq : (skipP s).head? = some 34
    · have := jr_value_text g W s _ b h hs hq
      rwa [show (if b then none else valP 70000 n s) = (if b then none else (textP (skipP s)).map fun p => (Jv.mk 1 p.1 0 [] [], skipP p.2)) by rw [valP.eq_def]; simp only [hq, if_true]]
    · cases h1 : (signP 91 (skipP s)).2 with
      | true =>
        cases n with
        | zero =>
          have := jr_value_list_bad g W s _ b h (by simp) (.inr (by simp)) hq h1
          rwa [show (if b then none else valP 70000 0 s) = none by rw [valP.eq_def]; simp only [hq, h1, if_true, if_false]; split <;> rfl]
        | succ m =>
          cases b with
          | true => exact jr_value_list_bad g W s _ true h (by constructor <;> omega) (.inl rfl) hq h1
          | false =>
            have := jr_value_list g W s _ h (by constructor <;> omega) hs (valP 70000 m) (val_len 70000 m) hq h1 (fun W' s' hs' ht hr => by
              rw [show (5 - ((m + 1 : Nat) : Int) + 1 : Int) = 5 - (m : Int) by omega] at hr ⊢
              exact jr_value m (by omega) g W' s' false hr hs' (fun W2 h2 => hL W2 (ht.trans h2)))
            rwa [show (if false = true then none else valP 70000 (m + 1) s) = ((itemsP (kidL (valP 70000 m)) 93 70000 () (signP 91 (skipP s)).1).map fun p => (Jv.mk 3 [] 0 [] p.1, skipP p.2.2)) by rw [valP.eq_def]; simp [hq, h1]]
      | false =>
        cases h2 : (signP 123 (signP 91 (skipP s)).1).2 with
        | true =>
          cases n with
          | zero =>
            have := jr_value_map_bad g W s _ b h (by simp) (.inr (by simp)) hq h1 h2
            rwa [show (if b then none else valP 70000 0 s) = none by rw [valP.eq_def]; simp only [hq, h1, h2, if_true, if_false, Bool.false_eq_true]; split <;> rfl]
          | succ m =>
            cases b with
            | true => exact jr_value_map_bad g W s _ true h (by constructor <;> omega) (.inl rfl) hq h1 h2
            | false =>
              have := jr_value_map g W s _ h hs (by constructor <;> omega) hq h1 h2 (valP 70000 m) (val_len 70000 m) (fun W' s' b' hs' ht hr => by
                rw [show (5 - ((m + 1 : Nat) : Int) + 1 : Int) = 5 - (m : Int) by omega] at hr ⊢
                exact jr_value m (by omega) g W' s' b' hr hs' (fun W2 h2 => hL W2 (ht.trans h2)))
              rwa [show (if false = true then none else valP 70000 (m + 1) s) = ((itemsP (kidM (valP 70000 m)) 125 70000 [] (signP 123 (signP 91 (skipP s)).1).1).map fun p => (Jv.mk 4 [] 0 p.2.1 p.1, skipP p.2.2)) by rw [valP.eq_def]; simp [hq, h1, h2]]
        | false =>
          have := jr_value_num g W s _ b h hs hL hq h1 h2
          rwa [show (if b then none else valP 70000 n s) = (if b then none else (numP (signP 123 (signP 91 (skipP s)).1).1).map fun p => (Jv.mk 2 [] p.1 [] [], skipP p.2)) by rw [valP.eq_def]; simp only [hq, h1, h2, if_true, if_false, Bool.false_eq_true]]

/-- What Read tells. -/
def readS (s : List UInt8) : Option Jv × Int := if 65536 < s.length then (none, 5) else match readP s with | some j => (some j, 0) | none => (none, 2)
def zeroV : Jv := .mk 0 [] 0 [] []
def ReadPost (s : List UInt8) (W : World) (e : Ending) (w' : World) : Prop :=
  ∃ x : J5, e = .returned (.tuple #[.agg #[.int .i64 x.kind, .string (S x.text), .int .i64 x.num, .slice x.nA x.nn x.nc, .slice x.kA x.kn x.kc], .int .i64 (readS s).2]) ∧ JAt w' (fun k => W.heap.size ≤ k) ((readS s).1.getD zeroV) x ∧ Below W.heap.size W w'
theorem js_Read_long (s : List UInt8) (W : World) (h : 65536 < s.length) (h2 : s.length ≤ 1000000) : Calls Tryd.prog 20 #[.string (S s)] W (ReadPost s W) := by
  have e : readS s = (none, 5) := by unfold readS; rw [if_pos h]
  have hb : (65536 : Int) < s.length := by omega
  have E := hid e
  clear e
  have HD := hid (show ReadPost s W (.returned (.tuple #[.agg #[.int .i64 0, .string (S []), .int .i64 0, .slice none 0 0, .slice none 0 0], .int .i64 5])) (W.alloc (.cells zeroJ.arr 40)) from ⟨⟨0, [], 0, none, 0, 0, none, 0, 0⟩, by rw [E.out], by rw [E.out]; exact leafJ _ _ 0 [] 0, (Below.refl _ _).alloc (Nat.le_refl _) _⟩)
  go_enter Tryd.func20, Tryd.ntmps20
  go_wp2
  refine bodyPost_ret (v := .tuple #[.agg #[.int .i64 0, .string (S []), .int .i64 0, .slice none 0 0, .slice none 0 0], .int .i64 5]) (by simp [results, Tryd.results20, go_sem]) rfl HD.out
theorem js_Read (s : List UInt8) (W : World) (hs : ¬ 65536 < s.length) (hL : ∀ W', Below W.heap.size W W' → LibW W') : Calls Tryd.prog 20 #[.string (S s)] W (ReadPost s W) := by
  have hb : ¬ (65536 : Int) < s.length := by omega
  have b1 : Below W.heap.size W ((W.alloc (.cells zeroJ.arr 40)).alloc (.cells (rC s 0 false) 87)) :=
    ((Below.refl _ _).alloc (Nat.le_refl _) _).alloc (by rw [alloc_size]; omega) _
  have R1 : Rd ((W.alloc (.cells zeroJ.arr 40)).alloc (.cells (rC s 0 false) 87)) (W.heap.size + 1) s 0 false := by
    have := Blk.new (W.alloc (.cells zeroJ.arr 40)) 87 (rC s 0 false)
    rwa [alloc_size] at this
  have Z1 := (Blk.new W 40 zeroJ.arr).alloc (.cells (rC s 0 false) 87)
  have V := hid (jr_value 5 (Nat.le_refl _) (W.heap.size + 1) _ s false R1 (by omega) (fun W' ht => hL W' (b1.trans (ht.below (fun k hk => by subst hk; omega) b1.size))))
  have HZ := hid Z1
  have B1 := hid b1
  have RS := hid (show readS s = match readP s with | some j => (some j, 0) | none => (none, 2) by unfold readS; rw [if_neg hs])
  clear hL hs R1 Z1 b1
  go_enter Tryd.func20, Tryd.ntmps20
  go_wp2_with fail
  refine V.out.mono ?_
  rintro e w2 ⟨x, j, q, rfl, r2, t2, j2, p2⟩
  have hB2 : Below W.heap.size W w2 := B1.out.trans (t2.below (fun k hk => by subst hk; omega) B1.out.size)
  have HZ2 : Blk w2 W.heap.size 40 zeroJ.arr := (t2.block _ HZ.out.lt (by omega)).trans HZ.out
  obtain ⟨d0, d1, d2, -, -, -⟩ := (RdTo.refl r2).b0
  have z0 := HZ2.cell 0
  have z1 := HZ2.cell 1
  have z2 := HZ2.cell 2
  have z3 := HZ2.cell 3
  have z4 := HZ2.cell 4
  have m0 := HZ2.frozen 0
  have m1 := HZ2.frozen 1
  have m2 := HZ2.frozen 2
  have m3 := HZ2.frozen 3
  have m4 := HZ2.frozen 4
  simp [zeroJ, J5.arr] at z0 z1 z2 z3 z4
  have hsz : W.heap.size < w2.heap.size := HZ2.lt
  have hsz2 : W.heap.size + 1 < w2.heap.size := r2.lt
  have HB2 := hid hB2
  have HJ := hid j2
  have HP := hid p2
  have HT := hid t2
  clear r2 t2 j2 p2 V HZ B1 HZ2 hB2
  obtain ⟨k0, k1, k2, k3, k4, k5, k6, k7, k8⟩ := x
  simp only [] at *
  have DONE := hid (fun (u0 u1 u2 u3 u4 : Value) (o : Obj) (y : J5) (hy : JAt w2 (fun k => W.heap.size < k) ((readS s).1.getD zeroV) y) => show ReadPost s W (.returned (.tuple #[.agg #[.int .i64 y.kind, .string (S y.text), .int .i64 y.num, .slice y.nA y.nn y.nc, .slice y.kA y.kn y.kc], .int .i64 (readS s).2])) ((((((w2.setCell ⟨W.heap.size, 0, none⟩ u0).setCell ⟨W.heap.size, 1, none⟩ u1).setCell ⟨W.heap.size, 2, none⟩ u2).setCell ⟨W.heap.size, 3, none⟩ u3).setCell ⟨W.heap.size, 4, none⟩ u4).alloc o) from by
    have hk : ∀ k, k ≠ W.heap.size → (((((w2.setCell ⟨W.heap.size, 0, none⟩ u0).setCell ⟨W.heap.size, 1, none⟩ u1).setCell ⟨W.heap.size, 2, none⟩ u2).setCell ⟨W.heap.size, 3, none⟩ u3).setCell ⟨W.heap.size, 4, none⟩ u4).heap[k]? = w2.heap[k]? := fun k hk => by
      rw [set_other _ _ _ _ k hk, set_other _ _ _ _ k hk, set_other _ _ _ _ k hk, set_other _ _ _ _ k hk, set_other _ _ _ _ k hk]
    have hs : (((((w2.setCell ⟨W.heap.size, 0, none⟩ u0).setCell ⟨W.heap.size, 1, none⟩ u1).setCell ⟨W.heap.size, 2, none⟩ u2).setCell ⟨W.heap.size, 3, none⟩ u3).setCell ⟨W.heap.size, 4, none⟩ u4).heap.size = w2.heap.size := by
      rw [set_size, set_size, set_size, set_size, set_size]
    have hb : Below W.heap.size W (((((w2.setCell ⟨W.heap.size, 0, none⟩ u0).setCell ⟨W.heap.size, 1, none⟩ u1).setCell ⟨W.heap.size, 2, none⟩ u2).setCell ⟨W.heap.size, 3, none⟩ u3).setCell ⟨W.heap.size, 4, none⟩ u4) :=
      ⟨HB2.out.os, HB2.out.tape, HB2.out.output, by rw [hs]; exact HB2.out.size, fun k hk1 => (hk k (by omega)).trans (HB2.out.block k hk1)⟩
    refine ⟨y, rfl, ?_, hb.alloc (by rw [hs]; omega) o⟩
    have h1 := hy.keep (w' := ((((w2.setCell ⟨W.heap.size, 0, none⟩ u0).setCell ⟨W.heap.size, 1, none⟩ u1).setCell ⟨W.heap.size, 2, none⟩ u2).setCell ⟨W.heap.size, 3, none⟩ u3).setCell ⟨W.heap.size, 4, none⟩ u4) (ok' := fun k => W.heap.size ≤ k) (fun k hk1 _ => hk k (by omega)) (by rw [hs]; exact Nat.le_refl _) (fun k hk1 _ => by omega)
    exact h1.belowW ((Below.refl _ _).alloc (Nat.le_refl _) o))
  cases hv : valP 70000 5 s with
  | none =>
    have hr : readS s = (none, 2) := by rw [RS.out]; unfold readP; rw [hv]
    rw [hv] at d2
    simp at d2
    have HD := DONE.out (.int .i64 0) (.string (S [])) (.int .i64 0) (.slice none 0 0) (.slice none 0 0) (.cells #[.int .i64 k0, .string (S k1), .int .i64 k2, .slice k3 k4 k5, .slice k6 k7 k8] 40) zeroJ (by rw [hr]; exact leafJ _ _ 0 [] 0)
    rw [hr] at HD
    have HDH := hid HD
    clear HD DONE RS HP HJ HB2 hr HT
    go_wp2
    refine bodyPost_ret (v := .tuple #[.agg #[.int .i64 0, .string (S []), .int .i64 0, .slice none 0 0, .slice none 0 0], .int .i64 2]) (by simp [results, Tryd.results20, go_sem, hsz, z0, z1, z2, z3, z4]) rfl HDH.out
  | some p =>
    have hp := HP.out p (by rw [← hv]; rfl)
    subst hp
    rw [hv] at d2
    simp at d2
    cases q with
    | nil =>
      have hr : readS s = (some j, 0) := by rw [RS.out]; unfold readP; rw [hv]
      have HD := DONE.out (.int .i64 k0) (.string (S k1)) (.int .i64 k2) (.slice k3 k4 k5) (.slice k6 k7 k8) (.cells #[.int .i64 k0, .string (S k1), .int .i64 k2, .slice k3 k4 k5, .slice k6 k7 k8] 40) ⟨k0, k1, k2, k3, k4, k5, k6, k7, k8⟩ (by rw [hr]; exact HJ.out.keep (fun _ _ _ => rfl) (Nat.le_refl _) (fun k hk _ => by simp [alloc_size] at hk; omega))
      rw [hr] at HD
      have HDH := hid HD
      clear HD DONE RS HP HJ HB2 hr HT
      go_wp2
      refine bodyPost_ret (v := .tuple #[.agg #[.int .i64 k0, .string (S k1), .int .i64 k2, .slice k3 k4 k5, .slice k6 k7 k8], .int .i64 0]) (by simp [results, Tryd.results20, go_sem, hsz, z0, z1, z2, z3, z4]) rfl HDH.out
    | cons c r =>
      have hr : readS s = (none, 2) := by rw [RS.out]; unfold readP; rw [hv]
      have HD := DONE.out (.int .i64 0) (.string (S [])) (.int .i64 0) (.slice none 0 0) (.slice none 0 0) (.cells #[.int .i64 k0, .string (S k1), .int .i64 k2, .slice k3 k4 k5, .slice k6 k7 k8] 40) zeroJ (by rw [hr]; exact leafJ _ _ 0 [] 0)
      rw [hr] at HD
      have HDH := hid HD
      have hne : (S (c :: r) == S []) = false := by rw [S_beq]; rfl
      have hne2 : (c :: r == []) = false := rfl
      have hne3 : ¬ c :: r = [] := by simp
      have hne4 : (c :: r).isEmpty = false := rfl
      clear HD DONE RS HP HJ HB2 hr HT
      generalize c :: r = cr at *
      go_wp2
      refine bodyPost_ret (v := .tuple #[.agg #[.int .i64 0, .string (S []), .int .i64 0, .slice none 0 0, .slice none 0 0], .int .i64 2]) (by simp [results, Tryd.results20, go_sem, hsz, z0, z1, z2, z3, z4]) rfl HDH.out
end Go.Proofs.YtbjimikppdfmgaaDoor
