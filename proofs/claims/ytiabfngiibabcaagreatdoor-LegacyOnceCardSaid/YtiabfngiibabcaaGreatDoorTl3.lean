/-
  Walks of package tls: body, Leaf.
-/
import Derived.Test.YtiabfngiibabcaaGreatDoorM15
import Derived.Test.YtiabfngiibabcaaGreatDoorM17
import Derived.Deep.RegionHeld3
set_option linter.unusedVariables false
set_option linter.unusedSimpArgs false
set_option maxHeartbeats 12800000
set_option maxRecDepth 100000
namespace Go.Proofs.YtiabfngiibabcaaGreatDoor
open Go.RowKit

/-- While a leaf's bytes are made: the row of bytes, the leaf's box, and boxes of one number. -/
structure TB (w0 : World) (base bx : Nat) (t : Int) (ce : List UInt8) (v : Value) (m : Nat) (xs : List UInt8) (X : List (Nat × Int)) (W : World) : Prop where
  row : W.ownsRow base 5 1 v m (xs.map B8)
  box : Blk W bx 30 #[.int .i64 t, .string (S ce)]
  num : ∀ p ∈ X, Blk W p.1 3 #[.int .i64 p.2]
  bel : Below base w0 W
  siz : base ≤ W.heap.size
section
variable {w0 W : World} {base bx m : Nat} {t : Int} {ce xs : List UInt8} {v : Value} {X : List (Nat × Int)}
theorem TB.alloc (h : TB w0 base bx t ce v m xs X W) (n : Int) : TB w0 base bx t ce v m xs ((W.heap.size, n) :: X) (W.alloc (.cells #[.int .i64 n] 3)) :=
  ⟨row_alloc h.row _, h.box.alloc _, fun p hp => by
    rcases List.mem_cons.1 hp with rfl | hp
    · exact Blk.new _ _ _
    · exact (h.num p hp).alloc _, h.bel.alloc h.siz _, by have := h.siz; simp; omega⟩
theorem TB.drew (h : TB w0 base bx t ce v m xs X W) : TB w0 base bx t ce v m xs X W.drew := ⟨row_drew1 h.row, h.box, h.num, below_drewN h.bel 1, h.siz⟩
theorem TB.put {A : Option Addr} {c : Nat} (h : TB w0 base bx t ce (.slice A m c) m xs X W) (k n width : Nat) (hk : (k, (n : Int)) ∈ X) (hm : m ≤ 900000) (hn : n ≤ 2000000000000000) (hw : width ≤ 8) :
    Calls Tryz.prog 161 #[.slice A m c, .int .i64 width, .slice (some ⟨k, 0, none⟩) 1 1] W fun e w' => ∃ A' c', e = .returned (.slice A' (m + width) c') ∧ TB w0 base bx t ce (.slice A' (m + width) c') (m + width) (xs ++ hiB n width) X w' := by
  refine (tls_put W base A m c xs h.row h.siz hm k n width (h.num _ hk) hn hw).mono ?_
  rintro e w' ⟨A', c', rfl, hr, ht⟩
  refine ⟨A', c', rfl, hr, box_keep ht h.row h.box (by decide), fun p hp => box_keep ht h.row (h.num p hp) (by decide), h.bel.trans (ht.below (fun k hk => row_base_le h.row hk) h.siz), Nat.le_trans h.siz ht.size⟩
theorem TB.put8 {A : Option Addr} {c : Nat} (h : TB w0 base bx t ce (.slice A m c) m xs X W) (k n : Nat) (hk : (k, (n : Int)) ∈ X) (hm : m ≤ 900000) (hn : n ≤ 2000000000000000) :
    Calls Tryz.prog 161 #[.slice A m c, .int .i64 8, .slice (some ⟨k, 0, none⟩) 1 1] W fun e w' => ∃ A' c', e = .returned (.slice A' (m + 8) c') ∧ TB w0 base bx t ce (.slice A' (m + 8) c') (m + 8) (xs ++ hiB n 8) X w' := h.put k n 8 hk hm hn (by omega)
theorem TB.put2 {A : Option Addr} {c : Nat} (h : TB w0 base bx t ce (.slice A m c) m xs X W) (k n : Nat) (hk : (k, (n : Int)) ∈ X) (hm : m ≤ 900000) (hn : n ≤ 2000000000000000) :
    Calls Tryz.prog 161 #[.slice A m c, .int .i64 2, .slice (some ⟨k, 0, none⟩) 1 1] W fun e w' => ∃ A' c', e = .returned (.slice A' (m + 2) c') ∧ TB w0 base bx t ce (.slice A' (m + 2) c') (m + 2) (xs ++ hiB n 2) X w' := h.put k n 2 hk hm hn (by omega)
theorem TB.put3 {A : Option Addr} {c : Nat} (h : TB w0 base bx t ce (.slice A m c) m xs X W) (k n : Nat) (hk : (k, (n : Int)) ∈ X) (hm : m ≤ 900000) (hn : n ≤ 2000000000000000) :
    Calls Tryz.prog 161 #[.slice A m c, .int .i64 3, .slice (some ⟨k, 0, none⟩) 1 1] W fun e w' => ∃ A' c', e = .returned (.slice A' (m + 3) c') ∧ TB w0 base bx t ce (.slice A' (m + 3) c') (m + 3) (xs ++ hiB n 3) X w' := h.put k n 3 hk hm hn (by omega)
theorem TB.box2 (h : TB w0 base bx t ce v m xs X W) : W.cell? ⟨bx, 0, none⟩ = some (.int .i64 t) ∧ W.cell? ⟨bx, 1, none⟩ = some (.string (S ce)) := ⟨h.box.cell 0, h.box.cell 1⟩
end
theorem tls_body (w : World) (base : Nat) (A : Option Addr) (m c : Nat) (xs : List UInt8) (tn : Nat) (ce : List UInt8) (hown : w.ownsRow base 5 1 (.slice A m c) m (xs.map B8)) (hbase : base ≤ w.heap.size) (hm : m ≤ 1000) (ht : tn ≤ 1125899906842624) (hc : ce.length ≤ 10000) :
    Calls Tryz.prog 96 #[.slice A m c, leafV ⟨tn, ce⟩] w fun e w' => ∃ A' c', e = .returned (.slice A' (m + 15 + ce.length) c') ∧ w'.ownsRow base 5 1 (.slice A' (m + 15 + ce.length) c') (m + 15 + ce.length) ((xs ++ (hiB tn 8 ++ (hiB 0 2 ++ (hiB ce.length 3 ++ (ce ++ hiB 0 2))))).map B8) ∧ Below base w w' := by
  have T0 : TB w base w.heap.size tn ce (.slice A m c) m xs [] (w.alloc (.cells #[.int .i64 tn, .string (S ce)] 30)) :=
    ⟨row_alloc hown _, Blk.new _ _ _, fun p hp => by simp at hp, (Below.refl _ _).alloc hbase _, by simp; omega⟩
  obtain ⟨z0, z1⟩ := T0.box2
  have HT0 := hid T0
  clear T0 hown
  have hlt : w.heap.size < (w.alloc (.cells #[.int .i64 tn, .string (S ce)] 30)).heap.size := by simp
  unfold leafV
  go_enter Tryz.func96, Tryz.ntmps96
  go_wp2
  have T0 := HT0.out
  go_region_held3 (fun w' => w'.cell? ⟨w.heap.size, 0, none⟩ = some (.int .i64 tn) ∧ w'.cell? ⟨w.heap.size, 1, none⟩ = some (.string (S ce))) (simp [*, go_sem, World.cell?_alloc_past]) (first
    | (go_at_call 161; (first
      | (with_reducible refine (TB.put8 (w0 := w) (base := base) (bx := w.heap.size) (t := tn) (ce := ce) (by repeat (first | assumption | apply TB.alloc | apply TB.drew)) _ tn (by simp) (by omega) (by omega)).mono ?_)
      | (with_reducible refine (TB.put2 (w0 := w) (base := base) (bx := w.heap.size) (t := tn) (ce := ce) (by repeat (first | assumption | apply TB.alloc | apply TB.drew)) _ 0 (by simp) (by omega) (by omega)).mono ?_)
      | (with_reducible refine (TB.put3 (w0 := w) (base := base) (bx := w.heap.size) (t := tn) (ce := ce) (by repeat (first | assumption | apply TB.alloc | apply TB.drew)) _ ce.length (by simp) (by omega) (by omega)).mono ?_)); rintro e w' ⟨A9, c9, rfl, hT9⟩; obtain ⟨y0, y1⟩ := hT9.box2; have hz9 := hT9.box.lt))
  all_goals
    obtain ⟨A4, c4, w4, hrun4, hr4, hg4⟩ := append_text w' ce hT9.row hT9.siz (by omega) 85
    have hB4 := grown_keep hg4 hT9.row hT9.box (by decide)
    have hb4 := Below.grown hT9.bel hg4 hT9.siz fun k hk => row_base_le hT9.row hk
    have T4 : TB w base w.heap.size tn ce (.slice A4 (m + 8 + 2 + 3 + ce.length) c4) (m + 8 + 2 + 3 + ce.length) (xs ++ hiB tn 8 ++ hiB 0 2 ++ hiB ce.length 3 ++ ce) [] w4 := ⟨hr4, hB4, fun p hp => by simp at hp, hb4, Nat.le_trans hT9.siz hg4.size⟩
    have P4 := hid (TB.put2 (T4.alloc 0) w4.heap.size 0 (by simp) (by omega) (by omega))
    clear T4 hb4 hB4 hr4 hg4
    have HT9 := hid hT9
    clear hT9
    go_wp2_with (first
      | (at_builtin; refine wpList_append_runU rfl _ _ _ _ (by rfl) _ _ _ _ (by rfl) (by rfl) hrun4 ?_)
      | (go_at_call 161; refine P4.out.mono ?_; rintro e w5 ⟨A5, c5, rfl, hT5⟩))
    have HT5 := hid hT5
    clear hT5
    go_ret
    have e1 : m + 8 + 2 + 3 + ce.length + 2 = m + 15 + ce.length := by omega
    have hrow := HT5.out.row
    rw [e1] at hrow
    exact ⟨A5, c5, by rw [e1]; rfl, by simpa only [List.append_assoc] using hrow, HT5.out.bel⟩
end Go.Proofs.YtiabfngiibabcaaGreatDoor
