/- Walks of package text: plain; of pantileref07: pair. -/
import Derived.Test.YtecekflooihkoaaDoorQW1
import Derived.Test.YtecekflooihkoaaDoorQMem
import Derived.Deep.RegionHeld3
import Derived.Deep.QuietTactic
import Derived.BigQuiet
set_option linter.unusedVariables false
set_option linter.unusedSimpArgs false
set_option maxHeartbeats 1600000
set_option maxRecDepth 100000
namespace Go.Proofs.YtecekflooihkoaaDoor
open Go.RowKit

def strLen : Value → Nat
  | .string b => b.size
  | _ => 0
def plainV (l : List UInt8) : List UInt8 := (plainO l).getD []
def plainB (l : List UInt8) : Bool := (plainO l).isSome
def PlainPost (v : List UInt8) (w : World) (e : Ending) (w' : World) : Prop := e = .returned (.tuple #[.string (S (plainV v)), .bool (plainB v)]) ∧ Below w.heap.size w w'
theorem plain_none {v : List UInt8} {w w' : World} (h : plainO v = none) (hb : Below w.heap.size w w') : PlainPost v w (.returned (.tuple #[.string (S []), .bool false])) w' := by
  unfold PlainPost plainV plainB
  rw [h]
  exact ⟨rfl, hb⟩
theorem plain_some {v o : List UInt8} {w w' : World} (h : plainO v = some o) (hb : Below w.heap.size w w') : PlainPost v w (.returned (.tuple #[.string (S o), .bool true])) w' := by
  unfold PlainPost plainV plainB
  rw [h]
  exact ⟨rfl, hb⟩
theorem map_snoc {v r os : List UInt8} {c : UInt8} {q : List UInt8} (h : plainO v = (plainO r).map (os ++ ·)) (hr : plainO r = (plainO q).map (c :: ·)) : plainO v = (plainO q).map ((os ++ [c]) ++ ·) := by
  rw [h, hr, Option.map_map]
  congr 1
  funext x
  simp

theorem nib_all : ∀ n : Nat, n < 16 → ∀ m : Nat, m < 16 → IntKind.u8.wrap (bits BinOp.or IntKind.i64 (IntKind.i64.wrap ((n : Int) * 16)) (m : Int)) = ((UInt8.ofNat (16 * (n : Int) + (m : Int)).toNat).toNat : Int) := by decide +kernel
theorem nib_or {x y : Int} (h0 : 0 ≤ x) (h1 : x ≤ 15) (g0 : 0 ≤ y) (g1 : y ≤ 15) : IntKind.u8.wrap (bits BinOp.or IntKind.i64 (IntKind.i64.wrap (x * 16)) y) = ((UInt8.ofNat (16 * x + y).toNat).toNat : Int) := by
  obtain ⟨n, rfl⟩ := Int.eq_ofNat_of_zero_le h0
  obtain ⟨m, rfl⟩ := Int.eq_ofNat_of_zero_le g0
  exact nib_all n (by omega) m (by omega)
theorem text_plain (v : List UInt8) (hv : v.length ≤ 1000000) (w : World) : Calls Tryd.prog 37 #[.string (S v)] w (PlainPost v w) := by
  go_enter Tryd.func37, Tryd.ntmps37
  go_wp2
  go_loopw [0, 4] (fun s o wr => ∃ (r os : List UInt8) (A : Option Addr) (c : Nat), s = .string (S r) ∧ o = .slice A os.length c ∧ os.length + r.length ≤ 1000000 ∧ Hid (plainO v = (plainO r).map (os ++ ·)) ∧ Hid (wr.ownsRow w.heap.size 5 1 (.slice A os.length c) os.length (os.map B8)) ∧ Hid (Below w.heap.size w wr)) (fun s _ _ => strLen s)
  case atStart => exact ⟨v, [], none, 0, rfl, rfl, by simpa using hv, by unfold Hid; simp, World.ownsRow_nil _ _ _ _, Below.refl _ _⟩
  case round =>
    obtain ⟨r, os, A, c, rfl, rfl, hl, hm, hrow, hb⟩ := hrel
    cases r with
    | nil =>
      have hs := run_string_row wr hrow.out
      have HF := hid (plain_some (w := w) (w' := wr) (show plainO v = some os by rw [hm.out]; simp [plainO]) hb.out)
      go_wp2
      go_ret2
      exact HF.out
    | cons x q =>
      simp only [List.length_cons] at hl
      by_cases hx : x = 37
      · subst hx
        by_cases hq : q.length < 2
        · have HF := hid (plain_none (v := v) (w := w) (w' := wr) (by rw [hm.out, plainO_short hq]; rfl) hb.out)
          have hq1 : (q.length : Int) + 1 < 3 := by omega
          clear hq
          go_wp2
          go_ret2
          exact HF.out
        · obtain ⟨a, b, q, rfl⟩ : ∃ a b t, q = a :: b :: t := by
            match q with
            | [] => simp at hq
            | [a] => simp at hq
            | a :: b :: t => exact ⟨a, b, t, rfl⟩
          clear hq
          simp only [List.length_cons] at hl
          have na := nibI_le a
          have nb := nibI_le b
          by_cases ha : nibI a < 0
          · have HF := hid (plain_none (v := v) (w := w) (w' := wr) (by rw [hm.out, plainO_bad (.inl ha)]; rfl) hb.out)
            go_wp2_with fail
            refine (text_nibble a _).mono ?_
            rintro e w' ⟨rfl, rfl⟩
            go_wp2
            go_ret2
            exact HF.out
          · have ha' : 0 ≤ nibI a := by omega
            by_cases hb' : nibI b < 0
            · have HF := hid (plain_none (v := v) (w := w) (w' := wr) (by rw [hm.out, plainO_bad (.inr hb')]; rfl) hb.out)
              clear ha
              go_wp2_with fail
              refine (text_nibble a _).mono ?_
              rintro e w' ⟨rfl, rfl⟩
              go_wp2_with fail
              refine (text_nibble b _).mono ?_
              rintro e w' ⟨rfl, rfl⟩
              go_wp2
              go_ret2
              exact HF.out
            · have hb2 : 0 ≤ nibI b := by omega
              have hq3 : (3 : Int) ≤ (q.length : Int) + 1 + 1 + 1 := by omega
              obtain ⟨A', c', w', hrun0, hrow1, hb1⟩ := append_byte wr.drew (UInt8.ofNat (16 * nibI a + nibI b).toNat) (A := A) (c := c) (os := os) (row_drew hrow.out 1) (by omega) hb.out.size
              rw [← nib_or ha' na.2 hb2 nb.2] at hrun0
              have hrun : (Builtin.append_ #[63, 63] 63 #[.slice A os.length c, .slice (some ⟨wr.heap.size, 0, none⟩) 1 1]).run Tryd.prog ((wr.alloc (.cells #[.int .u8 (IntKind.u8.wrap (bits BinOp.or IntKind.i64 (IntKind.i64.wrap (nibI a * 16)) (nibI b)))] 5)).drew) = .ok (.slice A' (os.length + 1) c') w' := hrun0
              clear hrun0
              have HM := hid (map_snoc hm.out (plainO_sign (q := q) ha' hb2))
              have HR := hid hrow1
              have HB := hid (hb.out.trans (below_from (n := 1) hb1))
              clear ha hb' hrow1 hb1 hm hrow hb
              go_wp2_with fail
              refine (text_nibble a _).mono ?_
              rintro e w' ⟨rfl, rfl⟩
              go_wp2_with fail
              refine (text_nibble b _).mono ?_
              rintro e w' ⟨rfl, rfl⟩
              go_wp2
              go_region_held3 (fun _ => True) (trivial) (first | (go_at_call 80; refine (text_nibble _ _).mono ?_; rintro e w' ⟨rfl, rfl⟩) | (refine step_append_run rfl _ _ _ (by rfl) _ _ _ _ (by rfl) (by rfl) hrun ?_))
              all_goals
                go_wp2
                go_roundw
                case rel => exact ⟨q, os ++ [UInt8.ofNat (16 * nibI a + nibI b).toNat], A', c', rfl, by simp, by simp; omega, HM, HR, HB⟩
                case measure => simp [strLen, S_size]; omega
      · have hx1 : ((x.toNat : Int) != 37) = true := by
          rw [bne_iff_ne]
          intro e
          apply hx
          have : x.toNat = 37 := by omega
          exact UInt8.toNat_inj.1 this
        obtain ⟨A', c', w', hrun0, hrow1, hb1⟩ := append_byte wr.drew x (A := A) (c := c) (os := os) (row_drew hrow.out 1) (by omega) hb.out.size
        have hrun : (Builtin.append_ #[63, 63] 63 #[.slice A os.length c, .slice (some ⟨wr.heap.size, 0, none⟩) 1 1]).run Tryd.prog ((wr.alloc (.cells #[.int .u8 x.toNat] 5)).drew) = .ok (.slice A' (os.length + 1) c') w' := hrun0
        clear hrun0
        have hq1 : (1 : Int) ≤ (q.length : Int) + 1 := by omega
        have HM := hid (map_snoc hm.out (plainO_cons (r := q) (by simpa using hx)))
        have HR := hid hrow1
        have HB := hid (hb.out.trans (below_from (n := 1) hb1))
        clear hrow1 hb1 hm hrow hb
        go_wp2
        go_region_held3 (fun _ => True) (trivial) (first | (refine step_append_run rfl _ _ _ (by rfl) _ _ _ _ (by rfl) (by rfl) hrun ?_))
        all_goals
          go_wp2
          go_roundw
          case rel => exact ⟨q, os ++ [x], A', c', rfl, by simp, by simp; omega, HM, HR, HB⟩
          case measure => simp [strLen, S_size]
end Go.Proofs.YtecekflooihkoaaDoor
