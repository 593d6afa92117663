/-
  A store that is read; walks of legacy's number and Find.
-/
import Derived.Test.YtiabfngiibabcaaGreatDoorLg2
import Derived.Test.YtiabfngiibabcaaGreatDoorNd2
set_option linter.unusedVariables false
set_option linter.unusedSimpArgs false
set_option maxHeartbeats 6400000
set_option maxRecDepth 100000
namespace Go.Proofs.YtiabfngiibabcaaGreatDoor
open Go.RowKit

/-- A store that is read: what it holds. -/
def RdS (W : World) (sb : Nat) (m : KM) : Prop := ∃ g name mb dead, Blk W sb 140 (storeCells g name mb dead) ∧ OwnS Tryz.prog 9 W mb m
theorem St.rd {W : World} {g N sb mb : Nat} {d : Dr} {name : Key} {m : KM} {Z : Nat → Prop} (h : St W g d N name sb mb m Z) : RdS W sb m := ⟨g, name, mb, false, h.blk, h.map⟩
theorem RdS.below {W W' : World} {sb : Nat} {m : KM} (h : RdS W sb m) (hb : Below W.heap.size W W') : RdS W' sb m := by
  obtain ⟨g, name, mb, dead, h1, h2⟩ := h
  exact ⟨g, name, mb, dead, h1.below hb h1.lt, h2.kept (hb.block mb h2.lt)⟩
theorem RdS.get {W : World} {sb : Nat} {m : KM} (h : RdS W sb m) (key : Key) (hl : key.length ≤ 1000000) :
    Calls Tryz.prog 49 #[.pointer (some ⟨sb, 0, none⟩), .string (S key)] W fun e w' => e = .returned (.tuple #[.string (S ((kget m key).getD [])), .bool (kget m key).isSome]) ∧ w' = W := by
  obtain ⟨g, name, mb, dead, h1, h2⟩ := h
  obtain ⟨s0, s1, s2, s3⟩ := store4 h1
  have hz : ∀ w : World, (zeroValue 9).run Tryz.prog w = .ok (.string (S [])) w := fun w => by kernel_rfl
  have hlk := h2.look2 (t := 138) (e := 9) (by kernel_rfl) (by kernel_rfl) (hz W) key hl
  generalize (kget m key).getD [] = v at *
  generalize (kget m key).isSome = b at *
  clear h1 h2
  go_enter Tryz.func49, Tryz.ntmps49
  go_wp2
  go_ret2
  exact ⟨rfl, rfl⟩
theorem lg_Atoi_none (w : World) (hL : LibL w) : Calls Tryz.prog 37 #[.string (S [])] w fun e w' => ∃ t v, e = .returned (.tuple #[.int .i64 0, .iface t v]) ∧ Below w.heap.size w w' := by
  obtain ⟨tp, p, hv⟩ := hL.syn
  refine (Any.strconv_Atoi_syntax_var layAtoi (S []) (by rw [S_size]; simp) (by rfl) tp p w hv).mono ?_
  rintro e w' ⟨N, rfl, -, -, hb⟩
  exact ⟨_, _, rfl, hb⟩
theorem legacy_number {W : World} {lb sb : Nat} {m : KM} (hc : W.cell? ⟨lb, 0, none⟩ = some (.pointer (some ⟨sb, 0, none⟩))) (hr : RdS W sb m) (key : Key) (hl : key.length ≤ 1000000) (o : Option Nat) (ho : kget m key = o.map numK) (hn : ∀ j, o = some j → j < 10000000) (hL : LibL W) :
    Calls Tryz.prog 166 #[.pointer (some ⟨lb, 0, none⟩), .string (S key)] W fun e w' => e = .returned (.tuple #[.int .i64 ((o.getD 0 : Nat) : Int), .bool o.isSome]) ∧ Below W.heap.size W w' := by
  have GT := hr.get key hl
  rw [ho] at GT
  cases o with
  | none =>
    have HG := hid GT
    have AT := hid (lg_Atoi_none W hL)
    clear GT
    simp only [Option.map_none, Option.getD_none, Option.isSome_none] at *
    go_enter Tryz.func166, Tryz.ntmps166
    go_wp2_with (first
      | (go_at_call 49; refine HG.out.mono ?_; rintro e w2 ⟨rfl, rfl⟩)
      | (go_at_call 37; refine AT.out.mono ?_; rintro e w3 ⟨t, v, rfl, hb3⟩; have HB3 := hid hb3; clear hb3))
    go_ret2
    exact ⟨rfl, HB3.out⟩
  | some j =>
    have hj := hn j rfl
    have HG := hid GT
    have AT := hid (lg_Atoi (numK j) j (atoi_numK (by omega)) (by rw [numK_len hj]; omega) W)
    clear GT
    simp only [Option.map_some, Option.getD_some, Option.isSome_some] at *
    generalize numK j = nj at *
    go_enter Tryz.func166, Tryz.ntmps166
    go_wp2_with (first
      | (go_at_call 49; refine HG.out.mono ?_; rintro e w2 ⟨rfl, rfl⟩)
      | (go_at_call 37; refine AT.out.mono ?_; rintro e w3 ⟨rfl, hb3⟩; have HB3 := hid hb3; clear hb3))
    go_ret2
    exact ⟨rfl, HB3.out⟩
theorem legacy_Find {W : World} {lb sb : Nat} {m : KM} (hc : W.cell? ⟨lb, 0, none⟩ = some (.pointer (some ⟨sb, 0, none⟩))) (hlb : lb < W.heap.size) (hr : RdS W sb m) (h : List UInt8) (hl : h.length ≤ 5000) (o : Option Nat) (ho : kget m (iK h) = o.map numK) (hn : ∀ j, o = some j → j < 10000000) (hL : LibL W) :
    Calls Tryz.prog 107 #[.pointer (some ⟨lb, 0, none⟩), .string (S h)] W fun e w' => e = .returned (.tuple #[.int .i64 ((o.getD 0 : Nat) : Int), .bool o.isSome]) ∧ Below W.heap.size W w' := by
  have HA := hid (nodes_Hash h hl W)
  have hk : (iK h).length ≤ 1000000 := by unfold iK; rw [List.length_append, hexB_len]; simp; omega
  have NB := hid (fun (w' : World) (hb : Below W.heap.size W w') => legacy_number ((hb.cell (p := ⟨lb, 0, none⟩) hlb).trans hc) (hr.below hb) (iK h) hk o ho hn (hL.below hb))
  generalize iK h = ik at *
  go_enter Tryz.func107, Tryz.ntmps107
  go_wp2_with (first
    | (go_at_call 108; refine HA.out.mono ?_; rintro e w2 ⟨rfl, hb2⟩; have HB2 := hid hb2; have NB2 := hid (NB.out _ hb2); clear hb2)
    | (go_at_call 166; refine NB2.out.mono ?_; rintro e w3 ⟨rfl, hb3⟩; have HB3 := hid (bt HB2.out hb3); clear hb3))
  go_ret2
  exact ⟨rfl, HB3.out⟩
end Go.Proofs.YtiabfngiibabcaaGreatDoor
