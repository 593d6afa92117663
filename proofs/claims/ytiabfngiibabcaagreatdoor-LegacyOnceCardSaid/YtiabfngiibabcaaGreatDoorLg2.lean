/-
  Walk of (*legacy.Log).each.
-/
import Derived.Test.YtiabfngiibabcaaGreatDoorM15
import Derived.Test.YtiabfngiibabcaaGreatDoorM14
import Derived.Test.YtiabfngiibabcaaGreatDoorM12
set_option linter.unusedVariables false
set_option linter.unusedSimpArgs false
set_option maxHeartbeats 6400000
set_option maxRecDepth 100000
namespace Go.Proofs.YtiabfngiibabcaaGreatDoor
open Go.RowKit

/-- What stands at a key: the key, its number, the value. -/
structure Ent where
  key : Key
  num : Nat
  val : List UInt8
theorem legacy_each (W : World) (lb sb : Nat) (pre : List UInt8) (es : List Ent) (F : FuncId) (caps : Array Value) (I : Nat → (Nat → Prop) → World → Prop) (fp0 : Nat → Prop)
    (hen : ∀ args w, (callFunc F args).run Tryz.prog w = .ok (.enter F args) w)
    (hc0 : W.cell? ⟨lb, 0, none⟩ = some (.pointer (some ⟨sb, 0, none⟩)))
    (hK : Calls Tryz.prog 29 #[.pointer (some ⟨sb, 0, none⟩), .string (S pre)] W fun e w' => ∃ v, e = .returned v ∧ w'.ownsRow W.heap.size 9 1 v es.length (es.map fun x => Value.string (S x.key)) ∧ Below W.heap.size W w')
    (h0 : ∀ w', Below W.heap.size W w' → I 0 fp0 w') (hfp : ∀ k, fp0 k → k < W.heap.size)
    (hcell : ∀ i fp Wx, I i fp Wx → Wx.cell? ⟨lb, 0, none⟩ = some (.pointer (some ⟨sb, 0, none⟩)))
    (hget : ∀ i fp Wx, (h : i < es.length) → I i fp Wx → Calls Tryz.prog 49 #[.pointer (some ⟨sb, 0, none⟩), .string (S es[i].key)] Wx fun e w' => e = .returned (.tuple #[.string (S es[i].val), .bool true]) ∧ w' = Wx)
    (hkey : ∀ i, (h : i < es.length) → ∃ r, es[i].key = pre ++ r ∧ Lib.atoiAll r = .ok es[i].num ∧ r.length ≤ 100000)
    (hmono : ∀ i fp Wx Wy, I i fp Wx → Below Wx.heap.size Wx Wy → I i fp Wy)
    (hdoes : ∀ i fp Wx, (h : i < es.length) → I i fp Wx → Calls Tryz.prog F (#[.int .i64 es[i].num, .string (S es[i].val)] ++ caps) Wx fun e w' => e = .returned (.bool true) ∧ ∃ fp', I (i + 1) fp' w' ∧ Touch Wx w' fp fp') (hl : es.length ≤ 1000000) :
    Calls Tryz.prog 30 #[.pointer (some ⟨lb, 0, none⟩), .string (S pre), .func (.func F) #[] caps] W fun e w' => e = .returned (.bool true) ∧ ∃ fp', I es.length fp' w' ∧ Touch W w' fp0 fp' := by
  have HK := hid hK
  have HG := hid hget
  have HKY := hid hkey
  have HM := hid hmono
  have HD := hid hdoes
  have HC := hid hcell
  have H0 := hid h0
  clear hK hget hkey hmono hdoes hcell h0
  go_enter Tryz.func30, Tryz.ntmps30
  go_wp2_with fail
  refine HK.out.mono ?_
  rintro e w1 ⟨v, rfl, hr1, hb1⟩
  obtain ⟨A1, c1, rfl⟩ := row_form hr1
  have HS := hid (strs_rowG (n := es.length) (c := c1) (A := A1) (base := W.heap.size) (w := w1) (K := es.map (·.key)) (by simp) (by rw [List.map_map]; exact hr1))
  have HI1 := hid (H0.out w1 hb1)
  have HB1 := hid hb1
  have HR1 := hid hr1
  have HT0 := hid (show Touch w1 w1 fp0 fp0 from Touch.refl _ _)
  have hz1 := hb1.size
  clear hr1 hb1 HK
  go_wp2
  go_loopw [8, 9, 10, 11, 12, 21] (fun _ _ _ _ _ i wr => ∃ (k : Nat) (fp : Nat → Prop), k ≤ es.length ∧ i = .int .i64 k ∧ Hid (I k fp wr) ∧ Hid (Touch w1 wr fp0 fp)) (fun _ _ _ _ _ i _ => es.length - (intOf i).toNat)
  case atStart => exact ⟨0, fp0, Nat.zero_le _, rfl, HI1, HT0⟩
  case round =>
    obtain ⟨k, fp, hk, rfl, hI, hT⟩ := hrel
    by_cases hlt : k < es.length
    · have hkk : (es.map (·.key))[k]? = some es[k].key := by simp [hlt]
      obtain ⟨b, rfl, hbl, ck⟩ := HS.out k _ hkk
      have hbb : W.heap.size ≤ b := row_base_le HR1.out rfl
      have ck' : wr.cell? ⟨b, k, none⟩ = some (.string (S es[k].key)) := (World.cell?_of_block (a := ⟨b, k, none⟩) (hT.out.block b hbl (fun h => by have := hfp b h; omega))).trans ck
      have hc := HC.out k fp wr hI.out
      have GT := hid (HG.out k fp wr hlt hI.out)
      obtain ⟨r, hr1, hr2, hr3⟩ := HKY.out k hlt
      have TP := hid (fun w' => lg_TrimPrefix pre r w')
      have AT := hid (fun w' => lg_Atoi r es[k].num hr2 hr3 w')
      have DO := hid (fun Wx hx => HD.out k fp Wx hlt hx)
      rw [← hr1] at TP
      clear hr1 hr2 hr3 hkk ck
      generalize es[k].key = key at *
      generalize es[k].val = val at *
      generalize es[k].num = num at *
      go_wp2_with (first
        | (go_at_call 49; refine GT.out.mono ?_; rintro e w2 ⟨rfl, rfl⟩)
        | (go_at_call 87; refine (TP.out _).mono ?_; rintro e w3 ⟨rfl, rfl⟩)
        | (go_at_call 37; refine (AT.out _).mono ?_; rintro e w4 ⟨rfl, hb4⟩; have HB4 := hid hb4; have DO4 := hid (DO.out w4 (HM.out _ _ _ _ hI.out hb4)); clear hb4))
      refine DO4.out.mono ?_
      rintro e w5 ⟨rfl, fp', hI5, hT5⟩
      have HI5 := hid hI5
      have HT5 := hid (hT.out.trans ((Touch.of_below HB4.out fp).trans hT5))
      clear hI5 hT5 DO4 GT hI hT
      go_wp2
      go_roundw
      case rel => exact ⟨k + 1, fp', by omega, by go_num, HI5, HT5⟩
      case measure => simp [intOf]; omega
    · have hk' : k = es.length := by omega
      subst hk'
      have HF := hid (show ∃ fp', I es.length fp' wr ∧ Touch W wr fp0 fp' from ⟨fp, hI.out, (Touch.of_below HB1.out fp0).trans hT.out⟩)
      clear hI hT
      go_wp2
      go_ret
      exact ⟨rfl, HF.out⟩
end Go.Proofs.YtiabfngiibabcaaGreatDoor
