/- Walks of package kv: Get, whole, ended. -/
import Derived.Test.YtbjimikppdfmgaaGreatDoorKvK2
import Derived.Test.YtbjimikppdfmgaaGreatDoorKvMem
import Derived.Test.YtbjimikppdfmgaaGreatDoorKv9
import Derived.Test.YtbjimikppdfmgaaGreatDoorKv10
import Derived.Maps.OwnSet
set_option linter.unusedVariables false
set_option linter.unusedSimpArgs false
set_option maxHeartbeats 6400000
set_option maxRecDepth 100000
namespace Go.Proofs.YtbjimikppdfmgaaGreatDoor
open Go.RowKit Go.WideMaps Go.ChangeMaps Go.Maps

theorem has_mapS (m : KMap) (k : Key) : Maps.has (mapS m) (.string k) = (kget m k).isSome := by
  simp only [Maps.has, mapS, kget, List.any_map, Function.comp_def, Lit.sameKey, Option.isSome_map]
  induction m with
  | nil => rfl
  | cons p r ih =>
    rw [List.any_cons, List.find?_cons]
    cases p.1 == k with
    | true => rfl
    | false => simpa using ih
theorem OwnS.look2 {P : Program} {k t e : TypeId} {w : World} {b : Nat} {m : KMap} (h : OwnS P k w b m) (hk : P.underlying k = some .string) (ht : P.underlying t = some (.map k e)) (hz : (zeroValue e).run P w = .ok (.string (S [])) w) (key : Key) (hl : key.length ≤ 1000000) :
    (Instr.lookup t (.map (some b)) (.string (S key)) true).run P w = .ok (.tuple #[.string (S ((kget m key).getD [])), .bool (kget m key).isSome]) w := by
  obtain ⟨v, ps, hrun, hv⟩ := World.ownsMap.look_ok h (Maps.string_keyed hk) ht hz (zd := .lit (.string [])) (zp := []) (Rs_str []) (key_of hk key hl)
  rw [mapS_at] at hv
  rw [hrun, has_mapS]
  congr 1
  obtain ⟨l, rfl, hd⟩ := Rs_inv hv
  simp only [DataW.lit.injEq, Lit.string.injEq] at hd
  rw [hd]
section
variable {w0 : Fr} {W : World} {g N mb sb : Nat} {d : Dr} {X : List Xc} {m : KM} {name : Key} {dead : Bool}
theorem kv_Get (h : MW w0 g d N X mb m W) (hs : (sb, 52, storeCells g name mb dead) ∈ X) (key : Key) (hl : key.length ≤ 1000000) :
    Calls Tryz.prog 11 #[.pointer (some ⟨sb, 0, none⟩), .string (S key)] W fun e w' => e = .returned (.tuple #[.string (S ((kget m key).getD [])), .bool (kget m key).isSome]) ∧ w' = W := by
  obtain ⟨s0, s1, s2, s3⟩ := store4 (h.blk hs)
  have hz : ∀ w : World, (zeroValue 9).run Tryz.prog w = .ok (.string (S [])) w := fun w => by kernel_rfl
  have hlk := h.map.look2 (t := 50) (e := 9) (by kernel_rfl) (by kernel_rfl) (hz W) key hl
  generalize (kget m key).getD [] = v at *
  generalize (kget m key).isSome = b at *
  clear h
  go_enter Tryz.func11, Tryz.ntmps11
  go_wp2
  go_ret2
  exact ⟨rfl, rfl⟩
theorem kv_ended (h : MW w0 g d N ((sb, 52, storeCells g name mb false) :: X) mb m W) (x : Int) (hx : x ≠ 13) (hfr : w0.free sb) (hne : ∀ y ∈ X, y.1 ≠ sb) :
    Calls Tryz.prog 31 #[.pointer (some ⟨sb, 0, none⟩), .int .i64 x] W fun e w' => e = .returned (.int .i64 x) ∧ MW w0 g d N ((sb, 52, storeCells g name mb false) :: X) mb m w' := by
  have hb := h.blk (x := (sb, 52, storeCells g name mb false)) (by simp)
  obtain ⟨s0, s1, s2, s3⟩ := store4 hb
  have f3 := hb.frozen 3
  have k0 : (x == 13) = false := beq_eq_false_iff_ne.2 hx
  have HM := hid h
  clear h hb
  go_enter Tryz.func31, Tryz.ntmps31
  go_wp2
  go_ret
  have := HM.out.set_head hfr hne 3 (.bool false)
  exact ⟨rfl, by simpa [storeCells] using this⟩
theorem whole_step (m : KM) (k : Nat) (hk : k < m.length) (hr : Rising m) : (⟨m[k].1, (kget m m[k].1).getD [], false⟩ : Wr) = wOf m[k] := by
  have : kget m m[k].1 = some m[k].2 := kget_of_mem hr (List.getElem_mem hk)
  rw [this]
  rfl
theorem preK_all (m : KM) : preK m [] = m.map (·.1) := by
  unfold preK
  rw [List.filter_eq_self]
  intro x _
  simp [hasP]
/-- A row of texts, element by element. -/
theorem strs_rowG {w : World} {base n c : Nat} {A : Option Addr} {K : List (List UInt8)} (hn : n = K.length) (h : w.ownsRow base 9 1 (.slice A n c) n (K.map fun x => Value.string (S x))) :
    ∀ i x, K[i]? = some x → ∃ b, A = some ⟨b, 0, none⟩ ∧ b < w.heap.size ∧ w.cell? ⟨b, i, none⟩ = some (.string (S x)) := fun i x hx => by
  subst hn
  rcases h.2 with ⟨h1, h2⟩ | ⟨g, cap, cur, hv, hb, hh, r⟩
  · have := (List.getElem?_eq_some_iff.1 hx).1
    omega
  · simp only [Value.slice.injEq] at hv
    obtain ⟨rfl, -, rfl⟩ := hv
    refine ⟨g, rfl, (Array.getElem?_eq_some_iff.1 hh).1, ?_⟩
    rw [h.cellAt i (by have := (List.getElem?_eq_some_iff.1 hx).1; simpa using this), List.getElem?_map, hx]
    rfl
theorem kv_whole (h : MW w0 g d N X mb m W) (hs : (sb, 52, storeCells g name mb dead) ∈ X) (hr : Rising m) (hml : m.length ≤ 100000) (hkl : ∀ p ∈ m, p.1.length ≤ 1000000) :
    Calls Tryz.prog 41 #[.pointer (some ⟨sb, 0, none⟩)] W fun e w' => ∃ A c, e = .returned (.slice A (m.map wOf).length c) ∧ w'.ownsRow W.heap.size 31 3 (.slice A (m.map wOf).length c) (m.map wOf).length ((m.map wOf).flatMap wCells) ∧ Below W.heap.size W w' := by
  have hb := h.blk hs
  have KY := hid (kv_Keys (store4 hb).2.2.1 hb.lt h.map hr (by omega) [])
  have HM := hid h
  have HR := hid hr
  have HKL := hid hkl
  have hz : ∀ w : World, (zeroValue 9).run Tryz.prog w = .ok (.string (S [])) w := fun w => by kernel_rfl
  clear h hb hr hkl
  go_enter Tryz.func41, Tryz.ntmps41
  go_wp2_with fail
  refine KY.out.mono ?_
  rintro e w1 ⟨v, rfl, hr1, hb1⟩
  rw [preK_all] at hr1
  obtain ⟨A1, c1, rfl⟩ := row_form hr1
  have HS := hid (strs_rowG (by simp) hr1)
  have hlen : (m.map (·.1)).length = m.length := by simp
  rw [hlen] at hr1 ⊢
  have H1 := hid (HM.out.below hb1)
  have HB1 := hid hb1
  have hsz := hb1.size
  clear hr1 hb1 KY
  go_wp2
  go_loopw [3, 9] (fun o i wr => ∃ (k : Nat) (A' : Option Addr) (c' : Nat) (os : List Wr), k ≤ m.length ∧ i = .int .i64 k ∧ o = .slice A' os.length c' ∧ Hid (os.length = k) ∧ Hid (os = (m.take k).map wOf) ∧ Hid (wr.ownsRow w1.heap.size 31 3 (.slice A' os.length c') os.length (os.flatMap wCells)) ∧ Hid (Below w1.heap.size w1 wr)) (fun _ i _ => m.length - (intOf i).toNat)
  case atStart => exact ⟨0, none, 0, [], Nat.zero_le _, rfl, rfl, rfl, rfl, World.ownsRow_nil _ _ _ _, Below.refl _ _⟩
  case round =>
    obtain ⟨k, A', c', os, hk, rfl, rfl, hol, ho, hrr, hbr⟩ := hrel
    by_cases hlt : k < m.length
    · have hkk : (m.map (·.1))[k]? = some m[k].1 := by simp [hlt]
      obtain ⟨b, rfl, hbl, ck⟩ := HS.out k _ hkk
      have ck' := (hbr.out.cell (p := ⟨b, k, none⟩) hbl).trans ck
      have Hr := H1.out.below hbr.out
      obtain ⟨s0, s1, s2, s3⟩ := store4 (Hr.blk hs)
      have hlk := Hr.map.look (t := 50) (e := 9) (by kernel_rfl) (by kernel_rfl) (hz wr) m[k].1 (HKL.out _ (List.getElem_mem hlt))
      have hst := whole_step m k hlt HR.out
      have HO := hid (show os ++ [wOf m[k]] = (m.take (k + 1)).map wOf by rw [List.take_succ_eq_append_getElem hlt, List.map_append, ho.out]; rfl)
      rw [← hst] at HO
      have hz2 := hbr.out.size
      have HBR := hid hbr.out
      clear ck hkk Hr hst hbr
      generalize m[k].1 = key at *
      generalize (kget m key).getD [] = val at *
      go_wp2_with (at_builtin; (refine wpList_append_write (os := os) (y := ⟨key, val, false⟩) (base := w1.heap.size) rfl _ _ (by rfl) (by rfl) (by rfl) (by rfl) hrr.out (by have := hol.out; omega) (by omega) ?_); intro A2 c2 w9 hr9 hb9; (have HR9 := hid hr9); (have HB9 := hid (HBR.out.trans (hb9.mono (by omega)))); clear hr9 hb9)
      go_roundw
      case rel => exact ⟨k + 1, A2, c2, os ++ [⟨key, val, false⟩], by omega, by go_num, by rw [List.length_append]; rfl, hid (by simp [hol.out]), HO, HR9, HB9⟩
      case measure => simp [intOf]; omega
    · have hk' : k = m.length := by omega
      subst hk'
      have HF := hid (show os = m.map wOf by rw [ho.out, List.take_length])
      have HB := hid (HB1.out.trans (hbr.out.mono hsz))
      go_wp2
      go_ret
      rw [← HF.out]
      exact ⟨A', c', rfl, row_base hrr.out hsz, HB.out⟩
end
end Go.Proofs.YtbjimikppdfmgaaGreatDoor
