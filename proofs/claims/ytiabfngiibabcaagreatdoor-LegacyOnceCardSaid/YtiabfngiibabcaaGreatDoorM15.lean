/- Walks of package nodes: numbers and keys; of b64: Hex. What a Go map from texts to integers is good for. SHA-256, plainly: what stands behind bytes. No program in it. Walks of package tls: put. Walks of package tls: number, time, may. Walks of package legacy: Size, Seen, note. Rows of leaves and of heads, and what append does with them (printed by genRows.py). -/
import Derived.Test.YtiabfngiibabcaaGreatDoorM14
import Derived.Test.YtiabfngiibabcaaGreatDoorM12
import Derived.Lib.ItoaLen
import Derived.Deep.RegionHeld3
import Derived.Test.YtiabfngiibabcaaGreatDoorM06
import Derived.Maps.OwnSet
import Derived.Test.YtiabfngiibabcaaGreatDoorM03
import Derived.Test.YtiabfngiibabcaaGreatDoorM13
import Derived.BigRegion
import Derived.Test.YtiabfngiibabcaaGreatDoorM11
set_option linter.unusedVariables false
set_option linter.unusedSimpArgs false
set_option maxHeartbeats 6400000
set_option maxRecDepth 100000
namespace Go.Proofs.YtiabfngiibabcaaGreatDoor
open Go.RowKit

theorem nodes_padded (n width : Nat) (hn : n ≤ 100000000000000000) (hw : width ≤ 10) (w : World) (hL : LibL w) :
    Calls Tryz.prog 114 #[.int .i64 n, .int .i64 width] w fun e w' => e = .returned (.string (S (padL n width))) ∧ Below w.heap.size w w' := by
  have IT := hid (lg_Itoa n (by omega) w hL)
  have hd : (Lib.decDigits n).length ≤ 21 := by
    have := Lib.itoa_length_le n (by omega) (by omega)
    unfold Lib.itoa at this
    rw [if_neg (by omega), Int.toNat_natCast] at this
    exact this
  have RP := hid (fun (w' : World) => lg_Repeat 48 (width - (Lib.decDigits n).length) (by omega) w')
  have HP := hid (show padL n width = List.replicate (width - (Lib.decDigits n).length) 48 ++ Lib.decDigits n from rfl)
  have hmx : max (n : Int) 0 = n := by omega
  have hmz : max (0 : Int) ((width : Int) - ((Lib.decDigits n).length : Int)) = ((width - (Lib.decDigits n).length : Nat) : Int) := by omega
  generalize Lib.decDigits n = dd at *
  generalize padL n width = pd at *
  generalize width - dd.length = zz at *
  have HD := hid hd
  go_enter Tryz.func114, Tryz.ntmps114
  go_wp2_with (first
    | (go_at_call 171; refine IT.out.mono ?_; rintro e w2 ⟨rfl, hb2⟩; have HB2 := hid hb2; clear hb2)
    | (go_at_call 172; refine (RP.out _).mono ?_; rintro e w3 ⟨rfl, hb3⟩; have HB3 := hid hb3; clear hb3))
  rw [← HP.out]
  go_ret
  exact ⟨rfl, bt HB2.out HB3.out⟩
theorem padL_le (n w : Nat) (hn : n ≤ 100000000000000000) : (padL n w).length ≤ max w 21 := by
  have hd : (Lib.decDigits n).length ≤ 21 := by
    have := Lib.itoa_length_le n (by omega) (by omega)
    unfold Lib.itoa at this
    rw [if_neg (by omega), Int.toNat_natCast] at this
    exact this
  unfold padL
  rw [List.length_append, List.length_replicate]
  omega
theorem nodes_Number (n : Nat) (hn : n ≤ 100000000000000000) (w : World) (hL : LibL w) :
    Calls Tryz.prog 105 #[.int .i64 n] w fun e w' => e = .returned (.string (S (numK n))) ∧ Below w.heap.size w w' := by
  have PD := hid (nodes_padded n 7 hn (by omega) w hL)
  go_enter Tryz.func105, Tryz.ntmps105
  go_wp2_with fail
  refine PD.out.mono ?_
  rintro e w2 ⟨rfl, hb2⟩
  have HB := hid hb2
  clear hb2
  go_wp2
  go_ret
  exact ⟨rfl, HB.out⟩
theorem nodes_Leaf (n : Nat) (hn : n ≤ 100000000000000000) (w : World) (hL : LibL w) :
    Calls Tryz.prog 50 #[.int .i64 n] w fun e w' => e = .returned (.string (S (lK n))) ∧ Below w.heap.size w w' := by
  have NB := hid (nodes_Number n hn w hL)
  have HK := hid (show lK n = [108, 47] ++ numK n from rfl)
  have hnl : (numK n).length ≤ 21 := by have := padL_le n 7 hn; unfold numK; omega
  generalize lK n = kk at *
  generalize numK n = nn at *
  go_enter Tryz.func50, Tryz.ntmps50
  go_wp2_with fail
  refine NB.out.mono ?_
  rintro e w2 ⟨rfl, hb2⟩
  have HB := hid hb2
  clear hb2
  go_wp2
  go_ret
  exact ⟨by rw [HK.out]; rfl, HB.out⟩
theorem nodes_Staged (n : Nat) (hn : n ≤ 100000000000000000) (w : World) (hL : LibL w) :
    Calls Tryz.prog 43 #[.int .i64 n] w fun e w' => e = .returned (.string (S (pK n))) ∧ Below w.heap.size w w' := by
  have NB := hid (nodes_Number n hn w hL)
  have HK := hid (show pK n = [112, 47] ++ numK n from rfl)
  have hnl : (numK n).length ≤ 21 := by have := padL_le n 7 hn; unfold numK; omega
  generalize pK n = kk at *
  generalize numK n = nn at *
  go_enter Tryz.func43, Tryz.ntmps43
  go_wp2_with fail
  refine NB.out.mono ?_
  rintro e w2 ⟨rfl, hb2⟩
  have HB := hid hb2
  clear hb2
  go_wp2
  go_ret
  exact ⟨by rw [HK.out]; rfl, HB.out⟩
theorem nodes_Head (n : Nat) (hn : n ≤ 100000000000000000) (w : World) (hL : LibL w) :
    Calls Tryz.prog 112 #[.int .i64 n] w fun e w' => e = .returned (.string (S (hK n))) ∧ Below w.heap.size w w' := by
  have NB := hid (nodes_Number n hn w hL)
  have HK := hid (show hK n = [104, 47] ++ numK n from rfl)
  have hnl : (numK n).length ≤ 21 := by have := padL_le n 7 hn; unfold numK; omega
  generalize hK n = kk at *
  generalize numK n = nn at *
  go_enter Tryz.func112, Tryz.ntmps112
  go_wp2_with fail
  refine NB.out.mono ?_
  rintro e w2 ⟨rfl, hb2⟩
  have HB := hid hb2
  clear hb2
  go_wp2
  go_ret
  exact ⟨by rw [HK.out]; rfl, HB.out⟩
theorem nodes_Node (lv n : Nat) (hlv : lv ≤ 100000) (hn : n ≤ 100000000000000000) (w : World) (hL : LibL w) :
    Calls Tryz.prog 51 #[.int .i64 lv, .int .i64 n] w fun e w' => e = .returned (.string (S (nK lv n))) ∧ Below w.heap.size w w' := by
  have PD := hid (nodes_padded lv 2 (by omega) (by omega) w hL)
  have NB := hid (fun (w' : World) (hb : Below w.heap.size w w') => nodes_Number n hn w' (hL.below hb))
  have HK := hid (show nK lv n = [110, 47] ++ (padL lv 2 ++ ([47] ++ numK n)) from rfl)
  have hnl : (numK n).length ≤ 21 := by have := padL_le n 7 hn; unfold numK; omega
  have hpl : (padL lv 2).length ≤ 21 := by have := padL_le lv 2 (by omega); omega
  generalize nK lv n = kk at *
  generalize numK n = nn at *
  generalize padL lv 2 = pp at *
  go_enter Tryz.func51, Tryz.ntmps51
  go_wp2_with (first
    | (go_at_call 114; refine PD.out.mono ?_; rintro e w2 ⟨rfl, hb2⟩; have HB2 := hid hb2; clear hb2)
    | (go_at_call 105; refine (NB.out _ HB2.out).mono ?_; rintro e w3 ⟨rfl, hb3⟩; have HB3 := hid (bt HB2.out hb3); clear hb3))
  go_ret
  exact ⟨by rw [HK.out]; simp, HB3.out⟩
/-- append(out, a, b): two bytes, in a region that draws its order. -/
theorem append_two (wr : World) (base : Nat) {A : Option Addr} {c : Nat} {os : List UInt8} (hr : wr.ownsRow base 5 1 (.slice A os.length c) os.length (os.map B8)) (hl : os.length ≤ 1000000) (hbase : base ≤ wr.heap.size) (x y : UInt8) :
    ∃ A' c' w', (Builtin.append_ #[85, 85] 85 #[.slice A os.length c, .slice (some ⟨wr.heap.size, 0, none⟩) 2 2]).run Tryz.prog (wr.alloc (.cells #[.int .u8 x.toNat, .int .u8 y.toNat] 5)).drew = .ok (.slice A' (os.length + 2) c') w' ∧
      w'.ownsRow base 5 1 (.slice A' (os ++ [x, y]).length c') (os ++ [x, y]).length ((os ++ [x, y]).map B8) ∧ Below base wr w' := by
  have hB : BytesAt (wr.alloc (.cells #[.int .u8 x.toNat, .int .u8 y.toNat] 5)).drew (some ⟨wr.heap.size, 0, none⟩) [x, y] := fun _ => by
    have hN := Blk.new wr 5 #[.int .u8 x.toNat, .int .u8 y.toNat]
    refine ⟨wr.heap.size, 0, rfl, hN.lt, fun i hi => ?_⟩
    rw [Nat.zero_add]
    refine (hN.cell i).trans ?_
    have hcase : i = 0 ∨ i = 1 := by simp at hi; omega
    rcases hcase with rfl | rfl <;> rfl
  have hb1 : Below base wr (wr.alloc (.cells #[.int .u8 x.toNat, .int .u8 y.toNat] 5)).drew := below_drewN ((Below.refl _ _).alloc hbase _) 1
  have hr1 := row_drew1 (row_alloc hr (.cells #[.int .u8 x.toNat, .int .u8 y.toNat] 5))
  obtain ⟨v3, w3, hrun3, h3, hg3, -⟩ := run_append_bytes _ base (.slice A os.length c) os [x, y] hr1 (some ⟨wr.heap.size, 0, none⟩) 2 hB (by simp; omega) (Nat.le_trans hbase hb1.size) 85
  obtain ⟨A3, c3, rfl⟩ := row_form h3
  exact ⟨A3, c3, w3, by rw [List.length_append] at hrun3; exact hrun3, h3, Below.grown hb1 hg3 (Nat.le_trans hbase hb1.size) fun k hk => row_base_le hr1 hk⟩
def digits16 : List UInt8 := [48, 49, 50, 51, 52, 53, 54, 55, 56, 57, 97, 98, 99, 100, 101, 102]
theorem conv_rowN {w : World} {base n c : Nat} {A : Option Addr} {l : List UInt8} (h : w.ownsRow base 5 1 (.slice A n c) n (l.map B8)) : (convert 85 9 (.slice A n c)).run Tryz.prog w = .ok (.string (S l)) w := by
  have hn : n = l.length := by have := h.1; simp at this; omega
  subst hn
  exact run_string_row w h
theorem and15 (x : UInt8) : bits .and .u8 (x.toNat : Int) 15 = ((x.toNat % 16 : Nat) : Int) := by
  have : ∀ n : Fin 256, bits .and .u8 ((n.val : Nat) : Int) 15 = ((n.val % 16 : Nat) : Int) := by decide +kernel
  exact this ⟨x.toNat, x.toNat_lt⟩
theorem dig16_at (n : Nat) (h : n < 16) : ([48, 49, 50, 51, 52, 53, 54, 55, 56, 57, 97, 98, 99, 100, 101, 102] : List UInt8)[n]'(by simp; omega) = hxd n := by
  have : ∀ n : Fin 16, digits16[n.val]? = some (hxd n.val) := by decide +kernel
  have h2 := this ⟨n, h⟩
  have h3 : digits16[n]? = some (([48, 49, 50, 51, 52, 53, 54, 55, 56, 57, 97, 98, 99, 100, 101, 102] : List UInt8)[n]'(by simp; omega)) := List.getElem?_eq_getElem _
  rw [h3] at h2
  injection h2
theorem b64_Hex (w : World) (A : Option Addr) (l : List UInt8) (c : Nat) (hB : BytesAt w A l) (hl : l.length ≤ 10000) :
    Calls Tryz.prog 113 #[.slice A l.length c] w fun e w' => e = .returned (.string (S (hexB l))) ∧ Below w.heap.size w w' := by
  have HB := hid hB
  clear hB
  go_enter Tryz.func113, Tryz.ntmps113
  go_wp2
  go_loopw [3, 5, 8] (fun o _ i wr => ∃ (k : Nat) (A' : Option Addr) (c' : Nat) (os : List UInt8), k ≤ l.length ∧ i = .int .i64 k ∧ o = .slice A' os.length c' ∧ Hid (os = hexB (l.take k)) ∧ Hid (wr.ownsRow w.heap.size 5 1 (.slice A' os.length c') os.length (os.map B8)) ∧ Hid (Below w.heap.size w wr)) (fun _ _ i _ => l.length - (intOf i).toNat)
  case atStart => exact ⟨0, none, 0, [], Nat.zero_le _, rfl, rfl, rfl, World.ownsRow_nil _ _ _ _, Below.refl _ _⟩
  case round =>
    obtain ⟨k, A', c', os, hk, rfl, rfl, ho, hr, hb⟩ := hrel
    by_cases h : k < l.length
    · obtain ⟨bb, off, rfl, hbb, hc⟩ := (HB.out.below hb.out) (by omega)
      have c1 : wr.cell? ⟨bb, off + k, none⟩ = some (.int .u8 l[k].toNat) := hc k h
      have hlt := l[k].toNat_lt
      have HX := hid (show hexB (l.take (k + 1)) = os ++ [hxd (l[k].toNat / 16), hxd (l[k].toNat % 16)] by rw [List.take_succ_eq_append_getElem h, hexB_snoc, ho.out])
      generalize l[k] = x at *
      have hand := and15 x
      have hdv : ((x.toNat : Int)) / 16 = ((x.toNat / 16 : Nat) : Int) := by omega
      obtain ⟨xa, hxa⟩ : ∃ xa, xa = x.toNat / 16 := ⟨_, rfl⟩
      obtain ⟨xb, hxb⟩ : ∃ xb, xb = x.toNat % 16 := ⟨_, rfl⟩
      rw [← hxb] at hand HX
      rw [← hxa] at hdv HX
      have ha : xa < 16 := by omega
      have hbb2 : xb < 16 := by omega
      clear hxa hxb
      have hl1 : (xa : Int) < 16 := by omega
      have hl2 : (xb : Int) < 16 := by omega
      have hlen : os.length ≤ 1000000 := by
        rw [ho.out, hexB_len, List.length_take]; omega
      obtain ⟨A3, c3, w3, hrun3, hr3, hb3⟩ := append_two wr w.heap.size hr.out hlen hb.out.size (([48, 49, 50, 51, 52, 53, 54, 55, 56, 57, 97, 98, 99, 100, 101, 102] : List UInt8)[xa]'(by simp; omega)) (([48, 49, 50, 51, 52, 53, 54, 55, 56, 57, 97, 98, 99, 100, 101, 102] : List UInt8)[xb]'(by simp; omega))
      have hd1 := dig16_at xa ha
      have hd2 := dig16_at xb hbb2
      rw [hd1, hd2] at hr3
      have HR3 := hid hr3
      have HB3 := hid (hb.out.trans hb3)
      clear hc hr3 hb3 hlen hr hb ho hd1 hd2
      go_wp2
      go_region_held3 (fun _ => True) (simp [*, go_sem, World.cell?_alloc_past]) (first | (refine step_append_run rfl _ _ _ (by rfl) _ _ _ _ (by rfl) (by rfl) hrun3 ?_))
      all_goals
        go_wp2
        go_roundw
        case rel => exact ⟨_, _, _, _, _, _, _, _, _, _, _, _, _, _, _, _, ⟨k + 1, A3, c3, os ++ [hxd xa, hxd xb], by omega, rfl, by rw [List.length_append]; rfl, hid HX.out.symm, HR3, HB3⟩, rfl⟩
        case measure => simp [intOf]; omega
    · have hk' : k = l.length := by omega
      subst hk'
      have HF := hid (show os = hexB l by rw [ho.out, List.take_length])
      have h3 := conv_rowN hr.out
      have HB2 := hid hb.out
      clear hr hb ho
      go_wp2
      rw [HF.out]
      go_ret
      exact ⟨rfl, HB2.out⟩
end Go.Proofs.YtiabfngiibabcaaGreatDoor

set_option linter.unusedVariables false
set_option linter.unusedSimpArgs false
namespace Go.Proofs.YtiabfngiibabcaaGreatDoor
open Go.RowKit Go.WideMaps Go.ChangeMaps Go.Maps

/-- How an integer reads. -/
def Ri (v : Value) : Option (DataW Unit × List MemPlace) :=
  match v with
  | .int .i64 z => some (.lit (.int .i64 z), [])
  | _ => none
theorem Ri_int (z : Int) : Ri (.int .i64 z) = some (.lit (.int .i64 z), []) := rfl
theorem Ri_inv {v : Value} {d : DataW Unit} {ps : List MemPlace} (h : Ri v = some (d, ps)) : ∃ z, v = .int .i64 z ∧ d = .lit (.int .i64 z) := by
  unfold Ri at h
  split at h
  · rename_i z
    simp at h
    exact ⟨z, rfl, h.1.symm⟩
  · cases h
abbrev KMapI := List (Key × Int)
def mapI (m : KMapI) : DataW Unit := .map (m.map fun p => (.string p.1, .lit (.int .i64 p.2)))
theorem insert_mapI (k : Key) (z : Int) (m : KMapI) : DataW.insert ((.string k, .lit (.int .i64 z)) : Lit × DataW Unit) (m.map fun p => (.string p.1, .lit (.int .i64 p.2))) = (kins k z m).map fun p => (.string p.1, .lit (.int .i64 p.2)) := by
  induction m with
  | nil => rfl
  | cons y r ih =>
    rw [List.map_cons]
    unfold DataW.insert kins
    by_cases h : bytesBefore k y.1 = true
    · rw [if_pos (show ((Lit.string k).before (Lit.string y.1)) = true from h), if_pos h]; rfl
    · rw [if_neg (show ¬ ((Lit.string k).before (Lit.string y.1)) = true from h), if_neg h, ih]; rfl
theorem mapI_del (m : KMapI) (k : Key) : (mapI m).del (.string k) = mapI (kdel m k) := by
  simp [mapI, DataW.del, kdel, List.filter_map, Function.comp_def, Lit.sameKey]
theorem mapI_put (m : KMapI) (k : Key) (z : Int) : (mapI m).put (.string k) (.lit (.int .i64 z)) = mapI (kput m k z) := by
  have h := mapI_del m k
  simp only [mapI, DataW.del, DataW.map.injEq] at h
  simp only [mapI, DataW.put, h]
  rw [insert_mapI, kput]
theorem mapI_at (m : KMapI) (k : Key) : (mapI m).atKey (.string k) (.lit (.int .i64 0)) = .lit (.int .i64 ((kget m k).getD 0)) := by
  simp only [mapI, DataW.atKey, kget, List.find?_map, Function.comp_def, Lit.sameKey]
  cases h : m.find? fun p => p.1 == k <;> simp [h]
theorem mapI_size (m : KMapI) : Maps.size (mapI m) = m.length := by simp [mapI, Maps.size]
theorem has_mapI (m : KMapI) (k : Key) : Maps.has (mapI m) (.string k) = (kget m k).isSome := by
  simp only [Maps.has, mapI, kget, List.any_map, Function.comp_def, Lit.sameKey, Option.isSome_map]
  induction m with
  | nil => rfl
  | cons p r ih =>
    rw [List.any_cons, List.find?_cons]
    cases p.1 == k with
    | true => rfl
    | false => simpa using ih

/-- Block b is a map from texts to integers. -/
def OwnI (P : Program) (k : TypeId) (w : World) (b : Nat) (m : KMapI) : Prop := w.ownsMap P k Ri b m.length (mapI m)
section
variable {P : Program} {k t e : TypeId} {w : World} {b : Nat} {m : KMapI}
theorem OwnI.made (w : World) : OwnI P k (w.alloc (.map #[] 0)) w.heap.size [] := World.ownsMap_made w P k Ri
theorem OwnI.tight {n : Nat} (h : w.ownsMap P k Ri b n (mapI m)) : OwnI P k w b m := by
  obtain ⟨es, clock, hb, F, hs, hD⟩ := h
  refine ⟨es, clock, hb, F, ?_, hD⟩
  have h1 := congrArg Maps.size hD
  rw [mapI_size, Maps.size_eq, length_read] at h1
  omega
theorem OwnI.kept {w' : World} (h : OwnI P k w b m) (hb : w'.heap[b]? = w.heap[b]?) : OwnI P k w' b m := by
  obtain ⟨es, clock, hb', F, hs, hD⟩ := h
  exact ⟨es, clock, hb.trans hb', F, hs, hD⟩
theorem OwnI.lt (h : OwnI P k w b m) : b < w.heap.size := by
  obtain ⟨es, clock, hb, _⟩ := h
  exact (Array.getElem?_eq_some_iff.1 hb).1
theorem OwnI.not_blk {x : Nat} {tx : TypeId} {cs : Array Value} (h : OwnI P k w b m) (hB : Blk w x tx cs) : x ≠ b := by
  rintro rfl
  obtain ⟨es, c, h, _⟩ := h
  unfold Blk at hB
  rw [hB] at h
  cases h
theorem OwnI.look2 (h : OwnI P k w b m) (hk : P.underlying k = some .string) (ht : P.underlying t = some (.map k e)) (hz : (zeroValue e).run P w = .ok (.int .i64 0) w) (key : Key) (hl : key.length ≤ 1000000) :
    (Instr.lookup t (.map (some b)) (.string (S key)) true).run P w = .ok (.tuple #[.int .i64 ((kget m key).getD 0), .bool (kget m key).isSome]) w := by
  obtain ⟨v, ps, hrun, hv⟩ := World.ownsMap.look_ok h (Maps.string_keyed hk) ht hz (zd := .lit (.int .i64 0)) (zp := []) (Ri_int 0) (key_of hk key hl)
  rw [mapI_at] at hv
  rw [hrun, has_mapI]
  congr 1
  obtain ⟨z, rfl, hd⟩ := Ri_inv hv
  simp only [DataW.lit.injEq, Lit.int.injEq, true_and] at hd
  rw [hd]
theorem OwnI.put (h : OwnI P k w b m) (hk : P.underlying k = some .string) (ht : P.underlying t = some (.map k e)) (hn : m.length < 9223372036854775807) (key : Key) (hl : key.length ≤ 1000000) (z : Int) :
    ∃ w', (Instr.mapUpdate t (.map (some b)) (.string (S key)) (.int .i64 z)).run P w = .ok () w' ∧ OwnI P k w' b (kput m key z) ∧ w.grownBy w' (some b) := by
  obtain ⟨w', hrun, hown, hg⟩ := World.ownsMap.update h (Maps.string_keyed hk) ht (by unfold maxLen; omega) (val := .int .i64 z) (key_of hk key hl) (Ri_int z)
  rw [mapI_put] at hown
  exact ⟨w', hrun, OwnI.tight hown, hg⟩
end
end Go.Proofs.YtiabfngiibabcaaGreatDoor

set_option linter.unusedVariables false
set_option linter.unusedSimpArgs false
namespace Go.Proofs.YtiabfngiibabcaaGreatDoor
open Go.RowKit

/-- A state behind so many blocks of bytes. -/
def blocksF {σ : Type} (f : σ → List UInt8 → σ) (s : σ) (l : List UInt8) : Nat → σ
  | 0 => s
  | n + 1 => blocksF f (f s (l.take 64)) (l.drop 64) n
theorem blocksF_snoc {σ : Type} (f : σ → List UInt8 → σ) : ∀ (n : Nat) (s : σ) (l : List UInt8), blocksF f s l (n + 1) = f (blocksF f s l n) ((l.drop (64 * n)).take 64)
  | 0, s, l => by simp [blocksF]
  | n + 1, s, l => by
    rw [blocksF, blocksF_snoc f n, blocksF, List.drop_drop, show 64 + 64 * n = 64 * (n + 1) by omega]
theorem blocksF_app {σ : Type} (f : σ → List UInt8 → σ) : ∀ (n m : Nat) (s : σ) (l r : List UInt8), l.length = 64 * n → blocksF f s (l ++ r) (n + m) = blocksF f (blocksF f s l n) r m
  | 0, m, s, l, r, h => by
    obtain rfl : l = [] := List.eq_nil_of_length_eq_zero (by omega)
    simp [blocksF]
  | n + 1, m, s, l, r, h => by
    have h1 : (l ++ r).take 64 = l.take 64 := by rw [List.take_append_of_le_length (by omega)]
    have h2 : (l ++ r).drop 64 = l.drop 64 ++ r := by rw [List.drop_append_of_le_length (by omega)]
    rw [show n + 1 + m = n + m + 1 by omega, blocksF, h1, h2, blocksF_app f n m _ _ _ (by rw [List.length_drop]; omega), blocksF]
theorem blocksF_take {σ : Type} (f : σ → List UInt8 → σ) : ∀ (n : Nat) (s : σ) (l : List UInt8), 64 * n ≤ l.length → blocksF f s (l.take (64 * n)) n = blocksF f s l n := fun n s l h => by
  have := blocksF_app f n 0 s (l.take (64 * n)) (l.drop (64 * n)) (by rw [List.length_take]; omega)
  rw [List.take_append_drop] at this
  simpa [blocksF] using this.symm
def padZ (n : Nat) : Nat := (119 - n % 64) % 64
/-- What stands behind bytes, of which these have not filled a block. -/
def tailP (rest : List UInt8) (many : Nat) : List UInt8 := (rest ++ [128]) ++ List.replicate (padZ rest.length) 0 ++ hiB (many * 8) 8
theorem tailP_len (rest : List UInt8) (many : Nat) : (tailP rest many).length = rest.length + 1 + padZ rest.length + 8 := by simp [tailP, hiB_len]; omega
theorem hiB_snoc (n : Nat) : ∀ k j, j < k → (hiB n k).take (j + 1) = (hiB n k).take j ++ [UInt8.ofNat (n / 2 ^ (8 * (k - 1 - j)))]
  | 0, j, h => absurd h (by omega)
  | k + 1, 0, h => by simp [hiB]
  | k + 1, j + 1, h => by
    rw [hiB, List.take_succ_cons, List.take_succ_cons, hiB_snoc n k j (by omega), List.cons_append]
    congr 6
    omega
def byteI (x : Int) : UInt8 := UInt8.ofNat (x % 256).toNat
theorem byteI_val (x : Int) : ((byteI x).toNat : Int) = x % 256 := by
  unfold byteI
  rw [UInt8.toNat_ofNat']
  omega
def word4 (w : Int) : List UInt8 := [byteI (w / 16777216), byteI (w / 65536), byteI (w / 256), byteI w]
def outP (s : St8) : List UInt8 := s.toL.flatMap word4
theorem outP_len (s : St8) : (outP s).length = 32 := rfl
/-- SHA-256. -/
def shaP (l : List UInt8) : List UInt8 :=
  let t := tailP (restP l) l.length
  outP (blocksF mixP (blocksF mixP beginP l (l.length / 64)) t (t.length / 64))
theorem shaP_len (l : List UInt8) : (shaP l).length = 32 := rfl
end Go.Proofs.YtiabfngiibabcaaGreatDoor

set_option linter.unusedVariables false
set_option linter.unusedSimpArgs false
set_option maxHeartbeats 6400000
set_option maxRecDepth 100000
namespace Go.Proofs.YtiabfngiibabcaaGreatDoor
open Go.RowKit

theorem hiB_byte (n k : Nat) : ((UInt8.ofNat (n / 2 ^ (8 * k))).toNat : Int) = (n : Int) / 2 ^ (8 * k) % 256 := by simp
theorem tls_put (w : World) (base : Nat) (A : Option Addr) (m c : Nat) (xs : List UInt8) (hown : w.ownsRow base 5 1 (.slice A m c) m (xs.map B8)) (hbase : base ≤ w.heap.size) (hl : m ≤ 900000) (bl n width : Nat) (hB : Blk w bl 3 #[.int .i64 n]) (hn : n ≤ 2000000000000000) (hw : width ≤ 8) :
    Calls Tryz.prog 161 #[.slice A m c, .int .i64 width, .slice (some ⟨bl, 0, none⟩) 1 1] w fun e w' => ∃ A' c', e = .returned (.slice A' (m + width) c') ∧ w'.ownsRow base 5 1 (.slice A' (m + width) c') (m + width) ((xs ++ hiB n width).map B8) ∧ Touch w w' (OwnBy (.slice A m c)) (OwnBy (.slice A' (m + width) c')) := by
  have hm : m = xs.length := by have := hown.1; simp at this; omega
  subst hm
  have H0 := hid hown
  have c0 := hB.cell 0
  simp only [List.getElem?_toArray, List.getElem?_cons_zero] at c0
  go_enter Tryz.func161, Tryz.ntmps161
  go_wp2
  go_loopw [0, 8, 9, 12] (fun b _ _ i wr => (i = .int .i64 0 ∧ b = .slice A xs.length c ∧ wr = w) ∨ (i = .int .i64 1 ∧ ∃ A' c', b = .slice A' (xs.length + width) c' ∧ Hid (wr.ownsRow base 5 1 (.slice A' (xs.length + width) c') (xs.length + width) ((xs ++ hiB n width).map B8)) ∧ Hid (Touch w wr (OwnBy (.slice A xs.length c)) (OwnBy (.slice A' (xs.length + width) c'))))) (fun _ _ _ i _ => 1 - (intOf i).toNat)
  case atStart => exact .inl ⟨rfl, rfl, rfl⟩
  case round =>
    rcases hrel with ⟨rfl, rfl, rfl⟩ | ⟨rfl, A', c', rfl, hr, ht⟩
    · go_wp2
      go_loopw [0, 9] (fun b i wx => ∃ (j : Nat) (A' : Option Addr) (c' : Nat) (os : List UInt8), j ≤ width ∧ i = .int .i64 ((width : Int) - 1 - (j : Int)) ∧ b = .slice A' os.length c' ∧ Hid (os.length = xs.length + j) ∧ Hid (os = xs ++ (hiB n width).take j) ∧ Hid (wx.ownsRow base 5 1 (.slice A' os.length c') os.length (os.map B8)) ∧ Hid (Touch wr wx (OwnBy (.slice A xs.length c)) (OwnBy (.slice A' os.length c')))) (fun _ i _ => (intOf i + 1).toNat)
      case atStart => exact ⟨0, A, c, xs, by omega, by simp, rfl, by simp [Hid], by simp [Hid], H0, Touch.refl _ _⟩
      case round =>
        obtain ⟨j, A', c', os, hj, rfl, rfl, hol, ho, hr, ht⟩ := hrel
        by_cases h : j < width
        · have z8 : ((8 : Int) * ((width : Int) - 1 - (j : Int))).toNat = 8 * (width - 1 - j) := by omega
          have hge : (0 : Int) ≤ (width : Int) - 1 - (j : Int) := by omega
          have hge8 : (0 : Int) ≤ 8 * ((width : Int) - 1 - (j : Int)) := by omega
          have hole := hol.out
          obtain ⟨A5, c5, w5, hrun5, hr5, ht5⟩ := append_byteT wr (UInt8.ofNat (n / 2 ^ (8 * (width - 1 - j)))) hr.out (by omega) (Nat.le_trans hbase ht.out.size)
          rw [hiB_byte] at hrun5
          have hrun : (Builtin.append_ #[85, 85] 85 #[.slice A' os.length c', .slice (some ⟨wr.heap.size, 0, none⟩) 1 1]).run Tryz.prog (wr.alloc (.cells #[.int .u8 ((n : Int) / 2 ^ (8 * (width - 1 - j)) % 256)] 5)) = .ok (.slice A5 (os.length + 1) c5) w5 := hrun5
          have HO := hid (show os ++ [UInt8.ofNat (n / 2 ^ (8 * (width - 1 - j)))] = xs ++ (hiB n width).take (j + 1) by rw [ho.out, hiB_snoc _ _ _ h, List.append_assoc])
          have HR := hid hr5
          have HT := hid (show Touch _ w5 (OwnBy (.slice A xs.length c)) (OwnBy (.slice A5 (os ++ [UInt8.ofNat (n / 2 ^ (8 * (width - 1 - j)))]).length c5)) by rw [List.length_append]; exact ht.out.trans ht5)
          have HL := hid (show (os ++ [UInt8.ofNat (n / 2 ^ (8 * (width - 1 - j)))]).length = xs.length + (j + 1) by rw [List.length_append, hole]; rfl)
          generalize UInt8.ofNat (n / 2 ^ (8 * (width - 1 - j))) = y at *
          clear hr5 ht5 hrun5 hr ht hole
          go_wp2_with (first | (at_builtin; refine wpList_append_run rfl _ _ _ (by rfl) _ _ _ _ (by rfl) (by rfl) hrun ?_))
          go_roundw
          case rel => exact ⟨j + 1, A5, c5, os ++ [y], by omega, by push_cast; congr 1; omega, by simp, HL, HO, HR, HT⟩
          case measure => simp [intOf]; omega
        · have hj' : j = width := by omega
          subst hj'
          have HF := hid (show os = xs ++ hiB n j by rw [ho.out, List.take_of_length_le (Nat.le_of_eq (hiB_len _ _))])
          have HLn := hid (show os.length = xs.length + j from hol.out)
          have hneg : (j : Int) - 1 - (j : Int) = -1 := by omega
          have HR := hid (show wr.ownsRow base 5 1 (.slice A' (xs.length + j) c') (xs.length + j) ((xs ++ hiB n j).map B8) by rw [← HLn.out, ← HF.out]; exact hr.out)
          have HT := hid (show Touch _ wr (OwnBy (.slice A xs.length c)) (OwnBy (.slice A' (xs.length + j) c')) by rw [← HLn.out]; exact ht.out)
          rw [HLn.out]
          clear hr ht ho hol
          go_wp2
          go_roundw
          case rel => exact .inr ⟨rfl, A', c', rfl, HR, HT⟩
          case measure => simp [intOf]
    · go_wp2
      go_ret
      exact ⟨A', c', rfl, hr.out, ht.out⟩
end Go.Proofs.YtiabfngiibabcaaGreatDoor

set_option linter.unusedVariables false
set_option linter.unusedSimpArgs false
set_option maxHeartbeats 6400000
set_option maxRecDepth 100000
namespace Go.Proofs.YtiabfngiibabcaaGreatDoor
open Go.RowKit

theorem numH_app (a b : List UInt8) : numH (a ++ b) = numH a * 256 ^ b.length + numH b := by
  have aux : ∀ (b : List UInt8) (acc : Nat), b.foldl (fun n c => n * 256 + c.toNat) acc = acc * 256 ^ b.length + numH b := by
    intro b
    induction b with
    | nil => intro acc; simp [numH]
    | cons c r ih =>
      intro acc
      have h0 := ih (0 * 256 + c.toNat)
      have e : numH (c :: r) = r.foldl (fun n c => n * 256 + c.toNat) (0 * 256 + c.toNat) := rfl
      rw [e, h0, List.foldl_cons, ih, List.length_cons, Nat.pow_succ, Nat.add_mul, Nat.add_mul]
      have e2 : acc * 256 * 256 ^ r.length = acc * (256 ^ r.length * 256) := by rw [Nat.mul_assoc, Nat.mul_comm 256]
      omega
  have := aux b (numH a)
  rw [← this]
  simp [numH]
theorem numH_take_le (l : List UInt8) (k : Nat) : numH (l.take k) ≤ numH l := by
  have := numH_app (l.take k) (l.drop k)
  rw [List.take_append_drop] at this
  rw [this]
  exact Nat.le_trans (Nat.le_mul_of_pos_right _ (Nat.pow_pos (by omega))) (Nat.le_add_right _ _)
theorem numberT_step (a x : Nat) (ha : a < 36028797018963968) (hx : x < 256) : bits .or .i64 (wrap64 ((a : Int) * 2 ^ 8)) (x : Int) = ((a * 256 + x : Nat) : Int) := by
  rw [show (a : Int) * 2 ^ 8 = ((a * 2 ^ 8 : Nat) : Int) by omega, IntWalk.wrap64_in _ (by omega), bits_or_i64_nat _ _ (by omega) (by omega)]
  congr 1
  rw [Nat.mul_comm, ← Nat.two_pow_add_eq_or_of_lt (i := 8) (by omega) a]
theorem tls_number (w : World) (A : Option Addr) (l : List UInt8) (c : Nat) (hB : BytesAt w A l) (hl : l.length ≤ 1000) (hv : numH l < 9000000000000000000) :
    Calls Tryz.prog 88 #[.slice A l.length c] w fun e w' => e = .returned (.int .i64 (numH l)) ∧ w' = w := by
  go_enter Tryz.func88, Tryz.ntmps88
  go_wp2
  go_loop [3, 8] (fun n i => ∃ k : Nat, k ≤ l.length ∧ i = .int .i64 k ∧ n = .int .i64 (numH (l.take k))) (fun _ i => l.length - (intOf i).toNat)
  case atStart => exact ⟨0, Nat.zero_le _, rfl, rfl⟩
  case round =>
    obtain ⟨k, hk, rfl, rfl⟩ := hrel
    by_cases h : k < l.length
    · obtain ⟨b, off, rfl, hb, hc⟩ := hB (by omega)
      have c1 : w.cell? ⟨b, off + k, none⟩ = some (.int .u8 l[k].toNat) := hc k h
      have HS := hid (show numH (l.take (k + 1)) = numH (l.take k) * 256 + l[k].toNat by rw [List.take_succ_eq_append_getElem h, numH_snoc])
      have hle := numH_take_le l (k + 1)
      rw [HS.out] at hle
      have hlt2 := l[k].toNat_lt
      have hst := numberT_step (numH (l.take k)) l[k].toNat (by omega) hlt2
      generalize l[k] = x at *
      generalize numH (l.take k) = a at *
      rw [← HS.out] at hst
      clear hc hle hv
      go_wp2
      go_round
      case rel => exact ⟨k + 1, by omega, by go_num, by first | rfl | (congr 1)⟩
      case measure => simp [intOf]; omega
    · have hk' : k = l.length := by omega
      subst hk'
      rw [List.take_length]
      go_wp2
      go_ret
      exact ⟨rfl, rfl⟩
def timeB (t : Int) : Bool := decide (0 ≤ t) && decide (t ≤ 1125899906842624)
theorem tls_time (t : Int) (w : World) : Calls Tryz.prog 160 #[.int .i64 t] w fun e w' => e = .returned (.bool (timeB t)) ∧ w' = w := by
  have HT := hid (show timeB t = (decide (0 ≤ t) && decide (t ≤ 1125899906842624)) from rfl)
  generalize timeB t = r at *
  by_cases h0 : 0 ≤ t
  · have d0 : decide (0 ≤ t) = true := by simpa using h0
    rw [d0] at HT
    go_enter Tryz.func160, Tryz.ntmps160
    go_wp2
    go_ret
    exact ⟨by rw [HT.out]; rfl, rfl⟩
  · have d0 : decide (0 ≤ t) = false := by simpa using h0
    rw [d0] at HT
    go_enter Tryz.func160, Tryz.ntmps160
    go_wp2
    go_ret
    exact ⟨by rw [HT.out]; rfl, rfl⟩
theorem legacy_time (t : Int) (w : World) : Calls Tryz.prog 44 #[.int .i64 t] w fun e w' => e = .returned (.bool (timeB t)) ∧ w' = w := by
  have HT := hid (show timeB t = (decide (0 ≤ t) && decide (t ≤ 1125899906842624)) from rfl)
  generalize timeB t = r at *
  by_cases h0 : 0 ≤ t
  · have d0 : decide (0 ≤ t) = true := by simpa using h0
    rw [d0] at HT
    go_enter Tryz.func44, Tryz.ntmps44
    go_wp2
    go_ret
    exact ⟨by rw [HT.out]; rfl, rfl⟩
  · have d0 : decide (0 ≤ t) = false := by simpa using h0
    rw [d0] at HT
    go_enter Tryz.func44, Tryz.ntmps44
    go_wp2
    go_ret
    exact ⟨by rw [HT.out]; rfl, rfl⟩
def leafV (x : Lf) : Value := .agg #[.int .i64 x.time, .string (S x.cert)]
theorem tls_may (x : Lf) (w : World) (hl : x.cert.length ≤ 1000000) : Calls Tryz.prog 95 #[leafV x] w fun e w' => e = .returned (.bool (okL x)) ∧ Below w.heap.size w w' := by
  have HT := hid (show okL x = (timeB x.time && !(x.cert == []) && decide (x.cert.length ≤ 1000)) from rfl)
  have TM := hid (fun w => tls_time x.time w)
  have b1 := hid (show Below w.heap.size w (w.alloc (.cells #[.int .i64 x.time, .string (S x.cert)] 30)) from (Below.refl _ _).alloc (Nat.le_refl _) _)
  generalize okL x = r at *
  obtain ⟨t, ce⟩ := x
  simp only [leafV] at *
  generalize timeB t = tb at *
  cases tb with
  | false =>
    go_enter Tryz.func95, Tryz.ntmps95
    go_wp2_with (go_at_call 160; refine (TM.out _).mono ?_; rintro e w2 ⟨rfl, rfl⟩)
    go_ret
    exact ⟨by rw [HT.out]; rfl, b1.out⟩
  | true =>
    by_cases h0 : ce = []
    · subst h0
      go_enter Tryz.func95, Tryz.ntmps95
      go_wp2_with (go_at_call 160; refine (TM.out _).mono ?_; rintro e w2 ⟨rfl, rfl⟩)
      go_ret
      exact ⟨by rw [HT.out]; rfl, b1.out⟩
    · have hne : (ce == []) = false := beq_eq_false_iff_ne.2 h0
      rw [hne] at HT
      go_enter Tryz.func95, Tryz.ntmps95
      go_wp2_with (go_at_call 160; refine (TM.out _).mono ?_; rintro e w2 ⟨rfl, rfl⟩)
      go_ret
      exact ⟨by rw [HT.out]; simp; omega, b1.out⟩
end Go.Proofs.YtiabfngiibabcaaGreatDoor

set_option linter.unusedVariables false
set_option linter.unusedSimpArgs false
set_option maxHeartbeats 6400000
set_option maxRecDepth 100000
namespace Go.Proofs.YtiabfngiibabcaaGreatDoor
open Go.RowKit

def logCells (sb : Nat) (size : Nat) (st hd : Value) (cm : Nat) : Array Value := #[.pointer (some ⟨sb, 0, none⟩), .int .i64 size, st, hd, .map (some cm)]
theorem log5 {W : World} {lb sb size cm : Nat} {st hd : Value} {t : TypeId} (h : Blk W lb t (logCells sb size st hd cm)) : W.cell? ⟨lb, 0, none⟩ = some (.pointer (some ⟨sb, 0, none⟩)) ∧ W.cell? ⟨lb, 1, none⟩ = some (.int .i64 size) ∧ W.cell? ⟨lb, 2, none⟩ = some st ∧ W.cell? ⟨lb, 3, none⟩ = some hd ∧ W.cell? ⟨lb, 4, none⟩ = some (.map (some cm)) :=
  ⟨h.cell 0, h.cell 1, h.cell 2, h.cell 3, h.cell 4⟩
section
variable {W : World} {lb sb size cm : Nat} {st hd : Value} {m : KMapI}
theorem legacy_Size (h : Blk W lb 49 (logCells sb size st hd cm)) : Calls Tryz.prog 11 #[.pointer (some ⟨lb, 0, none⟩)] W fun e w' => e = .returned (.int .i64 size) ∧ w' = W := by
  obtain ⟨k0, k1, k2, k3, k4⟩ := log5 h
  clear h
  go_enter Tryz.func11, Tryz.ntmps11
  go_wp2
  go_ret
  exact ⟨rfl, rfl⟩
theorem legacy_Seen (h : Blk W lb 49 (logCells sb size st hd cm)) (hm : OwnI Tryz.prog 9 W cm m) (key : Key) (hl : key.length ≤ 1000000) :
    Calls Tryz.prog 41 #[.pointer (some ⟨lb, 0, none⟩), .string (S key)] W fun e w' => e = .returned (.tuple #[.int .i64 ((kget m key).getD 0), .bool (kget m key).isSome]) ∧ w' = W := by
  obtain ⟨k0, k1, k2, k3, k4⟩ := log5 h
  have hz : ∀ w : World, (zeroValue 3).run Tryz.prog w = .ok (.int .i64 0) w := fun w => by kernel_rfl
  have hlk := hm.look2 (t := 47) (e := 3) (by kernel_rfl) (by kernel_rfl) (hz W) key hl
  generalize (kget m key).getD 0 = v at *
  generalize (kget m key).isSome = b at *
  clear h hm
  go_enter Tryz.func41, Tryz.ntmps41
  go_wp2
  go_ret2
  exact ⟨rfl, rfl⟩
/-- A certificate's time is kept in mind, if there is none yet. -/
def noteM (m : KMapI) (x : Lf) : KMapI := if (kget m x.cert).isSome then m else kput m x.cert x.time
theorem legacy_note (h : Blk W lb 49 (logCells sb size st hd cm)) (hm : OwnI Tryz.prog 9 W cm m) (x : Lf) (hl : x.cert.length ≤ 1000000) (hml : m.length ≤ 100000000) :
    Calls Tryz.prog 33 #[.pointer (some ⟨lb, 0, none⟩), leafV x] W fun e w' => e = .returned (.tuple #[]) ∧ OwnI Tryz.prog 9 w' cm (noteM m x) ∧ Touch W w' (fun k => k = cm) (fun k => k = cm) := by
  obtain ⟨t, ce⟩ := x
  simp only [leafV] at *
  obtain ⟨W1, HW1⟩ : ∃ W1, Hid (W1 = W.alloc (.cells #[.int .i64 t, .string (S ce)] 30)) := ⟨_, rfl⟩
  have b1 : Below W.heap.size W W1 := by rw [HW1.out]; exact (Below.refl _ _).alloc (Nat.le_refl _) _
  have hX : Blk W1 W.heap.size 30 #[.int .i64 t, .string (S ce)] := by rw [HW1.out]; exact Blk.new _ _ _
  have h1 := h.below b1 h.lt
  have hm1 : OwnI Tryz.prog 9 W1 cm m := hm.kept (b1.block cm hm.lt)
  have hcl := hm.lt
  obtain ⟨k0, k1, k2, k3, k4⟩ := log5 h1
  have x0 : W1.cell? ⟨W.heap.size, 0, none⟩ = some (.int .i64 t) := hX.cell 0
  have x1 : W1.cell? ⟨W.heap.size, 1, none⟩ = some (.string (S ce)) := hX.cell 1
  have hz : ∀ w : World, (zeroValue 3).run Tryz.prog w = .ok (.int .i64 0) w := fun w => by kernel_rfl
  have hlk := OwnI.look2 (w := W1.drew) (hm1.kept rfl) (t := 47) (e := 3) (by kernel_rfl) (by kernel_rfl) (hz _) ce hl
  have hno := hid (show noteM m ⟨t, ce⟩ = if (kget m ce).isSome then m else kput m ce t from rfl)
  cases hs : (kget m ce).isSome with
  | true =>
    rw [hs] at hlk hno
    have HF := hid (show OwnI Tryz.prog 9 W1.drew cm (noteM m ⟨t, ce⟩) ∧ Touch W W1.drew (fun k => k = cm) (fun k => k = cm) from ⟨by rw [hno.out]; exact hm1.kept rfl, b1.os, b1.tape, b1.output, b1.size, fun k hk _ => b1.block k hk, fun k hk => .inl hk⟩)
    clear hno hm1 h1 hX h hm b1 hs
    generalize (kget m ce).getD 0 = v at *
    go_enter Tryz.func33, Tryz.ntmps33
    go_wp2
    rw [← HW1.out]
    go_region
    go_wp2
    go_end0
    exact ⟨rfl, HF.out.1, HF.out.2⟩
  | false =>
    rw [hs] at hlk hno
    obtain ⟨w2, hput, hown2, hg2⟩ := OwnI.put (w := W1.drew.drew) (hm1.kept rfl) (t := 47) (e := 3) (by kernel_rfl) (by kernel_rfl) (by omega) ce hl t
    have HF := hid (show OwnI Tryz.prog 9 w2 cm (noteM m ⟨t, ce⟩) ∧ Touch W w2 (fun k => k = cm) (fun k => k = cm) from ⟨by rw [hno.out]; exact hown2, hg2.os.trans b1.os, hg2.tape.trans b1.tape, hg2.output.trans b1.output, Nat.le_trans b1.size hg2.size, fun k hk hn => (hg2.block k (Nat.lt_of_lt_of_le hk b1.size) (fun e => hn (by injection e))).trans (b1.block k hk), fun k hk => .inl hk⟩)
    clear hno hm1 h1 hX h hm b1 hs hown2 hg2
    generalize (kget m ce).getD 0 = v at *
    go_enter Tryz.func33, Tryz.ntmps33
    go_wp2
    rw [← HW1.out]
    go_region
    go_wp2
    go_region
    go_wp2
    go_end0
    exact ⟨rfl, HF.out.1, HF.out.2⟩
end
end Go.Proofs.YtiabfngiibabcaaGreatDoor

set_option linter.unusedVariables false
set_option linter.unusedSimpArgs false
set_option maxHeartbeats 3200000
set_option maxRecDepth 100000
namespace Go.Proofs.YtiabfngiibabcaaGreatDoor
open Go.RowKit

def lCells (x : Lf) : List Value := [.int .i64 x.time, .string (S x.cert)]
theorem info_leaf : ∃ i, (Tryz.prog).info? 30 = some i ∧ i.zero = some (.agg #[.int .i64 0, .string ByteArray.empty]) ∧ i.size = 2 ∧ i.bytes = 24 := by
  have h : ((Tryz.prog).info? 30).map (fun i => (i.zero, i.size, i.bytes)) = some (some (.agg #[.int .i64 0, .string ByteArray.empty]), 2, 24) := by kernel_rfl
  obtain ⟨i, hi, he⟩ := Option.map_eq_some_iff.1 h
  simp only [Prod.mk.injEq] at he
  exact ⟨i, hi, he.1, he.2.1, he.2.2⟩
theorem append_leaf (W : World) {base : Nat} {A : Option Addr} {c : Nat} {os : List Lf} (y : Lf) (hown : W.ownsRow base 30 2 (.slice A os.length c) os.length (os.flatMap lCells)) (hl : os.length ≤ 1000000) (hbase : base ≤ W.heap.size) :
    ∃ A' c' w', (Builtin.append_ #[35, 35] 35 #[.slice A os.length c, .slice (some ⟨W.heap.size, 0, none⟩) 1 1]).run Tryz.prog (W.alloc (.cells #[.int .i64 y.time, .string (S y.cert)] 30)) = .ok (.slice A' (os.length + 1) c') w' ∧
      w'.ownsRow base 30 2 (.slice A' (os ++ [y]).length c') (os ++ [y]).length ((os ++ [y]).flatMap lCells) ∧ Touch W w' (OwnBy (.slice A os.length c)) (OwnBy (.slice A' (os.length + 1) c')) := by
  obtain ⟨i, hi, hz, hsz, hby⟩ := info_leaf
  have b0 : Below W.heap.size W (W.alloc (.cells #[.int .i64 y.time, .string (S y.cert)] 30)) := (Below.refl _ _).alloc (Nat.le_refl _) _
  have hB := Blk.new W 30 #[.int .i64 y.time, .string (S y.cert)]
  obtain ⟨v', w', hrun, hown1, hgrow, hat⟩ := run_append_row (P := Tryz.prog) _ base 35 35 30 i _ 2 24 (by kernel_rfl) hi hz hsz hby rfl (by decide) _ _ _ (row_alloc hown (.cells #[.int .i64 y.time, .string (S y.cert)] 30)) (some ⟨W.heap.size, 0, none⟩) 1 1 (lCells y) (by simp [lCells]) (fun h => by cases h)
    (fun ad had j u hu => by
      injection had with had
      subst had
      rw [add_plain', Nat.zero_add, hB.cell j, ← hu]
      simp [lCells])
    (fun u hu => by
      simp only [lCells, List.mem_cons, List.not_mem_nil, or_false] at hu
      rcases hu with rfl | rfl <;> rfl)
    (by unfold maxLen; omega) (by omega) (by simp; omega)
  have hlen : (os ++ [y]).length = os.length + 1 := by simp
  have hfl : (os ++ [y]).flatMap lCells = os.flatMap lCells ++ lCells y := by simp
  obtain ⟨A', c', rfl⟩ := row_form hown1
  refine ⟨A', c', w', hrun, ?_, (Touch.of_below b0 _).trans ((Touch.of_grown hgrow fun k hk => hk).more fun k hk => ?_)⟩
  · rw [hlen, hfl]
    exact hown1
  · rcases hat with h | h
    · exact .inl (h ▸ hk)
    · rw [OwnBy, h] at hk
      injection hk with hk
      exact .inr (by rw [← hk]; simp)

def dCells (x : Hd) : List Value := [.int .i64 x.size, .int .i64 x.time, .string (S x.root)]
theorem info_head : ∃ i, (Tryz.prog).info? 97 = some i ∧ i.zero = some (.agg #[.int .i64 0, .int .i64 0, .string ByteArray.empty]) ∧ i.size = 3 ∧ i.bytes = 32 := by
  have h : ((Tryz.prog).info? 97).map (fun i => (i.zero, i.size, i.bytes)) = some (some (.agg #[.int .i64 0, .int .i64 0, .string ByteArray.empty]), 3, 32) := by kernel_rfl
  obtain ⟨i, hi, he⟩ := Option.map_eq_some_iff.1 h
  simp only [Prod.mk.injEq] at he
  exact ⟨i, hi, he.1, he.2.1, he.2.2⟩
theorem append_head (W : World) {base : Nat} {A : Option Addr} {c : Nat} {os : List Hd} (y : Hd) (hown : W.ownsRow base 97 3 (.slice A os.length c) os.length (os.flatMap dCells)) (hl : os.length ≤ 1000000) (hbase : base ≤ W.heap.size) :
    ∃ A' c' w', (Builtin.append_ #[46, 46] 46 #[.slice A os.length c, .slice (some ⟨W.heap.size, 0, none⟩) 1 1]).run Tryz.prog (W.alloc (.cells #[.int .i64 y.size, .int .i64 y.time, .string (S y.root)] 97)) = .ok (.slice A' (os.length + 1) c') w' ∧
      w'.ownsRow base 97 3 (.slice A' (os ++ [y]).length c') (os ++ [y]).length ((os ++ [y]).flatMap dCells) ∧ Touch W w' (OwnBy (.slice A os.length c)) (OwnBy (.slice A' (os.length + 1) c')) := by
  obtain ⟨i, hi, hz, hsz, hby⟩ := info_head
  have b0 : Below W.heap.size W (W.alloc (.cells #[.int .i64 y.size, .int .i64 y.time, .string (S y.root)] 97)) := (Below.refl _ _).alloc (Nat.le_refl _) _
  have hB := Blk.new W 97 #[.int .i64 y.size, .int .i64 y.time, .string (S y.root)]
  obtain ⟨v', w', hrun, hown1, hgrow, hat⟩ := run_append_row (P := Tryz.prog) _ base 46 46 97 i _ 3 32 (by kernel_rfl) hi hz hsz hby rfl (by decide) _ _ _ (row_alloc hown (.cells #[.int .i64 y.size, .int .i64 y.time, .string (S y.root)] 97)) (some ⟨W.heap.size, 0, none⟩) 1 1 (dCells y) (by simp [dCells]) (fun h => by cases h)
    (fun ad had j u hu => by
      injection had with had
      subst had
      rw [add_plain', Nat.zero_add, hB.cell j, ← hu]
      simp [dCells])
    (fun u hu => by
      simp only [dCells, List.mem_cons, List.not_mem_nil, or_false] at hu
      rcases hu with rfl | rfl | rfl <;> rfl)
    (by unfold maxLen; omega) (by omega) (by simp; omega)
  have hlen : (os ++ [y]).length = os.length + 1 := by simp
  have hfl : (os ++ [y]).flatMap dCells = os.flatMap dCells ++ dCells y := by simp
  obtain ⟨A', c', rfl⟩ := row_form hown1
  refine ⟨A', c', w', hrun, ?_, (Touch.of_below b0 _).trans ((Touch.of_grown hgrow fun k hk => hk).more fun k hk => ?_)⟩
  · rw [hlen, hfl]
    exact hown1
  · rcases hat with h | h
    · exact .inl (h ▸ hk)
    · rw [OwnBy, h] at hk
      injection hk with hk
      exact .inr (by rw [← hk]; simp)
end Go.Proofs.YtiabfngiibabcaaGreatDoor
