/- The keys of a map from texts to texts, sorted. Walks of strings.HasPrefix, and of the closure of kv.Keys. Walk of kv.Keys. Arguments opened: slices, cell by cell. Batches that came in, and batches beside a store. A byte is appended. Walks of package kv: put. -/
import Derived.Test.YtiabfngiibabcaaGreatDoorM05
import Derived.Test.YtiabfngiibabcaaGreatDoorM10
import Derived.CallsIn
import Derived.Test.YtiabfngiibabcaaGreatDoorChecked
import Derived.Test.YtiabfngiibabcaaGreatDoorM01
import Derived.Lib.OwnBridge
import Derived.Lib.SliceRun
import Derived.Shelf.SlicesE.DeleteFunc
import Derived.ProofKit
import Derived.Deep.Slices
import Derived.Deep.Fields
import Derived.ChangeSame
import Derived.Test.YtiabfngiibabcaaGreatDoorM09
import Derived.Test.YtiabfngiibabcaaGreatDoorM02
import Derived.Laws.Shifts
import Derived.Lib.AppendStr
set_option linter.unusedVariables false
set_option linter.unusedSimpArgs false
set_option maxHeartbeats 1600000
set_option maxRecDepth 100000
namespace Go.Proofs.YtiabfngiibabcaaGreatDoor
open Go.RowKit Go.Maps Go.Sort Go.Shelf Go.WideMaps Go.ChangeMaps Go.WideAt Go.WideShapes

theorem lay_sorts (m : Nat) : AnyZ.SortsIn Tryz.prog laySorted_ren Fence.wide m :=
  ⟨fun blk off cap ss W hH hblk hsz => callsIn_wide.2 (AnyM.slices_Sort_string laySort blk off cap ss W hH hblk hsz),
   fun p cap W => callsIn_wide.2 (AnyM.slices_Sort_string_none laySort p cap W)⟩

theorem maps_Keys_any (mb : Option Nat) (W : World) : CallsIn Fence.wide 5 Tryz.prog 83 #[.map mb] W fun e w' => e = .returned (.func (.func 148) #[] #[.pointer (some ⟨W.heap.size, 0, none⟩)]) ∧ w' = W.alloc (.cells #[.map mb] 138) :=
  AnyZ.keys_in layKeys Fence.wide 5 trivial rfl mb W

set_option maxHeartbeats 1000000 in
theorem slices_Sorted_keys {H : Type} (b nn : Nat) (D0 : DataW H) (R : Value → Option (DataW H × List MemPlace)) (w : World) (hown : w.ownsMap Tryz.prog 9 R b nn D0) (hmax : Maps.size D0 ≤ maxLen) (hbytes : Maps.size D0 * 16 ≤ 140737488355328) :
    CallsIn Fence.wide 5 Tryz.prog 82 #[.func (.func 148) #[] #[.pointer (some ⟨w.heap.size, 0, none⟩)]] (w.alloc (.cells #[.map (some b)] 138)) fun e w' => ∃ (v : Value) (ss : List (List UInt8)), e = .returned v ∧ ss.Perm (strKeys D0) ∧
      w'.ownsRow (w.alloc (.cells #[.map (some b)] 138)).heap.size 9 1 v ss.length ((ss.mergeSort (fun x y => decide (x ≤ y))).map encStr) ∧ (v = .slice none 0 0 ↔ ss = []) ∧ Below (w.alloc (.cells #[.map (some b)] 138)).heap.size (w.alloc (.cells #[.map (some b)] 138)) w' := by
  have hbl := hown.lt
  have hseq : SeqGives Fence.wide 2 Tryz.prog 148 #[.pointer (some ⟨w.heap.size, 0, none⟩)] encStr (fun ss => ss.Perm (strKeys D0)) (Maps.size D0) (w.alloc (.cells #[.map (some b)] 138)) :=
    AnyZ.keys_gives (ρ := layKeys_ren) { layKeys with } Fence.wide _ trivial rfl (by omega) w.heap.size b nn D0 _ (by simp) (by simp) (by
      obtain ⟨es, clock, hb, Ft, hs, hD⟩ := hown
      exact ⟨es, clock, (Below.heap_alloc _ _ b hbl).trans hb, Ft, hs, hD⟩)
  exact AnyZ.sorted_in laySorted Fence.wide 5 trivial trivial trivial trivial rfl (by omega) (lay_sorts _) (enters_of Tryz.func147 (by kernel_rfl) rfl) 148 #[.pointer (some ⟨w.heap.size, 0, none⟩)] trivial (enters_of Tryz.func148 (by kernel_rfl) rfl) _ _ hmax hbytes _ hseq

end Go.Proofs.YtiabfngiibabcaaGreatDoor

set_option linter.unusedVariables false
set_option linter.unusedSimpArgs false
set_option maxHeartbeats 1600000
set_option maxRecDepth 100000
namespace Go.Proofs.YtiabfngiibabcaaGreatDoor
open Go.RowKit

/-- Does l begin with p? -/
def hasP (l p : List UInt8) : Bool := decide (p.length ≤ l.length) && (l.take p.length == p)
theorem lite_HasPrefix (l p : List UInt8) (w : World) : Calls Tryz.prog 150 #[.string (S l), .string (S p)] w fun e w' => e = .returned (.bool (hasP l p)) ∧ w' = w := by
  by_cases hl : p.length ≤ l.length
  · have H := hid (show hasP l p = (l.take p.length == p) by unfold hasP; simp [hl])
    have hq := S_beq (l.take p.length) p
    by_cases he : l.take p.length = p
    · rw [he] at H hq
      generalize hp' : p.length = n at *
      simp only [beq_self_eq_true] at H hq
      go_enter Tryz.func150, Tryz.ntmps150
      go_wp2
      go_ret
      exact ⟨by rw [H.out]; rfl, rfl⟩
    · have he' : (l.take p.length == p) = false := by simpa using he
      rw [he'] at H hq
      generalize hp' : p.length = n at *
      go_enter Tryz.func150, Tryz.ntmps150
      go_wp2
      go_ret
      exact ⟨by rw [H.out]; rfl, rfl⟩
  · have H := hid (show hasP l p = false by unfold hasP; simp [hl])
    go_enter Tryz.func150, Tryz.ntmps150
    go_wp2
    go_ret
    exact ⟨by rw [H.out]; rfl, rfl⟩
theorem strings_HasPrefix (l p : List UInt8) (w : World) : Calls Tryz.prog 86 #[.string (S l), .string (S p)] w fun e w' => e = .returned (.bool (hasP l p)) ∧ w' = w := by
  have T := hid (lite_HasPrefix l p w)
  go_enter Tryz.func86, Tryz.ntmps86
  go_wp2_with fail
  refine T.out.mono ?_
  rintro e w1 ⟨rfl, rfl⟩
  go_wp2
  go_ret
  exact ⟨rfl, rfl⟩

theorem keys_closure (l p : List UInt8) (B : Nat) (W : World) (hc : W.cell? ⟨B, 0, none⟩ = some (.string (S p))) :
    Calls Tryz.prog 85 #[.string (S l), .pointer (some ⟨B, 0, none⟩)] W fun e w' => e = .returned (.bool (!hasP l p)) ∧ w' = W := by
  have T := hid (fun W => strings_HasPrefix l p W)
  generalize hasP l p = r at *
  go_enter Tryz.func85, Tryz.ntmps85
  go_wp2_with fail
  refine (T.out _).mono ?_
  rintro e w1 ⟨rfl, hw⟩
  have hw' := hw.symm
  subst hw'
  go_wp2
  go_ret
  exact ⟨rfl, rfl⟩
end Go.Proofs.YtiabfngiibabcaaGreatDoor

set_option linter.unusedVariables false
set_option linter.unusedSimpArgs false
set_option maxHeartbeats 1600000
set_option maxRecDepth 100000
namespace Go.Proofs.YtiabfngiibabcaaGreatDoor
open Go.RowKit Go.Maps Go.Sort Go.Shelf Go.WideMaps Go.ChangeMaps Go.WideAt Go.WideShapes Go.Lib

theorem before_ltS : ∀ a b : List UInt8, bytesBefore a b = true → a < b
  | [], [], h => by simp [bytesBefore] at h
  | [], b :: s, _ => List.nil_lt_cons b s
  | a :: r, [], h => by simp [bytesBefore] at h
  | a :: r, b :: s, h => by
    simp only [bytesBefore, Bool.or_eq_true, decide_eq_true_eq, Bool.and_eq_true, beq_iff_eq] at h
    refine List.cons_lt_cons_iff.2 ?_
    rcases h with h | ⟨h1, h2⟩
    · exact .inl h
    · exact .inr ⟨h1, before_ltS r s h2⟩
theorem sorted_keysS {α : Type} {m : List (Key × α)} (hr : Rising m) {ss : List (List UInt8)} (hp : ss.Perm (m.map (·.1))) : ss.mergeSort (fun x y => decide (x ≤ y)) = m.map (·.1) := by
  have tr : ∀ a b c : List UInt8, leB a b = true → leB b c = true → leB a c = true := fun a b c h1 h2 => by simp only [leB, decide_eq_true_eq] at *; exact List.le_trans h1 h2
  have tot : ∀ a b : List UInt8, (leB a b || leB b a) = true := fun a b => by simp only [leB, Bool.or_eq_true, decide_eq_true_eq]; exact List.le_total a b
  refine List.Perm.eq_of_pairwise (le := fun a b => leB a b = true) (fun a b _ _ h1 h2 => ?_) (List.pairwise_mergeSort tr tot ss) ?_ ((List.mergeSort_perm ss leB).trans hp)
  · simp only [leB, decide_eq_true_eq] at h1 h2
    exact List.le_antisymm h1 h2
  · rw [List.pairwise_map]
    refine List.Pairwise.imp (fun {p q} hpq => ?_) hr
    simp only [leB, decide_eq_true_eq]
    exact List.le_of_lt (before_ltS _ _ hpq)
theorem strKeys_mapS (m : KMap) : strKeys (mapS m) = m.map (·.1) := by
  simp [strKeys, mapS, strOf, Function.comp_def]

/-- The keys that begin with a text. -/
def preK (m : KMap) (pre : List UInt8) : List (List UInt8) := (m.map (·.1)).filter fun x => hasP x pre
def KeysPost (w : World) (m : KMap) (pre : List UInt8) (e : Ending) (w' : World) : Prop :=
  ∃ v, e = .returned v ∧ w'.ownsRow w.heap.size 9 1 v (preK m pre).length ((preK m pre).map fun x => Value.string (S x)) ∧ Below w.heap.size w w'
/-- What Sorted leaves. -/
def SortedPost (w : World) (m : KMap) (v : Value) (w' : World) : Prop :=
  w'.ownsRow w.heap.size 9 1 v m.length ((m.map (·.1)).map encStr) ∧ (v = .slice none 0 0 ↔ m = []) ∧ Below w.heap.size w w'
theorem kv_Keys {w : World} {sb mb : Nat} {m : KMap} (hc : w.cell? ⟨sb, 2, none⟩ = some (.map (some mb))) (hlt : sb < w.heap.size) (hm : OwnS Tryz.prog 9 w mb m) (hr : Rising m) (hml : m.length ≤ 1000000) (pre : List UInt8) :
    Calls Tryz.prog 29 #[.pointer (some ⟨sb, 0, none⟩), .string (S pre)] w (KeysPost w m pre) := by
  have b0 : Below w.heap.size w (w.alloc (.cells #[.string (S pre)] 9)) := (Below.refl _ _).alloc (Nat.le_refl _) _
  have hmlt : mb < w.heap.size := by
    obtain ⟨es, c, hb, -⟩ := hm
    exact (Array.getElem?_eq_some_iff.1 hb).1
  have hown := hm.kept (b0.block mb hmlt)
  have hc1 := (b0.cell (p := ⟨sb, 2, none⟩) hlt).trans hc
  have HC := hid (show (w.alloc (.cells #[.string (S pre)] 9)).cell? ⟨w.heap.size, 0, none⟩ = some (.string (S pre)) from (Blk.new _ _ _).cell 0)
  have HB := hid b0
  unfold OwnS at hown
  have hmax : Maps.size (mapS m) ≤ maxLen := by rw [mapS_size]; unfold maxLen; omega
  have hbytes : Maps.size (mapS m) * 16 ≤ 140737488355328 := by rw [mapS_size]; omega
  have fin : ∀ (W1 : World) (v : Value) (ss : List (List UInt8)) (w' : World), ss.Perm (strKeys (mapS m)) →
      w'.ownsRow (W1.alloc (.cells #[.map (some mb)] 138)).heap.size 9 1 v ss.length ((ss.mergeSort (fun x y => decide (x ≤ y))).map encStr) → (v = .slice none 0 0 ↔ ss = []) →
      Below (W1.alloc (.cells #[.map (some mb)] 138)).heap.size (W1.alloc (.cells #[.map (some mb)] 138)) w' → SortedPost W1 m v w' := by
    intro W1 v ss w' hS hrow hnil hbw
    rw [strKeys_mapS] at hS
    have hl : ss.length = m.length := by rw [hS.length_eq]; simp
    rw [sorted_keysS hr hS, hl] at hrow
    refine ⟨row_base hrow (by simp), hnil.trans ?_, ((Below.refl _ W1).alloc (Nat.le_refl _) _).trans (hbw.mono (by simp))⟩
    constructor
    · rintro rfl
      exact List.eq_nil_of_length_eq_zero (by rw [← hl]; rfl)
    · intro h0
      exact List.eq_nil_of_length_eq_zero (by rw [hl, h0]; rfl)
  have FIN := hid fin
  have hlist : preK m pre = (m.map (·.1)).filter fun x => !(!hasP x pre) := by unfold preK; simp
  have hlen : (m.map (·.1)).length = m.length := by simp
  have DEL : ∀ v w1, SortedPost (w.alloc (.cells #[.string (S pre)] 9)) m v w1 →
      CallsIn Fence.wide 5 Tryz.prog 84 #[v, .func (.func 85) #[] #[.pointer (some ⟨w.heap.size, 0, none⟩)]] w1 (KeysPost w m pre) := by
    rintro v w1 ⟨hrow, hnil, hb1⟩
    refine callsIn_wide.2 ?_
    by_cases hne : m = []
    · have hv := hnil.2 hne
      subst hv
      have H := hid (show preK m pre = [] by rw [hlist, hne]; rfl)
      have HB1 := hid (bt HB.out hb1)
      have hmf : ∀ (fn : Fn) (first cap : Array Value) (w : World), (Instr.makeFunc fn first cap).run Tryz.prog w = .ok (.func fn first cap) w := fun _ _ _ _ => rfl
      have E := hid (fun (fv : Value) (w : World) => show Calls Tryz.prog 149 #[.slice none 0 0, fv] w fun e w' => e = .returned (.int .i64 (-1)) ∧ w' = w from AnyE.slices_IndexFunc_empty (ρ := layDelete_ren) { layDelete with } none 0 fv w)
      clear FIN hlist hlen hmax hbytes hnil hrow hb1 hne
      go_enter Tryz.func84, Tryz.ntmps84
      go_wp2_with fail
      refine (E.out _ _).mono ?_
      rintro e w' ⟨rfl, hw⟩
      have hw' := hw.symm
      subst hw'
      go_wp2
      go_ret
      refine ⟨_, rfl, ?_, HB1.out⟩
      rw [H.out]
      exact World.ownsRow_nil _ _ _ _
    · obtain ⟨gg, cap, rfl, hbg, hglt, hnc, hcm, hzl, hH⟩ := holds_of_ownsRow hrow (fun e => hne (hnil.1 e))
      have hc1 : w1.cell? ⟨w.heap.size, 0, none⟩ = some (.string (S pre)) := (hb1.cell (p := ⟨w.heap.size, 0, none⟩) (by simp)).trans HC.out
      have hBlt : w.heap.size < w1.heap.size := Nat.lt_of_lt_of_le (by simp) hb1.size
      have hne2 : w.heap.size ≠ gg := by simp at hbg; omega
      have eg : ∀ args w, (callFunc 85 args).run Tryz.prog w = .ok (.enter 85 args) w := enters_of Tryz.func85 (by kernel_rfl) rfl
      have hsz : (m.map (·.1)).toArray.size = m.length := by simp
      have gives : ∀ (x : List UInt8) (W : World), W.cell? ⟨w.heap.size, 0, none⟩ = some (.string (S pre)) → FnGives Tryz.prog 85 #[.pointer (some ⟨w.heap.size, 0, none⟩)] #[encStr x] (.bool (!hasP x pre)) W := fun x W hc =>
        (keys_closure x pre w.heap.size W hc).mono fun e w' ⟨h1, h2⟩ => ⟨h1, 0, by rw [h2]; rfl⟩
      have hcon := AnyE.slices_DeleteFunc layDelete encStr (fun _ => rfl) (fun x => !hasP x pre) 85 #[.pointer (some ⟨w.heap.size, 0, none⟩)] eg [] Tryz.zeroValue9 gg 0 cap (m.map (·.1)).toArray w1
        (fun W x hb => gives x W ((hb.cell (p := ⟨w.heap.size, 0, none⟩) hBlt).trans hc1))
        (fun n os dk x _ => gives x _ (by
          unfold sortWorld
          rw [cell?_grow _ _ _ (by show w.heap.size < (putRow _ _ _ _ _).heap.size; rw [size_putRow]; exact hBlt), cell?_putRow_other _ _ gg 0 _ _ (Or.inl hne2)]
          exact hc1)) hH (by rw [hsz]; omega) (by rw [hsz]; exact hnc)
      change Calls Tryz.prog 84 _ _ _ at hcon
      rw [hsz] at hcon
      refine hcon.mono ?_
      rintro e w' ⟨rfl, q, rfl⟩
      refine ⟨_, rfl, ?_, ?_⟩
      · have hle : (preK m pre).length ≤ m.length := by
          rw [hlist, ← hlen]
          exact List.length_filter_le _ _
        have hr := ownsRow_putRow (q := q) (k := (preK m pre).length) (ys := preK m pre ++ List.replicate (m.length - (preK m pre).length) []) hrow (by simp; omega) hle
        rw [List.take_left' rfl] at hr
        rw [← hlist]
        exact row_base hr (by simp)
      · exact HB.out.trans ((below_putRow hb1 hbg).mono (by simp))
  have DL := hid DEL
  have cS := slices_Sorted_keys mb _ (mapS m) Rs (w.alloc (.cells #[.string (S pre)] 9)) hown hmax hbytes
  simp only [show (w.alloc (.cells #[.string (S pre)] 9)).heap.size = w.heap.size + 1 by simp] at cS
  have CS := hid cS
  clear cS
  clear DEL hlist hlen fin
  refine (callsIn_wide (n := 6)).1 ?_
  have hfK : Fence.wide.fn 83 := trivial
  have hfS : Fence.wide.fn 82 := trivial
  have hfD : Fence.wide.fn 84 := trivial
  have hmf : ∀ (fn : Fn) (first cap : Array Value) (w : World), (Instr.makeFunc fn first cap).run Tryz.prog w = .ok (.func fn first cap) w := fun _ _ _ _ => rfl
  refine callsIn_of_wp Tryz.func29 rfl trivial ?_ rfl
  simp only [Tryz.ntmps29, List.size_toArray, List.length_cons, List.length_nil, Nat.reduceAdd, Nat.reduceSub, Array.replicate_succ, Array.replicate_zero, List.push_toArray, List.append_toArray, List.nil_append, List.cons_append]
  gi_wp2_with (first
    | (gi_at_call 83; refine (maps_Keys_any _ _).mono ?_; rintro e w' ⟨rfl, rfl⟩)
    | (gi_at_call 82; refine CS.out.mono ?_; rintro e w' ⟨v, ss, rfl, hS, hrow, hnil, hb⟩; have HSP := hid (FIN.out _ v ss _ hS hrow hnil hb); clear hS hrow hnil hb)
    | (gi_at_call 84; refine (DL.out _ _ HSP.out).mono ?_; rintro e w' ⟨v2, rfl, hr2, hb2⟩; have HR2 := hid hr2; have HB2 := hid hb2; clear hr2 hb2))
  go_ret
  exact ⟨_, rfl, HR2.out, HB2.out⟩
end Go.Proofs.YtiabfngiibabcaaGreatDoor

set_option linter.unusedVariables false
set_option linter.unusedSimpArgs false
namespace Go.Proofs.YtiabfngiibabcaaGreatDoor
open Go.RowKit Go.ChangeShapes Go.WideShapes Go.Deep

def In64 (a : Int) : Prop := -9223372036854775808 ≤ a ∧ a ≤ 9223372036854775807

section
variable {H : Type} {enc : TypeId × Value → H} {P : Program} {w : World} {base : Nat} {spare : Nat → Bool} {held : Bool}
/-- A slice that came in, whatever its elements: each element's cells read. -/
theorem open_slice_any {t e : TypeId} {A : Option Addr} {n cap : Nat} {d : DataW H} {ps : List MemPlace} (ht : P.underlying t = some (.slice e)) (hC : 0 < P.cellsOf e) (h : DataW.Trod enc P w base spare held t (.slice A n cap) d ps) :
    n ≤ cap ∧ (cap : Int) ≤ 9223372036854775807 ∧ (0 < n → ∃ b off, A = some ⟨b, off, none⟩ ∧ b < w.heap.size ∧
      ∀ i, i < n → ∃ (cs : List Value) (m : Nat) (y : DataW H × List MemPlace), cs.length = P.cellsOf e ∧ (∀ j, j < P.cellsOf e → w.cell? ⟨b, off + (i * P.cellsOf e + j), none⟩ = cs[j]?) ∧ DataW.trod enc P w base spare held m e cs = some y) := by
  obtain ⟨fuel, hf⟩ := h
  rcases open_slice ht hf with ⟨hcs, hx⟩ | ⟨a, len, cap', m, n', D, Pl, hcs, hb, hl, hm, hmm, hx, hi⟩
  · simp [Value.cells] at hcs
    obtain ⟨rfl, rfl, rfl⟩ := hcs
    exact ⟨Nat.le_refl _, by omega, fun h => absurd h (by omega)⟩
  · simp [Value.cells] at hcs
    obtain ⟨rfl, rfl, rfl⟩ := hcs
    refine ⟨hl, by unfold maxLen at hm; omega, fun h0 => ?_⟩
    have hin : ∀ i, i < n → i < m := fun i h => by rw [hmm]; split <;> omega
    obtain ⟨cs0, hc0, _⟩ := hi 0 (hin 0 h0)
    obtain ⟨_, hl0, hat0⟩ := World.cells?_some hc0
    have h00 := hat0 0 hC
    rw [List.getElem?_eq_getElem (by omega)] at h00
    have hs : (a.add (0 * P.cellsOf e)).add 0 = a := by simp [Addr.add]
    rw [hs] at h00
    obtain ⟨b, off, spot⟩ := a
    have hspot : spot = none := by simpa using World.cell?_spot h00
    subst hspot
    refine ⟨b, off, rfl, World.block_lt_of_cell? w _ h00, fun i hin' => ?_⟩
    obtain ⟨cs, hc, ht'⟩ := hi i (hin i hin')
    obtain ⟨_, hlen, hat⟩ := World.cells?_some hc
    refine ⟨cs, n', _, hlen, fun j hj => ?_, ht'⟩
    have := hat j hj
    rw [show ((⟨b, off, none⟩ : Addr).add (i * P.cellsOf e)).add j = ⟨b, off + (i * P.cellsOf e + j), none⟩ by
      unfold Addr.add; split <;> split <;> simp_all <;> omega] at this
    exact this

/-- Of a struct of fields of one cell: each field reads. -/
theorem open_fields {e : TypeId} {fs : Array Field} {m : Nat} {cs : List Value} {y : DataW H × List MemPlace} (he : P.underlying e = some (.struct fs)) (hone : oneCellFields P fs = true) (h : DataW.trod enc P w base spare held m e cs = some y) :
    ∀ (j : Nat) (f : Field), fs[j]? = some f → j < cs.length → ∃ (v : Value) (m' : Nat) (z : DataW H × List MemPlace), cs[j]? = some v ∧ DataW.trod enc P w base spare held m' f.type [v] = some z := by
  obtain ⟨ys, n', hn', hy, hlen, hyl, hf⟩ := DataW.trod_struct he h
  intro j f hj hjl
  obtain ⟨ho, hk⟩ := hone_of hone j f hj
  have h1 := hf j f hj
  rw [ho, hk] at h1
  have hone' : (cs.drop j).take 1 = [cs[j]] := by
    rw [List.drop_eq_getElem_cons hjl]; rfl
  rw [hone'] at h1
  have hjs : j < ys.length := by rw [hyl]; exact (Array.getElem?_eq_some_iff.1 hj).1
  have hys : ys[j]? = some ys[j] := List.getElem?_eq_getElem hjs
  exact ⟨cs[j], _, _, List.getElem?_eq_getElem hjl, h1.trans hys⟩
end

theorem choose_list {α : Type} (n : Nat) (p : Nat → α → Prop) (d : α) (h : ∀ i, i < n → ∃ a, p i a) : ∃ l : List α, l.length = n ∧ ∀ i, (hi : i < l.length) → p i l[i] := by
  induction n with
  | zero => exact ⟨[], rfl, fun i hi => absurd hi (by simp)⟩
  | succ n ih =>
    obtain ⟨l, hl, hp⟩ := ih (fun i hi => h i (by omega))
    obtain ⟨a, ha⟩ := h n (by omega)
    refine ⟨l ++ [a], by simp [hl], fun i hi => ?_⟩
    simp at hi
    by_cases hin : i < l.length
    · rw [List.getElem_append_left hin]; exact hp i hin
    · obtain rfl : i = n := by omega
      rw [List.getElem_append_right (by omega)]
      simpa [hl] using ha
end Go.Proofs.YtiabfngiibabcaaGreatDoor

set_option linter.unusedVariables false
set_option linter.unusedSimpArgs false
set_option maxRecDepth 100000
namespace Go.Proofs.YtiabfngiibabcaaGreatDoor
open Go.RowKit

/-- A row of writes, as blocks beside a store. -/
theorem ws_row_blk {w : World} {base : Nat} {A : Option Addr} {c : Nat} {ps : List Wr} (h : w.ownsRow base 104 3 (.slice A ps.length c) ps.length (ps.flatMap wCells)) :
    ∃ X1 : List Xc, (∀ x ∈ X1, base ≤ x.1 ∧ Blk w x.1 x.2.1 x.2.2) ∧ ∀ W', (∀ x ∈ X1, Blk W' x.1 x.2.1 x.2.2) → WsAt W' A ps := by
  rcases h.2 with ⟨h1, h2⟩ | ⟨g, cap, cur, hv, hb, hh, r1, r2, r3, r4⟩
  · exact ⟨[], by simp, fun W' _ h0 => by omega⟩
  · simp only [Value.slice.injEq] at hv
    obtain ⟨rfl, -, rfl⟩ := hv
    refine ⟨[(g, 104, cur)], by simpa using ⟨hb, hh⟩, fun W' hW h0 => ?_⟩
    have hB := hW _ (List.mem_singleton.2 rfl)
    refine ⟨g, 0, rfl, hB.lt, fun i hi => ?_⟩
    obtain ⟨p1, p2, p3⟩ := wCells_get ps i hi
    have key : ∀ j, j < ps.length * 3 → cur[j]? = (ps.flatMap wCells)[j]? := fun j hj => by
      rw [← r4, List.getElem?_take, if_pos hj]
      simp
    simp only [Nat.zero_add]
    exact ⟨(hB.cell _).trans ((key _ (by omega)).trans p1), (hB.cell _).trans ((key _ (by omega)).trans p2), (hB.cell _).trans ((key _ (by omega)).trans p3)⟩
section
variable {w0 : Fr} {W : World} {g N mb : Nat} {d : Dr} {X : List Xc} {m : KM}
theorem MW.pushL (h : MW w0 g d N X mb m W) {W' : World} (hb : Below W.heap.size W W') {X1 : List Xc} (h1 : ∀ x ∈ X1, W.heap.size ≤ x.1 ∧ Blk W' x.1 x.2.1 x.2.2) : MW w0 g d N (X1 ++ X) mb m W' := by
  obtain ⟨fp, k1, h2, h3, h4, h5, h6, h7, h8⟩ := h
  refine ⟨fp, k1.below hb, h2, h3.below hb, h4, fun x hx => ?_, h6, h7, h8.kept (hb.block mb h8.lt)⟩
  rcases List.mem_append.1 hx with hx | hx
  · refine ⟨fun hk => ?_, (h1 x hx).2⟩
    have := k1.lt _ hk
    have := (h1 x hx).1
    omega
  · exact ⟨(h5 x hx).1, (h5 x hx).2.below hb (h5 x hx).2.lt⟩
end
/-- A batch that came in. -/
theorem open_writes {H : Type} {enc : TypeId × Value → H} {w : World} {base : Nat} {spare : Nat → Bool} {held : Bool} {A : Option Addr} {n cap : Nat} {d : DataW H} {ps : List MemPlace}
    (h : DataW.Trod enc Tryz.prog w base spare held 105 (.slice A n cap) d ps) : ∃ qs : List Wr, n = qs.length ∧ qs.length ≤ cap ∧ (cap : Int) ≤ 9223372036854775807 ∧ WsAt w A qs := by
  have hC : (Tryz.prog).cellsOf 104 = 3 := by kernel_rfl
  obtain ⟨h1, h2, h3⟩ := open_slice_any Tryz.underlying105 (by rw [hC]; omega) h
  rw [hC] at h3
  rcases Nat.eq_zero_or_pos n with h0 | h0
  · exact ⟨[], by simpa using h0, by simp, h2, fun h => absurd h (by simp)⟩
  · obtain ⟨b, off, hA, hb, hi⟩ := h3 h0
    obtain ⟨l, hl, hp⟩ := choose_list n (fun i (q : Wr) => w.cell? ⟨b, off + i * 3, none⟩ = some (.string (S q.key)) ∧ w.cell? ⟨b, off + i * 3 + 1, none⟩ = some (.string (S q.val)) ∧ w.cell? ⟨b, off + i * 3 + 2, none⟩ = some (.bool q.gone)) ⟨[], [], false⟩ (fun i hin => by
      obtain ⟨cs, m, y, hlen, hcell, ht⟩ := hi i hin
      have hf := open_fields Tryz.underlying104 (by kernel_rfl) ht
      obtain ⟨v0, m0, z0, e0, t0⟩ := hf 0 _ rfl (by omega)
      obtain ⟨v1, m1, z1, e1, t1⟩ := hf 1 _ rfl (by omega)
      obtain ⟨v2, m2, z2, e2, t2⟩ := hf 2 _ rfl (by omega)
      obtain ⟨s0, c0, -, -⟩ := DataW.trod_string Tryz.underlying9 t0
      obtain ⟨s1, c1, -, -⟩ := DataW.trod_string Tryz.underlying9 t1
      obtain ⟨b2, c2, -⟩ := DataW.trod_bool Tryz.underlying4 t2
      simp only [List.cons.injEq, and_true] at c0 c1 c2
      subst c0 c1 c2
      refine ⟨⟨s0.data.toList, s1.data.toList, b2⟩, ?_, ?_, ?_⟩
      · rw [S_of, ← e0, ← hcell 0 (by omega), Nat.add_zero]
      · rw [S_of, ← e1, ← hcell 1 (by omega), Nat.add_assoc]
      · rw [← e2, ← hcell 2 (by omega), Nat.add_assoc])
    exact ⟨l, hl.symm, by omega, h2, fun _ => ⟨b, off, hA, hb, hp⟩⟩
theorem filter_at {α : Type} (p : α → Bool) (l : List α) (i : Nat) (h : i < l.length) (hp : p l[i] = true) : ((l.take i).filter p).length < (l.filter p).length ∧ (l.filter p)[((l.take i).filter p).length]? = some l[i] := by
  have e : l.filter p = (l.take i).filter p ++ l[i] :: (l.drop (i + 1)).filter p := by
    conv => lhs; rw [← List.take_append_drop i l, List.drop_eq_getElem_cons h]
    rw [List.filter_append, List.filter_cons_of_pos hp]
  rw [e]
  constructor
  · simp
  · rw [List.getElem?_append_right (Nat.le_refl _)]
    simp
theorem filter_next {α : Type} (p : α → Bool) (l : List α) (i : Nat) (h : i < l.length) : ((l.take (i + 1)).filter p).length = ((l.take i).filter p).length + if p l[i] then 1 else 0 := by
  rw [List.take_succ_eq_append_getElem h, List.filter_append, List.length_append]
  cases hp : p l[i] <;> simp [hp]
end Go.Proofs.YtiabfngiibabcaaGreatDoor

set_option linter.unusedVariables false
set_option linter.unusedSimpArgs false
set_option maxHeartbeats 1600000
set_option maxRecDepth 100000
namespace Go.Proofs.YtiabfngiibabcaaGreatDoor
open Go.RowKit

/-- append(b, x), x one byte. -/
theorem append_byte (W : World) {base : Nat} {A : Option Addr} {c : Nat} {os : List UInt8} (y : UInt8) (hown : W.ownsRow base 5 1 (.slice A os.length c) os.length (os.map B8)) (hl : os.length ≤ 1000000) (hbase : base ≤ W.heap.size) :
    ∃ A' c' w', (Builtin.append_ #[85, 85] 85 #[.slice A os.length c, .slice (some ⟨W.heap.size, 0, none⟩) 1 1]).run Tryz.prog (W.alloc (.cells #[.int .u8 y.toNat] 5)) = .ok (.slice A' (os.length + 1) c') w' ∧
      w'.ownsRow base 5 1 (.slice A' (os ++ [y]).length c') (os ++ [y]).length ((os ++ [y]).map B8) ∧ Below base W w' := by
  obtain ⟨i, hi, hz, hsz, hby⟩ := info_u8
  have b0 : Below W.heap.size W (W.alloc (.cells #[B8 y] 5)) := (Below.refl _ _).alloc (Nat.le_refl _) _
  have hB := Blk.new W 5 #[B8 y]
  obtain ⟨v', w', hrun, hown1, hgrow, hat⟩ := run_append_row (P := Tryz.prog) _ base 85 85 5 i _ 1 1 (by kernel_rfl) hi hz hsz hby rfl (by decide) _ _ _ (row_alloc hown (.cells #[B8 y] 5)) (some ⟨W.heap.size, 0, none⟩) 1 1 [B8 y] rfl (fun h => by cases h)
    (fun ad had j u hu => by
      injection had with had
      subst had
      rw [add_plain', Nat.zero_add, hB.cell j, ← hu]
      simp)
    (fun u hu => by
      simp only [List.mem_cons, List.not_mem_nil, or_false] at hu
      subst hu
      rfl)
    (by unfold maxLen; omega) (by omega) (by simp; omega)
  have hlen : (os ++ [y]).length = os.length + 1 := by simp
  have hfl : (os ++ [y]).map B8 = os.map B8 ++ [B8 y] := by simp
  obtain ⟨A', c', rfl⟩ := row_form hown1
  refine ⟨A', c', w', hrun, ?_, (b0.mono hbase).grown hgrow (by simp; omega) fun k hk => row_base_le hown hk⟩
  rw [hlen, hfl]
  exact hown1
/-- The block of a slice. -/
def OwnBy (v : Value) (k : Nat) : Prop := v.ownBlock = some k
/-- append(b, x), x one byte. -/
theorem append_byteT (W : World) {base : Nat} {A : Option Addr} {c : Nat} {os : List UInt8} (y : UInt8) (hown : W.ownsRow base 5 1 (.slice A os.length c) os.length (os.map B8)) (hl : os.length ≤ 1000000) (hbase : base ≤ W.heap.size) :
    ∃ A' c' w', (Builtin.append_ #[85, 85] 85 #[.slice A os.length c, .slice (some ⟨W.heap.size, 0, none⟩) 1 1]).run Tryz.prog (W.alloc (.cells #[.int .u8 y.toNat] 5)) = .ok (.slice A' (os.length + 1) c') w' ∧
      w'.ownsRow base 5 1 (.slice A' (os ++ [y]).length c') (os ++ [y]).length ((os ++ [y]).map B8) ∧ Touch W w' (OwnBy (.slice A os.length c)) (OwnBy (.slice A' (os.length + 1) c')) := by
  obtain ⟨i, hi, hz, hsz, hby⟩ := info_u8
  have b0 : Below W.heap.size W (W.alloc (.cells #[B8 y] 5)) := (Below.refl _ _).alloc (Nat.le_refl _) _
  have hB := Blk.new W 5 #[B8 y]
  obtain ⟨v', w', hrun, hown1, hgrow, hat⟩ := run_append_row (P := Tryz.prog) _ base 85 85 5 i _ 1 1 (by kernel_rfl) hi hz hsz hby rfl (by decide) _ _ _ (row_alloc hown (.cells #[B8 y] 5)) (some ⟨W.heap.size, 0, none⟩) 1 1 [B8 y] rfl (fun h => by cases h)
    (fun ad had j u hu => by
      injection had with had
      subst had
      rw [add_plain', Nat.zero_add, hB.cell j, ← hu]
      simp)
    (fun u hu => by
      simp only [List.mem_cons, List.not_mem_nil, or_false] at hu
      subst hu
      rfl)
    (by unfold maxLen; omega) (by omega) (by simp; omega)
  have hlen : (os ++ [y]).length = os.length + 1 := by simp
  have hfl : (os ++ [y]).map B8 = os.map B8 ++ [B8 y] := by simp
  obtain ⟨A', c', rfl⟩ := row_form hown1
  refine ⟨A', c', w', hrun, ?_, (Touch.of_below b0 _).trans ((Touch.of_grown hgrow fun k hk => hk).more fun k hk => ?_)⟩
  · rw [hlen, hfl]
    exact hown1
  · rcases hat with h | h
    · exact .inl (h ▸ hk)
    · rw [OwnBy, h] at hk
      injection hk with hk
      exact .inr (by omega)
end Go.Proofs.YtiabfngiibabcaaGreatDoor

set_option linter.unusedVariables false
set_option linter.unusedSimpArgs false
set_option maxHeartbeats 3200000
set_option maxRecDepth 100000
namespace Go.Proofs.YtiabfngiibabcaaGreatDoor
open Go.RowKit

theorem leB_byte (n k : Nat) : ((UInt8.ofNat (n / 2 ^ (8 * k))).toNat : Int) = (n : Int) / 2 ^ (8 * k) % 256 := by simp
theorem kv_put (w : World) (base : Nat) (A : Option Addr) (c : Nat) (xs : List UInt8) (hown : w.ownsRow base 5 1 (.slice A xs.length c) xs.length (xs.map B8)) (hbase : base ≤ w.heap.size) (hl : xs.length ≤ 900000) (n width : Nat) (hn : n ≤ 1000000000) (hw : width ≤ 4) :
    Calls Tryz.prog 164 #[.slice A xs.length c, .int .i64 n, .int .i64 width] w fun e w' => ∃ A' c', e = .returned (.slice A' (xs.length + width) c') ∧ w'.ownsRow base 5 1 (.slice A' (xs ++ lowB n width).length c') (xs ++ lowB n width).length ((xs ++ lowB n width).map B8) ∧ Touch w w' (OwnBy (.slice A xs.length c)) (OwnBy (.slice A' (xs.length + width) c')) := by
  have H0 := hid hown
  go_enter Tryz.func164, Tryz.ntmps164
  go_wp2
  go_loopw [0, 7, 9] (fun b _ i wr => ∃ (k : Nat) (A' : Option Addr) (c' : Nat) (os : List UInt8), k ≤ width ∧ i = .int .i64 k ∧ b = .slice A' os.length c' ∧ os.length = xs.length + k ∧ Hid (os = xs ++ lowB n k) ∧ Hid (wr.ownsRow base 5 1 (.slice A' os.length c') os.length (os.map B8)) ∧ Hid (Touch w wr (OwnBy (.slice A xs.length c)) (OwnBy (.slice A' os.length c')))) (fun _ _ i _ => width - (intOf i).toNat)
  case atStart => exact ⟨0, A, c, xs, Nat.zero_le _, rfl, rfl, rfl, by simp [Hid, lowB], H0, Touch.refl _ _⟩
  case round =>
    obtain ⟨k, A', c', os, hk, rfl, rfl, hol, ho, hr, hb⟩ := hrel
    by_cases h : k < width
    · have hb8 : (8 * (k : Int)).toNat = 8 * k := by omega
      obtain ⟨A2, c2, w', hrun0, hrow1, hb1⟩ := append_byteT wr (UInt8.ofNat (n / 2 ^ (8 * k))) hr.out (by omega) (Nat.le_trans hbase hb.out.size)
      have HO := hid (show os ++ [UInt8.ofNat (n / 2 ^ (8 * k))] = xs ++ lowB n (k + 1) by rw [ho.out]; simp [lowB])
      have HR := hid hrow1
      have HB := hid (show Touch w w' (OwnBy (.slice A xs.length c)) (OwnBy (.slice A2 (os ++ [UInt8.ofNat (n / 2 ^ (8 * k))]).length c2)) by rw [List.length_append]; exact hb.out.trans hb1)
      rw [leB_byte] at hrun0
      have hrun : (Builtin.append_ #[85, 85] 85 #[.slice A' os.length c', .slice (some ⟨wr.heap.size, 0, none⟩) 1 1]).run Tryz.prog (wr.alloc (.cells #[.int .u8 ((n : Int) / 2 ^ (8 * k) % 256)] 5)) = .ok (.slice A2 (os.length + 1) c2) w' := hrun0
      clear hrow1 hb1 hrun0
      go_wp2_with (first | (at_builtin; refine wpList_append_run rfl _ _ _ (by rfl) _ _ _ _ (by rfl) (by rfl) hrun ?_))
      go_roundw
      case rel => exact ⟨k + 1, A2, c2, os ++ [UInt8.ofNat (n / 2 ^ (8 * k))], by omega, by go_num, by simp [hol], by simp; omega, HO, HR, HB⟩
      case measure => simp [intOf]; omega
    · have hk' : k = width := by omega
      subst hk'
      go_wp2
      go_ret
      rw [← hol]
      exact ⟨A', c', rfl, by rw [← ho.out]; exact hr.out, hb.out⟩
/-- The same, the row's length apart. -/
theorem kv_put' (w : World) (base : Nat) (A : Option Addr) (m c : Nat) (xs : List UInt8) (hown : w.ownsRow base 5 1 (.slice A m c) m (xs.map B8)) (hbase : base ≤ w.heap.size) (hl : m ≤ 900000) (n width : Nat) (hn : n ≤ 1000000000) (hw : width ≤ 4) :
    Calls Tryz.prog 164 #[.slice A m c, .int .i64 n, .int .i64 width] w fun e w' => ∃ A' c', e = .returned (.slice A' (m + width) c') ∧ w'.ownsRow base 5 1 (.slice A' (m + width) c') (m + width) ((xs ++ lowB n width).map B8) ∧ Touch w w' (OwnBy (.slice A m c)) (OwnBy (.slice A' (m + width) c')) := by
  have hm : m = xs.length := by have := hown.1; simp at this; omega
  subst hm
  refine (kv_put w base A c xs hown hbase hl n width hn hw).mono ?_
  rintro e w' ⟨A', c', rfl, h1, h2⟩
  rw [List.length_append, lowB_len] at h1
  exact ⟨A', c', rfl, h1, h2⟩
theorem kv_put1 (w : World) (base : Nat) (A : Option Addr) (m c : Nat) (xs : List UInt8) (hown : w.ownsRow base 5 1 (.slice A m c) m (xs.map B8)) (hbase : base ≤ w.heap.size) (hl : m ≤ 900000) (N : Int) (hn0 : 0 ≤ N) (hn : N ≤ 1000000000) :
    Calls Tryz.prog 164 #[.slice A m c, .int .i64 N, .int .i64 1] w fun e w' => ∃ A' c', e = .returned (.slice A' (m + 1) c') ∧ w'.ownsRow base 5 1 (.slice A' (m + 1) c') (m + 1) ((xs ++ lowB N.toNat 1).map B8) ∧ Touch w w' (OwnBy (.slice A m c)) (OwnBy (.slice A' (m + 1) c')) := by
  have h := kv_put' w base A m c xs hown hbase hl N.toNat 1 (by omega) (by omega)
  rw [Int.toNat_of_nonneg hn0] at h
  exact h
theorem kv_put2 (w : World) (base : Nat) (A : Option Addr) (m c : Nat) (xs : List UInt8) (hown : w.ownsRow base 5 1 (.slice A m c) m (xs.map B8)) (hbase : base ≤ w.heap.size) (hl : m ≤ 900000) (N : Int) (hn0 : 0 ≤ N) (hn : N ≤ 1000000000) :
    Calls Tryz.prog 164 #[.slice A m c, .int .i64 N, .int .i64 2] w fun e w' => ∃ A' c', e = .returned (.slice A' (m + 2) c') ∧ w'.ownsRow base 5 1 (.slice A' (m + 2) c') (m + 2) ((xs ++ lowB N.toNat 2).map B8) ∧ Touch w w' (OwnBy (.slice A m c)) (OwnBy (.slice A' (m + 2) c')) := by
  have h := kv_put' w base A m c xs hown hbase hl N.toNat 2 (by omega) (by omega)
  rw [Int.toNat_of_nonneg hn0] at h
  exact h
theorem kv_put4 (w : World) (base : Nat) (A : Option Addr) (m c : Nat) (xs : List UInt8) (hown : w.ownsRow base 5 1 (.slice A m c) m (xs.map B8)) (hbase : base ≤ w.heap.size) (hl : m ≤ 900000) (N : Int) (hn0 : 0 ≤ N) (hn : N ≤ 1000000000) :
    Calls Tryz.prog 164 #[.slice A m c, .int .i64 N, .int .i64 4] w fun e w' => ∃ A' c', e = .returned (.slice A' (m + 4) c') ∧ w'.ownsRow base 5 1 (.slice A' (m + 4) c') (m + 4) ((xs ++ lowB N.toNat 4).map B8) ∧ Touch w w' (OwnBy (.slice A m c)) (OwnBy (.slice A' (m + 4) c')) := by
  have h := kv_put' w base A m c xs hown hbase hl N.toNat 4 (by omega) (by omega)
  rw [Int.toNat_of_nonneg hn0] at h
  exact h
theorem row_ne {w : World} {base m x : Nat} {v : Value} {xs : List Value} {t : TypeId} {cs : Array Value} (h : w.ownsRow base 5 1 v m xs) (hB : Blk w x t cs) (ht : t ≠ 5) : ¬ OwnBy v x := fun hk => by
  obtain ⟨cs', hcs⟩ := row_heap h hk
  unfold Blk at hB
  rw [hB] at hcs
  injection hcs with hcs
  injection hcs with _ h2
  exact ht h2
theorem box_keep {w w' : World} {base m x : Nat} {v : Value} {xs : List Value} {t : TypeId} {cs : Array Value} {fp : Nat → Prop} (ht : Touch w w' (OwnBy v) fp) (h : w.ownsRow base 5 1 v m xs) (hB : Blk w x t cs) (hne : t ≠ 5) : Blk w' x t cs :=
  (ht.block x hB.lt (row_ne h hB hne)).trans hB
/-- append(b, s...), s a text. -/
theorem append_text (W : World) {base m c : Nat} {A : Option Addr} {xs : List UInt8} (s : List UInt8) (hown : W.ownsRow base 5 1 (.slice A m c) m (xs.map B8)) (hbase : base ≤ W.heap.size) (hl : m + s.length ≤ 1000000000) (ty : TypeId) :
    ∃ A' c' w', (Builtin.append_ #[85, 9] ty #[.slice A m c, .string (S s)]).run Tryz.prog W = .ok (.slice A' (m + s.length) c') w' ∧ w'.ownsRow base 5 1 (.slice A' (m + s.length) c') (m + s.length) ((xs ++ s).map B8) ∧ W.grownBy w' (Value.ownBlock (.slice A m c)) := by
  obtain ⟨i, hi, hz, hs, hb⟩ := info_u8
  obtain ⟨v', w', hrun, h1, h2, -⟩ := Lib.run_append_own_string (P := Tryz.prog) W base 85 9 ty 5 i (by kernel_rfl) (by kernel_rfl) hi hz hs hb _ _ _ hown (S s) (by rw [S_size]; unfold maxLen; omega) (by rw [S_size]; omega) hbase
  rw [S_size] at h1
  obtain ⟨A', c', rfl⟩ := row_form h1
  refine ⟨A', c', w', hrun, ?_, h2⟩
  have : xs.map B8 ++ Lib.strCells (S s) = (xs ++ s).map B8 := by
    rw [List.map_append]
    congr 1
  rw [← this]
  exact h1
end Go.Proofs.YtiabfngiibabcaaGreatDoor
