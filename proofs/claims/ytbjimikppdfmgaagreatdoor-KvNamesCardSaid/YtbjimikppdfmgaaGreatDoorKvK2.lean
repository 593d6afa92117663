/- The keys of a map from texts to texts, sorted. Walks of strings.HasPrefix, and of the closure of kv.Keys. Walk of kv.Keys. -/
import Derived.Test.YtbjimikppdfmgaaGreatDoorLayK
import Derived.Test.YtbjimikppdfmgaaGreatDoorKv7
import Derived.CallsIn
import Derived.Test.YtbjimikppdfmgaaGreatDoorChecked
import Derived.Test.YtbjimikppdfmgaaGreatDoorBy
import Derived.Lib.OwnBridge
import Derived.Lib.SliceRun
import Derived.Shelf.SlicesE.DeleteFunc
set_option linter.unusedVariables false
set_option linter.unusedSimpArgs false
set_option maxHeartbeats 1600000
set_option maxRecDepth 100000
namespace Go.Proofs.YtbjimikppdfmgaaGreatDoor
open Go.RowKit Go.Maps Go.Sort Go.Shelf Go.WideMaps Go.ChangeMaps Go.WideAt Go.WideShapes

theorem lay_sorts (m : Nat) : AnyZ.SortsIn Tryz.prog laySorted_ren Fence.wide m :=
  ⟨fun blk off cap ss W hH hblk hsz => callsIn_wide.2 (AnyM.slices_Sort_string laySort blk off cap ss W hH hblk hsz),
   fun p cap W => callsIn_wide.2 (AnyM.slices_Sort_string_none laySort p cap W)⟩

theorem maps_Keys_any (mb : Option Nat) (W : World) : CallsIn Fence.wide 5 Tryz.prog 60 #[.map mb] W fun e w' => e = .returned (.func (.func 85) #[] #[.pointer (some ⟨W.heap.size, 0, none⟩)]) ∧ w' = W.alloc (.cells #[.map mb] 50) :=
  AnyZ.keys_in layKeys Fence.wide 5 trivial rfl mb W

set_option maxHeartbeats 1000000 in
theorem slices_Sorted_keys {H : Type} (b nn : Nat) (D0 : DataW H) (R : Value → Option (DataW H × List MemPlace)) (w : World) (hown : w.ownsMap Tryz.prog 9 R b nn D0) (hmax : Maps.size D0 ≤ maxLen) (hbytes : Maps.size D0 * 16 ≤ 140737488355328) :
    CallsIn Fence.wide 5 Tryz.prog 59 #[.func (.func 85) #[] #[.pointer (some ⟨w.heap.size, 0, none⟩)]] (w.alloc (.cells #[.map (some b)] 50)) fun e w' => ∃ (v : Value) (ss : List (List UInt8)), e = .returned v ∧ ss.Perm (strKeys D0) ∧
      w'.ownsRow (w.alloc (.cells #[.map (some b)] 50)).heap.size 9 1 v ss.length ((ss.mergeSort (fun x y => decide (x ≤ y))).map encStr) ∧ (v = .slice none 0 0 ↔ ss = []) ∧ Below (w.alloc (.cells #[.map (some b)] 50)).heap.size (w.alloc (.cells #[.map (some b)] 50)) w' := by
  have hbl := hown.lt
  have hseq : SeqGives Fence.wide 2 Tryz.prog 85 #[.pointer (some ⟨w.heap.size, 0, none⟩)] encStr (fun ss => ss.Perm (strKeys D0)) (Maps.size D0) (w.alloc (.cells #[.map (some b)] 50)) :=
    AnyZ.keys_gives (ρ := layKeys_ren) { layKeys with } Fence.wide _ trivial rfl (by omega) w.heap.size b nn D0 _ (by simp) (by simp) (by
      obtain ⟨es, clock, hb, Ft, hs, hD⟩ := hown
      exact ⟨es, clock, (Below.heap_alloc _ _ b hbl).trans hb, Ft, hs, hD⟩)
  exact AnyZ.sorted_in laySorted Fence.wide 5 trivial trivial trivial trivial rfl (by omega) (lay_sorts _) (enters_of Tryz.func84 (by kernel_rfl) rfl) 85 #[.pointer (some ⟨w.heap.size, 0, none⟩)] trivial (enters_of Tryz.func85 (by kernel_rfl) rfl) _ _ hmax hbytes _ hseq

end Go.Proofs.YtbjimikppdfmgaaGreatDoor

set_option linter.unusedVariables false
set_option linter.unusedSimpArgs false
set_option maxHeartbeats 1600000
set_option maxRecDepth 100000
namespace Go.Proofs.YtbjimikppdfmgaaGreatDoor
open Go.RowKit

/-- Does l begin with p? -/
def hasP (l p : List UInt8) : Bool := decide (p.length ≤ l.length) && (l.take p.length == p)
theorem lite_HasPrefix (l p : List UInt8) (w : World) : Calls Tryz.prog 87 #[.string (S l), .string (S p)] w fun e w' => e = .returned (.bool (hasP l p)) ∧ w' = w := by
  by_cases hl : p.length ≤ l.length
  · have H := hid (show hasP l p = (l.take p.length == p) by unfold hasP; simp [hl])
    have hq := S_beq (l.take p.length) p
    by_cases he : l.take p.length = p
    · rw [he] at H hq
      generalize hp' : p.length = n at *
      simp only [beq_self_eq_true] at H hq
      go_enter Tryz.func87, Tryz.ntmps87
      go_wp2
      go_ret
      exact ⟨by rw [H.out]; rfl, rfl⟩
    · have he' : (l.take p.length == p) = false := by simpa using he
      rw [he'] at H hq
      generalize hp' : p.length = n at *
      go_enter Tryz.func87, Tryz.ntmps87
      go_wp2
      go_ret
      exact ⟨by rw [H.out]; rfl, rfl⟩
  · have H := hid (show hasP l p = false by unfold hasP; simp [hl])
    go_enter Tryz.func87, Tryz.ntmps87
    go_wp2
    go_ret
    exact ⟨by rw [H.out]; rfl, rfl⟩
theorem strings_HasPrefix (l p : List UInt8) (w : World) : Calls Tryz.prog 63 #[.string (S l), .string (S p)] w fun e w' => e = .returned (.bool (hasP l p)) ∧ w' = w := by
  have T := hid (lite_HasPrefix l p w)
  go_enter Tryz.func63, Tryz.ntmps63
  go_wp2_with fail
  refine T.out.mono ?_
  rintro e w1 ⟨rfl, rfl⟩
  go_wp2
  go_ret
  exact ⟨rfl, rfl⟩

theorem keys_closure (l p : List UInt8) (B : Nat) (W : World) (hc : W.cell? ⟨B, 0, none⟩ = some (.string (S p))) :
    Calls Tryz.prog 62 #[.string (S l), .pointer (some ⟨B, 0, none⟩)] W fun e w' => e = .returned (.bool (!hasP l p)) ∧ w' = W := by
  have T := hid (fun W => strings_HasPrefix l p W)
  generalize hasP l p = r at *
  go_enter Tryz.func62, Tryz.ntmps62
  go_wp2_with fail
  refine (T.out _).mono ?_
  rintro e w1 ⟨rfl, hw⟩
  have hw' := hw.symm
  subst hw'
  go_wp2
  go_ret
  exact ⟨rfl, rfl⟩
end Go.Proofs.YtbjimikppdfmgaaGreatDoor

set_option linter.unusedVariables false
set_option linter.unusedSimpArgs false
set_option maxHeartbeats 1600000
set_option maxRecDepth 100000
namespace Go.Proofs.YtbjimikppdfmgaaGreatDoor
open Go.RowKit Go.Maps Go.Sort Go.Shelf Go.WideMaps Go.ChangeMaps Go.WideAt Go.WideShapes Go.Lib

theorem before_ltS : ∀ a b : List UInt8, bytesBefore a b = true → a < b
  | [], [], h => by simp [bytesBefore] at h
  | [], b :: s, _ => List.nil_lt_cons b s
  | a :: r, [], h => by simp [bytesBefore] at h
  | a :: r, b :: s, h => by
    simp only [bytesBefore, Bool.or_eq_true, decide_eq_true_eq, Bool.and_eq_true, beq_iff_eq] at h
    refine List.cons_lt_cons_iff.2 ?_
    rcases h with h | ⟨h1, h2⟩
    · exact .inl h
    · exact .inr ⟨h1, before_ltS r s h2⟩
theorem sorted_keysS {α : Type} {m : List (Key × α)} (hr : Rising m) {ss : List (List UInt8)} (hp : ss.Perm (m.map (·.1))) : ss.mergeSort (fun x y => decide (x ≤ y)) = m.map (·.1) := by
  have tr : ∀ a b c : List UInt8, leB a b = true → leB b c = true → leB a c = true := fun a b c h1 h2 => by simp only [leB, decide_eq_true_eq] at *; exact List.le_trans h1 h2
  have tot : ∀ a b : List UInt8, (leB a b || leB b a) = true := fun a b => by simp only [leB, Bool.or_eq_true, decide_eq_true_eq]; exact List.le_total a b
  refine List.Perm.eq_of_pairwise (le := fun a b => leB a b = true) (fun a b _ _ h1 h2 => ?_) (List.pairwise_mergeSort tr tot ss) ?_ ((List.mergeSort_perm ss leB).trans hp)
  · simp only [leB, decide_eq_true_eq] at h1 h2
    exact List.le_antisymm h1 h2
  · rw [List.pairwise_map]
    refine List.Pairwise.imp (fun {p q} hpq => ?_) hr
    simp only [leB, decide_eq_true_eq]
    exact List.le_of_lt (before_ltS _ _ hpq)
theorem strKeys_mapS (m : KMap) : strKeys (mapS m) = m.map (·.1) := by
  simp [strKeys, mapS, strOf, Function.comp_def]

/-- The keys that begin with a text. -/
def preK (m : KMap) (pre : List UInt8) : List (List UInt8) := (m.map (·.1)).filter fun x => hasP x pre
def KeysPost (w : World) (m : KMap) (pre : List UInt8) (e : Ending) (w' : World) : Prop :=
  ∃ v, e = .returned v ∧ w'.ownsRow w.heap.size 9 1 v (preK m pre).length ((preK m pre).map fun x => Value.string (S x)) ∧ Below w.heap.size w w'
/-- What Sorted leaves. -/
def SortedPost (w : World) (m : KMap) (v : Value) (w' : World) : Prop :=
  w'.ownsRow w.heap.size 9 1 v m.length ((m.map (·.1)).map encStr) ∧ (v = .slice none 0 0 ↔ m = []) ∧ Below w.heap.size w w'
theorem kv_Keys {w : World} {sb mb : Nat} {m : KMap} (hc : w.cell? ⟨sb, 2, none⟩ = some (.map (some mb))) (hlt : sb < w.heap.size) (hm : OwnS Tryz.prog 9 w mb m) (hr : Rising m) (hml : m.length ≤ 1000000) (pre : List UInt8) :
    Calls Tryz.prog 28 #[.pointer (some ⟨sb, 0, none⟩), .string (S pre)] w (KeysPost w m pre) := by
  have b0 : Below w.heap.size w (w.alloc (.cells #[.string (S pre)] 9)) := (Below.refl _ _).alloc (Nat.le_refl _) _
  have hmlt : mb < w.heap.size := by
    obtain ⟨es, c, hb, -⟩ := hm
    exact (Array.getElem?_eq_some_iff.1 hb).1
  have hown := hm.kept (b0.block mb hmlt)
  have hc1 := (b0.cell (p := ⟨sb, 2, none⟩) hlt).trans hc
  have HC := hid (show (w.alloc (.cells #[.string (S pre)] 9)).cell? ⟨w.heap.size, 0, none⟩ = some (.string (S pre)) from (Blk.new _ _ _).cell 0)
  have HB := hid b0
  unfold OwnS at hown
  have hmax : Maps.size (mapS m) ≤ maxLen := by rw [mapS_size]; unfold maxLen; omega
  have hbytes : Maps.size (mapS m) * 16 ≤ 140737488355328 := by rw [mapS_size]; omega
  have fin : ∀ (W1 : World) (v : Value) (ss : List (List UInt8)) (w' : World), ss.Perm (strKeys (mapS m)) →
      w'.ownsRow (W1.alloc (.cells #[.map (some mb)] 50)).heap.size 9 1 v ss.length ((ss.mergeSort (fun x y => decide (x ≤ y))).map encStr) → (v = .slice none 0 0 ↔ ss = []) →
      Below (W1.alloc (.cells #[.map (some mb)] 50)).heap.size (W1.alloc (.cells #[.map (some mb)] 50)) w' → SortedPost W1 m v w' := by
    intro W1 v ss w' hS hrow hnil hbw
    rw [strKeys_mapS] at hS
    have hl : ss.length = m.length := by rw [hS.length_eq]; simp
    rw [sorted_keysS hr hS, hl] at hrow
    refine ⟨row_base hrow (by simp), hnil.trans ?_, ((Below.refl _ W1).alloc (Nat.le_refl _) _).trans (hbw.mono (by simp))⟩
    constructor
    · rintro rfl
      exact List.eq_nil_of_length_eq_zero (by rw [← hl]; rfl)
    · intro h0
      exact List.eq_nil_of_length_eq_zero (by rw [hl, h0]; rfl)
  have FIN := hid fin
  have hlist : preK m pre = (m.map (·.1)).filter fun x => !(!hasP x pre) := by unfold preK; simp
  have hlen : (m.map (·.1)).length = m.length := by simp
  have DEL : ∀ v w1, SortedPost (w.alloc (.cells #[.string (S pre)] 9)) m v w1 →
      CallsIn Fence.wide 5 Tryz.prog 61 #[v, .func (.func 62) #[] #[.pointer (some ⟨w.heap.size, 0, none⟩)]] w1 (KeysPost w m pre) := by
    rintro v w1 ⟨hrow, hnil, hb1⟩
    refine callsIn_wide.2 ?_
    by_cases hne : m = []
    · have hv := hnil.2 hne
      subst hv
      have H := hid (show preK m pre = [] by rw [hlist, hne]; rfl)
      have HB1 := hid (bt HB.out hb1)
      have hmf : ∀ (fn : Fn) (first cap : Array Value) (w : World), (Instr.makeFunc fn first cap).run Tryz.prog w = .ok (.func fn first cap) w := fun _ _ _ _ => rfl
      have E := hid (fun (fv : Value) (w : World) => show Calls Tryz.prog 86 #[.slice none 0 0, fv] w fun e w' => e = .returned (.int .i64 (-1)) ∧ w' = w from AnyE.slices_IndexFunc_empty (ρ := layDelete_ren) { layDelete with } none 0 fv w)
      clear FIN hlist hlen hmax hbytes hnil hrow hb1 hne
      go_enter Tryz.func61, Tryz.ntmps61
      go_wp2_with fail
      refine (E.out _ _).mono ?_
      rintro e w' ⟨rfl, hw⟩
      have hw' := hw.symm
      subst hw'
      go_wp2
      go_ret
      refine ⟨_, rfl, ?_, HB1.out⟩
      rw [H.out]
      exact World.ownsRow_nil _ _ _ _
    · obtain ⟨gg, cap, rfl, hbg, hglt, hnc, hcm, hzl, hH⟩ := holds_of_ownsRow hrow (fun e => hne (hnil.1 e))
      have hc1 : w1.cell? ⟨w.heap.size, 0, none⟩ = some (.string (S pre)) := (hb1.cell (p := ⟨w.heap.size, 0, none⟩) (by simp)).trans HC.out
      have hBlt : w.heap.size < w1.heap.size := Nat.lt_of_lt_of_le (by simp) hb1.size
      have hne2 : w.heap.size ≠ gg := by simp at hbg; omega
      have eg : ∀ args w, (callFunc 62 args).run Tryz.prog w = .ok (.enter 62 args) w := enters_of Tryz.func62 (by kernel_rfl) rfl
      have hsz : (m.map (·.1)).toArray.size = m.length := by simp
      have gives : ∀ (x : List UInt8) (W : World), W.cell? ⟨w.heap.size, 0, none⟩ = some (.string (S pre)) → FnGives Tryz.prog 62 #[.pointer (some ⟨w.heap.size, 0, none⟩)] #[encStr x] (.bool (!hasP x pre)) W := fun x W hc =>
        (keys_closure x pre w.heap.size W hc).mono fun e w' ⟨h1, h2⟩ => ⟨h1, 0, by rw [h2]; rfl⟩
      have hcon := AnyE.slices_DeleteFunc layDelete encStr (fun _ => rfl) (fun x => !hasP x pre) 62 #[.pointer (some ⟨w.heap.size, 0, none⟩)] eg [] Tryz.zeroValue9 gg 0 cap (m.map (·.1)).toArray w1
        (fun W x hb => gives x W ((hb.cell (p := ⟨w.heap.size, 0, none⟩) hBlt).trans hc1))
        (fun n os dk x _ => gives x _ (by
          unfold sortWorld
          rw [cell?_grow _ _ _ (by show w.heap.size < (putRow _ _ _ _ _).heap.size; rw [size_putRow]; exact hBlt), cell?_putRow_other _ _ gg 0 _ _ (Or.inl hne2)]
          exact hc1)) hH (by rw [hsz]; omega) (by rw [hsz]; exact hnc)
      change Calls Tryz.prog 61 _ _ _ at hcon
      rw [hsz] at hcon
      refine hcon.mono ?_
      rintro e w' ⟨rfl, q, rfl⟩
      refine ⟨_, rfl, ?_, ?_⟩
      · have hle : (preK m pre).length ≤ m.length := by
          rw [hlist, ← hlen]
          exact List.length_filter_le _ _
        have hr := ownsRow_putRow (q := q) (k := (preK m pre).length) (ys := preK m pre ++ List.replicate (m.length - (preK m pre).length) []) hrow (by simp; omega) hle
        rw [List.take_left' rfl] at hr
        rw [← hlist]
        exact row_base hr (by simp)
      · exact HB.out.trans ((below_putRow hb1 hbg).mono (by simp))
  have DL := hid DEL
  have cS := slices_Sorted_keys mb _ (mapS m) Rs (w.alloc (.cells #[.string (S pre)] 9)) hown hmax hbytes
  simp only [show (w.alloc (.cells #[.string (S pre)] 9)).heap.size = w.heap.size + 1 by simp] at cS
  have CS := hid cS
  clear cS
  clear DEL hlist hlen fin
  refine (callsIn_wide (n := 6)).1 ?_
  have hfK : Fence.wide.fn 60 := trivial
  have hfS : Fence.wide.fn 59 := trivial
  have hfD : Fence.wide.fn 61 := trivial
  have hmf : ∀ (fn : Fn) (first cap : Array Value) (w : World), (Instr.makeFunc fn first cap).run Tryz.prog w = .ok (.func fn first cap) w := fun _ _ _ _ => rfl
  refine callsIn_of_wp Tryz.func28 rfl trivial ?_ rfl
  simp only [Tryz.ntmps28, List.size_toArray, List.length_cons, List.length_nil, Nat.reduceAdd, Nat.reduceSub, Array.replicate_succ, Array.replicate_zero, List.push_toArray, List.append_toArray, List.nil_append, List.cons_append]
  gi_wp2_with (first
    | (gi_at_call 60; refine (maps_Keys_any _ _).mono ?_; rintro e w' ⟨rfl, rfl⟩)
    | (gi_at_call 59; refine CS.out.mono ?_; rintro e w' ⟨v, ss, rfl, hS, hrow, hnil, hb⟩; have HSP := hid (FIN.out _ v ss _ hS hrow hnil hb); clear hS hrow hnil hb)
    | (gi_at_call 61; refine (DL.out _ _ HSP.out).mono ?_; rintro e w' ⟨v2, rfl, hr2, hb2⟩; have HR2 := hid hr2; have HB2 := hid hb2; clear hr2 hb2))
  go_ret
  exact ⟨_, rfl, HR2.out, HB2.out⟩
end Go.Proofs.YtbjimikppdfmgaaGreatDoor
