/- Walks of strings.HasPrefix and (*drive.Drive).List. -/
import Derived.Test.YtioillenlgpcgaaNames
import Derived.Test.YtioillenlgpcgaaConv
import Derived.Lib.OwnBridge
import Derived.Lib.SliceRun
import Derived.Shelf.SlicesE.DeleteFunc
set_option linter.unusedVariables false
set_option linter.unusedSimpArgs false
set_option maxHeartbeats 1600000
set_option maxRecDepth 100000
namespace Go.Proofs.Ytioillenlgpcgaa
open Go.RowKit

/-- Does l begin with p? -/
def hasP (l p : List UInt8) : Bool := decide (p.length ≤ l.length) && (l.take p.length == p)
theorem lite_HasPrefix (l p : List UInt8) (w : World) : Calls Try.prog 73 #[.string (S l), .string (S p)] w fun e w' => e = .returned (.bool (hasP l p)) ∧ w' = w := by
  by_cases hl : p.length ≤ l.length
  · have H := hid (show hasP l p = (l.take p.length == p) by unfold hasP; simp [hl])
    have hq := S_beq (l.take p.length) p
    by_cases he : l.take p.length = p
    · rw [he] at H hq
      generalize hp' : p.length = n at *
      simp only [beq_self_eq_true] at H hq
      go_enter Try.func73, Try.ntmps73
      go_wp2
      go_ret
      exact ⟨by rw [H.out]; rfl, rfl⟩
    · have he' : (l.take p.length == p) = false := by simpa using he
      rw [he'] at H hq
      generalize hp' : p.length = n at *
      go_enter Try.func73, Try.ntmps73
      go_wp2
      go_ret
      exact ⟨by rw [H.out]; rfl, rfl⟩
  · have H := hid (show hasP l p = false by unfold hasP; simp [hl])
    go_enter Try.func73, Try.ntmps73
    go_wp2
    go_ret
    exact ⟨by rw [H.out]; rfl, rfl⟩
theorem strings_HasPrefix (l p : List UInt8) (w : World) : Calls Try.prog 50 #[.string (S l), .string (S p)] w fun e w' => e = .returned (.bool (hasP l p)) ∧ w' = w := by
  have T := hid (lite_HasPrefix l p w)
  go_enter Try.func50, Try.ntmps50
  go_wp2_with fail
  refine T.out.mono ?_
  rintro e w1 ⟨rfl, rfl⟩
  go_wp2
  go_ret
  exact ⟨rfl, rfl⟩

open Go.Sort Go.Lib Go.Shelf
theorem list_closure (l p : List UInt8) (B : Nat) (W : World) (hc : W.cell? ⟨B, 0, none⟩ = some (.string (S p))) :
    Calls Try.prog 49 #[.string (S l), .pointer (some ⟨B, 0, none⟩)] W fun e w' => e = .returned (.bool (!hasP l p)) ∧ w' = W := by
  have T := hid (fun W => strings_HasPrefix l p W)
  generalize hasP l p = r at *
  go_enter Try.func49, Try.ntmps49
  go_wp2_with fail
  refine (T.out _).mono ?_
  rintro e w1 ⟨rfl, hw⟩
  have hw' := hw.symm
  subst hw'
  go_wp2
  go_ret
  exact ⟨rfl, rfl⟩
/-- What List tells. -/
def Dr.list (d : Dr) (pre : List UInt8) : List (List UInt8) := if d.down then [] else (d.files.map (·.1)).filter fun x => hasP x pre
def ListPost (w : World) (d : Dr) (pre : List UInt8) (e : Ending) (w' : World) : Prop :=
  ∃ v, e = .returned v ∧ w'.ownsRow w.heap.size 9 1 v (d.list pre).length ((d.list pre).map fun x => Value.string (S x)) ∧ Below w.heap.size w w'
theorem drive_List {w : World} {g : Nat} {d : Dr} {fp : Nat → Prop} {N : Nat} (h : IsDrive w g d fp) (hok : d.Ok N) (pre : List UInt8) :
    Calls Try.prog 19 #[.pointer (some ⟨g, 0, none⟩), .string (S pre)] w (ListPost w d pre) := by
  have b0 : Below w.heap.size w (w.alloc (.cells #[.string (S pre)] 9)) := (Below.refl _ _).alloc (Nat.le_refl _) _
  have h1 := h.below b0
  obtain ⟨mb, aft, rs, hb, ha, hf, hd⟩ := h1.has
  have c4 := hb.cell 4
  simp [driveCells] at c4
  cases hdn : d.down with
  | true =>
    have H := hid (show d.list pre = [] by unfold Dr.list; rw [hdn]; rfl)
    rw [hdn] at c4
    have HB := hid b0
    clear hdn h h1 hb ha hf hd hok b0
    go_enter Try.func19, Try.ntmps19
    go_wp2
    go_ret
    refine ⟨_, rfl, ?_, HB.out⟩
    rw [H.out]
    exact World.ownsRow_nil _ _ _ _
  | false =>
    have Nm := hid (drive_names h1 hok)
    have hfl := hok.files
    have hlist : d.list pre = (d.files.map (·.1)).filter fun x => !(!hasP x pre) := by unfold Dr.list; rw [hdn]; simp
    have hlen : (d.files.map (·.1)).length = d.files.length := by simp
    have hmap : (d.files.map fun p => Value.string (S p.1)) = (d.files.map (·.1)).map encStr := by rw [List.map_map]; rfl
    have HB := hid b0
    have HC := hid (show (w.alloc (.cells #[.string (S pre)] 9)).cell? ⟨w.heap.size, 0, none⟩ = some (.string (S pre)) from (Blk.new _ _ _).cell 0)
    rw [hdn] at c4
    clear hdn h h1 hb ha hf hd hok b0
    by_cases hne : d.files = []
    · have H := hid (show d.list pre = [] by rw [hlist, hne]; rfl)
      have hl0 : d.files.length = 0 := by rw [hne]; rfl
      have hmf : ∀ (fn : Fn) (first cap : Array Value) (w : World), (Instr.makeFunc fn first cap).run Try.prog w = .ok (.func fn first cap) w := fun _ _ _ _ => rfl
      have E := hid (fun (fv : Value) (w : World) => show Calls Try.prog 72 #[.slice none 0 0, fv] w fun e w' => e = .returned (.int .i64 (-1)) ∧ w' = w from AnyE.slices_IndexFunc_empty (ρ := layDelete_ren) { layDelete with } none 0 fv w)
      clear hlist hlen hmap hfl
      go_enter Try.func19, Try.ntmps19
      go_wp2_with fail
      refine Nm.out.mono ?_
      rintro e w1 ⟨v, rfl, hrow, hnil, hb1⟩
      obtain rfl := hnil.2 hne
      have HB1 := hid (bt HB.out hb1)
      clear hrow hnil hb1 Nm hne hl0
      go_wp2_with (first | (go_at_call 72; refine (E.out _ _).mono ?_; rintro e w' ⟨rfl, hw⟩; have hw' := hw.symm; subst hw') | go_in)
      go_ret
      refine ⟨_, rfl, ?_, HB1.out⟩
      rw [H.out]
      exact World.ownsRow_nil _ _ _ _
    · have DEL : ∀ v w1, w1.ownsRow (w.alloc (.cells #[.string (S pre)] 9)).heap.size 9 1 v d.files.length (d.files.map fun p => Value.string (S p.1)) → (v = .slice none 0 0 ↔ d.files = []) → Below (w.alloc (.cells #[.string (S pre)] 9)).heap.size (w.alloc (.cells #[.string (S pre)] 9)) w1 →
          Calls Try.prog 48 #[v, .func (.func 49) #[] #[.pointer (some ⟨w.heap.size, 0, none⟩)]] w1 (ListPost w d pre) := by
        intro v w1 hrow hnil hb1
        rw [hmap] at hrow
        obtain ⟨gg, cap, rfl, hbg, hglt, hnc, hcm, hzl, hH⟩ := holds_of_ownsRow hrow (fun e => hne (hnil.1 e))
        have hc1 : w1.cell? ⟨w.heap.size, 0, none⟩ = some (.string (S pre)) := (hb1.cell (p := ⟨w.heap.size, 0, none⟩) (by simp)).trans HC.out
        have hBlt : w.heap.size < w1.heap.size := Nat.lt_of_lt_of_le (by simp) hb1.size
        have hne2 : w.heap.size ≠ gg := by simp at hbg; omega
        have eg : ∀ args w, (callFunc 49 args).run Try.prog w = .ok (.enter 49 args) w := enters_of Try.func49 (by kernel_rfl) rfl
        have hsz : (d.files.map (·.1)).toArray.size = d.files.length := by simp
        have gives : ∀ (x : List UInt8) (W : World), W.cell? ⟨w.heap.size, 0, none⟩ = some (.string (S pre)) → FnGives Try.prog 49 #[.pointer (some ⟨w.heap.size, 0, none⟩)] #[encStr x] (.bool (!hasP x pre)) W := fun x W hc =>
          (list_closure x pre w.heap.size W hc).mono fun e w' ⟨h1, h2⟩ => ⟨h1, 0, by rw [h2]; rfl⟩
        have hcon := AnyE.slices_DeleteFunc layDelete encStr (fun _ => rfl) (fun x => !hasP x pre) 49 #[.pointer (some ⟨w.heap.size, 0, none⟩)] eg [] Try.zeroValue9 gg 0 cap (d.files.map (·.1)).toArray w1
          (fun W x hb => gives x W ((hb.cell (p := ⟨w.heap.size, 0, none⟩) hBlt).trans hc1))
          (fun n os dk x _ => gives x _ (by
            unfold sortWorld
            rw [cell?_grow _ _ _ (by show w.heap.size < (putRow _ _ _ _ _).heap.size; rw [size_putRow]; exact hBlt), cell?_putRow_other _ _ gg 0 _ _ (Or.inl hne2)]
            exact hc1)) hH (by rw [hsz]; omega) (by rw [hsz]; exact hnc)
        change Calls Try.prog 48 _ _ _ at hcon
        rw [hsz] at hcon
        refine hcon.mono ?_
        rintro e w' ⟨rfl, q, rfl⟩
        refine ⟨_, rfl, ?_, ?_⟩
        · have hle : (d.list pre).length ≤ d.files.length := by
            rw [hlist, ← hlen]
            exact List.length_filter_le _ _
          have hr := ownsRow_putRow (q := q) (k := (d.list pre).length) (ys := d.list pre ++ List.replicate (d.files.length - (d.list pre).length) []) hrow (by simp; omega) hle
          rw [List.take_left' rfl] at hr
          rw [← hlist]
          exact row_base hr (by simp)
        · exact HB.out.trans ((below_putRow hb1 hbg).mono (by simp))
      have DL := hid DEL
      have hmf : ∀ (fn : Fn) (first cap : Array Value) (w : World), (Instr.makeFunc fn first cap).run Try.prog w = .ok (.func fn first cap) w := fun _ _ _ _ => rfl
      clear DEL hlist hlen hmap hfl
      go_enter Try.func19, Try.ntmps19
      go_wp2_with fail
      refine Nm.out.mono ?_
      rintro e w1 ⟨v, rfl, hrow, hnil, hb1⟩
      have D1 := hid (DL.out v w1 hrow hnil hb1)
      clear hrow hnil hb1 Nm DL
      go_wp2_with fail
      refine D1.out.mono ?_
      rintro e w2 ⟨v2, rfl, hr2, hb2⟩
      have H2 := hid hr2
      have H3 := hid hb2
      clear hr2 hb2 D1
      go_wp2
      go_ret
      exact ⟨_, rfl, H2.out, H3.out⟩
end Go.Proofs.Ytioillenlgpcgaa
