/- Walks of pantileref13.Same and of the List of the document's drive. -/
import Derived.Test.YtjmcnhpffpcboaaDBMore
import Derived.Deep.QuietTactic
import Derived.BigQuiet
set_option linter.unusedVariables false
set_option linter.unusedSimpArgs false
set_option maxHeartbeats 3200000
set_option maxRecDepth 100000
attribute [local go_sem ↓] Go.wp_at_zero Go.wp_at_succ
namespace Go.Proofs.Ytjmcnhpffpcboaa
open Go.RowKit

abbrev StrsAt (w : World) (A : Option Addr) (ls : List (List UInt8)) : Prop := ∀ j, (hj : j < ls.length) → ∃ b, A = some ⟨b, 0, none⟩ ∧ b < w.heap.size ∧ w.cell? ⟨b, j, none⟩ = some (.string (S ls[j]))
/-- Two lists of texts that are the same. -/
theorem ref_Same_yes (ls : List (List UInt8)) (hn : ls.length ≤ 1000000000) (A B : Option Addr) (c c' : Nat) (w : World) (hA : StrsAt w A ls) (hB : StrsAt w B ls) :
    Calls Try.prog 80 #[.slice A ls.length c, .slice B ls.length c'] w fun e w' => e = .returned (.bool true) ∧ Below w.heap.size w w' := by
  have HA := hid hA
  have HB := hid hB
  clear hA hB
  go_enter Try.func80, Try.ntmps80
  go_wp2
  go_loopw [5] (fun i wr => ∃ k : Nat, k ≤ ls.length ∧ i = .int .i64 k ∧ Hid (Below w.heap.size w wr)) (fun i _ => ls.length - (intOf i).toNat)
  case atStart => exact ⟨0, Nat.zero_le _, rfl, hid (Below.refl _ _)⟩
  case round =>
    obtain ⟨k, hk, rfl, hb⟩ := hrel
    by_cases h : k < ls.length
    · obtain ⟨b, rfl, hbl, hc⟩ := HA.out k h
      obtain ⟨b2, rfl, hbl2, hc2⟩ := HB.out k h
      have c1 := (hb.out.cell (p := ⟨b, k, none⟩) hbl).trans hc
      have c2 := (hb.out.cell (p := ⟨b2, k, none⟩) hbl2).trans hc2
      clear hc hc2
      generalize ls[k] = x at *
      go_wp2
      go_quiet (fail)
      go_wp2
      go_roundw
      case rel => exact ⟨k + 1, by omega, by go_num, by first | exact hid (below_drewN hb.out _) | exact hid hb.out⟩
      case measure => simp [intOf]; omega
    · have hk' : k = ls.length := by omega
      subst hk'
      go_wp2
      go_ret
      exact ⟨rfl, hb.out⟩
/-- What was picked of the first k names. -/
def pickN (m : List (Key × File)) (pre : List UInt8) (k : Nat) : List (List UInt8) := ((m.take k).map (·.1)).filter fun x => hasP x pre
theorem pick_step (m : List (Key × File)) (pre : List UInt8) {k : Nat} (h : k < m.length) : pickN m pre (k + 1) = pickN m pre k ++ (if hasP m[k].1 pre then [m[k].1] else []) := by
  unfold pickN
  rw [take_snoc m h]
  simp only [List.map_append, List.map_cons, List.map_nil, List.filter_append]
  by_cases hp : hasP m[k].1 pre = true
  · rw [if_pos hp]; congr 1; simp [hp]
  · rw [if_neg hp]; congr 1; simp [hp]
theorem pick_le (m : List (Key × File)) (pre : List UInt8) (k : Nat) : (pickN m pre k).length ≤ m.length := by
  unfold pickN
  refine Nat.le_trans (List.length_filter_le _ _) ?_
  rw [List.length_map, List.length_take]
  omega
theorem ref_List {w : World} {g : Nat} {d : Dr} {fp : Nat → Prop} {N : Nat} (h : IsRef w g d fp) (hok : d.Ok N) (pre : List UInt8) (hpl : pre.length ≤ 1000000000) :
    Calls Try.prog 81 #[.pointer (some ⟨g, 0, none⟩), .string (S pre)] w (ListPost w d pre) := by
  obtain ⟨v, rs, hB, hF, hd⟩ := h.has
  have cg0 := hB.cell 0
  have cg3 := hB.cell 3
  simp only [refCells, List.getElem?_toArray, List.getElem?_cons_succ, List.getElem?_cons_zero] at cg0 cg3
  have hglt := hB.lt
  obtain ⟨A, c, rfl⟩ := hF.form
  have hfl := hok.files
  have hlen : d.files.length = rs.length := by rw [hd]; simp
  have EL := hid (fun i (hi : i < rs.length) => show ∃ b, A = some ⟨b, 0, none⟩ ∧ b < w.heap.size ∧ w.cell? ⟨b, i * 3, none⟩ = some (.string (S rs[i].key)) from by
    obtain ⟨b, c', q1, q2, q3, q4, q5, q6⟩ := hF.elem hi
    simp only [Value.slice.injEq] at q1
    exact ⟨b, q1.1, q2, q4⟩)
  have KEY := hid (fun i (hi : i < rs.length) => show ∃ hi' : i < d.files.length, d.files[i].1 = rs[i].key from ⟨by omega, by simp only [hd]; simp [rPair]⟩)
  have HPOST := hid (fun (v : Value) (w' : World) (hdn : d.down = false) (hr : w'.ownsRow w.heap.size 9 1 v (pickN d.files pre d.files.length).length ((pickN d.files pre d.files.length).map strV)) (hb : Below w.heap.size w w') => show ListPost w d pre (.returned v) w' from by
    have : pickN d.files pre d.files.length = d.list pre := by unfold pickN Dr.list; rw [List.take_length, hdn]; rfl
    rw [this] at hr
    exact ⟨v, rfl, hr, hb⟩)
  have HNIL := hid (fun (w' : World) (hdn : d.down = true ∨ rs.length = 0) (hb : Below w.heap.size w w') => show ListPost w d pre (.returned (.slice none 0 0)) w' from by
    have : d.list pre = [] := by
      unfold Dr.list
      rcases hdn with hdn | h0
      · rw [hdn]; rfl
      · have : d.files = [] := List.eq_nil_of_length_eq_zero (by omega)
        rw [this]
        split <;> rfl
    refine ⟨_, rfl, ?_, hb⟩
    rw [this]
    exact World.ownsRow_nil _ _ _ _)
  have PICK := hid (fun k (hk : k < d.files.length) => pick_step d.files pre hk)
  have PLE := hid (pick_le d.files pre)
  clear h hB hF hok
  have PLE2 := hid (fun k => show (pickN d.files pre k).length ≤ 1000000 from Nat.le_trans (pick_le d.files pre k) (by omega))
  have hrl : rs.length ≤ 1000000 := by omega
  clear PLE hfl
  cases hdn : d.down with
  | true =>
    rw [hdn] at cg3
    go_enter Try.func81, Try.ntmps81
    go_wp2
    go_loopw [5, 6, 7] (fun o i _ wr => o = .slice none 0 0 ∧ i = .int .i64 0 ∧ wr = w) (fun _ _ _ _ => 0)
    case atStart => exact ⟨rfl, rfl, rfl⟩
    case round =>
      obtain ⟨rfl, rfl, rfl⟩ := hrel
      by_cases h0 : 0 < rs.length
      · go_wp2
        go_ret
        exact HNIL.out _ (.inl hdn) (Below.refl _ _)
      · go_wp2
        go_ret
        exact HNIL.out _ (.inl hdn) (Below.refl _ _)
  | false =>
    rw [hdn] at cg3
    clear HNIL
    go_enter Try.func81, Try.ntmps81
    go_wp2
    go_loopw [5, 6, 7] (fun o i _ wr => ∃ (k : Nat) (A2 : Option Addr) (c2 : Nat), k ≤ rs.length ∧ i = .int .i64 k ∧ o = .slice A2 (pickN d.files pre k).length c2 ∧
      Hid (wr.ownsRow w.heap.size 9 1 (.slice A2 (pickN d.files pre k).length c2) (pickN d.files pre k).length ((pickN d.files pre k).map strV) ∧ Below w.heap.size w wr)) (fun _ i _ _ => rs.length - (intOf i).toNat)
    case atStart => exact ⟨0, none, 0, by omega, rfl, rfl, hid ⟨World.ownsRow_nil _ _ _ _, Below.refl _ _⟩⟩
    case round =>
      obtain ⟨k, A2, c2, hk, rfl, rfl, hR⟩ := hrel
      by_cases h : k < rs.length
      · obtain ⟨b, hA, hbl, hc⟩ := EL.out k h
        subst hA
        have c0 := (hR.out.2.cell (p := ⟨b, _, none⟩) hbl).trans hc
        have k0 := (hR.out.2.cell (p := ⟨g, 0, none⟩) hglt).trans cg0
        have k3 := (hR.out.2.cell (p := ⟨g, 3, none⟩) hglt).trans cg3
        obtain ⟨hi', hkey⟩ := KEY.out k h
        have ST := PICK.out k hi'
        rw [hkey] at ST
        have PL := PLE2.out k
        have HST := hid ST
        clear hc EL KEY PICK PLE2 cg0 cg3 hkey hi' ST
        generalize rs[k].key = nm at *
        generalize pickN d.files pre k = pk at *
        have hq := S_beq (nm.take pre.length) pre
        have hwz := hR.out.2.size
        by_cases hl : pre.length ≤ nm.length
        · by_cases he : nm.take pre.length = pre
          · have hp : hasP nm pre = true := by unfold hasP; simp [hl, he]
            rw [hp] at HST
            rw [he] at hq
            generalize hp' : pre.length = n at *
            simp only [beq_self_eq_true] at hq
            clear hp
            go_wp2_with (at_builtin; refine wpList_append_strs rfl _ _ (os := pk) (ns := [nm]) (base := w.heap.size) rfl rfl rfl rfl rfl (row_alloc hR.out.1 _) (fun h => by cases h) (fun ad had j u hu => cell_one_text had hu) (by simp; omega) (by simp; omega) ?_; intro A1 c1 w1 hown1 hb1)
            have HN := hid (show w1.ownsRow w.heap.size 9 1 (.slice A1 (pk ++ [nm]).length c1) (pk ++ [nm]).length ((pk ++ [nm]).map strV) ∧ Below w.heap.size w w1 from ⟨hown1, hR.out.2.trans (below_alloc_any hwz hb1)⟩)
            have hST := HST.out
            simp only [if_true] at hST
            clear hown1 hb1 HST
            go_roundw
            case rel => exact ⟨k + 1, A1, c1, by omega, by go_num, by rw [hST]; simp, by rw [hST]; exact HN⟩
            case measure => simp [intOf]; omega
          · have hp : hasP nm pre = false := by unfold hasP; simp [hl, he]
            have he' : (nm.take pre.length == pre) = false := by simpa using he
            rw [hp] at HST
            rw [he'] at hq
            have hST := HST.out
            simp at hST
            have HS2 := hid hST
            generalize hp' : pre.length = n at *
            clear hp HST hST
            go_wp2
            go_roundw
            case rel => exact ⟨k + 1, A2, c2, by omega, by go_num, by rw [HS2.out], by rw [HS2.out]; exact hR⟩
            case measure => simp [intOf]; omega
        · have hp : hasP nm pre = false := by unfold hasP; simp [hl]
          rw [hp] at HST
          have hST := HST.out
          simp at hST
          have HS2 := hid hST
          clear hp HST hST hq
          go_wp2
          go_roundw
          case rel => exact ⟨k + 1, A2, c2, by omega, by go_num, by rw [HS2.out], by rw [HS2.out]; exact hR⟩
          case measure => simp [intOf]; omega
      · have hk' : k = rs.length := by omega
        subst hk'
        have k0 := (hR.out.2.cell (p := ⟨g, 0, none⟩) hglt).trans cg0
        go_wp2
        go_ret
        rw [← hlen] at hR ⊢
        exact HPOST.out _ _ hdn hR.out.1 hR.out.2
end Go.Proofs.Ytjmcnhpffpcboaa
