/- Walks of slices.Grow (of nil) and slices.Concat at []byte. -/
import Derived.Test.YtbjimikppdfmgaaGreatDoorBytes
import Derived.Lib.AppendZeros
set_option linter.unusedVariables false
set_option linter.unusedSimpArgs false
set_option maxHeartbeats 800000
set_option maxRecDepth 100000
namespace Go.Proofs.YtbjimikppdfmgaaGreatDoor
open Go.RowKit

theorem grow_nil (n : Nat) (hn : n ≤ 1099511627776) (w : World) : Calls Tryz.prog 94 #[.slice none 0 0, .int .i64 n] w (Made w []) := by
  rcases Nat.eq_zero_or_pos n with h0 | h0
  · subst h0
    have H := hid (show Made w [] (.returned (.slice none 0 0)) w from ⟨_, rfl, World.ownsRow_nil _ _ _ _, Below.refl _ _⟩)
    go_enter Tryz.func94, Tryz.ntmps94
    go_wp2
    go_ret
    exact H.out
  · obtain ⟨i, hi, hz, hs, hb⟩ := info_u8
    have hrun : ∀ ty, (Builtin.append_ #[60, 3] ty #[.slice none 0 0, .int .i64 n]).run Tryz.prog w = _ := fun ty =>
      Lib.run_append_nil_zeros (P := Tryz.prog) w 60 3 ty 5 i (.int .u8 0) .i64 .i64 (by kernel_rfl) (by kernel_rfl) hi hz n h0 (by omega) (by omega) (by rw [hb]; omega)
    have hG : n ≤ grownCap w n 0 5 := grownCap_ge w _ _ _
    have hG2 := grownCap_le_maxLen w n 0 5 (by unfold maxLen; omega)
    obtain ⟨G, hGe⟩ : ∃ G, G = grownCap w n 0 5 := ⟨_, rfl⟩
    rw [← hGe] at hrun hG hG2
    obtain ⟨cs, hcs⟩ : ∃ cs, cs = Builtin.zeroCells (Value.int .u8 0).cells n ++ Builtin.zeroCells (Value.int .u8 0).cells (G - n) := ⟨_, rfl⟩
    rw [← hcs] at hrun
    have hsz : cs.size = G := by rw [hcs]; simp [size_zeroCells, Value.cells]; omega
    have H := hid (show Made w [] (.returned (.slice (some ⟨w.heap.size, 0, none⟩) 0 G)) (w.alloc (.cells cs 5)).drew from ⟨_, rfl,
      ⟨rfl, .inr ⟨w.heap.size, G, cs, rfl, Nat.le_refl _, heap_alloc_new w _, by simp, hG2, by omega, by simp⟩⟩, ((Below.refl _ _).alloc (Nat.le_refl _) _).drew⟩)
    have h1 : ¬ ((n : Int) < 0) := by omega
    have h2 : (0 : Int) < n := by omega
    have h4 : ¬ G = 0 := by omega
    clear hcs hGe hsz
    go_enter Tryz.func94, Tryz.ntmps94
    go_wp2_with (at_builtin; refine Lib.wpList_append_run _ rfl _ _ _ _ rfl _ _ rfl rfl _ _ (hrun _) ?_)
    go_ret
    exact H.out

/-- A slice of slices of bytes. -/
def ChunksAt (w : World) (A : Option Addr) (ls : List (List UInt8)) : Prop :=
  0 < ls.length → ∃ b off, A = some ⟨b, off, none⟩ ∧ b < w.heap.size ∧ ∀ i, (h : i < ls.length) → ∃ Ai ci, w.cell? ⟨b, off + i, none⟩ = some (.slice Ai ls[i].length ci) ∧ BytesAt w Ai ls[i]
theorem ChunksAt.below {w w' : World} {A : Option Addr} {ls : List (List UInt8)} (h : ChunksAt w A ls) (hb : Below w.heap.size w w') : ChunksAt w' A ls := fun h0 => by
  obtain ⟨b, off, hA, hlt, hc⟩ := h h0
  refine ⟨b, off, hA, Nat.lt_of_lt_of_le hlt hb.size, fun i hi => ?_⟩
  obtain ⟨Ai, ci, h1, h2⟩ := hc i hi
  exact ⟨Ai, ci, (hb.cell (p := ⟨b, _, none⟩) hlt).trans h1, h2.below hb⟩

def total (ls : List (List UInt8)) : Nat := ls.flatten.length
theorem flatten_take (ls : List (List UInt8)) (k : Nat) (h : k < ls.length) : (ls.take (k + 1)).flatten = (ls.take k).flatten ++ ls[k] := by
  rw [List.take_succ_eq_append_getElem h, List.flatten_append, List.flatten_cons, List.flatten_nil, List.append_nil]
theorem total_take (ls : List (List UInt8)) (k : Nat) (h : k < ls.length) : total (ls.take (k + 1)) = total (ls.take k) + ls[k].length := by
  unfold total
  rw [flatten_take ls k h, List.length_append]
theorem total_le (ls : List (List UInt8)) (k : Nat) : total (ls.take k) ≤ total ls := by
  unfold total
  have := congrArg (fun l => (List.flatten l).length) (List.take_append_drop k ls)
  simp only [List.flatten_append, List.length_append] at this
  omega

theorem concat (A : Option Addr) (ls : List (List UInt8)) (c : Nat) (w : World) (hA : ChunksAt w A ls) (hn : ls.length ≤ 1099511627776) (ht : total ls ≤ 1099511627776) :
    Calls Tryz.prog 82 #[.slice A ls.length c] w (Made w ls.flatten) := by
  go_enter Tryz.func82, Tryz.ntmps82
  go_wp2
  go_loop [3, 11] (fun s i => ∃ k t : Nat, k ≤ ls.length ∧ i = .int .i64 k ∧ s = .int .i64 t ∧ Hid (t = total (ls.take k))) (fun _ i => ls.length - (intOf i).toNat)
  case atStart => exact ⟨0, 0, Nat.zero_le _, rfl, rfl, by simp [Hid, total]⟩
  case round =>
    obtain ⟨k, t, hk, rfl, rfl, hT⟩ := hrel
    have htl : t ≤ 1099511627776 := by rw [hT.out]; exact Nat.le_trans (total_le ls k) ht
    by_cases h : k < ls.length
    · obtain ⟨b, off, rfl, hbl, hc⟩ := hA (by omega)
      obtain ⟨Ai, ci, h1, _⟩ := hc k h
      have hT' := hid (show t + ls[k].length = total (ls.take (k + 1)) by rw [total_take ls k h, hT.out])
      have hlk : ls[k].length ≤ 1099511627776 := by
        have h1 := total_le ls (k + 1)
        have h2 := hT'.out
        omega
      clear hc
      go_wp2
      go_round
      case rel => exact ⟨k + 1, t + ls[k].length, by omega, by go_num, by go_num, hT'⟩
      case measure => simp [intOf]; omega
    · have hk' : k = ls.length := by omega
      subst hk'
      go_wp2_with fail
      refine (grow_nil t htl _).mono ?_
      rintro e w1 ⟨v1, rfl, hown1, hb1⟩
      go_wp2
      go_loopw [6, 27] (fun s i wr => ∃ k : Nat, k ≤ ls.length ∧ i = .int .i64 k ∧ wr.ownsRow w.heap.size 5 1 s (ls.take k).flatten.length ((ls.take k).flatten.map B8) ∧ Below w.heap.size w wr) (fun _ i _ => ls.length - (intOf i).toNat)
      case atStart => exact ⟨0, Nat.zero_le _, rfl, by simpa using hown1, hb1⟩
      case round =>
        obtain ⟨k2, hk2, rfl, hown, hb⟩ := hrel
        by_cases h2 : k2 < ls.length
        · obtain ⟨b, off, rfl, hbl, hc⟩ := (hA.below hb) (by omega)
          obtain ⟨Ai, ci, h1, h3⟩ := hc k2 h2
          have hT' := total_take ls k2 h2
          have hT2 := total_le ls (k2 + 1)
          unfold total at hT' hT2 ht
          obtain ⟨v', w', hrun, hown', hgrow, hat⟩ := run_append_bytes wr w.heap.size _ (ls.take k2).flatten ls[k2] hown Ai ci h3 (by omega) hb.size 60
          have HO := hid (show w'.ownsRow w.heap.size 5 1 v' (ls.take (k2 + 1)).flatten.length ((ls.take (k2 + 1)).flatten.map B8) by rw [flatten_take ls k2 h2]; exact hown')
          have hb' := hb.grown hgrow hb.size (fun k hk => (hown.lt k hk).1)
          clear hc hT' hT2 hown hown' hgrow hat
          go_wp2_with (at_builtin; refine wpList_append_run rfl _ _ _ rfl _ _ _ _ rfl rfl hrun ?_)
          go_roundw
          case rel => exact ⟨k2 + 1, by omega, by go_num, HO.out, hb'⟩
          case measure => simp [intOf]; omega
        · have hk2' : k2 = ls.length := by omega
          subst hk2'
          rw [List.take_length] at hown
          go_wp2
          go_ret
          exact ⟨_, rfl, hown, hb⟩
end Go.Proofs.YtbjimikppdfmgaaGreatDoor
