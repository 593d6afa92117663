/- Walks of package kv: put. -/
import Derived.Test.YtbjimikppdfmgaaDoorAppend
import Derived.Test.YtbjimikppdfmgaaDoorKvPlain
import Derived.Laws.Shifts
import Derived.Lib.AppendStr
set_option linter.unusedVariables false
set_option linter.unusedSimpArgs false
set_option maxHeartbeats 3200000
set_option maxRecDepth 100000
namespace Go.Proofs.YtbjimikppdfmgaaDoor
open Go.RowKit

theorem leB_byte (n k : Nat) : ((UInt8.ofNat (n / 2 ^ (8 * k))).toNat : Int) = (n : Int) / 2 ^ (8 * k) % 256 := by simp
theorem kv_put (w : World) (base : Nat) (A : Option Addr) (c : Nat) (xs : List UInt8) (hown : w.ownsRow base 5 1 (.slice A xs.length c) xs.length (xs.map B8)) (hbase : base ≤ w.heap.size) (hl : xs.length ≤ 900000) (n width : Nat) (hn : n ≤ 1000000000) (hw : width ≤ 4) :
    Calls Tryd.prog 78 #[.slice A xs.length c, .int .i64 n, .int .i64 width] w fun e w' => ∃ A' c', e = .returned (.slice A' (xs.length + width) c') ∧ w'.ownsRow base 5 1 (.slice A' (xs ++ lowB n width).length c') (xs ++ lowB n width).length ((xs ++ lowB n width).map B8) ∧ Touch w w' (OwnBy (.slice A xs.length c)) (OwnBy (.slice A' (xs.length + width) c')) := by
  have H0 := hid hown
  go_enter Tryd.func78, Tryd.ntmps78
  go_wp2
  go_loopw [0, 7, 9] (fun b _ i wr => ∃ (k : Nat) (A' : Option Addr) (c' : Nat) (os : List UInt8), k ≤ width ∧ i = .int .i64 k ∧ b = .slice A' os.length c' ∧ os.length = xs.length + k ∧ Hid (os = xs ++ lowB n k) ∧ Hid (wr.ownsRow base 5 1 (.slice A' os.length c') os.length (os.map B8)) ∧ Hid (Touch w wr (OwnBy (.slice A xs.length c)) (OwnBy (.slice A' os.length c')))) (fun _ _ i _ => width - (intOf i).toNat)
  case atStart => exact ⟨0, A, c, xs, Nat.zero_le _, rfl, rfl, rfl, by simp [Hid, lowB], H0, Touch.refl _ _⟩
  case round =>
    obtain ⟨k, A', c', os, hk, rfl, rfl, hol, ho, hr, hb⟩ := hrel
    by_cases h : k < width
    · have hb8 : (8 * (k : Int)).toNat = 8 * k := by omega
      obtain ⟨A2, c2, w', hrun0, hrow1, hb1⟩ := append_byteT wr (UInt8.ofNat (n / 2 ^ (8 * k))) hr.out (by omega) (Nat.le_trans hbase hb.out.size)
      have HO := hid (show os ++ [UInt8.ofNat (n / 2 ^ (8 * k))] = xs ++ lowB n (k + 1) by rw [ho.out]; simp [lowB])
      have HR := hid hrow1
      have HB := hid (show Touch w w' (OwnBy (.slice A xs.length c)) (OwnBy (.slice A2 (os ++ [UInt8.ofNat (n / 2 ^ (8 * k))]).length c2)) by rw [List.length_append]; exact hb.out.trans hb1)
      rw [leB_byte] at hrun0
      have hrun : (Builtin.append_ #[47, 47] 47 #[.slice A' os.length c', .slice (some ⟨wr.heap.size, 0, none⟩) 1 1]).run Tryd.prog (wr.alloc (.cells #[.int .u8 ((n : Int) / 2 ^ (8 * k) % 256)] 5)) = .ok (.slice A2 (os.length + 1) c2) w' := hrun0
      clear hrow1 hb1 hrun0
      go_wp2_with (first | (at_builtin; refine wpList_append_run rfl _ _ _ (by rfl) _ _ _ _ (by rfl) (by rfl) hrun ?_))
      go_roundw
      case rel => exact ⟨k + 1, A2, c2, os ++ [UInt8.ofNat (n / 2 ^ (8 * k))], by omega, by go_num, by simp [hol], by simp; omega, HO, HR, HB⟩
      case measure => simp [intOf]; omega
    · have hk' : k = width := by omega
      subst hk'
      go_wp2
      go_ret
      rw [← hol]
      exact ⟨A', c', rfl, by rw [← ho.out]; exact hr.out, hb.out⟩
/-- The same, the row's length apart. -/
theorem kv_put' (w : World) (base : Nat) (A : Option Addr) (m c : Nat) (xs : List UInt8) (hown : w.ownsRow base 5 1 (.slice A m c) m (xs.map B8)) (hbase : base ≤ w.heap.size) (hl : m ≤ 900000) (n width : Nat) (hn : n ≤ 1000000000) (hw : width ≤ 4) :
    Calls Tryd.prog 78 #[.slice A m c, .int .i64 n, .int .i64 width] w fun e w' => ∃ A' c', e = .returned (.slice A' (m + width) c') ∧ w'.ownsRow base 5 1 (.slice A' (m + width) c') (m + width) ((xs ++ lowB n width).map B8) ∧ Touch w w' (OwnBy (.slice A m c)) (OwnBy (.slice A' (m + width) c')) := by
  have hm : m = xs.length := by have := hown.1; simp at this; omega
  subst hm
  refine (kv_put w base A c xs hown hbase hl n width hn hw).mono ?_
  rintro e w' ⟨A', c', rfl, h1, h2⟩
  rw [List.length_append, lowB_len] at h1
  exact ⟨A', c', rfl, h1, h2⟩
theorem kv_put1 (w : World) (base : Nat) (A : Option Addr) (m c : Nat) (xs : List UInt8) (hown : w.ownsRow base 5 1 (.slice A m c) m (xs.map B8)) (hbase : base ≤ w.heap.size) (hl : m ≤ 900000) (N : Int) (hn0 : 0 ≤ N) (hn : N ≤ 1000000000) :
    Calls Tryd.prog 78 #[.slice A m c, .int .i64 N, .int .i64 1] w fun e w' => ∃ A' c', e = .returned (.slice A' (m + 1) c') ∧ w'.ownsRow base 5 1 (.slice A' (m + 1) c') (m + 1) ((xs ++ lowB N.toNat 1).map B8) ∧ Touch w w' (OwnBy (.slice A m c)) (OwnBy (.slice A' (m + 1) c')) := by
  have h := kv_put' w base A m c xs hown hbase hl N.toNat 1 (by omega) (by omega)
  rw [Int.toNat_of_nonneg hn0] at h
  exact h
theorem kv_put2 (w : World) (base : Nat) (A : Option Addr) (m c : Nat) (xs : List UInt8) (hown : w.ownsRow base 5 1 (.slice A m c) m (xs.map B8)) (hbase : base ≤ w.heap.size) (hl : m ≤ 900000) (N : Int) (hn0 : 0 ≤ N) (hn : N ≤ 1000000000) :
    Calls Tryd.prog 78 #[.slice A m c, .int .i64 N, .int .i64 2] w fun e w' => ∃ A' c', e = .returned (.slice A' (m + 2) c') ∧ w'.ownsRow base 5 1 (.slice A' (m + 2) c') (m + 2) ((xs ++ lowB N.toNat 2).map B8) ∧ Touch w w' (OwnBy (.slice A m c)) (OwnBy (.slice A' (m + 2) c')) := by
  have h := kv_put' w base A m c xs hown hbase hl N.toNat 2 (by omega) (by omega)
  rw [Int.toNat_of_nonneg hn0] at h
  exact h
theorem kv_put4 (w : World) (base : Nat) (A : Option Addr) (m c : Nat) (xs : List UInt8) (hown : w.ownsRow base 5 1 (.slice A m c) m (xs.map B8)) (hbase : base ≤ w.heap.size) (hl : m ≤ 900000) (N : Int) (hn0 : 0 ≤ N) (hn : N ≤ 1000000000) :
    Calls Tryd.prog 78 #[.slice A m c, .int .i64 N, .int .i64 4] w fun e w' => ∃ A' c', e = .returned (.slice A' (m + 4) c') ∧ w'.ownsRow base 5 1 (.slice A' (m + 4) c') (m + 4) ((xs ++ lowB N.toNat 4).map B8) ∧ Touch w w' (OwnBy (.slice A m c)) (OwnBy (.slice A' (m + 4) c')) := by
  have h := kv_put' w base A m c xs hown hbase hl N.toNat 4 (by omega) (by omega)
  rw [Int.toNat_of_nonneg hn0] at h
  exact h
theorem row_ne {w : World} {base m x : Nat} {v : Value} {xs : List Value} {t : TypeId} {cs : Array Value} (h : w.ownsRow base 5 1 v m xs) (hB : Blk w x t cs) (ht : t ≠ 5) : ¬ OwnBy v x := fun hk => by
  obtain ⟨cs', hcs⟩ := row_heap h hk
  unfold Blk at hB
  rw [hB] at hcs
  injection hcs with hcs
  injection hcs with _ h2
  exact ht h2
theorem box_keep {w w' : World} {base m x : Nat} {v : Value} {xs : List Value} {t : TypeId} {cs : Array Value} {fp : Nat → Prop} (ht : Touch w w' (OwnBy v) fp) (h : w.ownsRow base 5 1 v m xs) (hB : Blk w x t cs) (hne : t ≠ 5) : Blk w' x t cs :=
  (ht.block x hB.lt (row_ne h hB hne)).trans hB
/-- append(b, s...), s a text. -/
theorem append_text (W : World) {base m c : Nat} {A : Option Addr} {xs : List UInt8} (s : List UInt8) (hown : W.ownsRow base 5 1 (.slice A m c) m (xs.map B8)) (hbase : base ≤ W.heap.size) (hl : m + s.length ≤ 1000000000) (ty : TypeId) :
    ∃ A' c' w', (Builtin.append_ #[47, 9] ty #[.slice A m c, .string (S s)]).run Tryd.prog W = .ok (.slice A' (m + s.length) c') w' ∧ w'.ownsRow base 5 1 (.slice A' (m + s.length) c') (m + s.length) ((xs ++ s).map B8) ∧ W.grownBy w' (Value.ownBlock (.slice A m c)) := by
  obtain ⟨i, hi, hz, hs, hb⟩ := info_u8
  obtain ⟨v', w', hrun, h1, h2, -⟩ := Lib.run_append_own_string (P := Tryd.prog) W base 47 9 ty 5 i (by kernel_rfl) (by kernel_rfl) hi hz hs hb _ _ _ hown (S s) (by rw [S_size]; unfold maxLen; omega) (by rw [S_size]; omega) hbase
  rw [S_size] at h1
  obtain ⟨A', c', rfl⟩ := row_form h1
  refine ⟨A', c', w', hrun, ?_, h2⟩
  have : xs.map B8 ++ Lib.strCells (S s) = (xs ++ s).map B8 := by
    rw [List.map_append]
    congr 1
  rw [← this]
  exact h1
end Go.Proofs.YtbjimikppdfmgaaDoor
