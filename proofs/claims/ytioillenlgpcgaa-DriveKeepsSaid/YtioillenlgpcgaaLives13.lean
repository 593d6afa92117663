/- Walk of pantilelaw13.lives: the document's example. -/
import Derived.Test.YtioillenlgpcgaaDW
import Derived.Test.YtioillenlgpcgaaConv
import Derived.Lib.SlBytesConst
set_option linter.unusedVariables false
set_option linter.unusedSimpArgs false
set_option maxHeartbeats 1600000
set_option maxRecDepth 100000
namespace Go.Proofs.Ytioillenlgpcgaa
open Go.RowKit

/-- A new row of one byte. -/
theorem bytesAt_one (w : World) (c : UInt8) (fr : Nat × Nat) : BytesAt (w.alloc (.cells #[.int .u8 c.toNat] 5 fr)) (some ⟨w.heap.size, 0, none⟩) [c] := fun _ => by
  refine ⟨w.heap.size, 0, rfl, by simp, fun i hi => ?_⟩
  have h0 : i = 0 := by simpa using hi
  subst h0
  have h := heap_alloc_new w (.cells #[.int .u8 c.toNat] 5 fr)
  unfold World.cell?
  simp only [h]
  rfl
theorem intsAt_one (w : World) (n : Int) : IntsAt (w.alloc (.cells #[.int .i64 n] 3)) (some ⟨w.heap.size, 0, none⟩) [n] := fun _ => by
  refine ⟨w.heap.size, 0, rfl, by simp, fun i hi => ?_⟩
  have h0 : i = 0 := by simpa using hi
  subst h0
  exact (Blk.new w 3 #[.int .i64 n]).cell 0
theorem conv_same (w : World) (C : Array Value) (n c : Nat) : (convert 33 33 (.slice (some ⟨w.heap.size, 0, none⟩) n c)).run Try.prog (w.alloc (.cells C 5)) = .ok (.slice (some ⟨w.heap.size, 0, none⟩) n c) (w.alloc (.cells C 5 (C.size, C.size + 1))) :=
  Lib.run_convert_bytes_const w 33 5 C n c (by kernel_rfl) (by kernel_rfl)
def L1 : Dr := ((Dr.new 100).create [97]).1
def L2 : Dr := (L1.append [97] [120]).1
def L3 : Dr := (L2.sync [97]).1
def L4 : Dr := (L3.append [97] [121]).1
def L5 : Dr := (L4.append [97] [122]).1
def L6 : Dr := L5.arm 0
def L7 : Dr := (L6.sync [97]).1
def L8 : Dr := L7.up [1]
theorem L7_down : (L6.sync [97]).2 = 13 := rfl
theorem L8_read : L8.read [97] = [120, 121] ∧ L8.readE [97] = 0 := ⟨rfl, rfl⟩
theorem append_one {w0 W : World} {g N : Nat} {d : Dr} (h : DW w0 g d N [] W) (hN : N < 1000000) (c : UInt8) (fr : Nat × Nat) :
    Calls Try.prog 11 #[.pointer (some ⟨g, 0, none⟩), .string (S [97]), .slice (some ⟨W.heap.size, 0, none⟩) 1 1] (W.alloc (.cells #[.int .u8 c.toNat] 5 fr)) fun e w' => e = .returned (.int .i64 (d.append [97] [c]).2) ∧ DW w0 g (d.append [97] [c]).1 (N + 1) [] w' :=
  h.append_new ((Below.refl _ _).alloc (Nat.le_refl _) _) (by omega) [97] (by decide) (some ⟨W.heap.size, 0, none⟩) [c] 1 (bytesAt_one W c fr) (fun p hp => by injection hp with hp; rw [← hp]; exact Nat.le_refl _) (by simp)
theorem up_one {w0 W : World} {g N : Nat} {d : Dr} (h : DW w0 g d N [] W) (hN : N ≤ 1000000) (n : Int) (hn : In64 n) :
    Calls Try.prog 15 #[.pointer (some ⟨g, 0, none⟩), .slice (some ⟨W.heap.size, 0, none⟩) 1 1] (W.alloc (.cells #[.int .i64 n] 3)) fun e w' => e = .returned (.tuple #[]) ∧ DW w0 g (d.up [n]) N [] w' := by
  have := (h.with_ 3 #[.int .i64 n]).up hN (some ⟨W.heap.size, 0, none⟩) [n] 1 (intsAt_one W n) (fun i hi => by
    have h0 : i = 0 := by simpa using hi
    subst h0
    exact hn) (by simp) (fun _ p hp => .inr ⟨_, List.mem_cons_self, by injection hp with hp; rw [← hp]⟩)
  refine this.mono ?_
  rintro e w' ⟨rfl, h'⟩
  exact ⟨rfl, h'.drop⟩
theorem law13_lives (w : World) : Calls Try.prog 17 #[] w fun e w' => e = .returned (.bool true) ∧ Below w.heap.size w w' := by
  have N0 := hid (DW.new 100 rfl w)
  have s7 := L7_down
  obtain ⟨r1, r2⟩ := L8_read
  have hcs := conv_same
  go_enter Try.func17, Try.ntmps17
  go_wp2_with fail
  refine N0.out.mono ?_
  rintro e w1 ⟨g, rfl, h1⟩
  have C1 := hid (h1.create [97] (by decide))
  clear h1 N0
  go_wp2_with fail
  refine C1.out.mono ?_
  rintro e w2 ⟨rfl, h2⟩
  have C2 := hid (append_one (d := L1) h2 (by omega) 120 (1, 2))
  clear h2 C1
  go_wp2_with fail
  refine C2.out.mono ?_
  rintro e w3 ⟨rfl, h3⟩
  have C3 := hid (DW.sync (d := L2) h3 (by omega) [97] (by decide))
  clear h3 C2
  go_wp2_with fail
  refine C3.out.mono ?_
  rintro e w4 ⟨rfl, h4⟩
  have C4 := hid (append_one (d := L3) h4 (by omega) 121 (1, 2))
  clear h4 C3
  go_wp2_with fail
  refine C4.out.mono ?_
  rintro e w5 ⟨rfl, h5⟩
  have C5 := hid (append_one (d := L4) h5 (by omega) 122 (1, 2))
  clear h5 C4
  go_wp2_with fail
  refine C5.out.mono ?_
  rintro e w6 ⟨rfl, h6⟩
  have C6 := hid (DW.arm (d := L5) h6 0 (by omega))
  clear h6 C5
  go_wp2_with fail
  refine C6.out.mono ?_
  rintro e w7 ⟨rfl, h7⟩
  have C7 := hid (DW.sync (d := L6) h7 (by omega) [97] (by decide))
  rw [s7] at C7
  clear h7 C6 s7
  go_wp2_with fail
  refine C7.out.mono ?_
  rintro e w8 ⟨rfl, h8⟩
  have C8 := hid (up_one (d := L7) h8 (by omega) 1 ⟨by omega, by omega⟩)
  clear h8 C7
  go_wp2_with fail
  refine C8.out.mono ?_
  rintro e w9 ⟨rfl, h9⟩
  have C9 := hid (DW.read (d := L8) h9 (by omega) [97] (by decide))
  rw [r1, r2] at C9
  clear h9 C8 r1 r2
  go_wp2_with fail
  refine C9.out.mono ?_
  rintro e w10 ⟨v, rfl, hrow, -, h10⟩
  obtain ⟨A, c, rfl⟩ := row_form hrow
  have HS : (convert 33 9 (.slice A 2 c)).run Try.prog w10 = .ok (.string (S [120, 121])) w10 := run_string_row w10 (l := [120, 121]) (row_base hrow (Nat.zero_le _))
  show _
  have HB := hid h10.bel
  clear hrow h10 C9
  go_wp2
  go_ret
  exact ⟨rfl, HB.out⟩
end Go.Proofs.Ytioillenlgpcgaa
