/- The library's contracts, laid at the seat's program (written by a tool: its numbers are the seat's). Slices of bytes: what reads, what is made. Walks of bytes.Clone, slices.Grow, slices.Concat at []byte. Walks of slices.Grow (of nil) and slices.Concat at []byte. Walks of package drive: New, Alive, Used, Deeds, Arm, Quota. Walks of package drive: named, there, deed. Walks of package drive: deed. -/
import Derived.Shelf.Strings.SlTrimAscii
import Derived.Ground.NamesProg
import Derived.Shelf.SlMaps.Clone
import Derived.Ground.SlmcProg
import Derived.Shelf.SlIter.Nil
import Derived.Ground.GgzProg
import Derived.Shelf.SortM.Plain
import Derived.Shelf.SortM.SortNone
import Derived.Ground.SlgmProg
import Derived.Shelf.SlicesE.DeleteFunc
import Derived.Ground.SlgfProg
import Derived.Test.YtiabfngiibabcaaGreatDoorChecked
import Derived.Test.YtiabfngiibabcaaGreatDoorM02
import Derived.Test.YtiabfngiibabcaaGreatDoorM01
import Derived.Maps.AppendAt
import Derived.Lib.SliceRun
import Derived.Lib.AppendZeros
import Derived.Lib.Bytealg
set_option linter.unusedVariables false
set_option linter.unusedSimpArgs false
namespace Go.Proofs.YtiabfngiibabcaaGreatDoor
open Go.RowKit Go.Shelf
def layTrim_ren : Go.Shelf.Ren := ⟨fun | 160 => 73 | 232 => 133 | 231 => 132 | 227 => 134 | 234 => 136 | 233 => 135 | 236 => 138 | 235 => 137 | 228 => 185 | 271 => 188 | 151 => 187 | 197 => 186 | 120 => 232 | 152 => 231 | 260 => 230 | 137 => 94 | 119 => 258 | 224 => 195 | 225 => 194 | 217 => 159 | 266 => 200 | n => n, fun | 9 => 9 | 4 => 4 | 3 => 3 | 5 => 5 | 117 => 189 | 116 => 188 | 0 => 0 | 124 => 192 | 21 => 21 | 105 => 229 | 46 => 159 | 119 => 295 | 139 => 298 | 138 => 297 | n => n, fun | 3 => 7 | 4 => 8 | n => n⟩
theorem layTrim : Go.Proofs.Lays.n160 Tryz.prog layTrim_ren := {
  mixed := by kernel_rfl
  f119 := Tryz.func258.trans (congrArg some (by kernel_rfl))
  f120 := Tryz.func232.trans (congrArg some (by kernel_rfl))
  f137 := Tryz.func94.trans (congrArg some (by kernel_rfl))
  f151 := Tryz.func187.trans (congrArg some (by kernel_rfl))
  f152 := Tryz.func231.trans (congrArg some (by kernel_rfl))
  f160 := Tryz.func73.trans (congrArg some (by kernel_rfl))
  f197 := Tryz.func186.trans (congrArg some (by kernel_rfl))
  f217 := Tryz.func159.trans (congrArg some (by kernel_rfl))
  f224 := Tryz.func195.trans (congrArg some (by kernel_rfl))
  f225 := Tryz.func194.trans (congrArg some (by kernel_rfl))
  f227 := Tryz.func134.trans (congrArg some (by kernel_rfl))
  f228 := Tryz.func185.trans (congrArg some (by kernel_rfl))
  f231 := Tryz.func132.trans (congrArg some (by kernel_rfl))
  f232 := Tryz.func133.trans (congrArg some (by kernel_rfl))
  f233 := Tryz.func135.trans (congrArg some (by kernel_rfl))
  f234 := Tryz.func136.trans (congrArg some (by kernel_rfl))
  f235 := Tryz.func137.trans (congrArg some (by kernel_rfl))
  f236 := Tryz.func138.trans (congrArg some (by kernel_rfl))
  f260 := Tryz.func230.trans (congrArg some (by kernel_rfl))
  f266 := Tryz.func200.trans (congrArg some (by kernel_rfl))
  f271 := Tryz.func188.trans (congrArg some (by kernel_rfl))
  t0 := Tryz.underlying0
  a0 := Tryz.isAgg0
  z0 := Tryz.sizeOf0
  v0 := Tryz.zeroValue0
  t3 := Tryz.underlying3
  a3 := Tryz.isAgg3
  z3 := Tryz.sizeOf3
  v3 := Tryz.zeroValue3
  t4 := Tryz.underlying4
  a4 := Tryz.isAgg4
  z4 := Tryz.sizeOf4
  v4 := Tryz.zeroValue4
  t5 := Tryz.underlying5
  a5 := Tryz.isAgg5
  z5 := Tryz.sizeOf5
  v5 := Tryz.zeroValue5
  t9 := Tryz.underlying9
  a9 := Tryz.isAgg9
  z9 := Tryz.sizeOf9
  v9 := Tryz.zeroValue9
  t21 := Tryz.underlying21
  a21 := Tryz.isAgg21
  z21 := Tryz.sizeOf21
  v21 := Tryz.zeroValue21
  t46 := Tryz.underlying159
  a46 := Tryz.isAgg159
  z46 := Tryz.sizeOf159
  v46 := Tryz.zeroValue159
  t105 := Tryz.underlying229
  a105 := Tryz.isAgg229
  z105 := Tryz.sizeOf229
  v105 := Tryz.zeroValue229
  t116 := Tryz.underlying188
  a116 := Tryz.isAgg188
  z116 := Tryz.sizeOf188
  t117 := Tryz.underlying189
  a117 := Tryz.isAgg189
  z117 := Tryz.sizeOf189
  v117 := Tryz.zeroValue189
  t119 := Tryz.underlying295
  a119 := Tryz.isAgg295
  z119 := Tryz.sizeOf295
  t124 := Tryz.underlying192
  a124 := Tryz.isAgg192
  z124 := Tryz.sizeOf192
  v124 := Tryz.zeroValue192
  t138 := Tryz.underlying297
  a138 := Tryz.isAgg297
  z138 := Tryz.sizeOf297
  v138 := Tryz.zeroValue297
  t139 := Tryz.underlying298
  a139 := Tryz.isAgg298
  z139 := Tryz.sizeOf298
  v139 := Tryz.zeroValue298
  g3 := by kernel_rfl
  g4 := by kernel_rfl }
def layClone_ren : Go.Shelf.Ren := ⟨fun | 5 => 103 | 7 => 165 | n => n, fun | 23 => 138 | 25 => 9 | 3 => 9 | 4 => 4 | 20 => 20 | n => n, fun | n => n⟩
theorem layClone : Go.Proofs.SlLaysW.n5 Tryz.prog layClone_ren := {
  mixed := by kernel_rfl
  f5 := ⟨Tryz.f103.name, by decide, Tryz.func103.trans (congrArg some (by kernel_rfl))⟩
  f7 := Tryz.func165.trans (congrArg some (by kernel_rfl))
  t4 := Tryz.underlying4
  a4 := Tryz.isAgg4
  z4 := Tryz.sizeOf4
  v4 := Tryz.zeroValue4
  t20 := Tryz.underlying20
  a20 := Tryz.isAgg20
  z20 := Tryz.sizeOf20
  v20 := Tryz.zeroValue20
  t23 := Tryz.underlying138
  a23 := Tryz.isAgg138
  z23 := Tryz.sizeOf138
  v23 := Tryz.zeroValue138 }
def layKeys_ren : Go.Shelf.Ren := ⟨fun | 7 => 83 | 10 => 148 | n => n, fun | 23 => 138 | 26 => 9 | 3 => 9 | 28 => 147 | 0 => 0 | 27 => 146 | 33 => 151 | 4 => 4 | n => n, fun | n => n⟩
theorem layKeys : Go.Proofs.SlLaysZ.n7 Tryz.prog layKeys_ren := {
  mixed := by kernel_rfl
  f7 := ⟨Tryz.f83.name, by decide, Tryz.func83.trans (congrArg some (by kernel_rfl))⟩
  f10 := ⟨Tryz.f148.name, by decide, Tryz.func148.trans (congrArg some (by kernel_rfl))⟩
  t0 := Tryz.underlying0
  a0 := Tryz.isAgg0
  z0 := Tryz.sizeOf0
  v0 := Tryz.zeroValue0
  t4 := Tryz.underlying4
  a4 := Tryz.isAgg4
  z4 := Tryz.sizeOf4
  v4 := Tryz.zeroValue4
  t23 := Tryz.underlying138
  a23 := Tryz.isAgg138
  z23 := Tryz.sizeOf138
  v23 := Tryz.zeroValue138
  t26 := Tryz.underlying9
  a26 := Tryz.isAgg9
  z26 := Tryz.sizeOf9
  v26 := Tryz.zeroValue9
  t27 := Tryz.underlying146
  a27 := Tryz.isAgg146
  z27 := Tryz.sizeOf146
  v27 := Tryz.zeroValue146
  t28 := Tryz.underlying147
  a28 := Tryz.isAgg147
  z28 := Tryz.sizeOf147
  v28 := Tryz.zeroValue147
  t33 := Tryz.underlying151
  a33 := Tryz.isAgg151
  z33 := Tryz.sizeOf151
  v33 := Tryz.zeroValue151 }
def laySorted_ren : Go.Shelf.Ren := ⟨fun | 6 => 82 | 8 => 146 | 9 => 147 | 11 => 192 | 13 => 168 | 12 => 193 | 23 => 203 | 24 => 204 | 14 => 233 | 15 => 234 | 16 => 235 | 17 => 236 | 18 => 237 | 19 => 238 | 20 => 239 | 21 => 240 | 22 => 241 | 25 => 259 | 26 => 260 | 27 => 261 | 28 => 262 | 29 => 263 | 30 => 264 | 31 => 273 | n => n, fun | 26 => 9 | 28 => 147 | 24 => 39 | 0 => 0 | 3 => 3 | 37 => 159 | 48 => 244 | 50 => 237 | 4 => 4 | 40 => 269 | 39 => 268 | 45 => 99 | 5 => 5 | 9 => 9 | 51 => 300 | 55 => 304 | 57 => 315 | 58 => 316 | 33 => 151 | n => n, fun | n => n⟩
theorem laySorted : Go.Proofs.SlLaysZ.n6 Tryz.prog laySorted_ren := {
  mixed := by kernel_rfl
  f6 := ⟨Tryz.f82.name, by decide, Tryz.func82.trans (congrArg some (by kernel_rfl))⟩
  f8 := ⟨Tryz.f146.name, by decide, Tryz.func146.trans (congrArg some (by kernel_rfl))⟩
  f11 := ⟨Tryz.f192.name, by decide, Tryz.func192.trans (congrArg some (by kernel_rfl))⟩
  t0 := Tryz.underlying0
  a0 := Tryz.isAgg0
  z0 := Tryz.sizeOf0
  v0 := Tryz.zeroValue0
  t24 := Tryz.underlying39
  a24 := Tryz.isAgg39
  z24 := Tryz.sizeOf39
  v24 := Tryz.zeroValue39
  t26 := Tryz.underlying9
  a26 := Tryz.isAgg9
  z26 := Tryz.sizeOf9
  v26 := Tryz.zeroValue9
  t28 := Tryz.underlying147
  a28 := Tryz.isAgg147
  z28 := Tryz.sizeOf147
  v28 := Tryz.zeroValue147
  i26 := by kernel_rfl }
def laySort_ren : Go.Shelf.Ren := ⟨fun | 6 => 147 | 8 => 168 | 9 => 193 | 19 => 203 | 20 => 204 | 21 => 233 | 22 => 234 | 23 => 235 | 24 => 236 | 25 => 237 | 26 => 238 | 27 => 239 | 28 => 240 | 29 => 241 | 36 => 259 | 31 => 260 | 32 => 261 | 37 => 262 | 38 => 263 | 39 => 264 | 41 => 273 | n => n, fun | 27 => 39 | 29 => 9 | 3 => 3 | 32 => 159 | 26 => 39 | 0 => 0 | 44 => 244 | 46 => 237 | 4 => 4 | 36 => 269 | 35 => 268 | 41 => 99 | 5 => 5 | 9 => 9 | 53 => 300 | 57 => 304 | 63 => 315 | 64 => 316 | n => n, fun | n => n⟩
theorem laySort : Go.Proofs.SlLaysM.n6 Tryz.prog laySort_ren := {
  mixed := by kernel_rfl
  f6 := ⟨Tryz.f147.name, by decide, Tryz.func147.trans (congrArg some (by kernel_rfl))⟩
  f8 := Tryz.func168.trans (congrArg some (by kernel_rfl))
  f9 := ⟨Tryz.f193.name, by decide, Tryz.func193.trans (congrArg some (by kernel_rfl))⟩
  f19 := Tryz.func203.trans (congrArg some (by kernel_rfl))
  f20 := Tryz.func204.trans (congrArg some (by kernel_rfl))
  f21 := ⟨Tryz.f233.name, by decide, Tryz.func233.trans (congrArg some (by kernel_rfl))⟩
  f22 := ⟨Tryz.f234.name, by decide, Tryz.func234.trans (congrArg some (by kernel_rfl))⟩
  f23 := ⟨Tryz.f235.name, by decide, Tryz.func235.trans (congrArg some (by kernel_rfl))⟩
  f24 := ⟨Tryz.f236.name, by decide, Tryz.func236.trans (congrArg some (by kernel_rfl))⟩
  f25 := ⟨Tryz.f237.name, by decide, Tryz.func237.trans (congrArg some (by kernel_rfl))⟩
  f26 := ⟨Tryz.f238.name, by decide, Tryz.func238.trans (congrArg some (by kernel_rfl))⟩
  f27 := ⟨Tryz.f239.name, by decide, Tryz.func239.trans (congrArg some (by kernel_rfl))⟩
  f28 := ⟨Tryz.f240.name, by decide, Tryz.func240.trans (congrArg some (by kernel_rfl))⟩
  f29 := ⟨Tryz.f241.name, by decide, Tryz.func241.trans (congrArg some (by kernel_rfl))⟩
  f31 := Tryz.func260.trans (congrArg some (by kernel_rfl))
  f32 := Tryz.func261.trans (congrArg some (by kernel_rfl))
  f36 := ⟨Tryz.f259.name, by decide, Tryz.func259.trans (congrArg some (by kernel_rfl))⟩
  f37 := ⟨Tryz.f262.name, by decide, Tryz.func262.trans (congrArg some (by kernel_rfl))⟩
  f38 := ⟨Tryz.f263.name, by decide, Tryz.func263.trans (congrArg some (by kernel_rfl))⟩
  f39 := ⟨Tryz.f264.name, by decide, Tryz.func264.trans (congrArg some (by kernel_rfl))⟩
  f41 := ⟨Tryz.f273.name, by decide, Tryz.func273.trans (congrArg some (by kernel_rfl))⟩
  t0 := Tryz.underlying0
  a0 := Tryz.isAgg0
  z0 := Tryz.sizeOf0
  v0 := Tryz.zeroValue0
  t3 := Tryz.underlying3
  a3 := Tryz.isAgg3
  z3 := Tryz.sizeOf3
  v3 := Tryz.zeroValue3
  t4 := Tryz.underlying4
  a4 := Tryz.isAgg4
  z4 := Tryz.sizeOf4
  v4 := Tryz.zeroValue4
  t5 := Tryz.underlying5
  a5 := Tryz.isAgg5
  z5 := Tryz.sizeOf5
  v5 := Tryz.zeroValue5
  t9 := Tryz.underlying9
  a9 := Tryz.isAgg9
  z9 := Tryz.sizeOf9
  v9 := Tryz.zeroValue9
  t26 := Tryz.underlying39
  a26 := Tryz.isAgg39
  z26 := Tryz.sizeOf39
  v26 := Tryz.zeroValue39
  t27 := Tryz.underlying39
  a27 := Tryz.isAgg39
  z27 := Tryz.sizeOf39
  v27 := Tryz.zeroValue39
  t29 := Tryz.underlying9
  a29 := Tryz.isAgg9
  z29 := Tryz.sizeOf9
  v29 := Tryz.zeroValue9
  t32 := Tryz.underlying159
  a32 := Tryz.isAgg159
  z32 := Tryz.sizeOf159
  v32 := Tryz.zeroValue159
  t35 := Tryz.underlying268
  a35 := Tryz.isAgg268
  z35 := Tryz.sizeOf268
  v35 := Tryz.zeroValue268
  t36 := Tryz.underlying269
  a36 := Tryz.isAgg269
  z36 := Tryz.sizeOf269
  v36 := Tryz.zeroValue269
  t41 := Tryz.underlying99
  a41 := Tryz.isAgg99
  z41 := Tryz.sizeOf99
  v41 := Tryz.zeroValue99
  t44 := Tryz.underlying244
  a44 := Tryz.isAgg244
  z44 := Tryz.sizeOf244
  v44 := Tryz.zeroValue244
  t46 := Tryz.underlying237
  a46 := Tryz.isAgg237
  z46 := Tryz.sizeOf237
  v46 := Tryz.zeroValue237
  t53 := Tryz.underlying300
  a53 := Tryz.isAgg300
  z53 := Tryz.sizeOf300
  v53 := Tryz.zeroValue300
  t57 := Tryz.underlying304
  a57 := Tryz.isAgg304
  z57 := Tryz.sizeOf304
  v57 := Tryz.zeroValue304
  t63 := Tryz.underlying315
  a63 := Tryz.isAgg315
  z63 := Tryz.sizeOf315
  v63 := Tryz.zeroValue315
  t64 := Tryz.underlying316
  a64 := Tryz.isAgg316
  z64 := Tryz.sizeOf316
  v64 := Tryz.zeroValue316 }
def layDelete_ren : Go.Shelf.Ren := ⟨fun | 10 => 84 | 6 => 149 | n => n, fun | 22 => 39 | 23 => 9 | 25 => 151 | 3 => 3 | 4 => 4 | 0 => 0 | n => n, fun | n => n⟩
theorem layDelete : Go.Proofs.SlLaysH.n10 Tryz.prog layDelete_ren := {
  mixed := by kernel_rfl
  f6 := ⟨Tryz.f149.name, by decide, Tryz.func149.trans (congrArg some (by kernel_rfl))⟩
  f10 := ⟨Tryz.f84.name, by decide, Tryz.func84.trans (congrArg some (by kernel_rfl))⟩
  t0 := Tryz.underlying0
  a0 := Tryz.isAgg0
  z0 := Tryz.sizeOf0
  v0 := Tryz.zeroValue0
  t3 := Tryz.underlying3
  a3 := Tryz.isAgg3
  z3 := Tryz.sizeOf3
  v3 := Tryz.zeroValue3
  t4 := Tryz.underlying4
  a4 := Tryz.isAgg4
  z4 := Tryz.sizeOf4
  v4 := Tryz.zeroValue4
  t22 := Tryz.underlying39
  a22 := Tryz.isAgg39
  z22 := Tryz.sizeOf39
  v22 := Tryz.zeroValue39
  a23 := Tryz.isAgg9
  z23 := Tryz.sizeOf9
  t25 := Tryz.underlying151
  a25 := Tryz.isAgg151
  z25 := Tryz.sizeOf151
  v25 := Tryz.zeroValue151 }
end Go.Proofs.YtiabfngiibabcaaGreatDoor

set_option linter.unusedVariables false
set_option linter.unusedSimpArgs false
set_option maxHeartbeats 800000
set_option maxRecDepth 100000
namespace Go.Proofs.YtiabfngiibabcaaGreatDoor
open Go.RowKit

theorem bytes_Clone (A : Option Addr) (l : List UInt8) (c : Nat) (w : World) (hl : BytesAt w A l) (hm : l.length ≤ 140737488355328) : Calls Tryz.prog 163 #[.slice A l.length c] w (Made w l) := by
  have qT : ∀ (w : World) (a : Option Addr) (n c n' c' : Nat), (binOp .eql 85 (.slice a n c) (.slice none n' c')).run Tryz.prog w = .ok (.bool a.isNone) w := fun w a n c n' c' => Lib.run_eql_slice_nil w _ _ a n c n' c' Tryz.underlying85
  cases A with
  | none =>
    have h0 := hl.of_none
    have H := hid (show Made w l (.returned (.slice none 0 0)) w from ⟨_, rfl, by rw [h0]; exact World.ownsRow_nil _ _ _ _, Below.refl _ _⟩)
    clear h0 hl hm
    go_enter Tryz.func163, Tryz.ntmps163
    go_wp2
    go_ret
    exact H.out
  | some ad =>
    have b0 : Below w.heap.size w (w.alloc (.cells #[] 5)) := (Below.refl _ _).alloc (Nat.le_refl _) _
    have h0 : (w.alloc (.cells #[] 5)).ownsRow w.heap.size 5 1 (.slice (some ⟨w.heap.size, 0, none⟩) 0 0) ([] : List UInt8).length (([] : List UInt8).map B8) :=
      ⟨rfl, .inr ⟨w.heap.size, 0, #[], rfl, Nat.le_refl _, heap_alloc_new w _, Nat.le_refl _, by unfold maxLen; omega, rfl, rfl⟩⟩
    obtain ⟨v', w', hrun, hown, hgrow, hat⟩ := run_append_bytes _ w.heap.size _ [] l h0 (some ad) c (hl.below b0) (by simpa using hm) (by simp) 85
    have H := hid (show Made w l (.returned v') w' from ⟨_, rfl, hown, b0.grown hgrow (by simp) (fun k hk => by
      have : w.heap.size = k := by simpa [Value.ownBlock] using hk
      omega)⟩)
    clear hown hgrow hat h0 b0 hl hm
    go_enter Tryz.func163, Tryz.ntmps163
    go_wp2_with (at_builtin; refine wpList_append_run rfl _ _ _ rfl _ _ _ _ rfl rfl hrun ?_)
    go_ret
    exact H.out
end Go.Proofs.YtiabfngiibabcaaGreatDoor

set_option linter.unusedVariables false
set_option linter.unusedSimpArgs false
set_option maxHeartbeats 800000
set_option maxRecDepth 100000
namespace Go.Proofs.YtiabfngiibabcaaGreatDoor
open Go.RowKit

theorem grow_nil (n : Nat) (hn : n ≤ 1099511627776) (w : World) : Calls Tryz.prog 226 #[.slice none 0 0, .int .i64 n] w (Made w []) := by
  rcases Nat.eq_zero_or_pos n with h0 | h0
  · subst h0
    have H := hid (show Made w [] (.returned (.slice none 0 0)) w from ⟨_, rfl, World.ownsRow_nil _ _ _ _, Below.refl _ _⟩)
    go_enter Tryz.func226, Tryz.ntmps226
    go_wp2
    go_ret
    exact H.out
  · obtain ⟨i, hi, hz, hs, hb⟩ := info_u8
    have hrun : ∀ ty, (Builtin.append_ #[85, 3] ty #[.slice none 0 0, .int .i64 n]).run Tryz.prog w = _ := fun ty =>
      Lib.run_append_nil_zeros (P := Tryz.prog) w 85 3 ty 5 i (.int .u8 0) .i64 .i64 (by kernel_rfl) (by kernel_rfl) hi hz n h0 (by omega) (by omega) (by rw [hb]; omega)
    have hG : n ≤ grownCap w n 0 5 := grownCap_ge w _ _ _
    have hG2 := grownCap_le_maxLen w n 0 5 (by unfold maxLen; omega)
    obtain ⟨G, hGe⟩ : ∃ G, G = grownCap w n 0 5 := ⟨_, rfl⟩
    rw [← hGe] at hrun hG hG2
    obtain ⟨cs, hcs⟩ : ∃ cs, cs = Builtin.zeroCells (Value.int .u8 0).cells n ++ Builtin.zeroCells (Value.int .u8 0).cells (G - n) := ⟨_, rfl⟩
    rw [← hcs] at hrun
    have hsz : cs.size = G := by rw [hcs]; simp [size_zeroCells, Value.cells]; omega
    have H := hid (show Made w [] (.returned (.slice (some ⟨w.heap.size, 0, none⟩) 0 G)) (w.alloc (.cells cs 5)).drew from ⟨_, rfl,
      ⟨rfl, .inr ⟨w.heap.size, G, cs, rfl, Nat.le_refl _, heap_alloc_new w _, by simp, hG2, by omega, by simp⟩⟩, ((Below.refl _ _).alloc (Nat.le_refl _) _).drew⟩)
    have h1 : ¬ ((n : Int) < 0) := by omega
    have h2 : (0 : Int) < n := by omega
    have h4 : ¬ G = 0 := by omega
    clear hcs hGe hsz
    go_enter Tryz.func226, Tryz.ntmps226
    go_wp2_with (at_builtin; refine Lib.wpList_append_run _ rfl _ _ _ _ rfl _ _ rfl rfl _ _ (hrun _) ?_)
    go_ret
    exact H.out

/-- A slice of slices of bytes. -/
def ChunksAt (w : World) (A : Option Addr) (ls : List (List UInt8)) : Prop :=
  0 < ls.length → ∃ b off, A = some ⟨b, off, none⟩ ∧ b < w.heap.size ∧ ∀ i, (h : i < ls.length) → ∃ Ai ci, w.cell? ⟨b, off + i, none⟩ = some (.slice Ai ls[i].length ci) ∧ BytesAt w Ai ls[i]
theorem ChunksAt.below {w w' : World} {A : Option Addr} {ls : List (List UInt8)} (h : ChunksAt w A ls) (hb : Below w.heap.size w w') : ChunksAt w' A ls := fun h0 => by
  obtain ⟨b, off, hA, hlt, hc⟩ := h h0
  refine ⟨b, off, hA, Nat.lt_of_lt_of_le hlt hb.size, fun i hi => ?_⟩
  obtain ⟨Ai, ci, h1, h2⟩ := hc i hi
  exact ⟨Ai, ci, (hb.cell (p := ⟨b, _, none⟩) hlt).trans h1, h2.below hb⟩

def total (ls : List (List UInt8)) : Nat := ls.flatten.length
theorem flatten_take (ls : List (List UInt8)) (k : Nat) (h : k < ls.length) : (ls.take (k + 1)).flatten = (ls.take k).flatten ++ ls[k] := by
  rw [List.take_succ_eq_append_getElem h, List.flatten_append, List.flatten_cons, List.flatten_nil, List.append_nil]
theorem total_take (ls : List (List UInt8)) (k : Nat) (h : k < ls.length) : total (ls.take (k + 1)) = total (ls.take k) + ls[k].length := by
  unfold total
  rw [flatten_take ls k h, List.length_append]
theorem total_le (ls : List (List UInt8)) (k : Nat) : total (ls.take k) ≤ total ls := by
  unfold total
  have := congrArg (fun l => (List.flatten l).length) (List.take_append_drop k ls)
  simp only [List.flatten_append, List.length_append] at this
  omega

theorem concat (A : Option Addr) (ls : List (List UInt8)) (c : Nat) (w : World) (hA : ChunksAt w A ls) (hn : ls.length ≤ 1099511627776) (ht : total ls ≤ 1099511627776) :
    Calls Tryz.prog 180 #[.slice A ls.length c] w (Made w ls.flatten) := by
  go_enter Tryz.func180, Tryz.ntmps180
  go_wp2
  go_loop [3, 11] (fun s i => ∃ k t : Nat, k ≤ ls.length ∧ i = .int .i64 k ∧ s = .int .i64 t ∧ Hid (t = total (ls.take k))) (fun _ i => ls.length - (intOf i).toNat)
  case atStart => exact ⟨0, 0, Nat.zero_le _, rfl, rfl, by simp [Hid, total]⟩
  case round =>
    obtain ⟨k, t, hk, rfl, rfl, hT⟩ := hrel
    have htl : t ≤ 1099511627776 := by rw [hT.out]; exact Nat.le_trans (total_le ls k) ht
    by_cases h : k < ls.length
    · obtain ⟨b, off, rfl, hbl, hc⟩ := hA (by omega)
      obtain ⟨Ai, ci, h1, _⟩ := hc k h
      have hT' := hid (show t + ls[k].length = total (ls.take (k + 1)) by rw [total_take ls k h, hT.out])
      have hlk : ls[k].length ≤ 1099511627776 := by
        have h1 := total_le ls (k + 1)
        have h2 := hT'.out
        omega
      clear hc
      go_wp2
      go_round
      case rel => exact ⟨k + 1, t + ls[k].length, by omega, by go_num, by go_num, hT'⟩
      case measure => simp [intOf]; omega
    · have hk' : k = ls.length := by omega
      subst hk'
      go_wp2_with fail
      refine (grow_nil t htl _).mono ?_
      rintro e w1 ⟨v1, rfl, hown1, hb1⟩
      go_wp2
      go_loopw [6, 27] (fun s i wr => ∃ k : Nat, k ≤ ls.length ∧ i = .int .i64 k ∧ wr.ownsRow w.heap.size 5 1 s (ls.take k).flatten.length ((ls.take k).flatten.map B8) ∧ Below w.heap.size w wr) (fun _ i _ => ls.length - (intOf i).toNat)
      case atStart => exact ⟨0, Nat.zero_le _, rfl, by simpa using hown1, hb1⟩
      case round =>
        obtain ⟨k2, hk2, rfl, hown, hb⟩ := hrel
        by_cases h2 : k2 < ls.length
        · obtain ⟨b, off, rfl, hbl, hc⟩ := (hA.below hb) (by omega)
          obtain ⟨Ai, ci, h1, h3⟩ := hc k2 h2
          have hT' := total_take ls k2 h2
          have hT2 := total_le ls (k2 + 1)
          unfold total at hT' hT2 ht
          obtain ⟨v', w', hrun, hown', hgrow, hat⟩ := run_append_bytes wr w.heap.size _ (ls.take k2).flatten ls[k2] hown Ai ci h3 (by omega) hb.size 85
          have HO := hid (show w'.ownsRow w.heap.size 5 1 v' (ls.take (k2 + 1)).flatten.length ((ls.take (k2 + 1)).flatten.map B8) by rw [flatten_take ls k2 h2]; exact hown')
          have hb' := hb.grown hgrow hb.size (fun k hk => (hown.lt k hk).1)
          clear hc hT' hT2 hown hown' hgrow hat
          go_wp2_with (at_builtin; refine wpList_append_run rfl _ _ _ rfl _ _ _ _ rfl rfl hrun ?_)
          go_roundw
          case rel => exact ⟨k2 + 1, by omega, by go_num, HO.out, hb'⟩
          case measure => simp [intOf]; omega
        · have hk2' : k2 = ls.length := by omega
          subst hk2'
          rw [List.take_length] at hown
          go_wp2
          go_ret
          exact ⟨_, rfl, hown, hb⟩
end Go.Proofs.YtiabfngiibabcaaGreatDoor

set_option linter.unusedVariables false
set_option linter.unusedSimpArgs false
set_option maxHeartbeats 800000
set_option maxRecDepth 100000
namespace Go.Proofs.YtiabfngiibabcaaGreatDoor
open Go.RowKit

theorem drive_quotable (n : Int) (w : World) : Calls Tryz.prog 26 #[.int .i64 n] w fun e w' => e = .returned (.bool (quotableB n)) ∧ w' = w := by
  by_cases h : 0 ≤ n
  · go_enter Tryz.func26, Tryz.ntmps26
    go_wp2
    go_ret
    exact ⟨by simp [quotableB, h], rfl⟩
  · go_enter Tryz.func26, Tryz.ntmps26
    go_wp2
    go_ret
    exact ⟨by simp [quotableB]; omega, rfl⟩

theorem drive_Alive {w : World} {g : Nat} {d : Dr} {fp : Nat → Prop} (h : IsDrive w g d fp) : Calls Tryz.prog 72 #[.pointer (some ⟨g, 0, none⟩)] w fun e w' => e = .returned (.bool (!d.down)) ∧ w' = w := by
  obtain ⟨mb, aft, rs, hb, ha, hf, hd⟩ := h.has
  have c4 := hb.cell 4
  simp [driveCells] at c4
  have hnot : ∀ (x : Bool) (w : World), (Op.unary .not (.bool x)).run Tryz.prog w = .ok (.bool (!x)) w := fun _ _ => rfl
  clear hb ha hf hd h
  go_enter Tryz.func72, Tryz.ntmps72
  go_wp2
  go_ret
  exact ⟨rfl, rfl⟩

theorem drive_New_no (q : Int) (hq : quotableB q = false) (w : World) : Calls Tryz.prog 7 #[.int .i64 q] w fun e w' => e = .returned (.pointer none) ∧ w' = w := by
  have Q := hid (drive_quotable q)
  rw [hq] at Q
  clear hq
  go_enter Tryz.func7, Tryz.ntmps7
  go_wp2_with fail
  refine (Q.out _).mono ?_
  rintro e w1 ⟨rfl, rfl⟩
  go_wp2
  go_ret
  exact ⟨rfl, rfl⟩

theorem drive_New (q : Int) (hq : quotableB q = true) (w : World) : Calls Tryz.prog 7 #[.int .i64 q] w fun e w' => ∃ g fp, e = .returned (.pointer (some ⟨g, 0, none⟩)) ∧ IsDrive w' g (Dr.new q) fp ∧ Below w.heap.size w w' ∧ ∀ k, fp k → w.heap.size ≤ k := by
  have Q := hid (drive_quotable q)
  rw [hq] at Q
  clear hq
  have hmm := @run_makeMap Tryz.prog
  go_enter Tryz.func7, Tryz.ntmps7
  go_wp2_with fail
  refine (Q.out _).mono ?_
  rintro e w1 ⟨rfl, rfl⟩
  go_wp2
  go_ret
  have hB : Below w1.heap.size w1 (w1.alloc (.map #[] 0)) := (Below.refl _ _).alloc (Nat.le_refl _) _
  refine ⟨w1.heap.size + 1, fun k => k = w1.heap.size ∨ k = w1.heap.size + 1, rfl, ⟨?_, .inr rfl, w1.heap.size, 0, [], ?_, fun h => absurd h (by simp [Dr.new]), ⟨?_, .inl rfl, by simp, List.Pairwise.nil⟩, rfl⟩, hB.alloc (by simp) _, ?_⟩
  · intro k hk
    simp
    omega
  · have := Blk.new (w1.alloc (.map #[] 0)) 78 (driveCells (Dr.new q) w1.heap.size 0)
    simpa [driveCells, Dr.new, Dr.used] using this
  · exact (OwnM.made w1).kept (Below.heap_alloc _ _ _ (by simp))
  · intro k hk
    omega

theorem drive_Arm {w : World} {g : Nat} {d : Dr} {fp : Nat → Prop} (h : IsDrive w g d fp) (n : Int) : Calls Tryz.prog 71 #[.pointer (some ⟨g, 0, none⟩), .int .i64 n] w fun e w' => e = .returned (.tuple #[]) ∧ IsDrive w' g (d.arm n) fp ∧ Touch w w' fp fp := by
  obtain ⟨mb, aft, rs, hb, ha, hf, hd⟩ := h.has
  have c5 := hb.cell 5
  have c6 := hb.cell 6
  simp [driveCells] at c5 c6
  have f5 := hb.frozen 5
  have f6 := hb.frozen 6
  have H := hid h
  have HB := hid hb
  have HD := hid hd
  clear h hb ha hd
  go_enter Tryz.func71, Tryz.ntmps71
  go_wp2
  go_end0
  refine ⟨rfl, IsDrive.mk' (aft := n) H.out HB.out hf (by simp [set_size]) (fun k hk => (set_other _ _ _ _ k hk).trans (set_other _ _ _ _ k hk)) ?_ ?_ HD.out, (Touch.setCell _ _ H.out.own _).trans (Touch.setCell _ _ H.out.own _)⟩
  · have := (HB.out.set_ 5 (.bool (decide (0 ≤ n)))).set_ 6 (.int .i64 n)
    have e : decide (0 ≤ (d.arm n).left) = decide (0 ≤ n) := by
      simp only [Dr.arm]; split <;> simp_all
    have e2 : driveCells (d.arm n) mb n = ((driveCells d mb aft).setIfInBounds 5 (.bool (decide (0 ≤ n)))).setIfInBounds 6 (.int .i64 n) := by
      unfold driveCells; rw [e]; rfl
    rw [e2]; exact this
  · simp only [Dr.arm]; split <;> simp_all

end Go.Proofs.YtiabfngiibabcaaGreatDoor

set_option linter.unusedVariables false
set_option linter.unusedSimpArgs false
set_option maxHeartbeats 800000
set_option maxRecDepth 100000
namespace Go.Proofs.YtiabfngiibabcaaGreatDoor
open Go.RowKit

theorem run_indexByteS (l : List UInt8) (c : UInt8) (w : World) : (callFunc 200 #[.string (S l), .int .u8 c.toNat]).run Tryz.prog w = .ok (.value (.int .i64 (Lib.indexByte l c))) w := by
  rw [run_callFunc_extern Tryz.func200 (by kernel_rfl) (by kernel_rfl) (by kernel_rfl) (e := Extern.BytealgIndexByte.indexByte) (by kernel_rfl), Lib.run_indexByteString]
  simp [Result.andThen, S_toList]

theorem strings_IndexByte (l : List UInt8) (c : UInt8) (w : World) : Calls Tryz.prog 94 #[.string (S l), .int .u8 c.toNat] w fun e w' => e = .returned (.int .i64 (Lib.indexByte l c)) ∧ w' = w := by
  have hx := run_indexByteS l c
  go_enter Tryz.func94, Tryz.ntmps94
  go_wp2
  go_ret
  exact ⟨rfl, rfl⟩

theorem signs_index (c : UInt8) : (signB c = true ∧ ¬ Lib.indexByte [46, 47, 45, 95] c < 0) ∨ (signB c = false ∧ Lib.indexByte [46, 47, 45, 95] c = -1) ∨ (97 ≤ c.toNat ∧ c.toNat ≤ 122) ∨ (48 ≤ c.toNat ∧ c.toNat ≤ 57) := by
  by_cases h1 : c = 46
  · subst h1; exact .inl (by decide)
  · by_cases h2 : c = 47
    · subst h2; exact .inl (by decide)
    · by_cases h3 : c = 45
      · subst h3; exact .inl (by decide)
      · by_cases h4 : c = 95
        · subst h4; exact .inl (by decide)
        · by_cases h5 : 97 ≤ c.toNat ∧ c.toNat ≤ 122
          · exact .inr (.inr (.inl h5))
          · by_cases h6 : 48 ≤ c.toNat ∧ c.toNat ≤ 57
            · exact .inr (.inr (.inr h6))
            · refine .inr (.inl ⟨?_, ?_⟩)
              · have n1 : c.toNat ≠ 46 := fun h => h1 (UInt8.toNat_inj.1 h)
                have n2 : c.toNat ≠ 47 := fun h => h2 (UInt8.toNat_inj.1 h)
                have n3 : c.toNat ≠ 45 := fun h => h3 (UInt8.toNat_inj.1 h)
                have n4 : c.toNat ≠ 95 := fun h => h4 (UInt8.toNat_inj.1 h)
                simp [signB, n1, n2, n3, n4]
                omega
              · simp [Lib.indexByte, Ne.symm h1, Ne.symm h2, Ne.symm h3, Ne.symm h4]

theorem named_not {l : List UInt8} {k : Nat} (h : k < l.length) (hs : signB l[k] = false) : namedB l = false := by
  unfold namedB
  rw [show l.all signB = false by
    rw [List.all_eq_false]
    exact ⟨l[k], List.getElem_mem h, by simp [hs]⟩]
  rfl

theorem drive_named (l : List UInt8) (hl : l.length ≤ 1000000) (w : World) : Calls Tryz.prog 141 #[.string (S l)] w fun e w' => e = .returned (.bool (namedB l)) ∧ w' = w := by
  go_enter Tryz.func141, Tryz.ntmps141
  go_wp2
  go_loop [7] (fun i => ∃ k : Nat, k ≤ l.length ∧ i = .int .i64 k ∧ Hid (∀ j, (h : j < l.length) → j < k → signB l[j] = true)) (fun i => l.length - (intOf i).toNat)
  case atStart => exact ⟨0, Nat.zero_le _, rfl, fun j _ h => absurd h (by omega)⟩
  case round =>
    obtain ⟨k, hk, rfl, hs⟩ := hrel
    by_cases h : k < l.length
    · have hnext := fun (hq : signB l[k] = true) => hid (show ∀ j, (h : j < l.length) → j < k + 1 → signB l[j] = true from fun j hj hjk => by
        rcases Nat.lt_or_ge j k with h1 | h1
        · exact hs.out j hj h1
        · obtain rfl : j = k := by omega
          exact hq)
      have hc := l[k].toNat_lt
      have hc' : (l[k].toNat : Int) < 256 := by omega
      by_cases h1 : (97 : Int) ≤ l[k].toNat ∧ (l[k].toNat : Int) ≤ 122
      · obtain ⟨a1, a2⟩ := h1
        go_wp2
        go_round
        case rel => exact ⟨k + 1, by omega, by go_num, hnext (by simp [signB]; omega)⟩
        case measure => simp [intOf]; omega
      · by_cases h2 : (48 : Int) ≤ l[k].toNat ∧ (l[k].toNat : Int) ≤ 57
        · obtain ⟨a1, a2⟩ := h2
          rcases Int.lt_or_le (l[k].toNat : Int) 97 with h3 | h3
          · go_wp2
            go_round
            case rel => exact ⟨k + 1, by omega, by go_num, hnext (by simp [signB]; omega)⟩
            case measure => simp [intOf]; omega
          · exact absurd h3 (by omega)
        · have ib := hid (strings_IndexByte [46, 47, 45, 95] l[k])
          have hx := signs_index l[k]
          rcases hx with ⟨hg, hx⟩ | ⟨hg, hx⟩ | hx | hx
          · have hn2 := hnext hg
            clear hnext hg
            by_cases h3 : (l[k].toNat : Int) < 97
            · by_cases h4 : (l[k].toNat : Int) < 48
              · go_wp2_with fail
                refine (ib.out _).mono ?_
                rintro e w1 ⟨rfl, rfl⟩
                go_wp2
                go_round
                case rel => exact ⟨k + 1, by omega, by go_num, hn2⟩
                case measure => simp [intOf]; omega
              · have h5 : (57 : Int) < l[k].toNat := by omega
                go_wp2_with fail
                refine (ib.out _).mono ?_
                rintro e w1 ⟨rfl, rfl⟩
                go_wp2
                go_round
                case rel => exact ⟨k + 1, by omega, by go_num, hn2⟩
                case measure => simp [intOf]; omega
            · exfalso
              have h5 : (122 : Int) < l[k].toNat := by omega
              have h6 : l[k].toNat ≠ 46 ∧ l[k].toNat ≠ 47 ∧ l[k].toNat ≠ 45 ∧ l[k].toNat ≠ 95 := by omega
              apply hx
              obtain ⟨n1, n2, n3, n4⟩ := h6
              have z : Lib.indexByte [46, 47, 45, 95] l[k] = -1 := by
                have m1 : ¬ (46 : UInt8) = l[k] := fun h => n1 (by rw [← h]; rfl)
                have m2 : ¬ (47 : UInt8) = l[k] := fun h => n2 (by rw [← h]; rfl)
                have m3 : ¬ (45 : UInt8) = l[k] := fun h => n3 (by rw [← h]; rfl)
                have m4 : ¬ (95 : UInt8) = l[k] := fun h => n4 (by rw [← h]; rfl)
                simp [Lib.indexByte, m1, m2, m3, m4]
              rw [z]; decide
          · have H := hid (named_not h hg)
            rw [hx] at ib
            clear hnext hg hx
            have h3 : (l[k].toNat : Int) < 97 ∨ (122 : Int) < l[k].toNat := by omega
            have h4 : (l[k].toNat : Int) < 48 ∨ (57 : Int) < l[k].toNat := by omega
            by_cases h5 : (l[k].toNat : Int) < 97
            · by_cases h6 : (l[k].toNat : Int) < 48
              · clear h1 h2 h3 h4
                go_wp2_with fail
                refine (ib.out _).mono ?_
                rintro e w1 ⟨rfl, rfl⟩
                go_wp2
                go_ret
                exact ⟨by rw [H.out]; rfl, rfl⟩
              · have h7 : (57 : Int) < l[k].toNat := by omega
                clear h1 h2 h3 h4
                go_wp2_with fail
                refine (ib.out _).mono ?_
                rintro e w1 ⟨rfl, rfl⟩
                go_wp2
                go_ret
                exact ⟨by rw [H.out]; rfl, rfl⟩
            · have h7 : (122 : Int) < l[k].toNat := by omega
              have h8 : (57 : Int) < l[k].toNat := by omega
              have h9 : ¬ (l[k].toNat : Int) < 48 := by omega
              clear h1 h2 h3 h4
              go_wp2_with fail
              refine (ib.out _).mono ?_
              rintro e w1 ⟨rfl, rfl⟩
              go_wp2
              go_ret
              exact ⟨by rw [H.out]; rfl, rfl⟩
          · exact absurd hx (by omega)
          · exact absurd hx (by omega)
    · have hk' : k = l.length := by omega
      subst hk'
      have hall : l.all signB = true := by
        rw [List.all_eq_true]
        intro c hc
        obtain ⟨j, hj, rfl⟩ := List.mem_iff_getElem.1 hc
        exact hs.out j hj hj
      by_cases h0 : l = []
      · subst h0
        go_wp2
        go_ret
        exact ⟨rfl, rfl⟩
      · have hp : 0 < l.length := List.length_pos_iff.2 h0
        have e1 : (l == []) = false := by simpa using h0
        have H := hid (show namedB l = decide ((l.length : Int) ≤ 60) by
          unfold namedB; rw [hall, show decide (1 ≤ l.length) = true from decide_eq_true hp]; rw [Bool.true_and, Bool.true_and, Bool.eq_iff_iff, decide_eq_true_eq, decide_eq_true_eq]; omega)
        clear h0 hall
        go_wp2
        go_ret
        exact ⟨by rw [H.out]; rfl, rfl⟩

theorem drive_there {w : World} {g : Nat} {d : Dr} {fp : Nat → Prop} (h : IsDrive w g d fp) (name : Key) (hl : name.length ≤ 1000000) : Calls Tryz.prog 144 #[.pointer (some ⟨g, 0, none⟩), .string (S name)] w fun e w' => e = .returned (.int .i64 (d.thereE name)) ∧ w' = w := by
  obtain ⟨mb, aft, rs, hb, ha, hf, hd⟩ := h.has
  have c0 := hb.cell 0
  simp [driveCells] at c0
  have hz : (zeroValue 175).run Tryz.prog w = .ok (.pointer none) w := by kernel_rfl
  have L := hf.map.look (t := 76) (e := 175) (by kernel_rfl) (by kernel_rfl) hz name hl
  rw [kget_map] at L
  have E : d.thereE name = if (kget rs name).isSome then 0 else 10 := by
    unfold Dr.thereE
    rw [hd, kget_map]
    cases kget rs name <;> rfl
  have HE := hid E
  clear hb ha hf hd h hz E
  cases hk : kget rs name with
  | none =>
    rw [hk] at L HE
    clear hk
    simp [ptrOf] at L
    go_enter Tryz.func144, Tryz.ntmps144
    go_wp2
    go_ret
    exact ⟨by rw [HE.out]; rfl, rfl⟩
  | some r =>
    rw [hk] at L HE
    clear hk
    simp [ptrOf] at L
    go_enter Tryz.func144, Tryz.ntmps144
    go_wp2
    go_ret
    exact ⟨by rw [HE.out]; rfl, rfl⟩
end Go.Proofs.YtiabfngiibabcaaGreatDoor

set_option linter.unusedVariables false
set_option linter.unusedSimpArgs false
set_option maxHeartbeats 800000
set_option maxRecDepth 100000
namespace Go.Proofs.YtiabfngiibabcaaGreatDoor
open Go.RowKit

theorem deed_no {w : World} {g : Nat} {d : Dr} {fp : Nat → Prop} (h : IsDrive w g d fp) (e : Int) (hne : (d.may e).2 ≠ 0) (F : FuncId) (caps : Array Value) :
    Calls Tryz.prog 142 #[.pointer (some ⟨g, 0, none⟩), .int .i64 e, .func (.func F) #[] caps] w fun x w' => x = .returned (.int .i64 (d.may e).2) ∧ IsDrive w' g (d.may e).1 fp ∧ Touch w w' fp fp := by
  obtain ⟨mb, aft, rs, hb, ha, hf, hd⟩ := h.has
  have c4 := hb.cell 4
  have c5 := hb.cell 5
  have c6 := hb.cell 6
  simp [driveCells] at c4 c5 c6
  have f4 := hb.frozen 4
  have f5 := hb.frozen 5
  have H := hid h
  have HB := hid hb
  have HD := hid hd
  have HA := hid ha
  clear h hb ha hd
  cases hdn : d.down with
  | true =>
    have E := hid (show d.may e = (d, 13) by simp [Dr.may, hdn])
    rw [hdn] at c4
    clear hdn hne
    go_enter Tryz.func142, Tryz.ntmps142
    go_wp2
    go_ret
    exact ⟨by rw [E.out]; rfl, by rw [E.out]; exact H.out, Touch.refl _ _⟩
  | false =>
    rw [hdn] at c4
    by_cases he : e = 0
    · by_cases hl : d.left = 0
      · have E := hid (show d.may e = ({ d with down := true, left := -1 }, 13) by simp [Dr.may, hdn, he, hl])
        rw [hl] at c5
        have A := HA.out (by omega)
        rw [hl] at A
        subst A
        subst he
        simp at c5
        clear hdn hne hl
        go_enter Tryz.func142, Tryz.ntmps142
        go_wp2
        go_ret
        refine ⟨by rw [E.out]; rfl, ?_, (Touch.setCell _ _ H.out.own _).trans (Touch.setCell _ _ H.out.own _)⟩
        rw [E.out]
        refine IsDrive.mk' (aft := 0) H.out HB.out hf (by simp [set_size]) (fun k hk => (set_other _ _ _ _ k hk).trans (set_other _ _ _ _ k hk)) ?_ (fun h => absurd h (by simp)) HD.out
        exact (HB.out.set_ 4 (.bool true)).set_ 5 (.bool false)
      · exfalso
        apply hne
        simp [Dr.may, hdn, he, hl]
    · have E := hid (show d.may e = (d, e) by simp [Dr.may, hdn, he])
      have k0 : (e == 0) = false := by simpa using he
      clear hdn hne he
      go_enter Tryz.func142, Tryz.ntmps142
      go_wp2
      go_ret
      exact ⟨by rw [E.out]; rfl, by rw [E.out]; exact H.out, Touch.refl _ _⟩

theorem may_drive {w : World} {g mb : Nat} {d : Dr} {fp : Nat → Prop} {aft : Int} {rs : List (Key × FileR)} (H : IsDrive w g d fp) (HB : Blk w g 78 (driveCells d mb aft)) (hf : HasFiles w fp mb rs) (HD : d.files = kmap FileR.f rs)
    (HA : 0 ≤ d.left → aft = d.left) (hlm : d.left ≤ 9223372036854775807) (hl0 : d.left ≠ 0) :
    IsDrive ((w.setCell ⟨g, 6, none⟩ (.int .i64 (wrap64 (aft - 1)))).setCell ⟨g, 3, none⟩ (.int .i64 (wrap64 (d.deeds + 1)))) g { d with left := if 0 ≤ d.left then d.left - 1 else -1, deeds := wrap1 d.deeds } fp := by
  refine IsDrive.mk' (aft := wrap64 (aft - 1)) H HB hf (by simp [set_size]) (fun k hk => (set_other _ _ _ _ k hk).trans (set_other _ _ _ _ k hk)) ?_ ?_ HD
  · have h1 := (HB.set_ 6 (.int .i64 (wrap64 (aft - 1)))).set_ 3 (.int .i64 (wrap64 (d.deeds + 1)))
    have e2 : driveCells { d with left := if 0 ≤ d.left then d.left - 1 else -1, deeds := wrap1 d.deeds } mb (wrap64 (aft - 1)) = ((driveCells d mb aft).setIfInBounds 6 (.int .i64 (wrap64 (aft - 1)))).setIfInBounds 3 (.int .i64 (wrap64 (d.deeds + 1))) := by
      have e3 : decide (0 ≤ if 0 ≤ d.left then d.left - 1 else -1) = decide (0 ≤ d.left) := by
        rw [Bool.eq_iff_iff, decide_eq_true_eq, decide_eq_true_eq]
        split <;> omega
      unfold driveCells
      rw [e3]
      rfl
    rw [e2]; exact h1
  · intro h
    by_cases hl : 0 ≤ d.left
    · have h1 := HA hl
      show wrap64 (aft - 1) = if 0 ≤ d.left then d.left - 1 else -1
      rw [if_pos hl, h1]
      unfold wrap64
      omega
    · have h2 : (0 : Int) ≤ if 0 ≤ d.left then d.left - 1 else -1 := h
      rw [if_neg hl] at h2
      omega

theorem deed_do {w : World} {g : Nat} {d : Dr} {fp : Nat → Prop} (h : IsDrive w g d fp) (hlm : d.left ≤ 9223372036854775807) (hdo : (d.may 0).2 = 0) (F : FuncId) (caps : Array Value) (hcf : ∀ W, (callFunc F caps).run Tryz.prog W = .ok (.enter F caps) W) (R : World → Prop)
    (hF : ∀ w1, IsDrive w1 g (d.may 0).1 fp → Touch w w1 fp fp → Calls Tryz.prog F caps w1 fun x w2 => x = .returned (.tuple #[]) ∧ R w2) :
    Calls Tryz.prog 142 #[.pointer (some ⟨g, 0, none⟩), .int .i64 0, .func (.func F) #[] caps] w fun x w' => x = .returned (.int .i64 0) ∧ R w' := by
  obtain ⟨mb, aft, rs, hb, ha, hf, hd⟩ := h.has
  have c3 := hb.cell 3
  have c4 := hb.cell 4
  have c5 := hb.cell 5
  have c6 := hb.cell 6
  simp [driveCells] at c3 c4 c5 c6
  have f3 := hb.frozen 3
  have f6 := hb.frozen 6
  have hdn : d.down = false := by
    cases hx : d.down with
    | false => rfl
    | true => simp [Dr.may, hx] at hdo
  have hl0 : d.left ≠ 0 := by
    intro hx
    simp [Dr.may, hdn, hx] at hdo
  have E := hid (show d.may 0 = ({ d with left := if 0 ≤ d.left then d.left - 1 else -1, deeds := wrap1 d.deeds }, 0) by simp [Dr.may, hdn, hl0])
  have H := hid h
  have HB := hid hb
  have HD := hid hd
  have HA := hid ha
  have HF := hid hF
  rw [hdn] at c4
  clear h hb ha hd hdo hF hdn
  have M := hid (may_drive H.out HB.out hf HD.out HA.out hlm hl0)
  by_cases hl : 0 ≤ d.left
  · have A := HA.out hl
    have k1 : (aft == 0) = false := by rw [A]; simpa using hl0
    have k2 : decide (0 ≤ d.left) = true := decide_eq_true hl
    rw [k2] at c5
    clear A k2 hl0
    go_enter Tryz.func142, Tryz.ntmps142
    go_wp2_with fail
    refine (HF.out _ (by rw [E.out]; exact M.out) ((Touch.setCell _ _ H.out.own _).trans (Touch.setCell _ _ H.out.own _))).mono ?_
    rintro x w2 ⟨rfl, hR⟩
    go_wp2
    go_ret
    exact ⟨rfl, hR⟩
  · have k2 : decide (0 ≤ d.left) = false := decide_eq_false hl
    rw [k2] at c5
    clear k2 hl0
    go_enter Tryz.func142, Tryz.ntmps142
    go_wp2_with fail
    refine (HF.out _ (by rw [E.out]; exact M.out) ((Touch.setCell _ _ H.out.own _).trans (Touch.setCell _ _ H.out.own _))).mono ?_
    rintro x w2 ⟨rfl, hR⟩
    go_wp2
    go_ret
    exact ⟨rfl, hR⟩
end Go.Proofs.YtiabfngiibabcaaGreatDoor
