/- Plain: the drive of a log whose store is "legacy": made new, written, opened anew. The library's contracts, laid at the seat's program (written by a tool: its numbers are the seat's). SHA-256, plainly: words are integers, as the program reckons them. No program in it. What the log asks of the library: its variables, and contracts. -/
import Derived.Test.YtiabfngiibabcaaGreatDoorM13
import Derived.Shelf.Strings.Prefix
import Derived.Ground.NamesProg
import Derived.Shelf.Strings.Shaped
import Derived.Shelf.Small.Strs
import Derived.Shelf.Strings.Repeat
import Derived.Shelf.Strconv.Itoa3
import Derived.Shelf.Strconv.ErrVarAll
import Derived.Shelf.Small.Bits
import Derived.Shelf.SlicesE.Equal
import Derived.Ground.SlgnProg
import Derived.Shelf.SlicesE.Clone
import Derived.Test.YtiabfngiibabcaaGreatDoorChecked
import Derived.Test.YtiabfngiibabcaaGreatDoorM01
import Derived.Lib.LaidTab
import Derived.Lib.SmallJoins
import Derived.Lib.AppendIntMem
import Derived.Deep.DeepCutAuto
import Derived.Shelf.SlicesE.Kit
set_option linter.unusedVariables false
set_option linter.unusedSimpArgs false
set_option maxHeartbeats 1600000
set_option maxRecDepth 100000
namespace Go.Proofs.YtiabfngiibabcaaGreatDoor
open Go.RowKit

def lgN : Key := [108, 101, 103, 97, 99, 121]
def fsL (l : List UInt8) : Fs := [(fileN lgN logN, ⟨l, []⟩)]
theorem fsL_log (l : List UInt8) : kget (fsL l) (fileN lgN logN) = some ⟨l, []⟩ := rfl
theorem fsL_base (l : List UInt8) : kget (fsL l) (fileN lgN baseN) = none := rfl
theorem fsL_rising (l : List UInt8) : Rising (fsL l) := List.pairwise_singleton _ _
theorem fsL_used (l : List UInt8) : usedF (fsL l) = l.length := by simp [fsL, usedF, File.all]
theorem fsL_new (q : Int) : (Dr.new q).create (fileN lgN logN) = (U (fsL []) q (wrap1 0), 0) := rfl
theorem fsL_new_none (q : Int) : (Dr.new q).readE (fileN lgN baseN) = 10 ∧ (Dr.new q).readE (fileN lgN logN) = 10 ∧ ((Dr.new q).create (fileN lgN logN)).2 = 0 := ⟨rfl, rfl, rfl⟩
theorem fsL_apply {q k : Int} {l x : List UInt8} (h : ((l.length + x.length : Nat) : Int) ≤ q) :
    ((U (fsL l) q k).append (fileN lgN logN) x).2 = 0 ∧ (((U (fsL l) q k).append (fileN lgN logN) x).1.sync (fileN lgN logN)).2 = 0 ∧ ∃ k', (((U (fsL l) q k).append (fileN lgN logN) x).1.sync (fileN lgN logN)).1 = U (fsL (l ++ x)) q k' := by
  have e1 := U_append (k := k) (fsL_log l) (q := q) (x := x) (by rw [fsL_used]; exact h)
  have g2 := kget_set_self (fsL_rising l) (⟨l, [] ++ [x]⟩ : File) (fsL_log l)
  have e2 := U_sync (q := q) (k := wrap1 k) g2
  rw [show File.all ⟨l, [] ++ [x]⟩ = l ++ x by simp [File.all]] at e2
  rw [e1, e2]
  exact ⟨rfl, rfl, wrap1 (wrap1 k), rfl⟩
theorem fsL_again {q k : Int} (l : List UInt8) : (U (fsL l) q k).create (fileN lgN logN) = (U (fsL l) q k, 11) ∧ ((U (fsL l) q k).sync (fileN lgN logN)).2 = 0 ∧ ∃ k', ((U (fsL l) q k).sync (fileN lgN logN)).1 = U (fsL l) q k' := by
  refine ⟨U_create_ex (by decide) (fsL_log l), ?_, ?_⟩
  · rw [U_sync (fsL_log l)]
  · rw [U_sync (fsL_log l)]
    refine ⟨wrap1 k, ?_⟩
    rw [show File.all ⟨l, []⟩ = l by simp [File.all]]
    rfl
theorem fsL_loads {q k : Int} {bs : List (List Wr)} (hk : ∀ x ∈ bs.flatten, 1 ≤ x.key.length ∧ x.key.length ≤ 210) (hl : (framesB bs).length ≤ 100000000) : Loads (U (fsL (framesB bs)) q k) (fileN lgN baseN) [] ∧ Loads (U (fsL (framesB bs)) q k) (fileN lgN logN) bs := by
  obtain ⟨h1, h2⟩ := U_readE (q := q) (k := k) (fsL_log (framesB bs))
  refine ⟨⟨.inl ⟨U_readE_none (fsL_base _), rfl⟩, by simp, by simp [framesB]⟩, .inr ⟨h1, ?_⟩, fun x hx => ⟨(hk x hx).1, by have := (hk x hx).2; omega⟩, hl⟩
  rw [h2]
  simp [File.all]
theorem lgN_ok : lgN ≠ [] ∧ lgN.length ≤ 20 ∧ ∀ c ∈ lgN, abcT.contains c = true := by decide
end Go.Proofs.YtiabfngiibabcaaGreatDoor

set_option linter.unusedVariables false
set_option linter.unusedSimpArgs false
namespace Go.Proofs.YtiabfngiibabcaaGreatDoor
open Go.RowKit Go.Shelf
def layTrimPrefix_ren : Go.Shelf.Ren := ⟨fun | 101 => 87 | 208 => 151 | 206 => 150 | n => n, fun | 9 => 9 | 4 => 4 | 3 => 3 | n => n, fun | n => n⟩
theorem layTrimPrefix : Go.Proofs.Lays.n101 Tryz.prog layTrimPrefix_ren := {
  mixed := by kernel_rfl
  f101 := Tryz.func87.trans (congrArg some (by kernel_rfl))
  f206 := Tryz.func150.trans (congrArg some (by kernel_rfl))
  f208 := Tryz.func151.trans (congrArg some (by kernel_rfl))
  t3 := Tryz.underlying3
  a3 := Tryz.isAgg3
  z3 := Tryz.sizeOf3
  v3 := Tryz.zeroValue3
  t4 := Tryz.underlying4
  a4 := Tryz.isAgg4
  z4 := Tryz.sizeOf4
  v4 := Tryz.zeroValue4
  t9 := Tryz.underlying9
  a9 := Tryz.isAgg9
  z9 := Tryz.sizeOf9
  v9 := Tryz.zeroValue9 }
def layCut_ren : Go.Shelf.Ren := ⟨fun | 145 => 36 | 220 => 90 | 219 => 152 | 217 => 159 | 225 => 194 | 224 => 195 | 267 => 196 | 266 => 200 | 314 => 242 | n => n, fun | 9 => 9 | 4 => 4 | 59 => 88 | 3 => 3 | 5 => 5 | 46 => 159 | 146 => 273 | 51 => 244 | n => n, fun | 1 => 0 | n => n⟩
theorem layCut : Go.Proofs.LaysM.n145 Tryz.prog layCut_ren := {
  mixed := by kernel_rfl
  f145 := Tryz.func36.trans (congrArg some (by kernel_rfl))
  f217 := Tryz.func159.trans (congrArg some (by kernel_rfl))
  f219 := Tryz.func152.trans (congrArg some (by kernel_rfl))
  f220 := Tryz.func90.trans (congrArg some (by kernel_rfl))
  f224 := Tryz.func195.trans (congrArg some (by kernel_rfl))
  f225 := Tryz.func194.trans (congrArg some (by kernel_rfl))
  f266 := Tryz.func200.trans (congrArg some (by kernel_rfl))
  f267 := Tryz.func196.trans (congrArg some (by kernel_rfl))
  f314 := Tryz.func242.trans (congrArg some (by kernel_rfl))
  t3 := Tryz.underlying3
  a3 := Tryz.isAgg3
  z3 := Tryz.sizeOf3
  v3 := Tryz.zeroValue3
  t4 := Tryz.underlying4
  a4 := Tryz.isAgg4
  z4 := Tryz.sizeOf4
  v4 := Tryz.zeroValue4
  t5 := Tryz.underlying5
  a5 := Tryz.isAgg5
  z5 := Tryz.sizeOf5
  v5 := Tryz.zeroValue5
  t9 := Tryz.underlying9
  a9 := Tryz.isAgg9
  z9 := Tryz.sizeOf9
  v9 := Tryz.zeroValue9
  t46 := Tryz.underlying159
  a46 := Tryz.isAgg159
  z46 := Tryz.sizeOf159
  v46 := Tryz.zeroValue159
  t51 := Tryz.underlying244
  a51 := Tryz.isAgg244
  z51 := Tryz.sizeOf244
  v51 := Tryz.zeroValue244
  t59 := Tryz.underlying88
  a59 := Tryz.isAgg88
  z59 := Tryz.sizeOf88
  v59 := Tryz.zeroValue88
  t146 := Tryz.underlying273
  a146 := Tryz.isAgg273
  z146 := Tryz.sizeOf273
  v146 := Tryz.zeroValue273
  g1 := by kernel_rfl
  i3 := by kernel_rfl
  i4 := by kernel_rfl
  i5 := by kernel_rfl
  i9 := by kernel_rfl
  i46 := by kernel_rfl
  i51 := by kernel_rfl
  i59 := by kernel_rfl
  i146 := by kernel_rfl
  m1 := by kernel_rfl
  s1_3 := fun w h => Go.Proofs.cell_of_shapedOpen_int (zero := #[.int .i64 0]) (t := 3) h (of_decide_eq_true (by kernel_rfl)) (by kernel_rfl) rfl (by kernel_rfl) (by kernel_rfl) Tryz.underlying3 }
def layIndexByte_ren : Go.Shelf.Ren := ⟨fun | 137 => 94 | 217 => 159 | 266 => 200 | n => n, fun | 9 => 9 | 5 => 5 | 3 => 3 | n => n, fun | n => n⟩
theorem layIndexByte : Go.Proofs.Lays.n137 Tryz.prog layIndexByte_ren := {
  mixed := by kernel_rfl
  f137 := Tryz.func94.trans (congrArg some (by kernel_rfl))
  f217 := Tryz.func159.trans (congrArg some (by kernel_rfl))
  f266 := Tryz.func200.trans (congrArg some (by kernel_rfl))
  t3 := Tryz.underlying3
  a3 := Tryz.isAgg3
  z3 := Tryz.sizeOf3
  v3 := Tryz.zeroValue3
  t5 := Tryz.underlying5
  a5 := Tryz.isAgg5
  z5 := Tryz.sizeOf5
  v5 := Tryz.zeroValue5
  t9 := Tryz.underlying9
  a9 := Tryz.isAgg9
  z9 := Tryz.sizeOf9
  v9 := Tryz.zeroValue9 }
def layRepeat_ren : Go.Shelf.Ren := ⟨fun | 105 => 172 | 212 => 210 | 99 => 86 | 165 => 211 | 166 => 212 | 170 => 213 | 169 => 214 | 263 => 247 | 264 => 248 | 206 => 150 | 240 => 249 | 241 => 250 | 276 => 269 | 277 => 270 | n => n, fun | 9 => 9 | 3 => 3 | 4 => 4 | 20 => 20 | 0 => 0 | 46 => 159 | 109 => 250 | 5 => 5 | 72 => 254 | 76 => 92 | 51 => 244 | 146 => 273 | 53 => 237 | 148 => 285 | 70 => 252 | 37 => 85 | 75 => 91 | 127 => 276 | 164 => 310 | 80 => 255 | n => n, fun | n => n⟩
theorem layRepeat : Go.Proofs.Lays.n105 Tryz.prog layRepeat_ren := {
  mixed := by kernel_rfl
  f99 := Tryz.func86.trans (congrArg some (by kernel_rfl))
  f105 := Tryz.func172.trans (congrArg some (by kernel_rfl))
  f165 := Tryz.func211.trans (congrArg some (by kernel_rfl))
  f166 := Tryz.func212.trans (congrArg some (by kernel_rfl))
  f169 := Tryz.func214.trans (congrArg some (by kernel_rfl))
  f170 := Tryz.func213.trans (congrArg some (by kernel_rfl))
  f206 := Tryz.func150.trans (congrArg some (by kernel_rfl))
  f212 := Tryz.func210.trans (congrArg some (by kernel_rfl))
  f240 := Tryz.func249.trans (congrArg some (by kernel_rfl))
  f241 := Tryz.func250.trans (congrArg some (by kernel_rfl))
  f263 := Tryz.func247.trans (congrArg some (by kernel_rfl))
  f264 := Tryz.func248.trans (congrArg some (by kernel_rfl))
  f276 := Tryz.func269.trans (congrArg some (by kernel_rfl))
  f277 := Tryz.func270.trans (congrArg some (by kernel_rfl))
  t0 := Tryz.underlying0
  a0 := Tryz.isAgg0
  z0 := Tryz.sizeOf0
  v0 := Tryz.zeroValue0
  t3 := Tryz.underlying3
  a3 := Tryz.isAgg3
  z3 := Tryz.sizeOf3
  v3 := Tryz.zeroValue3
  t4 := Tryz.underlying4
  a4 := Tryz.isAgg4
  z4 := Tryz.sizeOf4
  v4 := Tryz.zeroValue4
  t5 := Tryz.underlying5
  a5 := Tryz.isAgg5
  z5 := Tryz.sizeOf5
  v5 := Tryz.zeroValue5
  t9 := Tryz.underlying9
  a9 := Tryz.isAgg9
  z9 := Tryz.sizeOf9
  v9 := Tryz.zeroValue9
  t20 := Tryz.underlying20
  a20 := Tryz.isAgg20
  z20 := Tryz.sizeOf20
  v20 := Tryz.zeroValue20
  t37 := Tryz.underlying85
  a37 := Tryz.isAgg85
  z37 := Tryz.sizeOf85
  v37 := Tryz.zeroValue85
  t46 := Tryz.underlying159
  a46 := Tryz.isAgg159
  z46 := Tryz.sizeOf159
  v46 := Tryz.zeroValue159
  t51 := Tryz.underlying244
  a51 := Tryz.isAgg244
  z51 := Tryz.sizeOf244
  v51 := Tryz.zeroValue244
  t53 := Tryz.underlying237
  a53 := Tryz.isAgg237
  z53 := Tryz.sizeOf237
  v53 := Tryz.zeroValue237
  t70 := Tryz.underlying252
  a70 := Tryz.isAgg252
  z70 := Tryz.sizeOf252
  v70 := Tryz.zeroValue252
  t72 := Tryz.underlying254
  a72 := Tryz.isAgg254
  z72 := Tryz.sizeOf254
  v72 := Tryz.zeroValue254
  t75 := Tryz.underlying91
  a75 := Tryz.isAgg91
  z75 := Tryz.sizeOf91
  v75 := Tryz.zeroValue91
  t76 := Tryz.underlying92
  a76 := Tryz.isAgg92
  z76 := Tryz.sizeOf92
  v76 := Tryz.zeroValue92
  t109 := Tryz.underlying250
  a109 := Tryz.isAgg250
  z109 := Tryz.sizeOf250
  v109 := Tryz.zeroValue250
  t127 := Tryz.underlying276
  a127 := Tryz.isAgg276
  z127 := Tryz.sizeOf276
  v127 := Tryz.zeroValue276
  t146 := Tryz.underlying273
  a146 := Tryz.isAgg273
  z146 := Tryz.sizeOf273
  v146 := Tryz.zeroValue273
  t148 := Tryz.underlying285
  a148 := Tryz.isAgg285
  z148 := Tryz.sizeOf285
  v148 := Tryz.zeroValue285
  t164 := Tryz.underlying310
  a164 := Tryz.isAgg310
  z164 := Tryz.sizeOf310
  v164 := Tryz.zeroValue310 }
def layItoa_ren : Go.Shelf.Ren := ⟨fun | 171 => 171 | 243 => 209 | 246 => 246 | 283 => 265 | 284 => 266 | 285 => 267 | 286 => 268 | 129 => 204 | 317 => 274 | 318 => 275 | 319 => 276 | 320 => 178 | 337 => 223 | 338 => 224 | n => n, fun | 3 => 3 | 9 => 9 | 2 => 2 | 4 => 4 | 171 => 306 | 0 => 0 | 53 => 237 | 37 => 85 | 5 => 5 | 173 => 308 | 212 => 319 | 51 => 244 | 20 => 20 | 213 => 320 | 46 => 159 | 232 => 292 | 233 => 293 | n => n, fun | 17 => 9 | 18 => 5 | 19 => 6 | n => n⟩
theorem layItoa : Go.Proofs.LaysM.n171 Tryz.prog layItoa_ren := {
  mixed := by kernel_rfl
  f129 := Tryz.func204.trans (congrArg some (by kernel_rfl))
  f171 := Tryz.func171.trans (congrArg some (by kernel_rfl))
  f243 := Tryz.func209.trans (congrArg some (by kernel_rfl))
  f246 := Tryz.func246.trans (congrArg some (by kernel_rfl))
  f283 := Tryz.func265.trans (congrArg some (by kernel_rfl))
  f284 := Tryz.func266.trans (congrArg some (by kernel_rfl))
  f285 := Tryz.func267.trans (congrArg some (by kernel_rfl))
  f286 := Tryz.func268.trans (congrArg some (by kernel_rfl))
  f317 := Tryz.func274.trans (congrArg some (by kernel_rfl))
  f318 := Tryz.func275.trans (congrArg some (by kernel_rfl))
  f319 := Tryz.func276.trans (congrArg some (by kernel_rfl))
  f320 := Tryz.func178.trans (congrArg some (by kernel_rfl))
  f337 := Tryz.func223.trans (congrArg some (by kernel_rfl))
  f338 := Tryz.func224.trans (congrArg some (by kernel_rfl))
  t0 := Tryz.underlying0
  a0 := Tryz.isAgg0
  z0 := Tryz.sizeOf0
  v0 := Tryz.zeroValue0
  t2 := Tryz.underlying2
  a2 := Tryz.isAgg2
  z2 := Tryz.sizeOf2
  v2 := Tryz.zeroValue2
  t3 := Tryz.underlying3
  a3 := Tryz.isAgg3
  z3 := Tryz.sizeOf3
  v3 := Tryz.zeroValue3
  t4 := Tryz.underlying4
  a4 := Tryz.isAgg4
  z4 := Tryz.sizeOf4
  v4 := Tryz.zeroValue4
  t5 := Tryz.underlying5
  a5 := Tryz.isAgg5
  z5 := Tryz.sizeOf5
  v5 := Tryz.zeroValue5
  t9 := Tryz.underlying9
  a9 := Tryz.isAgg9
  z9 := Tryz.sizeOf9
  v9 := Tryz.zeroValue9
  t20 := Tryz.underlying20
  a20 := Tryz.isAgg20
  z20 := Tryz.sizeOf20
  v20 := Tryz.zeroValue20
  t37 := Tryz.underlying85
  a37 := Tryz.isAgg85
  z37 := Tryz.sizeOf85
  v37 := Tryz.zeroValue85
  t46 := Tryz.underlying159
  a46 := Tryz.isAgg159
  z46 := Tryz.sizeOf159
  v46 := Tryz.zeroValue159
  t51 := Tryz.underlying244
  a51 := Tryz.isAgg244
  z51 := Tryz.sizeOf244
  v51 := Tryz.zeroValue244
  t53 := Tryz.underlying237
  a53 := Tryz.isAgg237
  z53 := Tryz.sizeOf237
  v53 := Tryz.zeroValue237
  t171 := Tryz.underlying306
  a171 := Tryz.isAgg306
  z171 := Tryz.sizeOf306
  v171 := Tryz.zeroValue306
  t173 := Tryz.underlying308
  a173 := Tryz.isAgg308
  z173 := Tryz.sizeOf308
  v173 := Tryz.zeroValue308
  t212 := Tryz.underlying319
  a212 := Tryz.isAgg319
  z212 := Tryz.sizeOf319
  v212 := Tryz.zeroValue319
  t213 := Tryz.underlying320
  a213 := Tryz.isAgg320
  z213 := Tryz.sizeOf320
  t232 := Tryz.underlying292
  a232 := Tryz.isAgg292
  z232 := Tryz.sizeOf292
  v232 := Tryz.zeroValue292
  t233 := Tryz.underlying293
  a233 := Tryz.isAgg293
  z233 := Tryz.sizeOf293
  v233 := Tryz.zeroValue293
  g17 := by kernel_rfl
  g18 := by kernel_rfl
  g19 := by kernel_rfl
  i0 := by kernel_rfl
  i2 := by kernel_rfl
  i3 := by kernel_rfl
  i4 := by kernel_rfl
  i5 := by kernel_rfl
  i9 := by kernel_rfl
  i20 := by kernel_rfl
  i37 := by kernel_rfl
  i46 := by kernel_rfl
  i51 := by kernel_rfl
  i53 := by kernel_rfl
  i171 := by kernel_rfl
  i173 := by kernel_rfl
  i212 := by kernel_rfl
  i232 := by kernel_rfl
  i233 := by kernel_rfl
  m17 := by kernel_rfl
  m18 := by kernel_rfl
  m19 := by kernel_rfl }
def layAtoi_ren : Go.Shelf.Ren := ⟨fun | 172 => 37 | 244 => 91 | 245 => 92 | 247 => 153 | 279 => 154 | 280 => 155 | 281 => 156 | 282 => 157 | 287 => 197 | 316 => 198 | 171 => 171 | 205 => 199 | 321 => 243 | 322 => 244 | 243 => 209 | 246 => 246 | 283 => 265 | 284 => 266 | 285 => 267 | 286 => 268 | 129 => 204 | 317 => 274 | 318 => 275 | 319 => 276 | 320 => 178 | 337 => 223 | 338 => 224 | n => n, fun | 9 => 9 | 3 => 3 | 75 => 91 | 76 => 92 | 4 => 4 | 5 => 5 | 167 => 201 | 37 => 85 | 0 => 0 | 85 => 202 | 2 => 2 | 168 => 204 | 53 => 237 | 175 => 238 | 46 => 159 | 210 => 241 | 127 => 276 | 145 => 279 | 143 => 277 | 21 => 21 | 171 => 306 | 173 => 308 | 212 => 319 | 51 => 244 | 20 => 20 | 213 => 320 | 232 => 292 | 233 => 293 | 80 => 255 | n => n, fun | 15 => 1 | 16 => 2 | 17 => 9 | 18 => 5 | 19 => 6 | n => n⟩
theorem layAtoi : Go.Proofs.LaysC.n172 Tryz.prog layAtoi_ren := {
  mixed := by kernel_rfl
  f129 := Tryz.func204.trans (congrArg some (by kernel_rfl))
  f171 := Tryz.func171.trans (congrArg some (by kernel_rfl))
  f172 := Tryz.func37.trans (congrArg some (by kernel_rfl))
  f205 := Tryz.func199.trans (congrArg some (by kernel_rfl))
  f243 := Tryz.func209.trans (congrArg some (by kernel_rfl))
  f244 := Tryz.func91.trans (congrArg some (by kernel_rfl))
  f245 := Tryz.func92.trans (congrArg some (by kernel_rfl))
  f246 := Tryz.func246.trans (congrArg some (by kernel_rfl))
  f247 := Tryz.func153.trans (congrArg some (by kernel_rfl))
  f279 := Tryz.func154.trans (congrArg some (by kernel_rfl))
  f280 := Tryz.func155.trans (congrArg some (by kernel_rfl))
  f281 := Tryz.func156.trans (congrArg some (by kernel_rfl))
  f282 := Tryz.func157.trans (congrArg some (by kernel_rfl))
  f283 := Tryz.func265.trans (congrArg some (by kernel_rfl))
  f284 := Tryz.func266.trans (congrArg some (by kernel_rfl))
  f285 := Tryz.func267.trans (congrArg some (by kernel_rfl))
  f286 := Tryz.func268.trans (congrArg some (by kernel_rfl))
  f287 := Tryz.func197.trans (congrArg some (by kernel_rfl))
  f316 := Tryz.func198.trans (congrArg some (by kernel_rfl))
  f317 := Tryz.func274.trans (congrArg some (by kernel_rfl))
  f318 := Tryz.func275.trans (congrArg some (by kernel_rfl))
  f319 := Tryz.func276.trans (congrArg some (by kernel_rfl))
  f320 := Tryz.func178.trans (congrArg some (by kernel_rfl))
  f321 := Tryz.func243.trans (congrArg some (by kernel_rfl))
  f322 := Tryz.func244.trans (congrArg some (by kernel_rfl))
  f337 := Tryz.func223.trans (congrArg some (by kernel_rfl))
  f338 := Tryz.func224.trans (congrArg some (by kernel_rfl))
  t0 := Tryz.underlying0
  a0 := Tryz.isAgg0
  z0 := Tryz.sizeOf0
  v0 := Tryz.zeroValue0
  t2 := Tryz.underlying2
  a2 := Tryz.isAgg2
  z2 := Tryz.sizeOf2
  v2 := Tryz.zeroValue2
  t3 := Tryz.underlying3
  a3 := Tryz.isAgg3
  z3 := Tryz.sizeOf3
  v3 := Tryz.zeroValue3
  t4 := Tryz.underlying4
  a4 := Tryz.isAgg4
  z4 := Tryz.sizeOf4
  v4 := Tryz.zeroValue4
  t5 := Tryz.underlying5
  a5 := Tryz.isAgg5
  z5 := Tryz.sizeOf5
  v5 := Tryz.zeroValue5
  t9 := Tryz.underlying9
  a9 := Tryz.isAgg9
  z9 := Tryz.sizeOf9
  v9 := Tryz.zeroValue9
  t20 := Tryz.underlying20
  a20 := Tryz.isAgg20
  z20 := Tryz.sizeOf20
  v20 := Tryz.zeroValue20
  t21 := Tryz.underlying21
  a21 := Tryz.isAgg21
  z21 := Tryz.sizeOf21
  v21 := Tryz.zeroValue21
  t37 := Tryz.underlying85
  a37 := Tryz.isAgg85
  z37 := Tryz.sizeOf85
  v37 := Tryz.zeroValue85
  t46 := Tryz.underlying159
  a46 := Tryz.isAgg159
  z46 := Tryz.sizeOf159
  v46 := Tryz.zeroValue159
  t51 := Tryz.underlying244
  a51 := Tryz.isAgg244
  z51 := Tryz.sizeOf244
  v51 := Tryz.zeroValue244
  t53 := Tryz.underlying237
  a53 := Tryz.isAgg237
  z53 := Tryz.sizeOf237
  v53 := Tryz.zeroValue237
  t75 := Tryz.underlying91
  a75 := Tryz.isAgg91
  z75 := Tryz.sizeOf91
  v75 := Tryz.zeroValue91
  t76 := Tryz.underlying92
  a76 := Tryz.isAgg92
  z76 := Tryz.sizeOf92
  v76 := Tryz.zeroValue92
  t85 := Tryz.underlying202
  a85 := Tryz.isAgg202
  z85 := Tryz.sizeOf202
  v85 := Tryz.zeroValue202
  t127 := Tryz.underlying276
  a127 := Tryz.isAgg276
  z127 := Tryz.sizeOf276
  v127 := Tryz.zeroValue276
  t143 := Tryz.underlying277
  a143 := Tryz.isAgg277
  z143 := Tryz.sizeOf277
  v143 := Tryz.zeroValue277
  t145 := Tryz.underlying279
  a145 := Tryz.isAgg279
  z145 := Tryz.sizeOf279
  v145 := Tryz.zeroValue279
  t167 := Tryz.underlying201
  a167 := Tryz.isAgg201
  z167 := Tryz.sizeOf201
  v167 := Tryz.zeroValue201
  t168 := Tryz.underlying204
  a168 := Tryz.isAgg204
  z168 := Tryz.sizeOf204
  v168 := Tryz.zeroValue204
  t171 := Tryz.underlying306
  a171 := Tryz.isAgg306
  z171 := Tryz.sizeOf306
  v171 := Tryz.zeroValue306
  t173 := Tryz.underlying308
  a173 := Tryz.isAgg308
  z173 := Tryz.sizeOf308
  v173 := Tryz.zeroValue308
  t175 := Tryz.underlying238
  a175 := Tryz.isAgg238
  z175 := Tryz.sizeOf238
  v175 := Tryz.zeroValue238
  t210 := Tryz.underlying241
  a210 := Tryz.isAgg241
  z210 := Tryz.sizeOf241
  v210 := Tryz.zeroValue241
  t212 := Tryz.underlying319
  a212 := Tryz.isAgg319
  z212 := Tryz.sizeOf319
  v212 := Tryz.zeroValue319
  t213 := Tryz.underlying320
  a213 := Tryz.isAgg320
  z213 := Tryz.sizeOf320
  t232 := Tryz.underlying292
  a232 := Tryz.isAgg292
  z232 := Tryz.sizeOf292
  v232 := Tryz.zeroValue292
  t233 := Tryz.underlying293
  a233 := Tryz.isAgg293
  z233 := Tryz.sizeOf293
  v233 := Tryz.zeroValue293
  g15 := by kernel_rfl
  g16 := by kernel_rfl
  g17 := by kernel_rfl
  g18 := by kernel_rfl
  g19 := by kernel_rfl
  t80 := Tryz.underlying255
  a80 := Tryz.isAgg255
  z80 := Tryz.sizeOf255
  v80 := Tryz.zeroValue255
  i0 := by kernel_rfl
  i2 := by kernel_rfl
  i3 := by kernel_rfl
  i4 := by kernel_rfl
  i5 := by kernel_rfl
  i9 := by kernel_rfl
  i20 := by kernel_rfl
  i21 := by kernel_rfl
  i37 := by kernel_rfl
  i46 := by kernel_rfl
  i51 := by kernel_rfl
  i53 := by kernel_rfl
  i75 := by kernel_rfl
  i76 := by kernel_rfl
  i80 := by kernel_rfl
  i85 := by kernel_rfl
  i127 := by kernel_rfl
  i143 := by kernel_rfl
  i145 := by kernel_rfl
  i167 := by kernel_rfl
  i168 := by kernel_rfl
  i171 := by kernel_rfl
  i173 := by kernel_rfl
  i175 := by kernel_rfl
  i210 := by kernel_rfl
  i212 := by kernel_rfl
  i232 := by kernel_rfl
  i233 := by kernel_rfl
  m15 := by kernel_rfl
  m16 := by kernel_rfl
  m17 := by kernel_rfl
  m18 := by kernel_rfl
  m19 := by kernel_rfl
  c0 := by kernel_rfl
  c2 := by kernel_rfl
  c3 := by kernel_rfl
  c4 := by kernel_rfl
  c5 := by kernel_rfl
  c9 := by kernel_rfl
  c20 := by kernel_rfl
  c21 := by kernel_rfl
  c37 := by kernel_rfl
  c46 := by kernel_rfl
  c51 := by kernel_rfl
  c53 := by kernel_rfl
  c75 := by kernel_rfl
  c76 := by kernel_rfl
  c80 := by kernel_rfl
  c85 := by kernel_rfl
  c127 := by kernel_rfl
  c143 := by kernel_rfl
  c145 := by kernel_rfl
  c167 := by kernel_rfl
  c168 := by kernel_rfl
  c171 := by kernel_rfl
  c173 := by kernel_rfl
  c175 := by kernel_rfl
  c210 := by kernel_rfl
  c212 := by kernel_rfl
  c213 := by kernel_rfl
  c232 := by kernel_rfl
  c233 := by kernel_rfl }
def layLen_ren : Go.Shelf.Ren := ⟨fun | 125 => 168 | 128 => 203 | 129 => 204 | n => n, fun | 46 => 159 | 3 => 3 | 51 => 244 | 53 => 237 | 4 => 4 | 5 => 5 | 9 => 9 | n => n, fun | n => n⟩
theorem layLen : Go.Proofs.Lays.n125 Tryz.prog layLen_ren := {
  mixed := by kernel_rfl
  f125 := Tryz.func168.trans (congrArg some (by kernel_rfl))
  f128 := Tryz.func203.trans (congrArg some (by kernel_rfl))
  f129 := Tryz.func204.trans (congrArg some (by kernel_rfl))
  t3 := Tryz.underlying3
  a3 := Tryz.isAgg3
  z3 := Tryz.sizeOf3
  v3 := Tryz.zeroValue3
  t4 := Tryz.underlying4
  a4 := Tryz.isAgg4
  z4 := Tryz.sizeOf4
  v4 := Tryz.zeroValue4
  t5 := Tryz.underlying5
  a5 := Tryz.isAgg5
  z5 := Tryz.sizeOf5
  v5 := Tryz.zeroValue5
  t9 := Tryz.underlying9
  a9 := Tryz.isAgg9
  z9 := Tryz.sizeOf9
  v9 := Tryz.zeroValue9
  t46 := Tryz.underlying159
  a46 := Tryz.isAgg159
  z46 := Tryz.sizeOf159
  v46 := Tryz.zeroValue159
  t51 := Tryz.underlying244
  a51 := Tryz.isAgg244
  z51 := Tryz.sizeOf244
  v51 := Tryz.zeroValue244
  t53 := Tryz.underlying237
  a53 := Tryz.isAgg237
  z53 := Tryz.sizeOf237
  v53 := Tryz.zeroValue237 }
def layEqualB_ren : Go.Shelf.Ren := ⟨fun | 33 => 89 | n => n, fun | 22 => 85 | 23 => 5 | 4 => 4 | 3 => 3 | 0 => 0 | n => n, fun | n => n⟩
theorem layEqualB : Go.Proofs.SlLaysE.n33 Tryz.prog layEqualB_ren := {
  mixed := by kernel_rfl
  f33 := ⟨Tryz.f89.name, by decide, Tryz.func89.trans (congrArg some (by kernel_rfl))⟩
  t0 := Tryz.underlying0
  a0 := Tryz.isAgg0
  z0 := Tryz.sizeOf0
  v0 := Tryz.zeroValue0
  t3 := Tryz.underlying3
  a3 := Tryz.isAgg3
  z3 := Tryz.sizeOf3
  v3 := Tryz.zeroValue3
  t4 := Tryz.underlying4
  a4 := Tryz.isAgg4
  z4 := Tryz.sizeOf4
  v4 := Tryz.zeroValue4
  t22 := Tryz.underlying85
  a22 := Tryz.isAgg85
  z22 := Tryz.sizeOf85
  v22 := Tryz.zeroValue85
  a23 := Tryz.isAgg5
  z23 := Tryz.sizeOf5 }
def layCloneB_ren : Go.Shelf.Ren := ⟨fun | 41 => 217 | n => n, fun | 22 => 85 | 23 => 5 | 4 => 4 | n => n, fun | n => n⟩
theorem layCloneB : Go.Proofs.SlLaysE0.n41 Tryz.prog layCloneB_ren := {
  mixed := by kernel_rfl
  f41 := ⟨Tryz.f217.name, by decide, Tryz.func217.trans (congrArg some (by kernel_rfl))⟩
  t4 := Tryz.underlying4
  a4 := Tryz.isAgg4
  z4 := Tryz.sizeOf4
  v4 := Tryz.zeroValue4
  t22 := Tryz.underlying85
  a22 := Tryz.isAgg85
  z22 := Tryz.sizeOf85
  v22 := Tryz.zeroValue85 }
def layCloneLf_ren : Go.Shelf.Ren := ⟨fun | 41 => 48 | n => n, fun | 22 => 35 | 23 => 30 | 4 => 4 | n => n, fun | n => n⟩
theorem layCloneLf : Go.Proofs.SlLaysE0.n41 Tryz.prog layCloneLf_ren := {
  mixed := by kernel_rfl
  f41 := ⟨Tryz.f48.name, by decide, Tryz.func48.trans (congrArg some (by kernel_rfl))⟩
  t4 := Tryz.underlying4
  a4 := Tryz.isAgg4
  z4 := Tryz.sizeOf4
  v4 := Tryz.zeroValue4
  t22 := Tryz.underlying35
  a22 := Tryz.isAgg35
  z22 := Tryz.sizeOf35
  v22 := Tryz.zeroValue35 }
def layCloneT_ren : Go.Shelf.Ren := ⟨fun | 41 => 52 | n => n, fun | 22 => 39 | 23 => 9 | 4 => 4 | n => n, fun | n => n⟩
theorem layCloneT : Go.Proofs.SlLaysE0.n41 Tryz.prog layCloneT_ren := {
  mixed := by kernel_rfl
  f41 := ⟨Tryz.f52.name, by decide, Tryz.func52.trans (congrArg some (by kernel_rfl))⟩
  t4 := Tryz.underlying4
  a4 := Tryz.isAgg4
  z4 := Tryz.sizeOf4
  v4 := Tryz.zeroValue4
  t22 := Tryz.underlying39
  a22 := Tryz.isAgg39
  z22 := Tryz.sizeOf39
  v22 := Tryz.zeroValue39 }
end Go.Proofs.YtiabfngiibabcaaGreatDoor

set_option linter.unusedVariables false
set_option linter.unusedSimpArgs false
namespace Go.Proofs.YtiabfngiibabcaaGreatDoor
open Go.RowKit

def kTab : List Int := [4794697086780616226, 8158064640168781261, 13096744586834688815, 16840607885511220156, 4131703408338449720, 6480981068601479193, 10538285296894168987, 12329834152419229976, 15566598209576043074, 1334009975649890238, 2608012711638119052, 6128411473006802146, 8268148722764581231, 9286055187155687089, 11230858885718282805, 13951009754708518548, 16472876342353939154, 17275323862435702243, 1135362057144423861, 2597628984639134821, 3308224258029322869, 5365058923640841347, 6679025012923562964, 8573033837759648693, 10970295158949994411, 12119686244451234320, 12683024718118986047, 13788192230050041572, 14330467153632333762, 15395433587784984357, 489312712824947311, 1452737877330783856, 2861767655752347644, 3322285676063803686, 5560940570517711597, 5996557281743188959, 7280758554555802590, 8532644243296465576, 9350256976987008742, 10552545826968843579, 11727347734174303076, 12113106623233404929, 14000437183269869457, 14369950271660146224, 15101387698204529176, 15463397548674623760, 17586052441742319658, 1182934255886127544, 1847814050463011016, 2177327727835720531, 2830643537854262169, 3796741975233480872, 4115178125766777443, 5681478168544905931, 6601373596472566643, 7507060721942968483, 8399075790359081724, 8693463985226723168, 9568029438360202098, 10144078919501101548, 10430055236837252648, 11840083180663258601, 13761210420658862357, 14299343276471374635, 14566680578165727644, 15097957966210449927, 16922976911328602910, 17689382322260857208, 500013540394364858, 748580250866718886, 1242879168328830382, 1977374033974150939, 2944078676154940804, 3659926193048069267, 4368137639120453308, 4836135668995329356, 5532061633213252278, 6448918945643986474, 6902733635092675308, 7801388544844847127]
def beginTab : List Int := [7640891576956012808, 13503953896175478587, 4354685564936845355, 11912009170470909681, 5840696475078001361, 11170449401992604703, 2270897969802886507, 6620516959819538809]
theorem kTab_len : kTab.length = 80 := rfl
theorem beginTab_len : beginTab.length = 8 := rfl
/-- A word turned to the left by s. -/
def rolP (x : Int) (s : Nat) : Int := bits .or .u32 ((x * 2 ^ s % 4294967296)) (x / 2 ^ (32 - s))
def wordP (b : List UInt8) (t : Nat) : Int := (numH ((b.drop (4 * t)).take 4) : Int) % 4294967296
def sig0 (x : Int) : Int := bits .xor .u32 (bits .xor .u32 (rolP x 25) (rolP x 14)) (x / 8)
def sig1 (y : Int) : Int := bits .xor .u32 (bits .xor .u32 (rolP y 15) (rolP y 13)) (y / 1024)
def add32 (a b : Int) : Int := (a + b) % 4294967296
def nextP (l : List Int) (b : List UInt8) (t : Nat) : Int :=
  if t < 16 then wordP b t else (sig1 (l.getD (t - 2) 0) + l.getD (t - 7) 0 + sig0 (l.getD (t - 15) 0) + l.getD (t - 16) 0) % 4294967296
def schedP (b : List UInt8) : Nat → List Int
  | 0 => []
  | t + 1 => schedP b t ++ [nextP (schedP b t) b t]
theorem schedP_len (b : List UInt8) (t : Nat) : (schedP b t).length = t := by
  induction t with
  | zero => rfl
  | succ t ih => simp [schedP, ih]
structure St8 where
  (a b c d e f g h : Int)
def St8.toL (s : St8) : List Int := [s.a, s.b, s.c, s.d, s.e, s.f, s.g, s.h]
def xP (s : St8) (k w : Int) : Int :=
  ((s.h + bits .xor .u32 (bits .xor .u32 (rolP s.e 26) (rolP s.e 21)) (rolP s.e 7) + bits .xor .u32 s.g (bits .and .u32 s.e (bits .xor .u32 s.f s.g)) + k / 4294967296) % 4294967296 + w) % 4294967296
def yP (s : St8) : Int :=
  (bits .xor .u32 (bits .xor .u32 (rolP s.a 30) (rolP s.a 19)) (rolP s.a 10) + bits .or .u32 (bits .and .u32 s.a s.b) (bits .and .u32 s.c (bits .or .u32 s.a s.b))) % 4294967296
def roundP (s : St8) (k w : Int) : St8 := ⟨add32 (xP s k w) (yP s), s.a, s.b, s.c, add32 s.d (xP s k w), s.e, s.f, s.g⟩
def runP (s : St8) (w : List Int) : Nat → St8
  | 0 => s
  | t + 1 => roundP (runP s w t) (kTab.getD t 0) (w.getD t 0)
def sumP (s t : St8) : St8 := ⟨add32 s.a t.a, add32 s.b t.b, add32 s.c t.c, add32 s.d t.d, add32 s.e t.e, add32 s.f t.f, add32 s.g t.g, add32 s.h t.h⟩
/-- A state behind a block. -/
def mixP (s : St8) (b : List UInt8) : St8 := sumP (runP s (schedP b 64) 64) s
def beginP : St8 :=
  let f := fun i => beginTab.getD i 0 / 4294967296 % 4294967296
  ⟨f 0, f 1, f 2, f 3, f 4, f 5, f 6, f 7⟩
def restP (l : List UInt8) : List UInt8 := l.drop (l.length / 64 * 64)
end Go.Proofs.YtiabfngiibabcaaGreatDoor

set_option linter.unusedVariables false
set_option linter.unusedSimpArgs false
set_option maxHeartbeats 3200000
set_option maxRecDepth 100000
namespace Go.Proofs.YtiabfngiibabcaaGreatDoor
open Go.RowKit Go.Shelf

structure LibL (w : World) : Prop where
  max : ∃ m, w.cell? ⟨0, 0, none⟩ = some (.int .i64 m)
  pow : Lib.TabIs Tryz.prog w "internal/strconv.uint64pow10" .u64 Lib.pow10Tab
  syn : ∃ tp p, w.var? Tryz.prog "strconv.ErrSyntax" = some #[.iface tp p]
  rng : ∃ tp p, w.var? Tryz.prog "strconv.ErrRange" = some #[.iface tp p]
  k : Lib.TabIs Tryz.prog w "pantile/digest.k" .u64 kTab
  b : Lib.TabIs Tryz.prog w "pantile/digest.begins" .u64 beginTab
theorem LibL.below {w w' : World} (h : LibL w) (hb : Below w.heap.size w w') : LibL w' := by
  obtain ⟨⟨m, hm⟩, h2, ⟨tp, p, h3⟩, ⟨tp2, p2, h4⟩, h5, h6⟩ := h
  exact ⟨⟨m, (hb.cell (World.block_lt_of_cell? w _ hm)).trans hm⟩, Go.Joins.var_stays (g := 9) (by kernel_rfl) h2 hb (Nat.le_refl _), ⟨tp, p, Go.Joins.var_stays (g := 1) (by kernel_rfl) h3 hb (Nat.le_refl _)⟩, ⟨tp2, p2, Go.Joins.var_stays (g := 2) (by kernel_rfl) h4 hb (Nat.le_refl _)⟩,
    Go.Joins.var_stays (g := 4) (by kernel_rfl) h5 hb (Nat.le_refl _), Go.Joins.var_stays (g := 3) (by kernel_rfl) h6 hb (Nat.le_refl _)⟩
theorem lg_Itoa (n : Nat) (h1 : n ≤ 9223372036854775807) (w : World) (hL : LibL w) : Calls Tryz.prog 171 #[.int .i64 n] w fun e w' => e = .returned (.string (S (Lib.decDigits n))) ∧ Below w.heap.size w w' := by
  refine (Any.strconv_Itoa layItoa n (by omega) (by omega) w hL.pow).mono ?_
  rintro e w' ⟨rfl, k, os, rfl⟩
  refine ⟨?_, Lib.below_grow _ w (Nat.le_refl _) k os⟩
  show Ending.returned (.string (S (Lib.itoa n))) = _
  unfold Lib.itoa
  rw [if_neg (by omega), Int.toNat_natCast]
theorem lg_Atoi (l : List UInt8) (v : Int) (h : Lib.atoiAll l = .ok v) (hl : l.length ≤ 100000) (w : World) : Calls Tryz.prog 37 #[.string (S l)] w fun e w' => e = .returned (.tuple #[.int .i64 v, .nilIface]) ∧ Below w.heap.size w w' := by
  refine (Any.strconv_Atoi_ok layAtoi (S l) (by rw [S_size]; omega) v h w).mono ?_
  rintro e w' ⟨rfl, hw⟩
  refine ⟨rfl, ?_⟩
  rcases hw with rfl | ⟨t, rfl⟩
  · exact Below.refl _ _
  · exact Go.Joins.below_bytesWorld _ w _ _ (Nat.le_refl _)
theorem extraRepeat : Builder.Extra Tryz.prog layRepeat_ren where
  sizeBuilder := by kernel_rfl
  liesBuilder := by kernel_rfl
  t5 := layCut.t5
  a5 := layCut.a5
  z5 := layCut.z5
  v5 := layCut.v5
  infoByte := by kernel_rfl
  cellsByte := by kernel_rfl
  sizeByte := by kernel_rfl
  neB5 := by decide
theorem repeat_one (x : UInt8) : ∀ n, Lib.repeatL [x] n = List.replicate n x
  | 0 => rfl
  | n + 1 => by rw [Lib.repeatL, repeat_one x n]; rfl
theorem lg_Repeat (x : UInt8) (n : Nat) (hn : n ≤ 1000000) (w : World) : Calls Tryz.prog 172 #[.string (S [x]), .int .i64 n] w fun e w' => e = .returned (.string (S (List.replicate n x))) ∧ Below w.heap.size w w' := by
  have := Any.strings_Repeat layRepeat extraRepeat (S [x]) n w (by omega) (by rw [S_size]; simp; omega)
  simp only [S] at this
  rw [repeat_one] at this
  exact this
theorem lg_TrimPrefix (p l : List UInt8) (w : World) : Calls Tryz.prog 87 #[.string (S (p ++ l)), .string (S p)] w fun e w' => e = .returned (.string (S l)) ∧ w' = w := by
  have := Any.strings_TrimPrefix layTrimPrefix (S (p ++ l)) (S p) w
  have e : Lib.trimPrefix (p ++ l) p = l := by
    unfold Lib.trimPrefix Lib.hasPrefix
    rw [if_pos (by rw [List.isPrefixOf_iff_prefix]; exact List.prefix_append _ _), List.drop_left]
  simp only [S] at this
  rw [e] at this
  exact this
theorem index_sep (c : UInt8) (b : List UInt8) : ∀ a : List UInt8, c ∉ a → Lib.index (a ++ ([c] ++ b)) [c] = a.length
  | [], _ => by simp [Lib.index]
  | x :: a, h => by
    have hx : (c == x) = false := by
      rw [beq_eq_false_iff_ne]
      rintro rfl
      exact h (by simp)
    have ih := index_sep c b a (fun hm => h (by simp [hm]))
    have e : Lib.index (x :: (a ++ ([c] ++ b))) [c] = if [c].isPrefixOf (x :: (a ++ ([c] ++ b))) then 0 else if Lib.index (a ++ ([c] ++ b)) [c] == -1 then -1 else Lib.index (a ++ ([c] ++ b)) [c] + 1 := rfl
    have hp : [c].isPrefixOf (x :: (a ++ ([c] ++ b))) = false := by simp [List.isPrefixOf, hx]
    rw [List.cons_append, e, hp, ih]
    have hne : ((a.length : Int) == -1) = false := by rw [beq_eq_false_iff_ne]; omega
    simp [hne]
theorem lg_Cut (a : List UInt8) (c : UInt8) (b : List UInt8) (h : c ∉ a) (hl : (a ++ ([c] ++ b)).length ≤ 1000000) (w : World) (hL : LibL w) : Calls Tryz.prog 36 #[.string (S (a ++ ([c] ++ b))), .string (S [c])] w fun e w' => e = .returned (.tuple #[.string (S a), .string (S b), .bool true]) ∧ ∃ n, w' = w.drewN n := by
  obtain ⟨m, hm⟩ := hL.max
  have := Any.strings_Cut { layCut with } (S (a ++ ([c] ++ b))) (S [c]) m w (by rw [S_size]; omega) hm
  have e : Lib.cut (a ++ ([c] ++ b)) [c] = (a, b, true) := by
    unfold Lib.cut
    rw [index_sep c b a h, if_pos (by omega), Int.toNat_natCast, List.take_left]
    have e2 : (a ++ ([c] ++ b)).drop (a.length + [c].length) = b := by
      rw [← List.append_assoc, List.drop_left' (by simp)]
    rw [e2]
  simp only [S] at this
  rw [e] at this
  exact this
theorem lg_IndexByte (l : List UInt8) (c : UInt8) (w : World) : Calls Tryz.prog 94 #[.string (S l), .int .u8 c.toNat] w fun e w' => e = .returned (.int .i64 (Lib.indexByte l c)) ∧ w' = w := by
  have := Any.strings_IndexByte layIndexByte (S l) c.toNat w
  have e : ((c.toNat : Int)).toNat.toUInt8 = c := by simp
  rw [e] at this
  exact this
theorem lg_EqualB (w : World) (b1 o1 c b2 o2 d : Nat) (l : List UInt8) (h1 : BytesAt w (some ⟨b1, o1, none⟩) l) (h2 : BytesAt w (some ⟨b2, o2, none⟩) l) (hl : l.length ≤ 1000000) :
    Calls Tryz.prog 89 #[.slice (some ⟨b1, o1, none⟩) l.length c, .slice (some ⟨b2, o2, none⟩) l.length d] w fun e w' => e = .returned (.bool true) ∧ ∃ q, w' = w.drewN q := by
  have cell : ∀ (b o : Nat), BytesAt w (some ⟨b, o, none⟩) l → ∀ j, j < (l.map fun x => (x.toNat : Int)).length → w.cell? ⟨b, o + j, none⟩ = some (.int .u8 ((l.map fun x => (x.toNat : Int))[j]!)) := fun b o hB j hj => by
    have hj' : j < l.length := by simpa using hj
    obtain ⟨b', o', hA, hlt, hc⟩ := hB (by omega)
    injection hA with hA
    injection hA with e1 e2
    subst e1 e2
    rw [hc j hj']
    simp [hj']
    rfl
  have := AnyE.slices_Equal layEqualB (Value.int .u8) (fun x y => x == y) (NeqAt.int _ _ .u8) b1 o1 l.length c b2 o2 l.length d (l.map fun x => (x.toNat : Int)) (l.map fun x => (x.toNat : Int)) w (by simp) (by simp) (by omega) (by omega) (cell b1 o1 h1) (cell b2 o2 h2)
  rw [Lib.allEq_all _ _ _ rfl (fun j _ => beq_self_eq_true _)] at this
  exact this
/-- A copy of bytes: a row of its own; nil just of nil. -/
theorem lg_CloneB {w : World} {A : Option Addr} (l : List UInt8) (c : Nat) (hB : BytesAt w A l) (hA : A = none ∨ ∃ b o, A = some ⟨b, o, none⟩) (hn : l.length ≤ 1000000) (h0 : A = none → l = []) :
    Calls Tryz.prog 217 #[.slice A l.length c] w fun e w' => ∃ A' c', e = .returned (.slice A' l.length c') ∧ w'.ownsRow w.heap.size 5 1 (.slice A' l.length c') l.length (l.map B8) ∧ Below w.heap.size w w' := by
  rcases hA with rfl | ⟨b, o, rfl⟩
  · obtain rfl := h0 rfl
    refine (AnyE.slices_Clone_nil layCloneB 0 c w).mono ?_
    rintro e w' ⟨rfl, rfl⟩
    exact ⟨none, 0, rfl, World.ownsRow_nil _ _ _ _, Below.refl _ _⟩
  · obtain ⟨i, hi, hz, hsz, hby⟩ := info_u8
    refine (AnyE.slices_Clone layCloneB i _ 1 1 hi hz hsz hby rfl (by decide) (fun w => by kernel_rfl) b o l.length c (l.map B8) w (by simp) (by unfold maxLen; omega) (by omega) (fun j u hu => ?_) (fun u hu => ?_)).mono ?_
    · obtain ⟨hj, hu'⟩ := List.getElem?_eq_some_iff.1 hu
      have hj' : j < l.length := by simpa using hj
      obtain ⟨b', o', hA, hlt, hc⟩ := hB (by omega)
      injection hA with hA
      injection hA with e1 e2
      subst e1 e2
      rw [hc j hj', ← hu', List.getElem_map]
    · obtain ⟨x, -, rfl⟩ := List.mem_map.1 hu
      rfl
    · rintro e w' ⟨v', rfl, hr, -, hb⟩
      obtain ⟨A', c', rfl⟩ := row_form hr
      exact ⟨A', c', rfl, hr, hb⟩
theorem lg_Len (x : Nat) (h : x ≤ 9223372036854775807) (w : World) : Calls Tryz.prog 168 #[.int .u64 x] w fun e w' => e = .returned (.int .i64 (Lib.bitLen x)) ∧ w' = w := by
  have := Any.bits_Len layLen x w (by omega) (by omega)
  rw [Int.toNat_natCast] at this
  exact this
end Go.Proofs.YtiabfngiibabcaaGreatDoor
