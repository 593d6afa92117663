/- The wrap of a row that lists variables, the world's shape kept. No law is named here. Plain lemmas and small words for memory that the texts of this seat share: blocks that are known whole, bytes in a row, decimals. No program is named here. Rows of cells that a call owns: how they are kept. Slices of bytes: what reads, what is made; texts of bytes and back. Finite maps as lists by their keys, and what a Go map from texts to pointers is good for. -/
import Derived.HandedShaped
import Derived.LaidMore
import Derived.Lay
import Derived.SevenTiedAt
import Derived.Stop.Joined
import Derived.WalkKit
import Derived.WalkSpells
import Derived.Below
import Derived.OwnWalk
import Derived.Deep.Draws
import Derived.Laws.Rows
import Derived.Laws.BytesString
import Derived.Laws.BytesArg
import Derived.Laws.AppendOwn
import Derived.Maps.AppendAt
import Derived.Lib.SliceRun
import Derived.Test.YtiabfngiibabcaaGreatDoorChecked
import Derived.Lib.ConvBytes
import Derived.Lib.AtoiErrMem
import Derived.Maps.Own
import Derived.Maps.OwnSet
import Derived.Maps.Views
import Derived.StringKeys
set_option linter.unusedVariables false
namespace Go.Proofs.YtiabfngiibabcaaGreatDoor
open Go

section
variable {H : Type} {enc : TypeId × Value → H}
theorem returnsInHanded_both {a : Assume} {C : Checked} {os : Os} {f : FuncId} {fn : Func} {s : ChangeSpec} {conds : List PathCond} {apart fresh handsOn again : Bool} {X : World → Array Value → Prop}
    (hX : ∀ (w w' : World) (args : Array Value), w.heap = w'.heap → X w args → X w' args)
    (own : ownKnob C.prog.godebug = none) (started : os.Started) (noInit : C.prog.inits.idxOf? f = none) (hfn : C.prog.funcs[f]? = some fn)
    (witness : ∃ (w : World) (tape : Tape) (i : Input), w.os = os ∧ (w.forCall tape i).Shaped C.prog ∧ i.vars = [] ∧ Input.okWide C.prog (w.forCall tape i) .any w.heap.size f i ∧
      ((s.pre enc C.prog fn conds apart (w.forCall tape i).memory i.args ∧ X (w.forCall tape i).memory i.args) ∧ sizedMet enc C.prog fn (OpenSpec.ofChange s) apart (w.forCall tape i).memory i.args) ∧ a.holds C.prog (lone (Frame.enter C.prog f i.args .normal) [] (w.forCall tape i)))
    (contract : ∀ (W : World) (base : Nat) (args : Array Value) (ds gs : List (DataW H)) (before : List MemPlace),
      (∀ (j : Nat) t v, fn.params[j]? = some t → args[j]? = some v → Value.okWide C.prog W .any base t v) →
      DataW.Whole enc C.prog fn.params.toList s.vars apart W args.toList ds gs before →
      conds.all (PathCond.test C.prog ⟨fn.params.toList, ds, s.plain.varTypes C.prog, gs⟩) = true →
      (DataW.weightsEach C.prog (fn.params.toList ++ s.plain.varTypes C.prog) (ds ++ gs)).all (· ≤ reachBytes) = true → W.ShapedOpen C.prog → X W args →
      a.holds C.prog (lone (Frame.enter C.prog f args .normal) [] W) →
      Calls C.prog f args W fun e W' => ∃ v, e = .returned v ∧ s.post enc C.prog fn apart fresh handsOn again W args v W') :
    ReturnsInHanded a C os f .any (fun w args => (s.pre enc C.prog fn conds apart w args ∧ X w args) ∧ sizedMet enc C.prog fn (OpenSpec.ofChange s) apart w args) (s.post enc C.prog fn apart fresh handsOn again) := by
  refine returnsInHanded_of_calls own started noInit witness ?_
  intro w tape i _ hsh _ hok hpre hholds
  obtain ⟨_, _, _, fn', hfn', _, _, _, _, hval⟩ := hok
  have e : fn' = fn := Option.some.inj (hfn'.symm.trans hfn)
  subst e
  obtain ⟨⟨⟨ds, gs, before, hw, hc⟩, hx⟩, hz⟩ := hpre
  have hw' := DataW.Whole.of_heap (w' := w.forCall tape i) (by rfl) hw
  refine (contract (w.forCall tape i) w.heap.size i.args ds gs before hval hw' hc (hz.weights hw) hsh (hX _ _ _ (by rfl) hx) hholds).mono fun e W' ⟨v, he, hp⟩ => ?_
  subst he
  exact ChangeSpec.post_blind hp
end
end Go.Proofs.YtiabfngiibabcaaGreatDoor

namespace Go.Proofs.YtiabfngiibabcaaGreatDoor
open Go.RowKit

/-- A fact kept from the walk. -/
theorem hid {p : Prop} (h : p) : Hid p := h

/-- One call behind another. -/
theorem bt {w w1 w2 : World} (h : Below w.heap.size w w1) (k : Below w1.heap.size w1 w2) : Below w.heap.size w w2 := h.trans (k.mono h.size)

/-- All old cells read as before. -/
theorem bcell {W W1 : World} (hb : Below W.heap.size W W1) : (∀ b o, b < W.heap.size → W1.cell? ⟨b, o, none⟩ = W.cell? ⟨b, o, none⟩) ∧ (∀ b o, b < W.heap.size → W1.frozen? ⟨b, o, none⟩ = W.frozen? ⟨b, o, none⟩) :=
  ⟨fun b o h => hb.cell (p := ⟨b, o, none⟩) h, fun b o h => hb.frozen (p := ⟨b, o, none⟩) h⟩

/-! ### a block that is known whole -/
def Blk (w : World) (g : Nat) (t : TypeId) (cs : Array Value) : Prop := w.heap[g]? = some (.cells cs t (0, 0))
section
variable {w w' : World} {g : Nat} {t : TypeId} {cs : Array Value}
theorem Blk.lt (h : Blk w g t cs) : g < w.heap.size := by
  rcases Nat.lt_or_ge g w.heap.size with hlt | hge
  · exact hlt
  · unfold Blk at h; rw [Array.getElem?_eq_none hge] at h; cases h
theorem Blk.cell (h : Blk w g t cs) (i : Nat) : w.cell? ⟨g, i, none⟩ = cs[i]? := cell_of_row w g i cs t (0, 0) h
theorem Blk.frozen (h : Blk w g t cs) (i : Nat) : w.frozen? ⟨g, i, none⟩ = false := by
  unfold Blk at h
  simp [World.frozen?, h]
theorem Blk.new (w : World) (t : TypeId) (cs : Array Value) : Blk (w.alloc (.cells cs t)) w.heap.size t cs := heap_alloc_new w _
theorem Blk.drew (h : Blk w g t cs) : Blk w.drew g t cs := h
theorem Blk.drewN (h : Blk w g t cs) (n : Nat) : Blk (w.drewN n) g t cs := h
theorem Blk.alloc (h : Blk w g t cs) (o : Obj) : Blk (w.alloc o) g t cs := (Below.heap_alloc w o g h.lt).trans h
theorem Blk.set_ (h : Blk w g t cs) (i : Nat) (u : Value) : Blk (w.setCell ⟨g, i, none⟩ u) g t (cs.setIfInBounds i u) := by
  unfold Blk at h ⊢
  simp [World.setCell, Array.getElem?_modify, h]
theorem Blk.far (h : Blk w g t cs) {p : Addr} (hp : g ≠ p.block) (u : Value) : Blk (w.setCell p u) g t cs := (Below.heap_setCell w p u g hp).trans h
theorem Blk.below {B : Nat} (h : Blk w g t cs) (hb : Below B w w') (hg : g < B) : Blk w' g t cs := (hb.block g hg).trans h
theorem Blk.ne_ {g' : Nat} {t' : TypeId} {cs' : Array Value} (h : Blk w g t cs) (h' : Blk w g' t' cs') (hne : t ≠ t') : g ≠ g' := by
  rintro rfl
  unfold Blk at h h'
  rw [h] at h'
  injection h' with h'
  injection h' with _ ht
  exact hne ht
end

/-- append, by the equation on its run. -/
theorem wpList_append_run {P : Program} {w : World} {ops : Array Oper} {rest : List Oper} {o : Oper} {a : Act} {Q : Exit → Act → World → Prop} (hgd : o.guard = none) (s x : Operand) (t : TypeId)
    (ho : o.op = .call { callee := .builtin .append, args := #[s, x], argTypes := #[t, t] }) (v1 v2 v' : Value) (w' : World) (hs : a.eval s = v1) (hx : a.eval x = v2)
    (hrun : (Builtin.append_ #[t, t] o.type #[v1, v2]).run P w = .ok v' w') (h : wpList P ops Q rest (a.put o.dst v') w') : wpList P ops Q (o :: rest) a w :=
  wpList_plain hgd fun K hK => by
    unfold Oper.wp execOp
    simp only [ho, resolve, invoke, builtin, Sem.run_bind, Sem.run_pure, Result.andThen_ok, List.map_toArray, List.map_cons, List.map_nil, hs, hx, hrun]
    exact hK _ _ h

/-- .. at a step of a region that draws its order. -/
theorem step_append_run {P : Program} {w : World} {ops : Array Oper} {o : Oper} {a : Act} {K : Act → World → Prop} {Q : Exit → Act → World → Prop} {E : Prop} (hgd : o.guard = none) (s x : Operand) (t : TypeId)
    (ho : o.op = .call { callee := .builtin .append, args := #[s, x], argTypes := #[t, t] }) (v1 v2 v' : Value) (w' : World) (hs : a.eval s = v1) (hx : a.eval x = v2)
    (hrun : (Builtin.append_ #[t, t] o.type #[v1, v2]).run P w = .ok v' w') (h : K (a.put o.dst v') w') : if Region.wanted o (yielded ops a.tmps) = true then Oper.wp P o a w K Q else E := by
  have hw : Region.wanted o (yielded ops a.tmps) = true := by simp [Region.wanted, hgd]
  rw [if_pos hw]
  unfold Oper.wp execOp
  simp only [ho, resolve, invoke, builtin, Sem.run_bind, Sem.run_pure, Result.andThen_ok, List.map_toArray, List.map_cons, List.map_nil, hs, hx, hrun]
  exact h

/-! ### bytes -/
/-- A byte as Go's value. -/
def B8 (b : UInt8) : Value := .int .u8 b.toNat
/-- A list of bytes as a string. -/
def S (l : List UInt8) : ByteArray := ⟨l.toArray⟩
theorem S_toList (l : List UInt8) : (S l).data.toList = l := rfl
theorem S_size (l : List UInt8) : (S l).size = l.length := by simp [S, ByteArray.size]
theorem S_of (s : ByteArray) : S s.data.toList = s := by cases s; simp [S]

theorem strOfNums_bytes (l : List UInt8) : strOfNums (l.map fun b => (b.toNat : Int)) = S l := by
  simp only [strOfNums, S, List.map_map]
  congr 2
  conv => rhs; rw [← List.map_id l]
  apply List.map_congr_left
  intro b _
  simp

/-- string(xs): xs bytes in a row. -/
theorem run_string_of {P : Program} (w : World) (src e : TypeId) (hs : P.underlying src = some (.slice e)) (he : P.underlying e = some (.int .u8)) (b off len cap : Nat) (l : List UInt8) (hlen : l.length = len)
    (hcell : ∀ i, (h : i < l.length) → w.cell? ⟨b, off + i, none⟩ = some (B8 l[i])) (dst : TypeId) (hd : P.underlying dst = some .string) :
    (convert src dst (.slice (some ⟨b, off, none⟩) len cap)).run P w = .ok (.string (S l)) w := by
  rw [run_convert_bytes_arg w src e hs he b off len cap (l.map fun b => (b.toNat : Int)) (by simpa using hlen) ?_ dst hd, strOfNums_bytes]
  intro i hi
  rw [hcell i (by omega)]
  simp [B8, List.getD_eq_getElem?_getD, List.getElem?_eq_getElem (show i < l.length by omega)]

/-- string([]byte{x}). -/
theorem run_string_one {P : Program} (w : World) (src e dst t : TypeId) (hs : P.underlying src = some (.slice e)) (he : P.underlying e = some (.int .u8)) (hd : P.underlying dst = some .string) (x : Int) (h0 : 0 ≤ x) (h1 : x < 256) :
    (convert src dst (.slice (some ⟨w.heap.size, 0, none⟩) 1 1)).run P (w.alloc (.cells #[.int .u8 x] t)) = .ok (.string (S [UInt8.ofNat x.toNat])) (w.alloc (.cells #[.int .u8 x] t)) := by
  refine run_string_of _ src e hs he w.heap.size 0 1 1 [UInt8.ofNat x.toNat] rfl ?_ dst hd
  intro i hi
  simp only [List.length_singleton] at hi
  obtain rfl : i = 0 := by omega
  rw [(Blk.new w t #[.int .u8 x]).cell]
  simp [B8]
  omega

/-! The walk keeps each string in the form 'S l'. -/
@[go_sem] theorem mk_S (l : List UInt8) : ByteArray.mk l.toArray = S l := rfl
@[go_sem] theorem S_size' (l : List UInt8) : (S l).size = l.length := S_size l
@[go_sem] theorem S_app (a b : List UInt8) : S a ++ S b = S (a ++ b) := by
  apply ByteArray.ext
  simp [S]
theorem S_inj {a b : List UInt8} (h : S a = S b) : a = b := by
  have := congrArg (fun s : ByteArray => s.data.toList) h
  simpa [S] using this
@[go_sem] theorem S_toList' (l : List UInt8) : (S l).toList = l := by rw [ByteArray.toList_eq]; rfl
@[go_sem] theorem S_extract (l : List UInt8) (a b : Nat) : (S l).extract a b = S ((l.drop a).take (b - a)) := by
  apply ByteArray.ext
  simp [S, ByteArray.data_extract, List.extract_toArray]
@[go_sem] theorem S_get (l : List UInt8) (i : Nat) (h : i < (S l).size) : (S l)[i]'h = l[i]'(by rw [S_size] at h; exact h) := by
  simp [S, ByteArray.getElem_eq_getElem_data]

/-! ### decimals -/
/-- A digit's byte. -/
def dig (n : Nat) : UInt8 := UInt8.ofNat (48 + n)
def decN (n : Nat) : List UInt8 := if n < 10 then [dig n] else decN (n / 10) ++ [dig (n % 10)]
termination_by n
def decI (n : Int) : List UInt8 := if n < 0 then 45 :: decN n.natAbs else decN n.natAbs

theorem decN_small {n : Nat} (h : n < 10) : decN n = [dig n] := by rw [decN, if_pos h]
theorem decN_big {n : Nat} (h : 10 ≤ n) : decN n = decN (n / 10) ++ [dig (n % 10)] := by rw [decN, if_neg (by omega)]
theorem decN_pos (n : Nat) : 1 ≤ (decN n).length := by
  rw [decN]; split <;> simp
theorem decN_len (n d : Nat) (h : n < 10 ^ (d + 1)) : (decN n).length ≤ d + 1 := by
  induction d generalizing n with
  | zero => rw [decN_small (by simpa using h)]; simp
  | succ d ih =>
    by_cases h10 : n < 10
    · rw [decN_small h10]; simp
    · rw [decN_big (by omega)]
      have := ih (n / 10) (by rw [Nat.div_lt_iff_lt_mul (by omega), ← Nat.pow_succ]; exact h)
      simp; omega
theorem B8_digit (m : Nat) (h : m < 10) : Value.int .u8 (48 + (m : Int)) = B8 (dig m) := by
  unfold B8 dig
  congr 1
  simp [UInt8.toNat_ofNat']
  omega
theorem decN_len19 (n : Nat) (h : n ≤ 9223372036854775808) : (decN n).length ≤ 19 := decN_len n 18 (by omega)
theorem decI_len (n : Int) (h0 : -9223372036854775808 ≤ n) (h1 : n ≤ 9223372036854775807) : (decI n).length ≤ 20 := by
  have := decN_len19 n.natAbs (by omega)
  unfold decI
  split <;> simp <;> omega
theorem decN_digit (n : Nat) : UInt8.ofNat (48 + (n : Int) % 10).toNat = dig (n % 10) := by unfold dig; congr 1

/-- From a row's 'wf' to bounds. -/
theorem wf64 {a : Int} (h : (Lit.int .i64 a).wf = true) : -9223372036854775808 ≤ a ∧ a ≤ 9223372036854775807 := by
  have hmin : IntKind.i64.min = -9223372036854775808 := rfl
  have hmax : IntKind.i64.max = 9223372036854775807 := rfl
  simp only [Lit.wf, Bool.and_eq_true, decide_eq_true_eq] at h
  omega
end Go.Proofs.YtiabfngiibabcaaGreatDoor

set_option linter.unusedVariables false
set_option linter.unusedSimpArgs false
namespace Go.Proofs.YtiabfngiibabcaaGreatDoor
open Go.RowKit

theorem row_form {w : World} {base : Nat} {e : TypeId} {size n : Nat} {v : Value} {xs : List Value} (h : w.ownsRow base e size v n xs) : ∃ A c, v = .slice A n c := by
  rcases h.2 with ⟨rfl, rfl⟩ | ⟨g, cap, cur, rfl, _⟩
  · exact ⟨none, 0, rfl⟩
  · exact ⟨_, cap, rfl⟩
theorem row_base {w : World} {base base' : Nat} {e : TypeId} {size n : Nat} {v : Value} {xs : List Value} (h : w.ownsRow base e size v n xs) (hb : base' ≤ base) : w.ownsRow base' e size v n xs := by
  obtain ⟨h1, h2⟩ := h
  refine ⟨h1, ?_⟩
  rcases h2 with h2 | ⟨g, cap, cur, rfl, hg, r⟩
  · exact .inl h2
  · exact .inr ⟨g, cap, cur, rfl, by omega, r⟩
theorem row_heap {w : World} {base : Nat} {e : TypeId} {size n : Nat} {v : Value} {xs : List Value} (h : w.ownsRow base e size v n xs) {k : Nat} (hk : v.ownBlock = some k) : ∃ cs, w.heap[k]? = some (.cells cs e (0, 0)) := by
  rcases h.2 with ⟨rfl, _⟩ | ⟨g, cap, cur, rfl, hb, hh, r⟩
  · simp [Value.ownBlock] at hk
  · have : g = k := by simpa [Value.ownBlock] using hk
    subst this
    exact ⟨_, hh⟩
theorem row_keep {w w' : World} {base : Nat} {e : TypeId} {size n : Nat} {v : Value} {xs : List Value} (h : w.ownsRow base e size v n xs) (hk : ∀ k, v.ownBlock = some k → w'.heap[k]? = w.heap[k]?) : w'.ownsRow base e size v n xs := by
  obtain ⟨h1, h2⟩ := h
  refine ⟨h1, ?_⟩
  rcases h2 with h2 | ⟨g, cap, cur, rfl, hb, hh, r⟩
  · exact .inl h2
  · exact .inr ⟨g, cap, cur, rfl, hb, (hk g rfl).trans hh, r⟩
theorem row_base_le {w : World} {base : Nat} {e : TypeId} {size n : Nat} {v : Value} {xs : List Value} (h : w.ownsRow base e size v n xs) {b : Nat} (hb : v.ownBlock = some b) : base ≤ b := by
  rcases h.2 with ⟨rfl, _⟩ | ⟨g', cap, cur, rfl, hb', _⟩
  · simp [Value.ownBlock] at hb
  · have : g' = b := by simpa [Value.ownBlock] using hb
    omega
theorem row_alloc {w : World} {base : Nat} {e : TypeId} {size n : Nat} {v : Value} {xs : List Value} (h : w.ownsRow base e size v n xs) (o : Obj) : (w.alloc o).ownsRow base e size v n xs := row_keep h fun k hk => by
  obtain ⟨cs, hcs⟩ := row_heap h hk
  exact Below.heap_alloc w o k (Array.getElem?_eq_some_iff.1 hcs).1
theorem below_alloc_any {B : Nat} {W W' : World} {o : Obj} (h : B ≤ W.heap.size) (k : Below B (W.alloc o) W') : Below B W W' := ((Below.refl B W).alloc h o).trans k
theorem row_below {w w' : World} {base : Nat} {e : TypeId} {size n : Nat} {v : Value} {xs : List Value} (h : w.ownsRow base e size v n xs) (hb : Below w.heap.size w w') : w'.ownsRow base e size v n xs := row_keep h fun k hk => by
  obtain ⟨cs, hcs⟩ := row_heap h hk
  exact hb.block k (Array.getElem?_eq_some_iff.1 hcs).1
theorem below_drewN {B : Nat} {w W : World} (h : Below B w W) (n : Nat) : Below B w (W.drewN n) := by
  induction n with
  | zero => exact ⟨h.os, h.tape, h.output, h.size, h.block⟩
  | succ n ih => exact ⟨ih.os, ih.tape, ih.output, ih.size, ih.block⟩
theorem below_from {B : Nat} {w W : World} {n : Nat} (h : Below B (w.drewN n) W) : Below B w W := (below_drewN (Below.refl B w) n).trans h
theorem take_snoc {α : Type} (l : List α) {k : Nat} (h : k < l.length) : l.take (k + 1) = l.take k ++ [l[k]] := by simp
/-- append(own, row...): whatever row, nil too. -/
theorem run_append_row {P : Program} (w : World) (base : Nat) (t ty e : TypeId) (i : TypeInfo) (z : Value) (size bytes : Nat) (ht : P.underlying t = some (.slice e)) (hi : P.info? e = some i) (hz : i.zero = some z)
    (hsize : i.size = size) (hby : i.bytes = bytes) (hzs : z.cells.size = size) (hsz : 0 < size) (v : Value) (n : Nat) (xs : List Value) (hown : w.ownsRow base e size v n xs) (A : Option Addr) (m c : Nat) (news : List Value)
    (hl : news.length = m * size) (hnone : A = none → m = 0) (hnews : ∀ ad, A = some ad → ∀ j u, news[j]? = some u → w.cell? (ad.add j) = some u) (h1 : ∀ u ∈ news, u.oneCell' = true) (h63 : n + m ≤ maxLen) (hbytes : (n + m) * bytes ≤ 140737488355328) (hbase : base ≤ w.heap.size) :
    ∃ v' w', (Builtin.append_ #[t, t] ty #[v, .slice A m c]).run P w = .ok v' w' ∧ w'.ownsRow base e size v' (n + m) (xs ++ news) ∧ w.grownBy w' v.ownBlock ∧ (v'.ownBlock = v.ownBlock ∨ v'.ownBlock = some w.heap.size) := by
  cases A with
  | none =>
    have h0 := hnone rfl
    subst h0
    have hn : news = [] := List.eq_nil_of_length_eq_zero (by simpa using hl)
    subst hn
    refine ⟨v, w, ?_, by simpa using hown, World.grownBy.refl w _, .inl rfl⟩
    rcases hown.2 with ⟨rfl, rfl⟩ | ⟨g, cap, cur, rfl, hb, hh, hnc, r⟩
    · simp [Builtin.append_, run_underlying ht, sizeOf, typeInfo, hi, Builtin.lenOf, Builtin.firstCells]
    · simp [Builtin.append_, run_underlying ht, sizeOf, typeInfo, hi, Builtin.lenOf, Builtin.firstCells, hnc, storeCells]
  | some ad =>
    obtain ⟨v', w', hrun, h2, h3, _, h5⟩ := run_append_own_at (P := P) w base t ty e i z size bytes ht hi hz hsize hby hzs hsz v n xs hown ad m c news hl (hnews ad rfl) h1 h63 hbytes hbase
    exact ⟨v', w', hrun, h2, h3, h5⟩

theorem row_drew {w : World} {base : Nat} {e : TypeId} {size n : Nat} {v : Value} {xs : List Value} (h : w.ownsRow base e size v n xs) (k : Nat) : (w.drewN k).ownsRow base e size v n xs := row_keep h fun _ _ => by
  induction k with
  | zero => rfl
  | succ k ih => exact ih
theorem row_offer' {w : World} {base : Nat} {e : TypeId} {size n c : Nat} {A : Option Addr} {xs : List Value} (h : w.ownsRow base e size (.slice A n c) n xs) : (A = none → n = 0) ∧ ∀ b, A = some b → ∃ k, b = ⟨k, 0, none⟩ ∧ k < w.heap.size := by
  rcases h.2 with ⟨h1, h2⟩ | ⟨g, cap, cur, h1, hb, hh, r⟩
  · simp only [Value.slice.injEq] at h1
    refine ⟨fun _ => h1.2.1, fun b hb => ?_⟩
    rw [h1.1] at hb
    cases hb
  · simp only [Value.slice.injEq] at h1
    refine ⟨fun h => by rw [h] at h1; exact absurd h1.1 (by simp), fun b hb' => ?_⟩
    rw [h1.1] at hb'
    injection hb' with hb'
    exact ⟨g, hb'.symm, (Array.getElem?_eq_some_iff.1 hh).1⟩
end Go.Proofs.YtiabfngiibabcaaGreatDoor

set_option linter.unusedVariables false
set_option linter.unusedSimpArgs false
set_option maxHeartbeats 1600000
set_option maxRecDepth 100000
namespace Go.Proofs.YtiabfngiibabcaaGreatDoor
open Go.RowKit

/-- A slice that reads as bytes. -/
def BytesAt (w : World) (A : Option Addr) (l : List UInt8) : Prop :=
  0 < l.length → ∃ b off, A = some ⟨b, off, none⟩ ∧ b < w.heap.size ∧ ∀ i, (h : i < l.length) → w.cell? ⟨b, off + i, none⟩ = some (B8 l[i])
theorem BytesAt.below {w w' : World} {A : Option Addr} {l : List UInt8} (h : BytesAt w A l) (hb : Below w.heap.size w w') : BytesAt w' A l := fun h0 => by
  obtain ⟨b, off, hA, hlt, hc⟩ := h h0
  exact ⟨b, off, hA, Nat.lt_of_lt_of_le hlt hb.size, fun i hi => (hb.cell (p := ⟨b, _, none⟩) hlt).trans (hc i hi)⟩
theorem add_plain' (b off j : Nat) : (⟨b, off, none⟩ : Addr).add j = ⟨b, off + j, none⟩ := by unfold Addr.add; split <;> simp_all
theorem BytesAt.news {w : World} {ad : Addr} {l : List UInt8} (h : BytesAt w (some ad) l) : ∀ j u, (l.map B8)[j]? = some u → w.cell? (ad.add j) = some u := by
  intro j u hu
  have hj : j < l.length := by
    have := (List.getElem?_eq_some_iff.1 hu).1
    simpa using this
  obtain ⟨b, off, hA, _, hc⟩ := h (by omega)
  injection hA with hA
  subst hA
  rw [add_plain', hc j hj]
  simp only [List.getElem?_map, List.getElem?_eq_getElem hj, Option.map_some] at hu
  exact hu
theorem BytesAt.of_none {w : World} {l : List UInt8} (h : BytesAt w none l) : l = [] := by
  rcases Nat.eq_zero_or_pos l.length with h0 | h0
  · exact List.eq_nil_of_length_eq_zero h0
  · obtain ⟨b, off, hA, _⟩ := h h0
    cases hA
/-- An owned row of bytes reads. -/
theorem bytesAt_row {w : World} {base : Nat} {A : Option Addr} {n c : Nat} {l : List UInt8} (h : w.ownsRow base 5 1 (.slice A n c) l.length (l.map B8)) : n = l.length ∧ BytesAt w A l := by
  rcases h.2 with ⟨h1, h2⟩ | ⟨g, cap, cur, hv, hb, hh, hc, hm, hs, ht⟩
  · simp only [Value.slice.injEq] at h1
    exact ⟨by omega, fun h0 => absurd h0 (by omega)⟩
  · simp only [Value.slice.injEq] at hv
    obtain ⟨rfl, rfl, rfl⟩ := hv
    refine ⟨rfl, fun h0 => ⟨g, 0, rfl, (Array.getElem?_eq_some_iff.1 hh).1, fun i hi => ?_⟩⟩
    have := h.cellAt i (by omega)
    rw [Nat.zero_add, this]
    simp [List.getElem?_map, List.getElem?_eq_getElem hi]
theorem B8_one (l : List UInt8) : ∀ u ∈ l.map B8, u.oneCell' = true := by
  intro u hu
  obtain ⟨b, _, rfl⟩ := List.mem_map.1 hu
  rfl

theorem info_u8 : ∃ i, (Tryz.prog).info? 5 = some i ∧ i.zero = some (.int .u8 0) ∧ i.size = 1 ∧ i.bytes = 1 := by
  have h : ((Tryz.prog).info? 5).map (fun i => (i.zero, i.size, i.bytes)) = some (some (.int .u8 0), 1, 1) := by kernel_rfl
  obtain ⟨i, hi, he⟩ := Option.map_eq_some_iff.1 h
  simp only [Prod.mk.injEq] at he
  exact ⟨i, hi, he.1, he.2.1, he.2.2⟩

/-- append(own, bytes...). -/
theorem run_append_bytes (w : World) (base : Nat) (v : Value) (xs l : List UInt8) (hown : w.ownsRow base 5 1 v xs.length (xs.map B8)) (A : Option Addr) (c : Nat) (hl : BytesAt w A l) (hm : xs.length + l.length ≤ 140737488355328) (hbase : base ≤ w.heap.size) (ty : TypeId) :
    ∃ v' w', (Builtin.append_ #[85, 85] ty #[v, .slice A l.length c]).run Tryz.prog w = .ok v' w' ∧ w'.ownsRow base 5 1 v' (xs ++ l).length ((xs ++ l).map B8) ∧ w.grownBy w' v.ownBlock ∧ (v'.ownBlock = v.ownBlock ∨ v'.ownBlock = some w.heap.size) := by
  obtain ⟨i, hi, hz, hs, hb⟩ := info_u8
  cases A with
  | none =>
    have h0 := hl.of_none
    subst h0
    refine ⟨v, w, ?_, by simpa using hown, World.grownBy.refl w _, .inl rfl⟩
    obtain ⟨A', c', rfl⟩ := row_form hown
    simp [Builtin.append_, run_underlying (show (Tryz.prog).underlying 85 = some (.slice 5) by kernel_rfl), sizeOf, typeInfo, hi, Builtin.lenOf, Builtin.firstCells]
    rcases hown.2 with ⟨h1, h2⟩ | ⟨g, cap, cur, hv, hb, hh, hnc, r⟩
    · simp only [Value.slice.injEq] at h1
      obtain ⟨rfl, h1, rfl⟩ := h1
      simp [h1]
    · simp only [Value.slice.injEq] at hv
      obtain ⟨rfl, _, rfl⟩ := hv
      simp [hnc, storeCells]
  | some ad =>
    obtain ⟨v', w', hrun, h2, h3, _, h5⟩ := run_append_own_at (P := Tryz.prog) w base 85 ty 5 i (.int .u8 0) 1 1 (by kernel_rfl) hi hz hs hb rfl (by decide) v xs.length (xs.map B8) hown ad l.length c (l.map B8) (by simp) hl.news (B8_one l) (by unfold maxLen; omega) (by omega) hbase
    exact ⟨v', w', hrun, by simpa using h2, h3, h5⟩

def Made (w : World) (l : List UInt8) (e : Ending) (w' : World) : Prop := ∃ v, e = .returned v ∧ w'.ownsRow w.heap.size 5 1 v l.length (l.map B8) ∧ Below w.heap.size w w'

theorem S_ne {a b : List UInt8} (h : a ≠ b) : (S a == S b) = false := by
  show (a.toArray == b.toArray) = false
  rw [beq_eq_false_iff_ne]
  exact fun e => h (by simpa using e)

theorem S_beq (a b : List UInt8) : (S a == S b) = (a == b) := by
  by_cases h : a = b
  · subst h
    show (a.toArray == a.toArray) = (a == a)
    simp
  · rw [S_ne h]
    simpa using h
/-- string(b), b a row of bytes. -/
theorem run_string_row (w : World) {base : Nat} {A : Option Addr} {c n : Nat} {l : List UInt8} (h : w.ownsRow base 5 1 (.slice A n c) l.length (l.map B8)) : (convert 85 9 (.slice A n c)).run Tryz.prog w = .ok (.string (S l)) w := by
  have hB := bytesAt_row h
  rcases h.2 with ⟨h1, h2⟩ | ⟨g, cap, cur, hv, hb, hh, r⟩
  · simp only [Value.slice.injEq] at h1
    obtain ⟨rfl, rfl, rfl⟩ := h1
    have hl : l = [] := List.eq_nil_of_length_eq_zero h2
    subst hl
    have h1 : (Tryz.prog).underlying 85 = some (.slice 5) := by kernel_rfl
    have h2 : (Tryz.prog).underlying 9 = some .string := by kernel_rfl
    have h3 : (Tryz.prog).underlying 5 = some (.int .u8) := by kernel_rfl
    simp [convert, run_underlying h1, run_underlying h2, run_underlying h3, Result.andThen, go_sem]
    try rfl
  · simp only [Value.slice.injEq] at hv
    obtain ⟨rfl, rfl, rfl⟩ := hv
    refine run_string_of w 85 5 (by kernel_rfl) (by kernel_rfl) g 0 _ c l rfl (fun i hi => ?_) 9 (by kernel_rfl)
    have := h.cellAt i (by omega)
    rw [Nat.zero_add, this]
    simp [List.getElem?_map, List.getElem?_eq_getElem hi]

/-- []byte(s). -/
theorem conv_run (W : World) (l : List UInt8) : (convert 9 85 (.string (S l))).run Tryz.prog W = .ok (.slice (some ⟨W.heap.size, 0, none⟩) l.length (grownCap W l.length 0 5)) (Lib.bytesWorld W 5 (S l)) := by
  have := Lib.run_convert_string_bytes (P := Tryz.prog) W 9 85 5 (S l) (u := .string) (by kernel_rfl) (by kernel_rfl) (by kernel_rfl)
  rw [S_size] at this
  exact this
theorem conv_at (W : World) (l : List UInt8) : BytesAt (Lib.bytesWorld W 5 (S l)) (some ⟨W.heap.size, 0, none⟩) l := fun h0 => by
  refine ⟨W.heap.size, 0, rfl, by rw [Lib.bytesWorld_size]; omega, fun i hi => ?_⟩
  rw [Nat.zero_add, Lib.bytesWorld_cell W _ _ i (by rw [S_size]; exact hi)]
  simp [S_toList, B8, List.getD_eq_getElem?_getD, List.getElem?_eq_getElem hi]
theorem conv_below (W : World) (l : List UInt8) : Below W.heap.size W (Lib.bytesWorld W 5 (S l)) := Lib.bytesWorld_below _ _ _

end Go.Proofs.YtiabfngiibabcaaGreatDoor

set_option linter.unusedVariables false
set_option linter.unusedSimpArgs false
namespace Go.Proofs.YtiabfngiibabcaaGreatDoor
open Go.RowKit Go.WideMaps Go.ChangeMaps

abbrev Key := List UInt8
section
variable {α β : Type}
def kins (k : Key) (v : α) : List (Key × α) → List (Key × α)
  | [] => [(k, v)]
  | y :: r => if bytesBefore k y.1 then (k, v) :: y :: r else y :: kins k v r
def kdel (m : List (Key × α)) (k : Key) : List (Key × α) := m.filter fun p => !(p.1 == k)
def kput (m : List (Key × α)) (k : Key) (v : α) : List (Key × α) := kins k v (kdel m k)
def kset (m : List (Key × α)) (k : Key) (v : α) : List (Key × α) := m.map fun p => if p.1 == k then (p.1, v) else p
def kget (m : List (Key × α)) (k : Key) : Option α := (m.find? fun p => p.1 == k).map (·.2)

def kmap (f : α → β) (m : List (Key × α)) : List (Key × β) := m.map fun p => (p.1, f p.2)
theorem kmap_ins (f : α → β) (k : Key) (v : α) (m : List (Key × α)) : kmap f (kins k v m) = kins k (f v) (kmap f m) := by
  induction m with
  | nil => rfl
  | cons y r ih =>
    simp only [kmap, List.map_cons, kins] at *
    split
    · simp
    · simp [ih]
theorem kmap_del (f : α → β) (k : Key) (m : List (Key × α)) : kmap f (kdel m k) = kdel (kmap f m) k := by
  simp [kmap, kdel, List.filter_map, Function.comp_def]
theorem kmap_put (f : α → β) (k : Key) (v : α) (m : List (Key × α)) : kmap f (kput m k v) = kput (kmap f m) k (f v) := by
  rw [kput, kmap_ins, kmap_del, kput]
theorem kmap_set (f : α → β) (k : Key) (v : α) (m : List (Key × α)) : kmap f (kset m k v) = kset (kmap f m) k (f v) := by
  simp only [kmap, kset, List.map_map]
  apply List.map_congr_left
  intro p _
  simp only [Function.comp_def]
  split <;> rfl
theorem kget_map (f : α → β) (k : Key) (m : List (Key × α)) : kget (kmap f m) k = (kget m k).map f := by
  simp only [kget, kmap, List.find?_map, Option.map_map, Function.comp_def]
theorem kget_some {m : List (Key × α)} {k : Key} {v : α} (h : kget m k = some v) : (k, v) ∈ m := by
  simp only [kget, Option.map_eq_some_iff] at h
  obtain ⟨p, hp, rfl⟩ := h
  have h1 := List.find?_some hp
  simp only [beq_iff_eq] at h1
  subst h1
  exact List.mem_of_find?_eq_some hp
theorem mem_kins {k : Key} {v : α} {m : List (Key × α)} {p : Key × α} : p ∈ kins k v m ↔ p = (k, v) ∨ p ∈ m := by
  induction m with
  | nil => simp [kins]
  | cons y r ih =>
    unfold kins
    split
    · simp
    · simp only [List.mem_cons, ih]
      constructor
      · rintro (h | h | h)
        · exact .inr (.inl h)
        · exact .inl h
        · exact .inr (.inr h)
      · rintro (h | h | h)
        · exact .inr (.inl h)
        · exact .inl h
        · exact .inr (.inr h)
theorem mem_kdel {k : Key} {m : List (Key × α)} {p : Key × α} : p ∈ kdel m k ↔ p ∈ m ∧ p.1 ≠ k := by
  simp [kdel, List.mem_filter]
theorem mem_kput {k : Key} {v : α} {m : List (Key × α)} {p : Key × α} : p ∈ kput m k v ↔ p = (k, v) ∨ (p ∈ m ∧ p.1 ≠ k) := by
  rw [kput, mem_kins, mem_kdel]
theorem pairwise_kins {R : Key × α → Key × α → Prop} (hs : ∀ a b, R a b → R b a) {k : Key} {v : α} {m : List (Key × α)} (h : m.Pairwise R) (hn : ∀ p ∈ m, R (k, v) p) : (kins k v m).Pairwise R := by
  induction m with
  | nil => simp [kins]
  | cons y r ih =>
    unfold kins
    rw [List.pairwise_cons] at h
    split
    · rw [List.pairwise_cons, List.pairwise_cons]
      exact ⟨hn, h⟩
    · rw [List.pairwise_cons]
      refine ⟨fun p hp => ?_, ih h.2 (fun p hp => hn p (by simp [hp]))⟩
      rcases mem_kins.1 hp with rfl | hp
      · exact hs _ _ (hn y (by simp))
      · exact h.1 p hp
theorem pairwise_kput {R : Key × α → Key × α → Prop} (hs : ∀ a b, R a b → R b a) {k : Key} {v : α} {m : List (Key × α)} (h : m.Pairwise R) (hn : ∀ p ∈ m, p.1 ≠ k → R (k, v) p) : (kput m k v).Pairwise R :=
  pairwise_kins hs (h.filter _) fun p hp => hn p (mem_kdel.1 hp).1 (mem_kdel.1 hp).2
theorem length_kins (k : Key) (v : α) (m : List (Key × α)) : (kins k v m).length = m.length + 1 := by
  induction m with
  | nil => rfl
  | cons y r ih => unfold kins; split <;> simp [ih]
theorem length_kput_le (k : Key) (v : α) (m : List (Key × α)) : (kput m k v).length ≤ m.length + 1 := by
  rw [kput, length_kins]
  have := List.length_filter_le (fun p : Key × α => !(p.1 == k)) m
  unfold kdel; omega
theorem length_kset (k : Key) (v : α) (m : List (Key × α)) : (kset m k v).length = m.length := by simp [kset]
end

/-! ### the map in memory -/
/-- How a pointer reads: the number of its block. -/
def Rp (v : Value) : Option (DataW Unit × List MemPlace) :=
  match v with
  | .pointer none => some (.nil, [])
  | .pointer (some ⟨b, 0, none⟩) => some (.lit (.int .u64 b), [])
  | _ => none
def ptrOf : Option Nat → Value
  | none => .pointer none
  | some b => .pointer (some ⟨b, 0, none⟩)
theorem Rp_ptr (b : Nat) : Rp (.pointer (some ⟨b, 0, none⟩)) = some (.lit (.int .u64 b), []) := rfl
theorem Rp_inv {v : Value} {d : DataW Unit} {ps : List MemPlace} (h : Rp v = some (d, ps)) : (v = .pointer none ∧ d = .nil) ∨ ∃ b : Nat, v = .pointer (some ⟨b, 0, none⟩) ∧ d = .lit (.int .u64 b) := by
  unfold Rp at h
  split at h
  · simp at h; exact .inl ⟨rfl, h.1.symm⟩
  · simp at h; exact .inr ⟨_, rfl, h.1.symm⟩
  · cases h
def mapD (m : List (Key × Nat)) : DataW Unit := .map (m.map fun p => (.string p.1, .lit (.int .u64 p.2)))
theorem mapD_nil : mapD [] = .map [] := rfl
theorem insert_map (k : Key) (b : Nat) (m : List (Key × Nat)) : DataW.insert ((.string k, .lit (.int .u64 b)) : Lit × DataW Unit) (m.map fun p => (.string p.1, .lit (.int .u64 p.2))) = (kins k b m).map fun p => (.string p.1, .lit (.int .u64 p.2)) := by
  induction m with
  | nil => rfl
  | cons y r ih =>
    rw [List.map_cons]
    unfold DataW.insert kins
    by_cases h : bytesBefore k y.1 = true
    · rw [if_pos (show ((Lit.string k).before (Lit.string y.1)) = true from h), if_pos h]; rfl
    · rw [if_neg (show ¬ ((Lit.string k).before (Lit.string y.1)) = true from h), if_neg h, ih]; rfl
theorem mapD_del (m : List (Key × Nat)) (k : Key) : (mapD m).del (.string k) = mapD (kdel m k) := by
  simp [mapD, DataW.del, kdel, List.filter_map, Function.comp_def, Lit.sameKey]
theorem mapD_put (m : List (Key × Nat)) (k : Key) (b : Nat) : (mapD m).put (.string k) (.lit (.int .u64 b)) = mapD (kput m k b) := by
  have h := mapD_del m k
  simp only [mapD, DataW.del, DataW.map.injEq] at h
  simp only [mapD, DataW.put, h]
  rw [insert_map, kput]
theorem mapD_at (m : List (Key × Nat)) (k : Key) : (mapD m).atKey (.string k) .nil = match kget m k with | some b => .lit (.int .u64 b) | none => .nil := by
  simp only [mapD, DataW.atKey, kget, List.find?_map, Function.comp_def, Lit.sameKey]
  cases h : m.find? fun p => p.1 == k <;> simp [h]
theorem mapD_size (m : List (Key × Nat)) : Maps.size (mapD m) = m.length := by simp [mapD, Maps.size]

/-- Block b is a map from texts to pointers, whose keys lead to these blocks. -/
def OwnM (P : Program) (k : TypeId) (w : World) (b : Nat) (m : List (Key × Nat)) : Prop := w.ownsMap P k Rp b m.length (mapD m)
section
variable {P : Program} {k t e : TypeId} {w : World} {b : Nat} {m : List (Key × Nat)}
theorem OwnM.made (w : World) : OwnM P k (w.alloc (.map #[] 0)) w.heap.size [] := World.ownsMap_made w P k Rp
theorem OwnM.tight {n : Nat} (h : w.ownsMap P k Rp b n (mapD m)) : OwnM P k w b m := by
  obtain ⟨es, clock, hb, F, hs, hD⟩ := h
  refine ⟨es, clock, hb, F, ?_, hD⟩
  have h1 := congrArg Maps.size hD
  rw [mapD_size, Maps.size_eq, length_read] at h1
  omega
theorem OwnM.kept {w' : World} (h : OwnM P k w b m) (hb : w'.heap[b]? = w.heap[b]?) : OwnM P k w' b m := by
  obtain ⟨es, clock, hb', F, hs, hD⟩ := h
  exact ⟨es, clock, hb.trans hb', F, hs, hD⟩
theorem OwnM.isMap (h : OwnM P k w b m) : ∃ es clock, w.heap[b]? = some (.map es clock) := by
  obtain ⟨es, clock, hb, _⟩ := h
  exact ⟨es, clock, hb⟩
theorem key_of (hk : P.underlying k = some .string) (key : Key) (hl : key.length ≤ 1000000) : keyOf P k (.string (S key)) = some (.string key) := by
  rw [keyOf_string_mk hk (by rw [S_size]; unfold maxLen; omega)]; rfl
theorem OwnM.look (h : OwnM P k w b m) (hk : P.underlying k = some .string) (ht : P.underlying t = some (.map k e)) (hz : (zeroValue e).run P w = .ok (.pointer none) w) (key : Key) (hl : key.length ≤ 1000000) :
    (Instr.lookup t (.map (some b)) (.string (S key)) false).run P w = .ok (ptrOf (kget m key)) w := by
  obtain ⟨v, ps, hrun, hv⟩ := World.ownsMap.lookup h (Maps.string_keyed hk) ht hz (zd := .nil) (zp := []) rfl (key_of hk key hl)
  rw [mapD_at] at hv
  rw [hrun]
  congr 1
  rcases Rp_inv hv with ⟨rfl, hd⟩ | ⟨c, rfl, hd⟩
  · cases hg : kget m key with
    | none => rfl
    | some x => rw [hg] at hd; cases hd
  · cases hg : kget m key with
    | none => rw [hg] at hd; cases hd
    | some x =>
      rw [hg] at hd
      simp only [DataW.lit.injEq, Lit.int.injEq, true_and] at hd
      obtain rfl : x = c := by omega
      rfl
theorem OwnM.put (h : OwnM P k w b m) (hk : P.underlying k = some .string) (ht : P.underlying t = some (.map k e)) (hn : m.length < 9223372036854775807) (key : Key) (hl : key.length ≤ 1000000) (c : Nat) :
    ∃ w', (Instr.mapUpdate t (.map (some b)) (.string (S key)) (.pointer (some ⟨c, 0, none⟩))).run P w = .ok () w' ∧ OwnM P k w' b (kput m key c) ∧ w.grownBy w' (some b) := by
  obtain ⟨w', hrun, hown, hg⟩ := World.ownsMap.update h (Maps.string_keyed hk) ht (by unfold maxLen; omega) (val := .pointer (some ⟨c, 0, none⟩)) (key_of hk key hl) (Rp_ptr c)
  rw [mapD_put] at hown
  exact ⟨w', hrun, OwnM.tight hown, hg⟩
end
end Go.Proofs.YtiabfngiibabcaaGreatDoor
