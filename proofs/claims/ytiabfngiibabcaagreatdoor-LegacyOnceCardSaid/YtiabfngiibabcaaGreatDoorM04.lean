/- A range over a function whose iterator keeps a variable of its own in a cell: a law. No program is named here. Walk of kv.writes$1: the writes of frames, handed on one by one. A range over a function whose iterator keeps a variable of its own in a cell: the law again, for an invariant whose blocks may be made in the rounds. No program is named here. -/
import Derived.RangeFuncNested
import Derived.RangeFuncBound
import Derived.RangeFuncCalls
import Derived.RangeFuncLeaves
import Derived.Test.YtiabfngiibabcaaGreatDoorM03
import Derived.Shelf.Abstract
import Derived.Shelf.RegionOpen
import Derived.WalkKit
import Derived.OwnWalkIn
import Derived.TacticsInMore
import Derived.LoopNIn
import Derived.LoopIn
import Derived.Sort.QuietIn
import Derived.Sort.QuietTacIn
set_option linter.unusedVariables false
namespace Go.Proofs.YtiabfngiibabcaaGreatDoor
open Go Go.RowKit

/-- The iterator's own steps: it turns block bb, and makes new ones. -/
structure Itr (bb : Nat) (A C : World) : Prop where
  os : C.os = A.os
  tape : C.tape = A.tape
  output : C.output = A.output
  size : A.heap.size ≤ C.heap.size
  block : ∀ k, k < A.heap.size → k ≠ bb → C.heap[k]? = A.heap[k]?
/-- What the caller's invariant abides: a turn of block bb, and of whatever lies at or beyond B. -/
structure Stp (B bb : Nat) (A C : World) : Prop where
  os : C.os = A.os
  tape : C.tape = A.tape
  output : C.output = A.output
  size : A.heap.size ≤ C.heap.size
  block : ∀ k, k < B → k ≠ bb → C.heap[k]? = A.heap[k]?
theorem Itr.refl (bb : Nat) (A : World) : Itr bb A A := ⟨rfl, rfl, rfl, Nat.le_refl _, fun _ _ _ => rfl⟩
theorem Itr.trans {bb : Nat} {A C D : World} (h : Itr bb A C) (k : Itr bb C D) : Itr bb A D :=
  ⟨k.os.trans h.os, k.tape.trans h.tape, k.output.trans h.output, Nat.le_trans h.size k.size, fun i hi hn => (k.block i (Nat.lt_of_lt_of_le hi h.size) hn).trans (h.block i hi hn)⟩
theorem Itr.of_below {bb : Nat} {A C : World} (h : Below A.heap.size A C) : Itr bb A C := ⟨h.os, h.tape, h.output, h.size, fun k hk _ => h.block k hk⟩
theorem Stp.alloc {B bb : Nat} {A : World} (h : B ≤ A.heap.size) (o : Obj) : Stp B bb A (A.alloc o) := ⟨rfl, rfl, rfl, by simp, fun k hk _ => Below.heap_alloc A o k (by omega)⟩
theorem Stp.putObj {B bb : Nat} {A : World} {l : Nat} (h : B ≤ l) (o : Obj) : Stp B bb A (A.putObj l o) := ⟨rfl, rfl, rfl, by simp, fun k hk _ => World.putObj_heap_other (by omega)⟩
theorem Stp.of_itr {B bb : Nat} {A C : World} (h : Itr bb A C) (hB : B ≤ A.heap.size) : Stp B bb A C := ⟨h.os, h.tape, h.output, h.size, fun k hk hn => h.block k (by omega) hn⟩

def SeqRun {α : Type} (F : Fence) (n : Nat) (P : Program) (g : Nat) (lb : Array Value) (encs : α → Array Value) (bb : Nat) (Kp : World → World → Prop) (S Sp : List α → Prop) (Nx : List α → α → Prop) (W : World) : Prop :=
  ∀ (l : Nat) (J Jx : List α → World → Prop), (∀ p A C, J p A → Itr bb A C → J p C) → (∀ p A C, Jx p A → Itr bb A C → Jx p C) →
    (∀ pre x W1, J pre W1 → Nx pre x → YieldAt F (n - 1) P l (encs x) W1 fun e W' =>
      (e = .returned (.bool true) ∧ J (pre ++ [x]) W' ∧ Kp W1 W') ∨ (e = .returned (.bool false) ∧ Jx (pre ++ [x]) W')) →
    J [] W →
    CallsIn F n P g (#[.func (.yield l) #[] #[]] ++ lb) W fun e W' => (∃ v, e = .returned v) ∧ ((∃ xs, S xs ∧ J xs W') ∨ (∃ pre, Sp pre ∧ Jx pre W'))

variable {F : Fence} {n : Nat} {P : Program}
theorem wpIn_rangeFunc_run {α : Type} {g : Operand} {ps : Array Tmp} {assign body : Code} {Q : Exit → Act → World → Prop} {a : Act} {w : World}
    (hro : F.round = none) (h1 : 1 ≤ n) {gf : Nat} {lb : Array Value} (hg : a.eval g = .func (.func gf) #[] lb) (hFg : F.fn gf) (eg : ∀ args w, (callFunc gf args).run P w = .ok (.enter gf args) w)
    {encs : α → Array Value} {bb : Nat} {Kp : World → World → Prop} {S Sp : List α → Prop} {Nx : List α → α → Prop} (hbb : bb < w.heap.size) (hseq : ∀ o, SeqRun F (n - 1) P gf lb encs bb Kp S Sp Nx ((w.alloc (.deferred (some []))).alloc o))
    (hKt : ∀ {A B C : World}, Kp A B → Kp B C → Kp A C) (hKb : ∀ (W : World) (l : Nat) (o' : Obj), w.heap.size ≤ l → Kp W (W.putObj l o')) (hps : ∀ x, (encs x).size = ps.size)
    (I : List α → World → Prop) (Ix : Code → List α → World → Prop) (hI : ∀ p A C, I p A → Stp w.heap.size bb A C → I p C) (hIx : ∀ c p A C, Ix c p A → Stp w.heap.size bb A C → Ix c p C) (h0 : I [] w) (Ax : α → Act → World → Prop)
    (hAx : ∀ x a' A r o', Ax x a' A → A.heap[w.heap.size + 1]? = some (.loop r) → Ax x a' (A.putObj (w.heap.size + 1) o'))
    (hassign : ∀ (l : Nat) (pre : List α) (x : α) (W : World) (K : Act → World → Prop), w.heap.size + 1 < W.heap.size → I pre W → Nx pre x → (∀ a' W', KeepsFrom w.heap.size W W' → Kp W W' → I pre W' → Ax x a' W' → K a' W') →
      assign.wpIn (F.inRound l) (n - 1 - 1) P (Exit.then K (fun _ _ _ => False)) { tmps := (ps.zip (encs x)).foldl (fun t (p, v) => t.setIfInBounds p v) a.tmps, defers := [] } W)
    (hbody : ∀ (l : Nat) (pre : List α) (x : α) (a' : Act) (W : World), w.heap.size + 1 < W.heap.size → I pre W → Ax x a' W → Nx pre x → body.wpIn (F.inRound l) (n - 1 - 1) P (ownPostG w.heap.size Kp I Ix (pre ++ [x]) W) a' W)
    (hdone : ∀ (D : Nat) (xs : List α) (W : World), w.heap.size ≤ D → S xs → I xs W → W.heap[D]? = some (.deferred (some [])) → Q .normal { a with defers := { target := .collected D, args := #[] } :: a.defers } W)
    (hstop : ∀ (D : Nat) (c : Code) (pre : List α) (W : World), w.heap.size ≤ D → Sp pre → Ix c pre W → W.heap[D]? = some (.deferred (some [])) → c.wpIn F n P Q { a with defers := { target := .collected D, args := #[] } :: a.defers } W) :
    (Code.rangeFunc g ps assign body).wpIn F n P Q a w := by
  refine wpIn_rangeFunc ?_
  intro fn hfn
  rw [hro]
  obtain ⟨rec, hrec⟩ : ∃ rec : LoopState → Option Code → Loop, rec = fun st pe => { state := st, pending := pe, fn, tmps := a.tmps, params := ps, assign, body, defers := w.heap.size } := ⟨_, rfl⟩
  have hseq' := hseq (.loop (rec .ready none))
  obtain ⟨W1, hW1⟩ : ∃ W1, (w.alloc (.deferred (some []))).alloc (.loop (rec .ready none)) = W1 := ⟨_, rfl⟩
  have hL1 : W1.heap[w.heap.size + 1]? = some (.loop (rec .ready none)) := by
    rw [← hW1]; have := World.alloc_heap_new (w.alloc (.deferred (some []))) (.loop (rec .ready none)); rwa [World.size_alloc] at this
  have hK1 : W1.heap[w.heap.size]? = some (.deferred (some [])) := by
    rw [← hW1]; exact (Below.heap_alloc _ _ _ (by simp)).trans (World.alloc_heap_new w _)
  have hI1 : I [] W1 := by rw [← hW1]; exact hI _ _ _ (hI _ _ _ h0 (Stp.alloc (Nat.le_refl _) _)) (Stp.alloc (by simp) _)
  rw [hW1] at hseq'
  refine ⟨w.heap.size + 1, [{ target := .collected w.heap.size, args := #[] }], W1, { target := .fn (.func gf) lb, args := #[.func (.yield (w.heap.size + 1)) #[] #[]] }, W1, gf,
    #[.func (.yield (w.heap.size + 1)) #[] #[]] ++ lb, W1, ?_, ?_, ?_, ?_, fun _ => h1, ?_⟩
  · rw [← hW1, hrec]; exact run_enterLoop_outer _ _ _ _ _
  · simp only [resolve, hg]
    simp [go_sem]
  · intro f' hf'; simp [Target.leads] at hf'; subst hf'; exact hFg
  · simp [invoke, go_sem, eg]
  · refine (hseq' (w.heap.size + 1)
      (fun pre W => I pre W ∧ W.heap[w.heap.size + 1]? = some (.loop (rec .ready none)) ∧ W.heap[w.heap.size]? = some (.deferred (some [])))
      (fun pre W => ∃ c, Ix c pre W ∧ W.heap[w.heap.size + 1]? = some (.loop (rec .done (some c))) ∧ W.heap[w.heap.size]? = some (.deferred (some [])))
      (fun s A C hs ht => by
        have hlt := (Array.getElem?_eq_some_iff.1 hs.2.1).1
        exact ⟨hI s A C hs.1 (Stp.of_itr ht (by omega)), (ht.block _ hlt (by omega)).trans hs.2.1, (ht.block _ (by omega) (by omega)).trans hs.2.2⟩)
      (fun s A C hs ht => by
        obtain ⟨c, hc, hl, hk⟩ := hs
        have hlt := (Array.getElem?_eq_some_iff.1 hl).1
        exact ⟨c, hIx c s A C hc (Stp.of_itr ht (by omega)), (ht.block _ hlt (by omega)).trans hl, (ht.block _ (by omega) (by omega)).trans hk⟩)
      ?_ ⟨hI1, hL1, hK1⟩).mono ?_
    · rintro pre x W ⟨hi, hl, hk⟩ hnx
      have hlt : w.heap.size + 1 < W.heap.size := (Array.getElem?_eq_some_iff.1 hl).1
      have hy := run_yield (P := P) (args := encs x) hl (by rw [hrec]; exact hps x)
      rw [hrec] at hy
      refine ⟨fn, _, assign, body, hy, roundIn_of_wpIn hfn (hassign _ pre x W _ hlt hi hnx ?_)⟩
      clear hy
      intro a' Wa hkfa hkpa hia hax
      replace hl := hkfa.same _ _ (by omega) hl rfl
      replace hk := hkfa.same _ _ (Nat.le_refl _) hk rfl
      replace hlt : w.heap.size + 1 < Wa.heap.size := (Array.getElem?_eq_some_iff.1 hl).1
      replace hi := hia
      clear hia
      revert hkpa hkfa
      generalize W = Wb
      intro hkfa hkpa
      obtain ⟨W, rfl⟩ : ∃ W, W = Wa := ⟨_, rfl⟩
      refine ⟨_, run_beginRound hl (by rw [hrec]), ?_⟩
      have hl2 : (W.putObj (w.heap.size + 1) (.loop { rec .ready none with state := .busy })).heap[w.heap.size + 1]? = some (.loop { rec .ready none with state := .busy }) := World.putObj_heap_same hlt
      have hk2 : (W.putObj (w.heap.size + 1) (.loop { rec .ready none with state := .busy })).heap[w.heap.size]? = some (.deferred (some [])) := (World.putObj_heap_other (by omega)).trans hk
      have hw2 : Kp W (W.putObj (w.heap.size + 1) (.loop { rec .ready none with state := .busy })) := hKb _ _ _ (by omega)
      refine wpIn_mono (hbody _ pre x a' _ (by rw [World.putObj_size]; exact hlt) (hI _ _ _ hi (Stp.putObj (by omega) _)) (hAx x a' _ _ _ hax hl) hnx) ?_
      have fin : ∀ (jump : Option Code) (W3 : World), KeepsFrom w.heap.size (W.putObj (w.heap.size + 1) (.loop { rec .ready none with state := .busy })) W3 →
          (Instr.endRound (w.heap.size + 1) jump).run P W3 = .ok (.bool jump.isNone) (W3.putObj (w.heap.size + 1) (.loop (rec (if jump.isNone then .ready else .done) jump))) ∧
          W3.heap[w.heap.size + 1]? = some (.loop { rec .ready none with state := .busy }) ∧
          (W3.putObj (w.heap.size + 1) (.loop (rec (if jump.isNone then .ready else .done) jump))).heap[w.heap.size + 1]? = some (.loop (rec (if jump.isNone then .ready else .done) jump)) ∧
          (W3.putObj (w.heap.size + 1) (.loop (rec (if jump.isNone then .ready else .done) jump))).heap[w.heap.size]? = some (.deferred (some [])) := fun jump W3 hk3 => by
        have hl3 := hk3.same _ _ (by omega) hl2 rfl
        have := run_endRound (P := P) jump hl3
        rw [hrec] at this ⊢
        exact ⟨this, by rw [hrec] at hl3; exact hl3, World.putObj_heap_same (Array.getElem?_eq_some_iff.1 hl3).1, (World.putObj_heap_other (by omega)).trans (hk3.same _ _ (Nat.le_refl _) hk2 rfl)⟩
      rintro e a3 W3 hp
      cases e with
      | normal =>
        obtain ⟨hk3, hkp3, hi3⟩ := hp
        obtain ⟨hr, hl3, hl4, hk4⟩ := fin none W3 hk3
        exact ⟨_, _, hr, .inl ⟨rfl, ⟨hI _ _ _ hi3 (Stp.putObj (by omega) _), hl4, hk4⟩, hKt hkpa (hKt (hKt hw2 hkp3) (hKb _ _ _ (by omega)))⟩⟩
      | ret =>
        obtain ⟨hk3, hi3⟩ := hp
        obtain ⟨hr, hl3, hl4, hk4⟩ := fin (some .ret) W3 hk3
        exact ⟨_, _, hr, .inr ⟨rfl, .ret, hIx _ _ _ _ hi3 (Stp.putObj (by omega) _), hl4, hk4⟩⟩
      | exit id =>
        obtain ⟨hk3, hi3⟩ := hp
        obtain ⟨hr, hl3, hl4, hk4⟩ := fin (some (.exit id)) W3 hk3
        exact ⟨_, _, hr, .inr ⟨rfl, .exit id, hIx _ _ _ _ hi3 (Stp.putObj (by omega) _), hl4, hk4⟩⟩
      | goto t =>
        obtain ⟨hk3, hi3⟩ := hp
        obtain ⟨hr, hl3, hl4, hk4⟩ := fin (some (.goto t)) W3 hk3
        exact ⟨_, _, hr, .inr ⟨rfl, .goto t, hIx _ _ _ _ hi3 (Stp.putObj (by omega) _), hl4, hk4⟩⟩
      | panic ch => exact hp.elim
      | outgrown => exact hp.elim
    · rintro e W2 ⟨⟨v, rfl⟩, (⟨xs, hS, hi, hl, hk⟩ | ⟨pre, hSp, c, hi, hl, hk⟩)⟩
      · exact ⟨none, _, by have := run_endLoop (P := P) hl (by rw [hrec]; simp); rw [hrec] at this; exact this, hdone _ xs _ (Nat.le_refl _) hS (hI _ _ _ hi (Stp.putObj (by omega) _)) ((World.putObj_heap_other (by omega)).trans hk)⟩
      · exact ⟨some c, _, by have := run_endLoop (P := P) hl (by rw [hrec]; simp); rw [hrec] at this; exact this, hstop _ c pre _ (Nat.le_refl _) hSp (hIx _ _ _ _ hi (Stp.putObj (by omega) _)) ((World.putObj_heap_other (by omega)).trans hk)⟩
end Go.Proofs.YtiabfngiibabcaaGreatDoor

set_option linter.unusedVariables false
set_option linter.unusedSimpArgs false
set_option maxHeartbeats 6400000
set_option maxRecDepth 100000
namespace Go.Proofs.YtiabfngiibabcaaGreatDoor
open Go Go.RowKit

theorem part_lh (dk o L c l n : Nat) (lI hI : Int) (hl : lI = l) (hh : hI = (l : Int) + n) (h2 : l + n ≤ c) :
    ∃ o', (∀ W, (Instr.slice 85 (.slice (some ⟨dk, o, none⟩) L c) (some (.int .i64 lI)) (some (.int .i64 hI)) none).run Tryz.prog W = .ok (.slice (some ⟨dk, o', none⟩) n (c - l)) W) ∧
      ∀ (W : World) (bs m : List UInt8), BytesAt W (some ⟨dk, o, none⟩) bs → (bs.drop l).take n = m → m.length = n → BytesAt W (some ⟨dk, o', none⟩) m := by
  subst hl hh
  by_cases hc : l = c
  · refine ⟨o, fun W => ?_, fun W bs m hB hm hn h0 => by omega⟩
    rw [Go.run_slice_lh (P := Tryz.prog) (w := W) _ _ _ _ (by kernel_rfl) .i64 .i64 (l : Int) ((l : Int) + n) (by omega) (by omega) (by omega)]
    rw [show (Tryz.prog).elem 85 = 5 by kernel_rfl, size_u8]
    simp [Result.andThen, sliced, hc, add_plain']
    omega
  · exact ⟨o + l, fun W => slice_u8_lh W dk o L c l n _ rfl h2 hc, fun W bs m hB hm hn => hB.part hm⟩
theorem part_l (dk o L c l : Nat) (lI : Int) (hl : lI = l) (h2 : l ≤ L) (h3 : L ≤ c) :
    ∃ o', (∀ W, (Instr.slice 85 (.slice (some ⟨dk, o, none⟩) L c) (some (.int .i64 lI)) none none).run Tryz.prog W = .ok (.slice (some ⟨dk, o', none⟩) (L - l) (c - l)) W) ∧
      ∀ (W : World) (bs m : List UInt8), BytesAt W (some ⟨dk, o, none⟩) bs → bs.drop l = m → m.length = L - l → BytesAt W (some ⟨dk, o', none⟩) m := by
  subst hl
  by_cases hc : l = c
  · refine ⟨o, fun W => ?_, fun W bs m hB hm hn h0 => by omega⟩
    rw [Go.run_slice_l (P := Tryz.prog) (w := W) _ _ _ _ (by kernel_rfl) .i64 (l : Int) (by omega) (by omega)]
    rw [show (Tryz.prog).elem 85 = 5 by kernel_rfl, size_u8]
    simp [Result.andThen, sliced, hc, add_plain']
  · exact ⟨o + l, fun W => slice_u8_l W dk o L c l h2 hc, fun W bs m hB hm hn => hB.part (n := bs.length) (by rw [← hm, List.take_of_length_le (by simp)])⟩
theorem Itr.setCell {bb : Nat} (A : World) (i : Nat) (v : Value) : Itr bb A (A.setCell ⟨bb, i, none⟩ v) := ⟨rfl, rfl, rfl, by simp [World.setCell], fun k hk hn => Below.heap_setCell A _ v k hn⟩
def framesB (bs : List (List Wr)) : List UInt8 := (bs.map frameB).flatten
theorem framesB_cons (b : List Wr) (bs : List (List Wr)) : framesB (b :: bs) = frameB b ++ framesB bs := rfl
theorem bodyB_cons (x : Wr) (b : List Wr) : bodyB (x :: b) = wrB x ++ bodyB b := rfl
def wEnc (x : Wr) : Array Value := #[.agg #[.string (S x.key), .string (S x.val), .bool x.gone], .bool true]
def WKp (bb dk : Nat) (A C : World) : Prop := A.heap.size ≤ C.heap.size ∧ C.heap[bb]? = A.heap[bb]? ∧ C.heap[dk]? = A.heap[dk]?
def sliceLen (v : Value) : Nat := match v with
  | .slice _ n _ => n
  | _ => 0
/-- What the iterator keeps: its box, and the bytes that are left. -/
structure Left (bb dk : Nat) (wr : World) (A : Option Addr) (c : Nat) (l : List UInt8) : Prop where
  box : Blk wr bb 85 #[.slice A l.length c]
  at_ : BytesAt wr A l
  in_ : ∀ p, A = some p → p.block = dk
  cap : l.length ≤ c ∧ c ≤ 9223372036854775807
  len : l.length ≤ 100000000
theorem BytesAt.of_heap {w w' : World} {A : Option Addr} {l : List UInt8} {dk : Nat} (h : BytesAt w A l) (hA : ∀ p, A = some p → p.block = dk) (hk : w'.heap[dk]? = w.heap[dk]?) (hs : w.heap.size ≤ w'.heap.size) : BytesAt w' A l := fun h0 => by
  obtain ⟨b, off, rfl, hlt, hc⟩ := h h0
  have hb : b = dk := hA _ rfl
  subst hb
  exact ⟨b, off, rfl, by omega, fun i hi => (World.cell?_of_block (a := ⟨b, off + i, none⟩) hk).trans (hc i hi)⟩
theorem Left.keep {bb dk : Nat} {w w' : World} {A : Option Addr} {c : Nat} {l : List UInt8} (h : Left bb dk w A c l) (hs : w.heap.size ≤ w'.heap.size) (hb : w'.heap[bb]? = w.heap[bb]?) (hd : w'.heap[dk]? = w.heap[dk]?) : Left bb dk w' A c l :=
  ⟨hb.trans h.box, h.at_.of_heap h.in_ hd hs, h.in_, h.cap, h.len⟩
theorem kv_writes1 (bb dk c : Nat) (A : Option Addr) (bs : List (List Wr)) (W : World) (hL : Left bb dk W A c (framesB bs)) (hne : dk ≠ bb) (hdk : dk < W.heap.size) (hk : ∀ x ∈ bs.flatten, 1 ≤ x.key.length ∧ x.key.length < 65536) (n : Nat) :
    SeqRun Fence.wide n Tryz.prog 189 #[.pointer (some ⟨bb, 0, none⟩)] wEnc bb (WKp bb dk) (fun xs => xs = bs.flatten) (fun pre => True) (fun pre x => bs.flatten[pre.length]? = some x) W := by
  intro l J Jx hJ hJx hY h0
  have HL := hid hL
  have HJ := hid hJ
  have HJx := hid hJx
  have HYH := hid hY
  have HJ0 := hid h0
  have HK := hid hk
  clear hL hJ hJx hY h0 hk
  refine callsIn_of_wp Tryz.func189 rfl trivial ?_ rfl
  simp only [Tryz.ntmps189, List.size_toArray, List.length_cons, List.length_nil, Nat.reduceAdd, Nat.reduceSub, Array.replicate_succ, Array.replicate_zero, List.push_toArray, List.append_toArray, List.nil_append, List.cons_append]
  gi_wp2
  gi_loopw [3, 4, 5] (fun _ _ _ wr => ∃ (done rest : List (List Wr)) (A' : Option Addr) (c' : Nat), Hid (bs = done ++ rest) ∧ Hid (Left bb dk wr A' c' (framesB rest)) ∧ Hid (J done.flatten wr) ∧ dk < wr.heap.size) (fun _ _ _ wr => sliceLen ((wr.cell? ⟨bb, 0, none⟩).getD .nilFunc))
  case atStart => exact ⟨[], bs, A, c, rfl, HL, HJ0, hdk⟩
  case round =>
    obtain ⟨done, rest, A', c', hbs, hl, hj, hdw⟩ := hrel
    have hc0 := hl.out.box.cell 0
    simp only [List.getElem?_toArray, List.getElem?_cons_zero] at hc0
    cases rest with
    | nil =>
      have hc1 : wr.cell? ⟨bb, 0, none⟩ = some (.slice A' 0 c') := hc0
      clear hc0
      gi_wp2
      go_end0
      refine ⟨⟨_, rfl⟩, .inl ⟨done.flatten, ?_, hj.out⟩⟩
      rw [hbs.out]
      simp
    | cons b rest =>
      have hlen : (framesB (b :: rest)).length = 4 + (bodyB b).length + (framesB rest).length := by rw [framesB_cons, List.length_append, frameB_len]
      have hcap := hl.out.cap
      have hlen0 := hl.out.len
      obtain ⟨dk', o, rfl, hdlt, hcells⟩ := hl.out.at_ (by omega)
      have hdk' : dk' = dk := hl.out.in_ _ rfl
      subst hdk'
      clear hcells
      have hbl : numL (lowB (bodyB b).length 4) = (bodyB b).length := lowB_numL _ 4 (by omega)
      have f4 : ((framesB (b :: rest)).drop 0).take 4 = lowB (bodyB b).length 4 := mid' (a := []) (r := bodyB b ++ framesB rest) (by simp [framesB_cons, frameB]) rfl (by rw [lowB_len])
      have N4 := hid (fun (wx : World) (hh : BytesAt wx (some ⟨dk', o, none⟩) (framesB (b :: rest))) => by
        have := kv_number wx (some ⟨dk', o, none⟩) (lowB (bodyB b).length 4) c' (by simpa using hh.part f4) (by rw [lowB_len]; omega)
        rw [hbl, lowB_len] at this
        exact this)
      obtain ⟨o3, s3, p3⟩ := part_lh dk' o (framesB (b :: rest)).length c' 4 (bodyB b).length 4 (4 + (bodyB b).length) rfl rfl (by omega)
      obtain ⟨o4, s4, p4⟩ := part_l dk' o (framesB (b :: rest)).length c' (4 + (bodyB b).length) (4 + (bodyB b).length) (by omega) (by omega) (by omega)
      have P3 := hid (fun W h => p3 W (framesB (b :: rest)) (bodyB b) h (mid' (a := lowB (bodyB b).length 4) (r := framesB rest) (by simp [framesB_cons, frameB]) (by rw [lowB_len]) rfl) rfl)
      have P4 := hid (fun W h => p4 W (framesB (b :: rest)) (framesB rest) h (by
        rw [framesB_cons, frameB]
        exact List.drop_left' (by rw [List.length_append, lowB_len])) (by omega))
      have hdiff : (framesB (b :: rest)).length - (4 + (bodyB b).length) = (framesB rest).length := by omega
      rw [hdiff] at s4
      have HAT := hid hl.out.at_
      have HBX := hid hl.out.box
      have HBS := hid (show bs = (done ++ [b]) ++ rest by rw [hbs.out]; simp)
      have hmem : ∀ x ∈ b, x ∈ bs.flatten := fun x hx => by
        rw [hbs.out]
        exact List.mem_flatten.2 ⟨b, by simp, hx⟩
      have HKB := hid (fun x hx => HK.out x (hmem x hx))
      have HNX := hid (show ∀ i, (h : i < b.length) → bs.flatten[(done.flatten ++ b.take i).length]? = some b[i] from fun i h => by
        rw [hbs.out, List.flatten_append, List.flatten_cons, List.length_append, List.length_take, Nat.min_eq_left (by omega), List.getElem?_append_right (by omega)]
        simp [List.getElem?_append_left h, h])
      have HDF := hid (show (done ++ [b]).flatten = done.flatten ++ b by simp)
      have hc1 : wr.cell? ⟨bb, 0, none⟩ = some (.slice (some ⟨dk', o, none⟩) (framesB (b :: rest)).length c') := hc0
      have hfz := HBX.out.frozen 0
      have hL4 : 4 + (bodyB b).length ≤ (framesB (b :: rest)).length := by omega
      have hLb : (framesB (b :: rest)).length ≤ 100000000 := by omega
      have HR := hid (show (framesB rest).length + 4 + (bodyB b).length = (framesB (b :: rest)).length by omega)
      clear hc0 hl hlen hbl f4 p3 p4 hdiff hmem hbs
      generalize hLL : framesB (b :: rest) = lw at *
      clear hLL
      generalize hbl : (bodyB b).length = bl at *
      have HBL := hid hbl
      clear hbl
      generalize lw.length = L at *
      have d1 : decide ((L : Int) < 4) = false := by simp; omega
      have d2 : decide ((L : Int) - 4 < (bl : Int)) = false := by simp; omega
      have d0 : decide ((0 : Int) < (L : Int)) = true := by simp; omega
      have w1 : IntKind.i64.wrap ((L : Int) - 4) = (L : Int) - 4 := IntWalk.i64_in _ (by omega)
      have w2 : IntKind.i64.wrap (4 + (bl : Int)) = 4 + (bl : Int) := IntWalk.i64_in _ (by omega)
      have HATwr := HAT
      have HBXwr := HBX
      have hcwr := hc1
      have hfwr := hfz
      have hdwr := hdw
      have HM := hid (show sliceLen ((wr.cell? ⟨bb, 0, none⟩).getD .nilFunc) = L by rw [hc1]; rfl)
      clear hc1 hfz hdw HAT HBX
      have q4 : (4 : Int) ≤ c' := by omega
      gi_wp2
      refine wpIn_region_quiet_lit rfl (by kernel_rfl) (by kernel_rfl) ?_
      repeat (quiet_step_in (fail))
      refine wpQuietIn_step (by intro w _ f hf; trivial) (fun K hK => ?_)
      go_simp
      apply Exists.intro
      refine ⟨fun _ => ?_, hK _ ?_⟩
      · exact ⟨fun h => by simp [Fence.wide] at h, CallsIn.quiet_of_same (callsIn_wide.2 (N4.out _ HATwr.out))⟩
      clear hK K
      repeat (quiet_step_in (fail))
      refine wpQuietIn_nil ?_
      intro _ hw'
      obtain ⟨nqa, hw''⟩ := hw'
      subst hw''
      have HATv1 := hid (show BytesAt (wr.drewN nqa) (some ⟨dk', o, none⟩) lw from HATwr.out)
      have HBXv1 := hid (show Blk (wr.drewN nqa) bb 85 #[.slice (some ⟨dk', o, none⟩) L c'] from HBXwr.out)
      have hcv1 : (wr.drewN nqa).cell? ⟨bb, 0, none⟩ = some (.slice (some ⟨dk', o, none⟩) L c') := HBXv1.out.cell 0
      have hfv1 : (wr.drewN nqa).frozen? ⟨bb, 0, none⟩ = false := HBXv1.out.frozen 0
      have HJv1 := hid (HJ.out _ _ _ hj.out (Itr.of_below (below_drewN (Below.refl _ _) nqa)))
      have hdv1 : dk' < (wr.drewN nqa).heap.size := hdwr
      clear hcwr hfwr
      generalize wr.drewN nqa = v1 at *
      gi_wp2
      refine wpIn_region_quiet_lit rfl (by kernel_rfl) (by kernel_rfl) ?_
      repeat (quiet_step_in (fail))
      refine wpQuietIn_step (by intro w _ f hf; trivial) (fun K hK => ?_)
      go_simp
      apply Exists.intro
      refine ⟨fun _ => ?_, hK _ ?_⟩
      · exact ⟨fun h => by simp [Fence.wide] at h, CallsIn.quiet_of_same (callsIn_wide.2 (N4.out _ HATv1.out))⟩
      clear hK K
      repeat (quiet_step_in (fail))
      refine wpQuietIn_nil ?_
      intro _ hw'
      obtain ⟨nqb, hw''⟩ := hw'
      subst hw''
      have HATv2 := hid (show BytesAt (v1.drewN nqb) (some ⟨dk', o, none⟩) lw from HATv1.out)
      have HBXv2 := hid (show Blk (v1.drewN nqb) bb 85 #[.slice (some ⟨dk', o, none⟩) L c'] from HBXv1.out)
      have hcv2 : (v1.drewN nqb).cell? ⟨bb, 0, none⟩ = some (.slice (some ⟨dk', o, none⟩) L c') := HBXv2.out.cell 0
      have hfv2 : (v1.drewN nqb).frozen? ⟨bb, 0, none⟩ = false := HBXv2.out.frozen 0
      have HJv2 := hid (HJ.out _ _ _ HJv1.out (Itr.of_below (below_drewN (Below.refl _ _) nqb)))
      have hdv2 : dk' < (v1.drewN nqb).heap.size := hdv1
      clear hcv1 hfv1
      generalize v1.drewN nqb = v2 at *
      gi_wp2
      have hb3 : (v2.setCell ⟨bb, 0, none⟩ (.slice (some ⟨dk', o4, none⟩) (framesB rest).length (c' - (4 + bl)))).heap[dk']? = v2.heap[dk']? := Below.heap_setCell _ _ _ _ hne
      have hs3 : (v2.setCell ⟨bb, 0, none⟩ (.slice (some ⟨dk', o4, none⟩) (framesB rest).length (c' - (4 + bl)))).heap.size = v2.heap.size := by simp [World.setCell]
      have hA3 : BytesAt (v2.setCell ⟨bb, 0, none⟩ (.slice (some ⟨dk', o4, none⟩) (framesB rest).length (c' - (4 + bl)))) (some ⟨dk', o, none⟩) lw := HATv2.out.of_heap (fun p hp => by injection hp with hp; rw [← hp]) hb3 (by omega)
      have HL3 : Hid (Left bb dk' (v2.setCell ⟨bb, 0, none⟩ (.slice (some ⟨dk', o4, none⟩) (framesB rest).length (c' - (4 + bl)))) (some ⟨dk', o4, none⟩) (c' - (4 + bl)) (framesB rest)) := ⟨by simpa using HBXv2.out.set_ 0 (.slice (some ⟨dk', o4, none⟩) (framesB rest).length (c' - (4 + bl))), P4.out _ hA3, fun p hp => by injection hp with hp; rw [← hp], by have := HR.out; omega, by have := HR.out; omega⟩
      have HO3 := hid (P3.out _ hA3)
      have HJ3 := hid (HJ.out _ _ _ HJv2.out (Itr.setCell v2 0 (.slice (some ⟨dk', o4, none⟩) (framesB rest).length (c' - (4 + bl)))))
      have hd3 : dk' < (v2.setCell ⟨bb, 0, none⟩ (.slice (some ⟨dk', o4, none⟩) (framesB rest).length (c' - (4 + bl)))).heap.size := by omega
      clear hb3 hs3 hA3 hcv2 hfv2
      generalize v2.setCell ⟨bb, 0, none⟩ (.slice (some ⟨dk', o4, none⟩) (framesB rest).length (c' - (4 + bl))) = v3 at *
      have HCB := hid hcap
      gi_loopw [3, 4, 5] (fun own _ _ wx => ∃ (i o5 c5 : Nat), i ≤ b.length ∧ own = .slice (some ⟨dk', o5, none⟩) (bodyB (b.drop i)).length c5 ∧ Hid (BytesAt wx (some ⟨dk', o5, none⟩) (bodyB (b.drop i))) ∧ Hid (((bodyB (b.drop i)).length ≤ c5 ∧ c5 ≤ 9223372036854775807) ∧ (bodyB (b.drop i)).length ≤ 100000000) ∧ Hid (Left bb dk' wx (some ⟨dk', o4, none⟩) (c' - (4 + bl)) (framesB rest)) ∧ Hid (J (done.flatten ++ b.take i) wx) ∧ dk' < wx.heap.size) (fun own _ _ _ => sliceLen own)
      case atStart => exact ⟨0, o3, c' - 4, Nat.zero_le _, by rw [List.drop_zero, HBL.out], HO3, by rw [Hid, List.drop_zero, HBL.out]; have := HCB.out; omega, HL3, by rw [List.take_zero, List.append_nil]; exact HJ3, hd3⟩
      case round =>
        obtain ⟨i, o5, c5, hi, rfl, hat, hcp, hlf, hjj, hdx⟩ := hrel
        by_cases hlt : i < b.length
        · have hdrop : b.drop i = b[i] :: b.drop (i + 1) := List.drop_eq_getElem_cons hlt
          have hbd : bodyB (b.drop i) = wrB b[i] ++ bodyB (b.drop (i + 1)) := by rw [hdrop, bodyB_cons]
          have hkk := HKB.out b[i] (List.getElem_mem hlt)
          have hnx := HNX.out i hlt
          have htk : done.flatten ++ b.take (i + 1) = (done.flatten ++ b.take i) ++ [b[i]] := by rw [List.take_succ_eq_append_getElem hlt, List.append_assoc]
          rw [hbd] at hat hcp ⊢
          have hwl := wrB_len b[i]
          have hll : (wrB b[i] ++ bodyB (b.drop (i + 1))).length = (wrB b[i]).length + (bodyB (b.drop (i + 1))).length := List.length_append
          have hcq := hcp.out
          have WR := hid (kv_write wr dk' o5 c5 b[i] (bodyB (b.drop (i + 1))) hat.out hcq.1.1 (by omega) hkk.1 hkk.2 (by omega) (by omega))
          obtain ⟨o6, s6, p6⟩ := part_l dk' o5 (wrB b[i] ++ bodyB (b.drop (i + 1))).length c5 (wrB b[i]).length (wrB b[i]).length rfl (by omega) hcq.1.1
          have hsub : (wrB b[i] ++ bodyB (b.drop (i + 1))).length - (wrB b[i]).length = (bodyB (b.drop (i + 1))).length := by omega
          rw [hsub] at s6
          have P6 := hid (fun (W : World) (hh : BytesAt W (some ⟨dk', o5, none⟩) (wrB b[i] ++ bodyB (b.drop (i + 1)))) => p6 W (wrB b[i] ++ bodyB (b.drop (i + 1))) (bodyB (b.drop (i + 1))) hh List.drop_left (by omega))
          have HAT5 := hid hat.out
          have HTK := hid htk
          have HNX5 := hid hnx
          have HC5 := hid (show ((bodyB (b.drop (i + 1))).length ≤ c5 - (wrB b[i]).length ∧ c5 - (wrB b[i]).length ≤ 9223372036854775807) ∧ (bodyB (b.drop (i + 1))).length ≤ 100000000 by omega)
          have hw0 : 0 < (wrB b[i]).length := by omega
          have HW8 := hid (show (bodyB (b.drop (i + 1))).length < (wrB b[i] ++ bodyB (b.drop (i + 1))).length by omega)
          have hM0 : 0 < (wrB b[i] ++ bodyB (b.drop (i + 1))).length := by omega
          clear p6 hsub hcq hll hwl htk hnx hkk hdrop hbd hat hcp
          generalize hxl : wrB b[i] ++ bodyB (b.drop (i + 1)) = lx at *
          clear hxl
          generalize (wrB b[i]).length = wl at *
          generalize hbx : b[i] = x at *
          clear hbx
          generalize lx.length = M at *
          obtain ⟨xk, xv, xg⟩ := x
          simp only [] at *
          have hfw : Fence.wide.fn 191 := trivial
          have hfd : Fence.wide.depth.isSome = false := rfl
          gi_wp2_with (gi_at_call 191; refine (callsIn_wide.2 WR.out).mono ?_; rintro e w5 ⟨rfl, hb5⟩; (have HB5 := hid hb5); (have HJ5 := HJ.out _ _ (w5.alloc (.cells #[.string (S xk), .string (S xv), .bool xg] 104)) hjj.out ((Itr.of_below hb5).trans (Itr.of_below ((Below.refl _ _).alloc (Nat.le_refl _) _)))); (obtain ⟨fn, tmps, assign, body, hy, hR⟩ := HYH.out _ ⟨xk, xv, xg⟩ _ HJ5 HNX5.out); (dsimp only [wEnc] at hy); (have HRR := hid hR); clear hb5 HJ5 hR)
          refine HRR.out.mono ?_
          rintro e W' (⟨rfl, hJ', hk⟩ | ⟨rfl, hJx'⟩)
          · have hwz : ((wl : Int) == 0) = false := by rw [beq_eq_false_iff_ne]; omega
            have hsz : w5.heap.size + 1 ≤ W'.heap.size := by have := hk.1; simpa using this
            have hbl : bb < wr.heap.size := hlf.out.box.lt
            have e1 : W'.heap[bb]? = wr.heap[bb]? := hk.2.1.trans ((Below.heap_alloc _ _ _ (by have := HB5.out.size; omega)).trans (HB5.out.block _ hbl))
            have e2 : W'.heap[dk']? = wr.heap[dk']? := hk.2.2.trans ((Below.heap_alloc _ _ _ (by have := HB5.out.size; omega)).trans (HB5.out.block _ hdx))
            have hs5 : wr.heap.size ≤ W'.heap.size := by have := HB5.out.size; omega
            have HLF := hid (hlf.out.keep hs5 e1 e2)
            have HA6 := hid (P6.out W' (HAT5.out.of_heap (fun p hp => by injection hp with hp; rw [← hp]) e2 hs5))
            have HJ6 := hid hJ'
            have hd6 : dk' < W'.heap.size := by omega
            clear hk e1 e2 hJ' hs5 hsz hlf hjj
            gi_wp2
            go_roundw
            case rel => exact ⟨i + 1, o6, c5 - wl, by omega, rfl, HA6, HC5, HLF, by rw [HTK.out]; exact HJ6, hd6⟩
            case measure => exact HW8.out
          · have HJ6 := hid hJx'
            clear hJx'
            gi_wp2
            refine bodyPost_ret (results_none rfl _ _ _) rfl ?_
            exact ⟨⟨_, rfl⟩, .inr ⟨_, trivial, HJ6.out⟩⟩
        · have hib : i = b.length := by omega
          subst hib
          have h0 : bodyB (b.drop b.length) = [] := by rw [List.drop_length]; rfl
          rw [h0] at hat hcp ⊢
          have HJ7 := hid (show J (done ++ [b]).flatten wr by rw [HDF.out, ← List.take_length (l := b)]; simpa using hjj.out)
          have HM7 := hid (show sliceLen ((wr.cell? ⟨bb, 0, none⟩).getD .nilFunc) = (framesB rest).length by rw [hlf.out.box.cell 0]; rfl)
          gi_wp2
          go_roundw
          case rel => exact ⟨done ++ [b], rest, some ⟨dk', o4, none⟩, c' - (4 + bl), HBS, hlf, HJ7, hdx⟩
          case measure => rw [HM7.out, HM.out]; have := HR.out; omega
end Go.Proofs.YtiabfngiibabcaaGreatDoor

set_option linter.unusedVariables false
namespace Go.Proofs.YtiabfngiibabcaaGreatDoor
open Go Go.RowKit

/-- What the caller's invariant abides: a turn of block bb, and of the loop's own two. -/
structure Stq (B bb : Nat) (A C : World) : Prop where
  os : C.os = A.os
  tape : C.tape = A.tape
  output : C.output = A.output
  size : A.heap.size ≤ C.heap.size
  block : ∀ k, k < A.heap.size → k ≠ bb → k ≠ B + 1 → C.heap[k]? = A.heap[k]?
theorem Stq.alloc {B bb : Nat} {A : World} (o : Obj) : Stq B bb A (A.alloc o) := ⟨rfl, rfl, rfl, by simp, fun k hk _ _ => Below.heap_alloc A o k hk⟩
theorem Stq.putObj {B bb : Nat} {A : World} (o : Obj) : Stq B bb A (A.putObj (B + 1) o) := ⟨rfl, rfl, rfl, by simp, fun k hk _ hn => World.putObj_heap_other hn⟩
theorem Stq.of_itr {B bb : Nat} {A C : World} (h : Itr bb A C) : Stq B bb A C := ⟨h.os, h.tape, h.output, h.size, fun k hk hn _ => h.block k hk hn⟩

variable {F : Fence} {n : Nat} {P : Program}
theorem wpIn_rangeFunc_runq {α : Type} {g : Operand} {ps : Array Tmp} {assign body : Code} {Q : Exit → Act → World → Prop} {a : Act} {w : World}
    (hro : F.round = none) (h1 : 1 ≤ n) {gf : Nat} {lb : Array Value} (hg : a.eval g = .func (.func gf) #[] lb) (hFg : F.fn gf) (eg : ∀ args w, (callFunc gf args).run P w = .ok (.enter gf args) w)
    {encs : α → Array Value} {bb : Nat} {Kp : World → World → Prop} {S Sp : List α → Prop} {Nx : List α → α → Prop} (hbb : bb < w.heap.size) (hseq : ∀ o, SeqRun F (n - 1) P gf lb encs bb Kp S Sp Nx ((w.alloc (.deferred (some []))).alloc o))
    (hKt : ∀ {A B C : World}, Kp A B → Kp B C → Kp A C) (hKb : ∀ (W : World) (l : Nat) (o' : Obj), w.heap.size ≤ l → Kp W (W.putObj l o')) (hps : ∀ x, (encs x).size = ps.size)
    (I : List α → World → Prop) (Ix : Code → List α → World → Prop) (hI : ∀ p A C, I p A → Stq w.heap.size bb A C → I p C) (hIx : ∀ c p A C, Ix c p A → Stq w.heap.size bb A C → Ix c p C) (h0 : I [] w) (Ax : α → Act → World → Prop)
    (hAx : ∀ x a' A r o', Ax x a' A → A.heap[w.heap.size + 1]? = some (.loop r) → Ax x a' (A.putObj (w.heap.size + 1) o'))
    (hassign : ∀ (l : Nat) (pre : List α) (x : α) (W : World) (K : Act → World → Prop), w.heap.size + 1 < W.heap.size → I pre W → Nx pre x → (∀ a' W', KeepsFrom w.heap.size W W' → Kp W W' → I pre W' → Ax x a' W' → K a' W') →
      assign.wpIn (F.inRound l) (n - 1 - 1) P (Exit.then K (fun _ _ _ => False)) { tmps := (ps.zip (encs x)).foldl (fun t (p, v) => t.setIfInBounds p v) a.tmps, defers := [] } W)
    (hbody : ∀ (l : Nat) (pre : List α) (x : α) (a' : Act) (W : World), w.heap.size + 1 < W.heap.size → I pre W → Ax x a' W → Nx pre x → body.wpIn (F.inRound l) (n - 1 - 1) P (ownPostG w.heap.size Kp I Ix (pre ++ [x]) W) a' W)
    (hdone : ∀ (D : Nat) (xs : List α) (W : World), w.heap.size ≤ D → S xs → I xs W → W.heap[D]? = some (.deferred (some [])) → Q .normal { a with defers := { target := .collected D, args := #[] } :: a.defers } W)
    (hstop : ∀ (D : Nat) (c : Code) (pre : List α) (W : World), w.heap.size ≤ D → Sp pre → Ix c pre W → W.heap[D]? = some (.deferred (some [])) → c.wpIn F n P Q { a with defers := { target := .collected D, args := #[] } :: a.defers } W) :
    (Code.rangeFunc g ps assign body).wpIn F n P Q a w := by
  refine wpIn_rangeFunc ?_
  intro fn hfn
  rw [hro]
  obtain ⟨rec, hrec⟩ : ∃ rec : LoopState → Option Code → Loop, rec = fun st pe => { state := st, pending := pe, fn, tmps := a.tmps, params := ps, assign, body, defers := w.heap.size } := ⟨_, rfl⟩
  have hseq' := hseq (.loop (rec .ready none))
  obtain ⟨W1, hW1⟩ : ∃ W1, (w.alloc (.deferred (some []))).alloc (.loop (rec .ready none)) = W1 := ⟨_, rfl⟩
  have hL1 : W1.heap[w.heap.size + 1]? = some (.loop (rec .ready none)) := by
    rw [← hW1]; have := World.alloc_heap_new (w.alloc (.deferred (some []))) (.loop (rec .ready none)); rwa [World.size_alloc] at this
  have hK1 : W1.heap[w.heap.size]? = some (.deferred (some [])) := by
    rw [← hW1]; exact (Below.heap_alloc _ _ _ (by simp)).trans (World.alloc_heap_new w _)
  have hI1 : I [] W1 := by rw [← hW1]; exact hI _ _ _ (hI _ _ _ h0 (Stq.alloc _)) (Stq.alloc _)
  rw [hW1] at hseq'
  refine ⟨w.heap.size + 1, [{ target := .collected w.heap.size, args := #[] }], W1, { target := .fn (.func gf) lb, args := #[.func (.yield (w.heap.size + 1)) #[] #[]] }, W1, gf,
    #[.func (.yield (w.heap.size + 1)) #[] #[]] ++ lb, W1, ?_, ?_, ?_, ?_, fun _ => h1, ?_⟩
  · rw [← hW1, hrec]; exact run_enterLoop_outer _ _ _ _ _
  · simp only [resolve, hg]
    simp [go_sem]
  · intro f' hf'; simp [Target.leads] at hf'; subst hf'; exact hFg
  · simp [invoke, go_sem, eg]
  · refine (hseq' (w.heap.size + 1)
      (fun pre W => I pre W ∧ W.heap[w.heap.size + 1]? = some (.loop (rec .ready none)) ∧ W.heap[w.heap.size]? = some (.deferred (some [])))
      (fun pre W => ∃ c, Ix c pre W ∧ W.heap[w.heap.size + 1]? = some (.loop (rec .done (some c))) ∧ W.heap[w.heap.size]? = some (.deferred (some [])))
      (fun s A C hs ht => by
        have hlt := (Array.getElem?_eq_some_iff.1 hs.2.1).1
        exact ⟨hI s A C hs.1 (Stq.of_itr ht), (ht.block _ hlt (by omega)).trans hs.2.1, (ht.block _ (by omega) (by omega)).trans hs.2.2⟩)
      (fun s A C hs ht => by
        obtain ⟨c, hc, hl, hk⟩ := hs
        have hlt := (Array.getElem?_eq_some_iff.1 hl).1
        exact ⟨c, hIx c s A C hc (Stq.of_itr ht), (ht.block _ hlt (by omega)).trans hl, (ht.block _ (by omega) (by omega)).trans hk⟩)
      ?_ ⟨hI1, hL1, hK1⟩).mono ?_
    · rintro pre x W ⟨hi, hl, hk⟩ hnx
      have hlt : w.heap.size + 1 < W.heap.size := (Array.getElem?_eq_some_iff.1 hl).1
      have hy := run_yield (P := P) (args := encs x) hl (by rw [hrec]; exact hps x)
      rw [hrec] at hy
      refine ⟨fn, _, assign, body, hy, roundIn_of_wpIn hfn (hassign _ pre x W _ hlt hi hnx ?_)⟩
      clear hy
      intro a' Wa hkfa hkpa hia hax
      replace hl := hkfa.same _ _ (by omega) hl rfl
      replace hk := hkfa.same _ _ (Nat.le_refl _) hk rfl
      replace hlt : w.heap.size + 1 < Wa.heap.size := (Array.getElem?_eq_some_iff.1 hl).1
      replace hi := hia
      clear hia
      revert hkpa hkfa
      generalize W = Wb
      intro hkfa hkpa
      obtain ⟨W, rfl⟩ : ∃ W, W = Wa := ⟨_, rfl⟩
      refine ⟨_, run_beginRound hl (by rw [hrec]), ?_⟩
      have hl2 : (W.putObj (w.heap.size + 1) (.loop { rec .ready none with state := .busy })).heap[w.heap.size + 1]? = some (.loop { rec .ready none with state := .busy }) := World.putObj_heap_same hlt
      have hk2 : (W.putObj (w.heap.size + 1) (.loop { rec .ready none with state := .busy })).heap[w.heap.size]? = some (.deferred (some [])) := (World.putObj_heap_other (by omega)).trans hk
      have hw2 : Kp W (W.putObj (w.heap.size + 1) (.loop { rec .ready none with state := .busy })) := hKb _ _ _ (by omega)
      refine wpIn_mono (hbody _ pre x a' _ (by rw [World.putObj_size]; exact hlt) (hI _ _ _ hi (Stq.putObj _)) (hAx x a' _ _ _ hax hl) hnx) ?_
      have fin : ∀ (jump : Option Code) (W3 : World), KeepsFrom w.heap.size (W.putObj (w.heap.size + 1) (.loop { rec .ready none with state := .busy })) W3 →
          (Instr.endRound (w.heap.size + 1) jump).run P W3 = .ok (.bool jump.isNone) (W3.putObj (w.heap.size + 1) (.loop (rec (if jump.isNone then .ready else .done) jump))) ∧
          W3.heap[w.heap.size + 1]? = some (.loop { rec .ready none with state := .busy }) ∧
          (W3.putObj (w.heap.size + 1) (.loop (rec (if jump.isNone then .ready else .done) jump))).heap[w.heap.size + 1]? = some (.loop (rec (if jump.isNone then .ready else .done) jump)) ∧
          (W3.putObj (w.heap.size + 1) (.loop (rec (if jump.isNone then .ready else .done) jump))).heap[w.heap.size]? = some (.deferred (some [])) := fun jump W3 hk3 => by
        have hl3 := hk3.same _ _ (by omega) hl2 rfl
        have := run_endRound (P := P) jump hl3
        rw [hrec] at this ⊢
        exact ⟨this, by rw [hrec] at hl3; exact hl3, World.putObj_heap_same (Array.getElem?_eq_some_iff.1 hl3).1, (World.putObj_heap_other (by omega)).trans (hk3.same _ _ (Nat.le_refl _) hk2 rfl)⟩
      rintro e a3 W3 hp
      cases e with
      | normal =>
        obtain ⟨hk3, hkp3, hi3⟩ := hp
        obtain ⟨hr, hl3, hl4, hk4⟩ := fin none W3 hk3
        exact ⟨_, _, hr, .inl ⟨rfl, ⟨hI _ _ _ hi3 (Stq.putObj _), hl4, hk4⟩, hKt hkpa (hKt (hKt hw2 hkp3) (hKb _ _ _ (by omega)))⟩⟩
      | ret =>
        obtain ⟨hk3, hi3⟩ := hp
        obtain ⟨hr, hl3, hl4, hk4⟩ := fin (some .ret) W3 hk3
        exact ⟨_, _, hr, .inr ⟨rfl, .ret, hIx _ _ _ _ hi3 (Stq.putObj _), hl4, hk4⟩⟩
      | exit id =>
        obtain ⟨hk3, hi3⟩ := hp
        obtain ⟨hr, hl3, hl4, hk4⟩ := fin (some (.exit id)) W3 hk3
        exact ⟨_, _, hr, .inr ⟨rfl, .exit id, hIx _ _ _ _ hi3 (Stq.putObj _), hl4, hk4⟩⟩
      | goto t =>
        obtain ⟨hk3, hi3⟩ := hp
        obtain ⟨hr, hl3, hl4, hk4⟩ := fin (some (.goto t)) W3 hk3
        exact ⟨_, _, hr, .inr ⟨rfl, .goto t, hIx _ _ _ _ hi3 (Stq.putObj _), hl4, hk4⟩⟩
      | panic ch => exact hp.elim
      | outgrown => exact hp.elim
    · rintro e W2 ⟨⟨v, rfl⟩, (⟨xs, hS, hi, hl, hk⟩ | ⟨pre, hSp, c, hi, hl, hk⟩)⟩
      · exact ⟨none, _, by have := run_endLoop (P := P) hl (by rw [hrec]; simp); rw [hrec] at this; exact this, hdone _ xs _ (Nat.le_refl _) hS (hI _ _ _ hi (Stq.putObj _)) ((World.putObj_heap_other (by omega)).trans hk)⟩
      · exact ⟨some c, _, by have := run_endLoop (P := P) hl (by rw [hrec]; simp); rw [hrec] at this; exact this, hstop _ c pre _ (Nat.le_refl _) hSp (hIx _ _ _ _ hi (Stq.putObj _)) ((World.putObj_heap_other (by omega)).trans hk)⟩
end Go.Proofs.YtiabfngiibabcaaGreatDoor
