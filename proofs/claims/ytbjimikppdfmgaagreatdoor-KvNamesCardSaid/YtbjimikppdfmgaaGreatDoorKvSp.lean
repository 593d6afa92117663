/- Stores side by side: what a call on one leaves of the others. A drive whose power is there, step by step; the drive of a store. Two stores beside batches; parts of a batch. -/
import Derived.Test.YtbjimikppdfmgaaGreatDoorKvO
import Derived.Test.YtbjimikppdfmgaaGreatDoorKvLk
import Derived.Test.YtbjimikppdfmgaaGreatDoorLives14
import Derived.Test.YtbjimikppdfmgaaGreatDoorRef14c
import Derived.Deep.QuietTactic
set_option linter.unusedVariables false
set_option linter.unusedSimpArgs false
set_option maxHeartbeats 6400000
set_option maxRecDepth 100000
namespace Go.Proofs.YtbjimikppdfmgaaGreatDoor
open Go.RowKit

/-- A step that turns blocks of T, and makes new ones. -/
structure Turn (T : Nat → Prop) (W W' : World) : Prop where
  os : W'.os = W.os
  tape : W'.tape = W.tape
  output : W'.output = W.output
  size : W.heap.size ≤ W'.heap.size
  block : ∀ k, k < W.heap.size → ¬ T k → W'.heap[k]? = W.heap[k]?
def foot (Z : Nat → Prop) (sb mb k : Nat) : Prop := Z k ∨ k = sb ∨ k = mb
/-- A store on its drive: the drive's blocks are Z. -/
structure St (W : World) (g : Nat) (d : Dr) (N : Nat) (name : Key) (sb mb : Nat) (m : KM) (Z : Nat → Prop) : Prop where
  dr : IsDrive W g d Z
  ok : d.Ok N
  blk : Blk W sb 52 (storeCells g name mb false)
  map : OwnS Tryz.prog 9 W mb m
  nsb : ¬ Z sb
  nmb : ¬ Z mb
section
variable {W W' : World} {g N sb mb : Nat} {d : Dr} {name : Key} {m : KM} {Z T : Nat → Prop} {X1 : List Xc}
theorem Turn.blk (h : Turn T W W') {k : Nat} {t : TypeId} {cs : Array Value} (hB : Blk W k t cs) (hk : ¬ T k) : Blk W' k t cs := (h.block k hB.lt hk).trans hB
theorem Turn.of_below (h : Below W.heap.size W W') (T : Nat → Prop) : Turn T W W' := ⟨h.os, h.tape, h.output, h.size, fun k hk _ => h.block k hk⟩
theorem Turn.below {w : World} (h : Turn T W W') (hb : Below w.heap.size w W) (hT : ∀ k, T k → w.heap.size ≤ k) : Below w.heap.size w W' :=
  ⟨h.os.trans hb.os, h.tape.trans hb.tape, h.output.trans hb.output, Nat.le_trans hb.size h.size, fun k hk => (h.block k (Nat.lt_of_lt_of_le hk hb.size) (fun ht => by have := hT k ht; omega)).trans (hb.block k hk)⟩
theorem St.lt (h : St W g d N name sb mb m Z) {k : Nat} (hk : foot Z sb mb k) : k < W.heap.size := by
  rcases hk with hk | rfl | rfl
  · exact h.dr.lt k hk
  · exact h.blk.lt
  · exact h.map.lt
theorem St.keep (h : St W g d N name sb mb m Z) (ht : Turn T W W') (hT : ∀ k, foot Z sb mb k → ¬ T k) : St W' g d N name sb mb m Z :=
  ⟨h.dr.keep ht.size fun k hk => ht.block k (h.dr.lt k hk) (hT k (.inl hk)), h.ok, ht.blk h.blk (hT _ (.inr (.inl rfl))), h.map.kept (ht.block mb h.map.lt (hT _ (.inr (.inr rfl)))), h.nsb, h.nmb⟩
theorem St.mw (h : St W g d N name sb mb m Z) (hX : ∀ x ∈ X1, ¬ foot Z sb mb x.1 ∧ Blk W x.1 x.2.1 x.2.2) : MW ⟨W, fun k => ¬ foot Z sb mb k⟩ g d N ((sb, 52, storeCells g name mb false) :: X1) mb m W := by
  refine ⟨Z, h.dr, h.ok, Fr.kept_self _, fun k hk _ hn => hn (.inl hk), fun x hx => ?_, h.nmb, fun _ hn => hn (.inr (.inr rfl)), h.map⟩
  rcases List.mem_cons.1 hx with rfl | hx
  · exact ⟨h.nsb, h.blk⟩
  · exact ⟨fun hz => (hX x hx).1 (.inl hz), (hX x hx).2⟩
theorem MW.st (h : MW ⟨W, fun k => ¬ T k⟩ g d N ((sb, 52, storeCells g name mb false) :: X1) mb m W') (hsb : T sb ∨ W.heap.size ≤ sb) :
    ∃ Z, St W' g d N name sb mb m Z ∧ Turn T W W' ∧ ∀ k, foot Z sb mb k → T k ∨ W.heap.size ≤ k := by
  obtain ⟨fp, h1, h2, h3, h4, h5, h6, h7, h8⟩ := h
  have conv : ∀ k, (⟨W, fun k => ¬ T k⟩ : Fr).free k → T k ∨ W.heap.size ≤ k := fun k hk => by
    rcases Nat.lt_or_ge k W.heap.size with hlt | hge
    · exact .inl (Classical.not_not.1 (hk hlt))
    · exact .inr hge
  refine ⟨fp, ⟨h1, h2, (h5 (sb, 52, storeCells g name mb false) (by simp)).2, h8, (h5 (sb, 52, storeCells g name mb false) (by simp)).1, h6⟩, ⟨h3.os, h3.tape, h3.output, h3.size, fun k hk hn => h3.block k hk hn⟩, fun k hk => ?_⟩
  rcases hk with hk | rfl | rfl
  · exact conv k (h4 k hk)
  · exact hsb
  · exact conv k h7
/-- Another store on the same drive. -/
theorem St.other {N' sb' mb' : Nat} {d' : Dr} {nm' : Key} {m' : KM} {Z' : Nat → Prop} (h : St W g d N name sb mb m Z) (hu : St W' g d' N' nm' sb' mb' m' Z') (ht : Turn T W W') (h1 : ¬ T sb) (h2 : ¬ T mb) (hf : ∀ k, foot Z' sb' mb' k → T k ∨ W.heap.size ≤ k) : St W' g d' N' name sb mb m Z' :=
  ⟨hu.dr, hu.ok, ht.blk h.blk h1, h.map.kept (ht.block mb h.map.lt h2), fun hz => by
    rcases hf _ (.inl hz) with hh | hh
    · exact h1 hh
    · have := h.blk.lt; omega, fun hz => by
    rcases hf _ (.inl hz) with hh | hh
    · exact h2 hh
    · have := h.map.lt; omega⟩
def StPost (W : World) (T : Nat → Prop) (g : Nat) (d : Dr) (N : Nat) (name : Key) (sb : Nat) (m : KM) (x : Int) (e : Ending) (w' : World) : Prop :=
  e = .returned (.int .i64 x) ∧ ∃ mb Z, St w' g d N name sb mb m Z ∧ Turn T W w' ∧ ∀ k, foot Z sb mb k → T k ∨ W.heap.size ≤ k
theorem st_Apply_ok (h : St W g d N name sb mb m Z) (hX : ∀ x ∈ X1, ¬ foot Z sb mb x.1 ∧ Blk W x.1 x.2.1 x.2.2) (hd : d.down = false) (A : Option Addr) (c : Nat) (l : List Wr) (hw : ∀ W', (∀ x ∈ X1, Blk W' x.1 x.2.1 x.2.2) → WsAt W' A l)
    (hl : l.length ≤ 1000) (hm : mayB l = true) (hbl : (bodyB l).length ≤ 800000) (hml : m.length ≤ 100000) (hN : N < 1000000) (hn : name.length ≤ 20) (hA : (d.append (fileN name logN) (frameB l)).2 = 0) (hS : ((d.append (fileN name logN) (frameB l)).1.sync (fileN name logN)).2 = 0) :
    Calls Tryz.prog 9 #[.pointer (some ⟨sb, 0, none⟩), .slice A l.length c] W (StPost W (foot Z sb mb) g ((d.append (fileN name logN) (frameB l)).1.sync (fileN name logN)).1 (N + 1) name sb (doB m l) 0) := by
  refine (kv_Apply_ok (h.mw hX) (fun _ hn => hn (.inr (.inl rfl))) (fun x hx e => (hX x hx).1 (.inr (.inl e))) hd A c l hw hl hm hbl hml hN hn hA hS).mono ?_
  rintro e w' ⟨rfl, mb', hM⟩
  exact ⟨rfl, mb', hM.st (.inl (.inr (.inl rfl)))⟩
theorem st_Apply_arg (h : St W g d N name sb mb m Z) (hd : d.down = false) (A : Option Addr) (c : Nat) (l : List Wr) (hw : WsAt W A l) (hl : l.length ≤ 1000) (hm : mayB l = false) :
    Calls Tryz.prog 9 #[.pointer (some ⟨sb, 0, none⟩), .slice A l.length c] W (StPost W (foot Z sb mb) g d N name sb m 1) := by
  refine (kv_Apply_arg (h.mw (X1 := []) (by simp)) hd A c l hw hl hm).mono ?_
  rintro e w' ⟨rfl, hM⟩
  exact ⟨rfl, mb, hM.st (.inl (.inr (.inl rfl)))⟩
theorem st_Compact (h : St W g d N name sb mb m Z) (hd : d.down = false) (hN : N < 100000) (hn : name.length ≤ 100) (hr : Rising m) (hml : m.length ≤ 1000) (hkl : ∀ p ∈ m, p.1.length ≤ 1000000) (hbl : (bodyB (m.map wOf)).length ≤ 800000)
    (ok1 : ReplOk d name baseN (frameB (m.map wOf))) (ok2 : ReplOk (replD d name baseN (frameB (m.map wOf))) name logN []) :
    Calls Tryz.prog 10 #[.pointer (some ⟨sb, 0, none⟩)] W (StPost W (foot Z sb mb) g (replD (replD d name baseN (frameB (m.map wOf))) name logN []) (N + 2) name sb m 0) := by
  refine (kv_Compact_ok (h.mw (X1 := []) (by simp)) (fun _ hn => hn (.inr (.inl rfl))) (by simp) hd hN hn hr hml hkl hbl ok1 ok2).mono ?_
  rintro e w' ⟨rfl, hM⟩
  exact ⟨rfl, mb, hM.st (.inl (.inr (.inl rfl)))⟩
def OpenPost14 (W : World) (T : Nat → Prop) (g : Nat) (d : Dr) (N : Nat) (name : Key) (m : KM) (e : Ending) (w' : World) : Prop :=
  ∃ sb mb Z, e = .returned (.tuple #[.pointer (some ⟨sb, 0, none⟩), .int .i64 0]) ∧ W.heap.size ≤ sb ∧ St w' g d N name sb mb m Z ∧ Turn T W w' ∧ ∀ k, foot Z sb mb k → T k ∨ W.heap.size ≤ k
theorem fw_of (hd : IsDrive W g d Z) (ho : d.Ok N) : FW ⟨W, fun k => ¬ Z k⟩ g d N [] W := ⟨Z, hd, ho, Fr.kept_self _, fun k hk _ hn => hn hk, by simp⟩
theorem st_Open_new (hd : IsDrive W g d Z) (ho : d.Ok N) (hN : N ≤ 1000000000) (hn : name ≠ []) (hl : name.length ≤ 20) (ha : ∀ c ∈ name, abcT.contains c = true) (hdn : d.down = false) (hB : d.readE (fileN name baseN) = 10) (hL : d.readE (fileN name logN) = 10) (hC : (d.create (fileN name logN)).2 = 0) :
    Calls Tryz.prog 7 #[.pointer (some ⟨g, 0, none⟩), .string (S name)] W (OpenPost14 W Z g (d.create (fileN name logN)).1 N name []) := by
  refine (kv_Open_new (fw_of hd ho) hN hn hl ha hdn hB hL hC).mono ?_
  rintro e w' ⟨sb, mb, rfl, hsb, hM⟩
  obtain ⟨Z', h1, h2, h3⟩ := hM.st (.inr hsb)
  exact ⟨sb, mb, Z', rfl, hsb, h1, h2, h3⟩
theorem st_Open_old (hd : IsDrive W g d Z) (ho : d.Ok N) (hN : N ≤ 1000000000) (hn : name ≠ []) (hl : name.length ≤ 20) (ha : ∀ c ∈ name, abcT.contains c = true) (hdn : d.down = false) (bB bL : List (List Wr)) (hB : Loads d (fileN name baseN) bB) (hL : Loads d (fileN name logN) bL) (hcnt : bB.flatten.length + bL.flatten.length ≤ 100000) (hC : d.create (fileN name logN) = (d, 11)) (hS : (d.sync (fileN name logN)).2 = 0) :
    Calls Tryz.prog 7 #[.pointer (some ⟨g, 0, none⟩), .string (S name)] W (OpenPost14 W Z g (d.sync (fileN name logN)).1 N name (doB (doB [] bB.flatten) bL.flatten)) := by
  refine (kv_Open_old (fw_of hd ho) hN hn hl ha hdn bB bL hB hL hcnt hC hS).mono ?_
  rintro e w' ⟨sb, mb, rfl, hsb, hM⟩
  obtain ⟨Z', h1, h2, h3⟩ := hM.st (.inr hsb)
  exact ⟨sb, mb, Z', rfl, hsb, h1, h2, h3⟩
theorem st_like (h : St W g d N name sb mb m Z) (hr : Rising m) (hml : m.length ≤ 100000) (hkl : ∀ p ∈ m, p.1.length ≤ 1000000) (al : List Wr) (hal : al = m.map wOf) (A : Option Addr) (c : Nat) (hw : WsAt W A al) :
    Calls Tryz.prog 15 #[.pointer (some ⟨sb, 0, none⟩), .slice A al.length c] W fun e w' => e = .returned (.bool true) ∧ Below W.heap.size W w' :=
  law14_like (sb := sb) (name := name) (dead := false) (h.mw (X1 := []) (by simp)) (by simp) hr hml hkl al hal A c hw
end
end Go.Proofs.YtbjimikppdfmgaaGreatDoor

set_option linter.unusedVariables false
set_option linter.unusedSimpArgs false
set_option maxHeartbeats 1600000
set_option maxRecDepth 100000
namespace Go.Proofs.YtbjimikppdfmgaaGreatDoor
open Go.RowKit Go.WideMaps Go.ChangeMaps Go.WideAt Go.WideShapes

abbrev Fs := List (Key × File)
/-- A drive at which nothing is armed, and whose power is there. -/
def U (fs : Fs) (q k : Int) : Dr := ⟨fs, q, k, false, -1⟩
def usedF (fs : Fs) : Nat := (fs.map fun p => p.2.all.length).sum
theorem U_used (fs : Fs) (q k : Int) : (U fs q k).used = (usedF fs : Nat) := rfl
theorem U_may0 (fs : Fs) (q k : Int) : (U fs q k).may 0 = (U fs q (wrap1 k), 0) := rfl
theorem U_deed0 (fs : Fs) (q k : Int) (f : Dr → Dr) : (U fs q k).deed 0 f = (f (U fs q (wrap1 k)), 0) := rfl
theorem U_deed (fs : Fs) (q k e : Int) (f : Dr → Dr) (he : e ≠ 0) : (U fs q k).deed e f = (U fs q k, e) := by
  have h : (U fs q k).may e = (U fs q k, e) := by
    unfold Dr.may
    rw [show (U fs q k).down = false from rfl]
    simp [he]
  unfold Dr.deed
  rw [h]
  simp [he]
section
variable {fs : Fs} {q k : Int} {n m : Key} {f : File} {x : List UInt8}
theorem U_create (hn : namedB n = true) (hg : kget fs n = none) (hl : fs.length < 65536) : (U fs q k).create n = (U (kput fs n ⟨[], []⟩) q (wrap1 k), 0) := by
  have hE : (U fs q k).createE n = 0 := by
    unfold Dr.createE
    rw [hn, show (U fs q k).files = fs from rfl, hg]
    simp
    omega
  unfold Dr.create
  rw [hE]
  rfl
theorem U_create_ex (hn : namedB n = true) (hg : kget fs n = some f) : (U fs q k).create n = (U fs q k, 11) := by
  have hE : (U fs q k).createE n = 11 := by
    unfold Dr.createE
    rw [hn, show (U fs q k).files = fs from rfl, hg]
    simp
  unfold Dr.create
  rw [hE, U_deed _ _ _ _ _ (by decide)]
theorem U_append (hg : kget fs n = some f) (hu : ((usedF fs + x.length : Nat) : Int) ≤ q) : (U fs q k).append n x = (U (kset fs n ⟨f.safe, f.pieces ++ [x]⟩) q (wrap1 k), 0) := by
  have hT : (U fs q k).thereE n = 0 := by
    unfold Dr.thereE
    rw [show (U fs q k).files = fs from rfl, hg]
    rfl
  have hE : (U fs q k).appendE n x.length = 0 := by
    unfold Dr.appendE
    rw [hT, U_used, show (U fs q k).quota = q from rfl, if_neg (by omega)]
  have hf : ∀ k', fileOf (U fs q k') n = f := fun k' => by
    unfold fileOf
    rw [show (U fs q k').files = fs from rfl, hg]
    rfl
  unfold Dr.append
  rw [hE, U_deed0, hf]
  rfl
theorem U_sync (hg : kget fs n = some f) : (U fs q k).sync n = (U (kput fs n ⟨f.all, []⟩) q (wrap1 k), 0) := by
  have hT : (U fs q k).thereE n = 0 := by
    unfold Dr.thereE
    rw [show (U fs q k).files = fs from rfl, hg]
    rfl
  have hf : ∀ k', fileOf (U fs q k') n = f := fun k' => by
    unfold fileOf
    rw [show (U fs q k').files = fs from rfl, hg]
    rfl
  unfold Dr.sync
  rw [hT, U_deed0, hf]
  rfl
theorem U_remove_none (hg : kget fs n = none) : (U fs q k).remove n = (U fs q k, 10) := by
  have hT : (U fs q k).thereE n = 10 := by
    unfold Dr.thereE
    rw [show (U fs q k).files = fs from rfl, hg]
    rfl
  unfold Dr.remove
  rw [hT, U_deed _ _ _ _ _ (by decide)]
theorem U_rename (hm : namedB m = true) (hg : kget fs n = some f) : (U fs q k).rename n m = (U (kput (kdel fs n) m f) q (wrap1 k), 0) := by
  have hT : (U fs q k).thereE n = 0 := by
    unfold Dr.thereE
    rw [show (U fs q k).files = fs from rfl, hg]
    rfl
  have hE : (U fs q k).renameE n m = 0 := by
    unfold Dr.renameE
    rw [hT, hm]
    simp
  have hf : ∀ k', fileOf (U fs q k') n = f := fun k' => by
    unfold fileOf
    rw [show (U fs q k').files = fs from rfl, hg]
    rfl
  unfold Dr.rename
  rw [hE, U_deed0, hf]
  rfl
theorem U_readE (hg : kget fs n = some f) : (U fs q k).readE n = 0 ∧ (U fs q k).read n = f.all := by
  have hE : (U fs q k).readE n = 0 := by
    unfold Dr.readE Dr.thereE
    rw [show (U fs q k).down = false from rfl, show (U fs q k).files = fs from rfl, hg]
    rfl
  refine ⟨hE, ?_⟩
  unfold Dr.read fileOf
  rw [hE, show (U fs q k).files = fs from rfl, hg]
  rfl
theorem U_readE_none (hg : kget fs n = none) : (U fs q k).readE n = 10 := by
  unfold Dr.readE Dr.thereE
  rw [show (U fs q k).down = false from rfl, show (U fs q k).files = fs from rfl, hg]
  rfl
/-- replace, all of it: what the files are. -/
theorem U_repl {name en data : Key} (ht : namedB (fileN name tmpN) = true) (he : namedB (fileN name en) = true) (hg : kget fs (fileN name tmpN) = none) (hl : fs.length < 65536) (hr : Rising fs)
    (hu : ((usedF (kput fs (fileN name tmpN) ⟨[], []⟩) + data.length : Nat) : Int) ≤ q) :
    ReplOk (U fs q k) name en data ∧ ∃ k', replD (U fs q k) name en data = U (kput (kdel (kput (kset (kput fs (fileN name tmpN) ⟨[], []⟩) (fileN name tmpN) ⟨[], [data]⟩) (fileN name tmpN) ⟨data, []⟩) (fileN name tmpN)) (fileN name en) ⟨data, []⟩) q k' := by
  have r1 : Rising (kput fs (fileN name tmpN) ⟨[], []⟩) := hr.put _ _
  have g1 : kget (kput fs (fileN name tmpN) ⟨[], []⟩) (fileN name tmpN) = some ⟨[], []⟩ := kget_put_self hr _ _
  have g2 : kget (kset (kput fs (fileN name tmpN) ⟨[], []⟩) (fileN name tmpN) ⟨[], [data]⟩) (fileN name tmpN) = some ⟨[], [data]⟩ := kget_set_self r1 _ g1
  have r2 : Rising (kset (kput fs (fileN name tmpN) ⟨[], []⟩) (fileN name tmpN) ⟨[], [data]⟩) := r1.set _ _
  have g3 : kget (kput (kset (kput fs (fileN name tmpN) ⟨[], []⟩) (fileN name tmpN) ⟨[], [data]⟩) (fileN name tmpN) ⟨data, []⟩) (fileN name tmpN) = some ⟨data, []⟩ := kget_put_self r2 _ _
  have e0 := U_remove_none (q := q) (k := k) hg
  have e1 := U_create (q := q) (k := k) ht hg hl
  have e2 := U_append (q := q) (k := wrap1 k) g1 hu
  have e3 := U_sync (q := q) (k := wrap1 (wrap1 k)) g2
  rw [show File.all ⟨[], [data]⟩ = data by simp [File.all]] at e3
  have e4 := U_rename (q := q) (k := wrap1 (wrap1 (wrap1 k))) he g3
  rw [List.nil_append] at e2
  refine ⟨⟨?_, ?_, ?_, ?_, ?_⟩, wrap1 (wrap1 (wrap1 (wrap1 k))), ?_⟩
  · rw [e0]
    show (10 : Int) ≠ 13
    decide
  · rw [e0, e1]
  · rw [e0, e1, e2]
  · rw [e0, e1, e2, e3]
  · rw [e0, e1, e2, e3, e4]
  · unfold replD
    rw [e0, e1, e2, e3, e4]
end
/-! the store "a" -/
def aN : Key := [97]
/-- A drive that has the store's files, all synced. -/
def fsA (base : Option (List UInt8)) (log : List UInt8) : Fs := match base with
  | none => [(fileN aN logN, ⟨log, []⟩)]
  | some b => [(fileN aN baseN, ⟨b, []⟩), (fileN aN logN, ⟨log, []⟩)]
def lenO (b : Option (List UInt8)) : Nat := match b with
  | none => 0
  | some b => b.length
theorem fsA_used (b : Option (List UInt8)) (l : List UInt8) : usedF (fsA b l) = lenO b + l.length := by
  cases b <;> simp [fsA, usedF, lenO, File.all]
theorem fsA_log (b : Option (List UInt8)) (l : List UInt8) : kget (fsA b l) (fileN aN logN) = some ⟨l, []⟩ := by cases b <;> rfl
theorem fsA_tmp (b : Option (List UInt8)) (l : List UInt8) : kget (fsA b l) (fileN aN tmpN) = none := by cases b <;> rfl
theorem fsA_rising (b : Option (List UInt8)) (l : List UInt8) : Rising (fsA b l) := by
  cases b with
  | none => exact List.pairwise_singleton _ _
  | some b => exact List.Pairwise.cons (by intro p hp; simp only [List.mem_singleton] at hp; subst hp; show bytesBefore (fileN aN baseN) (fileN aN logN) = true; decide) (List.pairwise_singleton _ _)
theorem fsA_len (b : Option (List UInt8)) (l : List UInt8) : (fsA b l).length < 65536 := by cases b <;> simp [fsA]
theorem fsA_new (q : Int) : (Dr.new q).create (fileN aN logN) = (U (fsA none []) q (wrap1 0), 0) := rfl
theorem fsA_apply {q k : Int} {b : Option (List UInt8)} {l x : List UInt8} (h : ((lenO b + l.length + x.length : Nat) : Int) ≤ q) :
    ((U (fsA b l) q k).append (fileN aN logN) x).2 = 0 ∧ (((U (fsA b l) q k).append (fileN aN logN) x).1.sync (fileN aN logN)).2 = 0 ∧ ∃ k', (((U (fsA b l) q k).append (fileN aN logN) x).1.sync (fileN aN logN)).1 = U (fsA b (l ++ x)) q k' := by
  have e1 := U_append (k := k) (fsA_log b l) (q := q) (x := x) (by rw [fsA_used]; exact h)
  have g2 := kget_set_self (fsA_rising b l) (⟨l, [] ++ [x]⟩ : File) (fsA_log b l)
  have e2 := U_sync (q := q) (k := wrap1 k) g2
  rw [show File.all ⟨l, [] ++ [x]⟩ = l ++ x by simp [File.all]] at e2
  rw [e1, e2]
  refine ⟨rfl, rfl, wrap1 (wrap1 k), ?_⟩
  cases b <;> rfl
theorem fsA_base {q k : Int} {b : Option (List UInt8)} {l x : List UInt8} (h : ((lenO b + l.length + x.length : Nat) : Int) ≤ q) :
    ReplOk (U (fsA b l) q k) aN baseN x ∧ ∃ k', replD (U (fsA b l) q k) aN baseN x = U (fsA (some x) l) q k' := by
  have hu : usedF (kput (fsA b l) (fileN aN tmpN) ⟨[], []⟩) = lenO b + l.length := by
    cases b with
    | none => simp [fsA, lenO, usedF, kput, kdel, kins, fileN, aN, logN, tmpN, bytesBefore, File.all]
    | some b => simp [fsA, lenO, usedF, kput, kdel, kins, fileN, aN, logN, tmpN, baseN, bytesBefore, File.all]
  obtain ⟨h1, k', h2⟩ := U_repl (k := k) (name := aN) (en := baseN) (data := x) (by decide) (by decide) (fsA_tmp b l) (fsA_len b l) (fsA_rising b l) (by rw [hu]; exact h)
  refine ⟨h1, k', h2.trans ?_⟩
  cases b <;> rfl
theorem fsA_logR {q k : Int} {b l : List UInt8} (h : ((b.length + l.length : Nat) : Int) ≤ q) :
    ReplOk (U (fsA (some b) l) q k) aN logN [] ∧ ∃ k', replD (U (fsA (some b) l) q k) aN logN [] = U (fsA (some b) []) q k' := by
  have hu : usedF (kput (fsA (some b) l) (fileN aN tmpN) ⟨[], []⟩) = b.length + l.length := by
    simp [fsA, usedF, kput, kdel, kins, fileN, aN, logN, tmpN, baseN, bytesBefore, File.all]
  obtain ⟨h1, k', h2⟩ := U_repl (k := k) (name := aN) (en := logN) (data := []) (by decide) (by decide) (fsA_tmp (some b) l) (fsA_len (some b) l) (fsA_rising (some b) l) (by rw [hu]; simpa using h)
  exact ⟨h1, k', h2.trans rfl⟩
/-! what a map is made of -/
/-- At most so many keys, each of 1 to 210 bytes, values of at most 100. -/
def Small (m : KM) (n : Nat) : Prop := m.length ≤ n ∧ ∀ p ∈ m, 1 ≤ p.1.length ∧ p.1.length ≤ 210 ∧ p.2.length ≤ 100
theorem Small.doW {m : KM} {n : Nat} (h : Small m n) {x : Wr} (h1 : 1 ≤ x.key.length) (h2 : x.key.length ≤ 210) (h3 : x.val.length ≤ 100) : Small (doW m x) (n + 1) := by
  refine ⟨Nat.le_trans (doW_len m x) (by have := h.1; omega), fun p hp => ?_⟩
  unfold Go.Proofs.YtbjimikppdfmgaaGreatDoor.doW at hp
  split at hp
  · exact h.2 p (mem_kdel.1 hp).1
  · rcases mem_kput.1 hp with rfl | hp
    · exact ⟨h1, h2, h3⟩
    · exact h.2 p hp.1
theorem Small.doB {n : Nat} (b : List Wr) : ∀ {m : KM} {n : Nat}, Small m n → (∀ x ∈ b, 1 ≤ x.key.length ∧ x.key.length ≤ 210 ∧ x.val.length ≤ 100) → Small (doB m b) (n + b.length) := by
  induction b with
  | nil => intro m n h _; exact h
  | cons x b ih =>
    intro m n h hx
    obtain ⟨q1, q2, q3⟩ := hx x (by simp)
    have := ih (h.doW q1 q2 q3) fun y hy => hx y (by simp [hy])
    rw [List.length_cons]
    rw [show n + (b.length + 1) = n + 1 + b.length by omega]
    exact this
theorem Small.body {m : KM} {n : Nat} (h : Small m n) : (bodyB (m.map wOf)).length ≤ n * 317 := by
  have := bodyB_le (b := m.map wOf) (k := 210) (v := 100) (fun x hx => by
    obtain ⟨p, hp, rfl⟩ := List.mem_map.1 hx
    exact ⟨(h.2 p hp).2.1, (h.2 p hp).2.2⟩)
  rw [List.length_map] at this
  exact Nat.le_trans this (Nat.mul_le_mul_right _ h.1)
theorem small_nil : Small [] 0 := ⟨Nat.le_refl _, by simp⟩
theorem may_keys {b : List Wr} (h : mayB b = true) : ∀ x ∈ b, 1 ≤ x.key.length ∧ x.key.length ≤ 200 := fun x hx => by
  have := List.all_eq_true.1 h x hx
  simp only [okW, Bool.and_eq_true, Bool.not_eq_true', decide_eq_true_eq] at this
  obtain ⟨⟨⟨h1, h2⟩, -⟩, -⟩ := this
  refine ⟨?_, h2⟩
  have : x.key ≠ [] := by simpa using h1
  exact List.length_pos_iff.2 this
theorem doB_wOf {m : KM} (hr : Rising m) : doB [] (m.map wOf) = m := by
  have aux : ∀ (m' m : KM), Rising (m' ++ m) → doB m' (m.map wOf) = m' ++ m := by
    intro m' m
    induction m generalizing m' with
    | nil => intro _; simp [doB]
    | cons p r ih =>
      intro hrr
      have hall : ∀ y ∈ m', bytesBefore y.1 p.1 = true := fun y hy => (List.pairwise_append.1 hrr).2.2 y hy p (by simp)
      have hstep : doW m' (wOf p) = m' ++ [p] := by
        unfold doW
        rw [if_neg (by simp [wOf])]
        have hd : kdel m' p.1 = m' := by
          unfold kdel
          rw [List.filter_eq_self]
          intro y hy
          have := hall y hy
          have hne : y.1 ≠ p.1 := by
            intro e
            rw [e, bytes_irrefl] at this
            cases this
          simpa using hne
        show kput m' p.1 p.2 = m' ++ [p]
        unfold kput
        rw [hd]
        clear hrr hd ih
        induction m' with
        | nil => rfl
        | cons y t iht =>
          have hy := hall y (by simp)
          have hnb : ¬ bytesBefore p.1 y.1 = true := fun h => by
            have := bytes_trans _ _ _ hy h
            rw [bytes_irrefl] at this
            cases this
          unfold kins
          rw [if_neg hnb, iht fun z hz => hall z (by simp [hz])]
          rfl
      rw [List.map_cons]
      show doB (doW m' (wOf p)) (r.map wOf) = _
      rw [hstep, ih _ (by simpa using hrr)]
      simp
  have := aux [] m (by simpa using hr)
  simpa using this
theorem doB_app (m : KM) (a b : List Wr) : doB m (a ++ b) = doB (doB m a) b := by simp [doB]
end Go.Proofs.YtbjimikppdfmgaaGreatDoor

set_option linter.unusedVariables false
set_option linter.unusedSimpArgs false
set_option maxHeartbeats 3200000
set_option maxRecDepth 100000
namespace Go.Proofs.YtbjimikppdfmgaaGreatDoor
open Go.RowKit

theorem size_write (W : World) : (sizeOf 31).run Tryz.prog W = .ok 3 W := by kernel_rfl
/-- l[:k] of a batch. -/
theorem ws_head (A : Option Addr) (n c k : Nat) (h1 : k ≤ c) (hA : ∀ p, A = some p → ∃ b off, p = ⟨b, off, none⟩) (W : World) :
    (Instr.slice 32 (.slice A n c) none (some (.int .i64 k)) none).run Tryz.prog W = .ok (.slice A k c) W := by
  rw [Go.run_slice_h (P := Tryz.prog) (w := W) _ _ _ _ (by kernel_rfl) .i64 (k : Int) (by omega) (by omega)]
  rw [show (Tryz.prog).elem 32 = 31 by kernel_rfl, size_write]
  cases A with
  | none => simp [Result.andThen, sliced]
  | some p =>
    obtain ⟨b, off, rfl⟩ := hA p rfl
    simp [Result.andThen, sliced, add_plain']
/-- l[k:] of a batch. -/
theorem ws_tail (A : Option Addr) (n c k : Nat) (h1 : k ≤ n) (h2 : n ≤ c) (hA : ∀ p, A = some p → ∃ b off, p = ⟨b, off, none⟩) :
    ∃ A2 c2, (∀ W : World, (Instr.slice 32 (.slice A n c) (some (.int .i64 k)) none none).run Tryz.prog W = .ok (.slice A2 (n - k) c2) W) ∧ ∀ (W' : World) (l : List Wr), l.length = n → WsAt W' A l → WsAt W' A2 (l.drop k) := by
  have hrun := fun W => Go.run_slice_l (P := Tryz.prog) (w := W) 32 A n c (by kernel_rfl) .i64 (k : Int) (by omega) (by omega)
  by_cases hc : k = c
  · refine ⟨A, c - k, fun W => ?_, fun W' l hl hw h0 => by simp at h0; omega⟩
    rw [hrun, show (Tryz.prog).elem 32 = 31 by kernel_rfl, size_write]
    simp [Result.andThen, sliced, hc]
  · cases A with
    | none =>
      refine ⟨none, c - k, fun W => ?_, fun W' l hl hw h0 => ?_⟩
      · rw [hrun, show (Tryz.prog).elem 32 = 31 by kernel_rfl, size_write]
        simp [Result.andThen, sliced]
      · obtain ⟨b, off, hx, _⟩ := hw (by simp at h0; omega)
        cases hx
    | some p =>
      obtain ⟨b, off, rfl⟩ := hA p rfl
      refine ⟨some ⟨b, off + k * 3, none⟩, c - k, fun W => ?_, fun W' l hl hw h0 => ?_⟩
      · rw [hrun, show (Tryz.prog).elem 32 = 31 by kernel_rfl, size_write]
        simp [Result.andThen, sliced, add_plain', Ne.symm hc]
      · obtain ⟨b', off', hx, hlt, hcc⟩ := hw (by simp at h0; omega)
        injection hx with hx
        injection hx with e1 e2
        subst e1 e2
        refine ⟨b, off + k * 3, rfl, hlt, fun i hi => ?_⟩
        have hi' : k + i < l.length := by simp at hi; omega
        obtain ⟨c1, c2, c3⟩ := hcc (k + i) hi'
        have e : off + (k + i) * 3 = off + k * 3 + i * 3 := by omega
        rw [e] at c1 c2 c3
        simp only [List.getElem_drop]
        exact ⟨c1, c2, c3⟩
theorem WsAt.take {W : World} {A : Option Addr} {l : List Wr} (h : WsAt W A l) (k : Nat) : WsAt W A (l.take k) := fun h0 => by
  obtain ⟨b, off, hA, hlt, hc⟩ := h (by simp at h0; omega)
  refine ⟨b, off, hA, hlt, fun i hi => ?_⟩
  have hi' : i < l.length := by simp at hi; omega
  simpa using hc i hi'
theorem row_addr {w : World} {base n c : Nat} {e : TypeId} {size : Nat} {A : Option Addr} {xs : List Value} (h : w.ownsRow base e size (.slice A n c) n xs) : n ≤ c ∧ (c : Int) ≤ 9223372036854775807 ∧ ∀ p, A = some p → ∃ b off, p = ⟨b, off, none⟩ := by
  rcases h.2 with ⟨h1, h2⟩ | ⟨g, cap, cur, hv, hb, hh, r1, r2, r⟩
  · simp only [Value.slice.injEq] at h1
    obtain ⟨rfl, rfl, rfl⟩ := h1
    exact ⟨by omega, by omega, fun p hp => by cases hp⟩
  · simp only [Value.slice.injEq] at hv
    obtain ⟨rfl, -, rfl⟩ := hv
    exact ⟨r1, by unfold maxLen at r2; omega, fun p hp => by injection hp with hp; exact ⟨g, 0, hp.symm⟩⟩
theorem ref14_DoR (w : World) (base : Nat) (A B : Option Addr) (c cb : Nat) (l bt : List Wr) (hl : w.ownsRow base 31 3 (.slice A l.length c) l.length (l.flatMap wCells)) (hbase : base ≤ w.heap.size) (hb : WsAt w B bt) (hll : l.length + bt.length ≤ 1000) :
    Calls Tryz.prog 14 #[.slice A l.length c, .slice B bt.length cb] w fun e w' => ∃ A' c', e = .returned (.slice A' (doR l bt).length c') ∧ w'.ownsRow base 31 3 (.slice A' (doR l bt).length c') (doR l bt).length ((doR l bt).flatMap wCells) ∧ Below w.heap.size w w' := by
  have HB := hid hb
  have HL := hid hl
  clear hb hl
  go_enter Tryz.func14, Tryz.ntmps14
  go_wp2
  go_loopw [0, 5] (fun s i wr => ∃ (k : Nat) (A' : Option Addr) (c' : Nat) (ls : List Wr), k ≤ bt.length ∧ i = .int .i64 k ∧ s = .slice A' ls.length c' ∧ ls.length ≤ l.length + k ∧ Hid (ls = doR l (bt.take k)) ∧ Hid (wr.ownsRow base 31 3 (.slice A' ls.length c') ls.length (ls.flatMap wCells)) ∧ Hid (Below w.heap.size w wr)) (fun _ i _ => bt.length - (intOf i).toNat)
  case atStart => exact ⟨0, A, c, l, Nat.zero_le _, rfl, rfl, by omega, rfl, HL, Below.refl _ _⟩
  case round =>
    obtain ⟨k, A', c', ls, hk, rfl, rfl, hlen, hd, hws, hbw⟩ := hrel
    by_cases h : k < bt.length
    · obtain ⟨bb, off, rfl, hbb, hc⟩ := (HB.out.below hbw.out) (by omega)
      obtain ⟨e0, e1, e2⟩ := hc k h
      clear hc
      have HD := hid (show doR l (bt.take (k + 1)) = oneR ls bt[k] bt[k].gone by rw [hd.out, List.take_succ_eq_append_getElem h, doR, List.foldl_append]; rfl)
      have HLN := hid (oneR_len bt[k] ls bt[k].gone)
      have ON := hid (ref14_one wr A' c' ls bt[k] (ws_row hws.out) (by omega))
      generalize bt[k] = x at *
      obtain ⟨xk, xv, xg⟩ := x
      simp only [] at e0 e1 e2
      go_wp2_with fail
      refine ON.out.mono ?_
      rintro e w2 ⟨A2, c2, rfl, hr2, hb2⟩
      have HW2 := hid (row_base hr2 (Nat.le_trans hbase hbw.out.size))
      have HB2 := hid (Below.trans hbw.out (hb2.mono hbw.out.size))
      clear hr2 hb2
      go_wp2
      go_roundw
      case rel => exact ⟨k + 1, A2, c2, _, by omega, by go_num, rfl, by have := HLN.out; split at this <;> omega, hid HD.out.symm, HW2, HB2⟩
      case measure => simp [intOf]; omega
    · have hk' : k = bt.length := by omega
      have HF := hid (show ls = doR l bt by rw [hd.out, hk', List.take_length])
      clear hd
      go_wp2
      go_ret
      exact ⟨A', c', by rw [← HF.out]; rfl, by rw [← HF.out]; exact hws.out, hbw.out⟩
/-- Two stores, apart. -/
structure Two (w0 W : World) (gs : Nat) (ds : Dr) (Ns sbs mbs : Nat) (ms : KM) (Zs : Nat → Prop) (gt : Nat) (dt : Dr) (Nt sbt mbt : Nat) (mt : KM) (Zt : Nat → Prop) (X : List Xc) : Prop where
  s : St W gs ds Ns aN sbs mbs ms Zs
  t : St W gt dt Nt aN sbt mbt mt Zt
  dis : ∀ k, foot Zs sbs mbs k → ¬ foot Zt sbt mbt k
  ls : ∀ k, foot Zs sbs mbs k → w0.heap.size ≤ k
  lt : ∀ k, foot Zt sbt mbt k → w0.heap.size ≤ k
  bel : Below w0.heap.size w0 W
  xs : ∀ x ∈ X, Blk W x.1 x.2.1 x.2.2 ∧ ¬ foot Zs sbs mbs x.1 ∧ ¬ foot Zt sbt mbt x.1
section
variable {w0 W W' : World} {gs gt Ns Nt sbs sbt mbs mbt : Nat} {ds dt : Dr} {ms mt : KM} {Zs Zt : Nat → Prop} {X : List Xc}
theorem Two.swap (h : Two w0 W gs ds Ns sbs mbs ms Zs gt dt Nt sbt mbt mt Zt X) : Two w0 W gt dt Nt sbt mbt mt Zt gs ds Ns sbs mbs ms Zs X :=
  ⟨h.t, h.s, fun k hk hs => h.dis k hs hk, h.lt, h.ls, h.bel, fun x hx => ⟨(h.xs x hx).1, (h.xs x hx).2.2, (h.xs x hx).2.1⟩⟩
theorem Two.below (h : Two w0 W gs ds Ns sbs mbs ms Zs gt dt Nt sbt mbt mt Zt X) (hb : Below W.heap.size W W') : Two w0 W' gs ds Ns sbs mbs ms Zs gt dt Nt sbt mbt mt Zt X :=
  ⟨h.s.keep (Turn.of_below hb (fun _ => False)) (fun _ _ hh => hh), h.t.keep (Turn.of_below hb (fun _ => False)) (fun _ _ hh => hh), h.dis, h.ls, h.lt, bt h.bel hb, fun x hx => ⟨(h.xs x hx).1.below hb (h.xs x hx).1.lt, (h.xs x hx).2⟩⟩
theorem Two.addX (h : Two w0 W gs ds Ns sbs mbs ms Zs gt dt Nt sbt mbt mt Zt X) {X1 : List Xc} (hb : Below W.heap.size W W') (hX : ∀ x ∈ X1, W.heap.size ≤ x.1 ∧ Blk W' x.1 x.2.1 x.2.2) : Two w0 W' gs ds Ns sbs mbs ms Zs gt dt Nt sbt mbt mt Zt (X1 ++ X) := by
  have h' := h.below hb
  refine ⟨h'.s, h'.t, h'.dis, h'.ls, h'.lt, h'.bel, fun x hx => ?_⟩
  rcases List.mem_append.1 hx with hx | hx
  · exact ⟨(hX x hx).2, fun hf => by have := h.s.lt hf; have := (hX x hx).1; omega, fun hf => by have := h.t.lt hf; have := (hX x hx).1; omega⟩
  · exact h'.xs x hx
theorem Two.afterS (h : Two w0 W gs ds Ns sbs mbs ms Zs gt dt Nt sbt mbt mt Zt X) {ds' : Dr} {Ns' mbs' : Nat} {ms' : KM} {Zs' : Nat → Prop} (hs : St W' gs ds' Ns' aN sbs mbs' ms' Zs') (ht : Turn (foot Zs sbs mbs) W W') (hf : ∀ k, foot Zs' sbs mbs' k → foot Zs sbs mbs k ∨ W.heap.size ≤ k) :
    Two w0 W' gs ds' Ns' sbs mbs' ms' Zs' gt dt Nt sbt mbt mt Zt X := by
  refine ⟨hs, h.t.keep ht (fun k hk hk2 => h.dis k hk2 hk), fun k hk hk2 => ?_, fun k hk => ?_, h.lt, ht.below h.bel h.ls, fun x hx => ?_⟩
  · rcases hf k hk with hh | hh
    · exact h.dis k hh hk2
    · have := h.t.lt hk2; omega
  · rcases hf k hk with hh | hh
    · exact h.ls k hh
    · exact Nat.le_trans h.bel.size hh
  · obtain ⟨q1, q2, q3⟩ := h.xs x hx
    refine ⟨ht.blk q1 q2, fun hh => ?_, q3⟩
    rcases hf _ hh with h1 | h1
    · exact q2 h1
    · have := q1.lt; omega
theorem Two.afterT (h : Two w0 W gs ds Ns sbs mbs ms Zs gt dt Nt sbt mbt mt Zt X) {dt' : Dr} {Nt' mbt' : Nat} {mt' : KM} {Zt' : Nat → Prop} (hs : St W' gt dt' Nt' aN sbt mbt' mt' Zt') (ht : Turn (foot Zt sbt mbt) W W') (hf : ∀ k, foot Zt' sbt mbt' k → foot Zt sbt mbt k ∨ W.heap.size ≤ k) :
    Two w0 W' gs ds Ns sbs mbs ms Zs gt dt' Nt' sbt mbt' mt' Zt' X := (h.swap.afterS hs ht hf).swap
end
end Go.Proofs.YtbjimikppdfmgaaGreatDoor
