/- Batches of batches; the list of what stands, kept beside a store. -/
import Derived.Test.YtbjimikppdfmgaaGreatDoorKvSp
set_option linter.unusedVariables false
set_option linter.unusedSimpArgs false
set_option maxHeartbeats 3200000
set_option maxRecDepth 100000
namespace Go.Proofs.YtbjimikppdfmgaaGreatDoor
open Go.RowKit Go.WideMaps Go.ChangeMaps Go.WideAt Go.WideShapes

theorem ref14_DoQ (w : World) (base : Nat) (A B : Option Addr) (c cb : Nat) (l bt : List Wr) (hl : w.ownsRow base 31 3 (.slice A l.length c) l.length (l.flatMap wCells)) (hbase : base ≤ w.heap.size) (hb : WsAt w B bt) (hll : l.length + bt.length ≤ 1000) :
    Calls Tryz.prog 14 #[.slice A l.length c, .slice B bt.length cb] w fun e w' => ∃ A' c', e = .returned (.slice A' (doR l bt).length c') ∧ w'.ownsRow base 31 3 (.slice A' (doR l bt).length c') (doR l bt).length ((doR l bt).flatMap wCells) ∧ (∀ q, (Value.slice A' (doR l bt).length c').ownBlock = some q → (Value.slice A l.length c).ownBlock = some q ∨ w.heap.size ≤ q) ∧ Below w.heap.size w w' := by
  have HB := hid hb
  have HL := hid hl
  clear hb hl
  go_enter Tryz.func14, Tryz.ntmps14
  go_wp2
  go_loopw [0, 5] (fun s i wr => ∃ (k : Nat) (A' : Option Addr) (c' : Nat) (ls : List Wr), k ≤ bt.length ∧ i = .int .i64 k ∧ s = .slice A' ls.length c' ∧ ls.length ≤ l.length + k ∧ Hid (ls = doR l (bt.take k)) ∧ Hid (wr.ownsRow base 31 3 (.slice A' ls.length c') ls.length (ls.flatMap wCells)) ∧ Hid (∀ q, (Value.slice A' ls.length c').ownBlock = some q → (Value.slice A l.length c).ownBlock = some q ∨ w.heap.size ≤ q) ∧ Hid (Below w.heap.size w wr)) (fun _ i _ => bt.length - (intOf i).toNat)
  case atStart => exact ⟨0, A, c, l, Nat.zero_le _, rfl, rfl, by omega, rfl, HL, fun q hq => .inl hq, Below.refl _ _⟩
  case round =>
    obtain ⟨k, A', c', ls, hk, rfl, rfl, hlen, hd, hws, hqs, hbw⟩ := hrel
    by_cases h : k < bt.length
    · obtain ⟨bb, off, rfl, hbb, hc⟩ := (HB.out.below hbw.out) (by omega)
      obtain ⟨e0, e1, e2⟩ := hc k h
      clear hc
      have HD := hid (show doR l (bt.take (k + 1)) = oneR ls bt[k] bt[k].gone by rw [hd.out, List.take_succ_eq_append_getElem h, doR, List.foldl_append]; rfl)
      have HLN := hid (oneR_len bt[k] ls bt[k].gone)
      have ON := hid (ref14_one wr A' c' ls bt[k] (ws_row hws.out) (by omega))
      generalize bt[k] = x at *
      obtain ⟨xk, xv, xg⟩ := x
      simp only [] at e0 e1 e2
      go_wp2_with fail
      refine ON.out.mono ?_
      rintro e w2 ⟨A2, c2, rfl, hr2, hb2⟩
      have HW2 := hid (row_base hr2 (Nat.le_trans hbase hbw.out.size))
      have HQ2 := hid (show ∀ q, (Value.slice A2 (oneR ls ⟨xk, xv, xg⟩ xg).length c2).ownBlock = some q → (Value.slice A l.length c).ownBlock = some q ∨ w.heap.size ≤ q from fun q hq => .inr (Nat.le_trans hbw.out.size (row_base_le hr2 hq)))
      have HB2 := hid (Below.trans hbw.out (hb2.mono hbw.out.size))
      clear hr2 hb2
      go_wp2
      go_roundw
      case rel => exact ⟨k + 1, A2, c2, _, by omega, by go_num, rfl, by have := HLN.out; split at this <;> omega, hid HD.out.symm, HW2, HQ2, HB2⟩
      case measure => simp [intOf]; omega
    · have hk' : k = bt.length := by omega
      have HF := hid (show ls = doR l bt by rw [hd.out, hk', List.take_length])
      clear hd
      go_wp2
      go_ret
      exact ⟨A', c', by rw [← HF.out]; rfl, by rw [← HF.out]; exact hws.out, by rw [← HF.out]; exact hqs.out, hbw.out⟩
theorem small_bytes14 {l : List Wr} {n : Nat} (h : ∀ x ∈ l, x.key.length ≤ 210 ∧ x.val.length ≤ 100) (hl : l.length ≤ n) : (bodyB l).length ≤ n * 317 ∧ (frameB l).length ≤ n * 317 + 4 := by
  have h1 := bodyB_le (b := l) (k := 210) (v := 100) h
  have h2 : l.length * (7 + 210 + 100) ≤ n * 317 := Nat.mul_le_mul_right _ hl
  have h3 := frameB_len l
  omega

/-- A row of writes, as the block that it is. -/
theorem ws_row_own {w : World} {base : Nat} {A : Option Addr} {c : Nat} {ps : List Wr} (h : w.ownsRow base 31 3 (.slice A ps.length c) ps.length (ps.flatMap wCells)) :
    ∃ X1 : List Xc, (∀ x ∈ X1, (Value.slice A ps.length c).ownBlock = some x.1 ∧ Blk w x.1 x.2.1 x.2.2) ∧ ∀ W', (∀ x ∈ X1, Blk W' x.1 x.2.1 x.2.2) → WsAt W' A ps := by
  rcases h.2 with ⟨h1, h2⟩ | ⟨g, cap, cur, hv, hb, hh, r1, r2, r3, r4⟩
  · exact ⟨[], by simp, fun W' _ h0 => by omega⟩
  · simp only [Value.slice.injEq] at hv
    obtain ⟨rfl, -, rfl⟩ := hv
    refine ⟨[(g, 31, cur)], fun x hx => by rw [List.mem_singleton.1 hx]; exact ⟨rfl, hh⟩, fun W' hW h0 => ?_⟩
    have hB := hW _ (List.mem_singleton.2 rfl)
    refine ⟨g, 0, rfl, hB.lt, fun i hi => ?_⟩
    obtain ⟨p1, p2, p3⟩ := wCells_get ps i hi
    have key : ∀ j, j < ps.length * 3 → cur[j]? = (ps.flatMap wCells)[j]? := fun j hj => by
      rw [← r4, List.getElem?_take, if_pos hj]
      simp
    simp only [Nat.zero_add]
    exact ⟨(hB.cell _).trans ((key _ (by omega)).trans p1), (hB.cell _).trans ((key _ (by omega)).trans p2), (hB.cell _).trans ((key _ (by omega)).trans p3)⟩
/-- A batch in memory. -/
structure VB where
  A : Option Addr
  c : Nat
  l : List Wr
/-- A slice of batches. -/
def BatchesAt (w : World) (A : Option Addr) (L : List VB) : Prop :=
  0 < L.length → ∃ b off, A = some ⟨b, off, none⟩ ∧ b < w.heap.size ∧ ∀ i, (h : i < L.length) → w.cell? ⟨b, off + i, none⟩ = some (.slice L[i].A L[i].l.length L[i].c) ∧ WsAt w L[i].A L[i].l
theorem BatchesAt.below {w w' : World} {A : Option Addr} {L : List VB} (h : BatchesAt w A L) (hb : Below w.heap.size w w') : BatchesAt w' A L := fun h0 => by
  obtain ⟨b, off, rfl, hlt, hc⟩ := h h0
  exact ⟨b, off, rfl, Nat.lt_of_lt_of_le hlt hb.size, fun i hi => ⟨(hb.cell (p := ⟨b, off + i, none⟩) hlt).trans (hc i hi).1, (hc i hi).2.below hb⟩⟩
open Go.Deep in
theorem open_batches {H : Type} {enc : TypeId × Value → H} {w : World} {base : Nat} {spare : Nat → Bool} {held : Bool} {A : Option Addr} {n cap : Nat} {d : DataW H} {ps : List MemPlace}
    (h : DataW.Trod enc Tryz.prog w base spare held 42 (.slice A n cap) d ps) : ∃ L : List VB, n = L.length ∧ L.length ≤ cap ∧ (cap : Int) ≤ 9223372036854775807 ∧ BatchesAt w A L := by
  have hC : (Tryz.prog).cellsOf 32 = 1 := by kernel_rfl
  obtain ⟨h1, h2, h3⟩ := open_slice_any Tryz.underlying42 (by rw [hC]; omega) h
  rw [hC] at h3
  rcases Nat.eq_zero_or_pos n with h0 | h0
  · exact ⟨[], by simpa using h0, by simp, h2, fun h => absurd h (by simp)⟩
  · obtain ⟨b, off, hA, hb, hi⟩ := h3 h0
    obtain ⟨l, hl, hp⟩ := choose_list n (fun i (q : VB) => w.cell? ⟨b, off + i, none⟩ = some (.slice q.A q.l.length q.c) ∧ WsAt w q.A q.l) ⟨none, 0, []⟩ (fun i hin => by
      obtain ⟨cs, m, y, hlen, hcell, ht⟩ := hi i hin
      have hv : ∃ A2 n2 c2, cs = [.slice A2 n2 c2] := by
        rcases open_slice Tryz.underlying32 ht with ⟨hcs, _⟩ | ⟨a, len, cap', m', n', D, Pl, hcs, _⟩
        · exact ⟨_, _, _, hcs⟩
        · exact ⟨_, _, _, hcs⟩
      obtain ⟨A2, n2, c2, rfl⟩ := hv
      obtain ⟨qs, rfl, -, -, hw⟩ := open_writes (w := w) (A := A2) (n := n2) (cap := c2) (show DataW.Trod enc Tryz.prog w base spare held 32 (.slice A2 n2 c2) y.1 y.2 from ⟨m, ht⟩)
      refine ⟨⟨A2, c2, qs⟩, ?_, hw⟩
      have := hcell 0 (by omega)
      rw [Nat.add_zero, Nat.mul_one] at this
      rw [this]
      rfl)
    exact ⟨l, hl.symm, by omega, h2, fun _ => ⟨b, off, hA, hb, hp⟩⟩
theorem mem_doW {m : KM} {x : Wr} {p : Key × List UInt8} (h : p ∈ doW m x) : p ∈ m ∨ (p = (x.key, x.val)) := by
  unfold doW at h
  split at h
  · exact .inl (mem_kdel.1 h).1
  · rcases mem_kput.1 h with h | h
    · exact .inr h
    · exact .inl h.1
theorem mem_doB (b : List Wr) : ∀ {m : KM} {p : Key × List UInt8}, p ∈ doB m b → p ∈ m ∨ ∃ x ∈ b, p = (x.key, x.val) := by
  induction b with
  | nil => intro m p h; exact .inl h
  | cons x b ih =>
    intro m p h
    rcases ih (m := doW m x) h with h | ⟨y, hy, e⟩
    · rcases mem_doW h with h | h
      · exact .inl h
      · exact .inr ⟨x, by simp, h⟩
    · exact .inr ⟨y, by simp [hy], e⟩
/-- What stands behind batches; the log's bytes behind them. -/
def roomM (m : KM) (b : List Wr) : KM := if mayB (cutB b) = true then doB m (cutB b) else m
def roomL (l : List UInt8) (b : List Wr) : List UInt8 := if mayB (cutB b) = true then l ++ frameB (cutB b) else l
def roomMs (L : List VB) : KM := L.foldl (fun m b => roomM m b.l) []
def roomLs (L : List VB) : List UInt8 := L.foldl (fun m b => roomL m b.l) []
theorem roomMs_snoc (L : List VB) (b : VB) : roomMs (L ++ [b]) = roomM (roomMs L) b.l := by simp [roomMs]
theorem roomLs_snoc (L : List VB) (b : VB) : roomLs (L ++ [b]) = roomL (roomLs L) b.l := by simp [roomLs]
/-- What is known of them. -/
structure RoomOk (m : KM) (l : List UInt8) (n : Nat) : Prop where
  ris : Rising m
  len : m.length ≤ n * 5
  key : ∀ p ∈ m, 1 ≤ p.1.length ∧ p.1.length ≤ 200 ∧ p.2.length ≤ 100
  log : l.length ≤ n * 1589
theorem RoomOk.step {m : KM} {l : List UInt8} {n : Nat} (h : RoomOk m l n) (b : List Wr) : RoomOk (roomM m b) (roomL l b) (n + 1) := by
  unfold roomM roomL
  cases hm : mayB (cutB b) with
  | false =>
    simp only [Bool.false_eq_true, if_false]
    exact ⟨h.ris, by have := h.len; omega, h.key, by have := h.log; omega⟩
  | true =>
    simp only [if_true]
    have hl := cutB_len b
    have hf := small_bytes14 (l := cutB b) (n := 5) (fun x hx => cutB_mem hx) hl
    refine ⟨(doR_do (cutB b) m h.ris).2, by have := doB_len m (cutB b); have := h.len; omega, fun p hp => ?_, by rw [List.length_append]; have := h.log; omega⟩
    rcases mem_doB _ hp with hp | ⟨x, hx, rfl⟩
    · exact h.key p hp
    · obtain ⟨q1, q2⟩ := may_keys hm x hx
      exact ⟨q1, q2, (cutB_mem hx).2⟩
theorem roomOk (L : List VB) : RoomOk (roomMs L) (roomLs L) L.length := by
  have aux : ∀ n, n ≤ L.length → RoomOk (roomMs (L.take n)) (roomLs (L.take n)) n := by
    intro n
    induction n with
    | zero => intro _; exact ⟨List.Pairwise.nil, by simp [roomMs], by simp [roomMs], by simp [roomLs]⟩
    | succ n ih =>
      intro hn
      rw [List.take_succ_eq_append_getElem (by omega), roomMs_snoc, roomLs_snoc]
      exact (ih (by omega)).step _
  have := aux L.length (Nat.le_refl _)
  rwa [List.take_length] at this
theorem may_wOf {m : KM} (h : ∀ p ∈ m, 1 ≤ p.1.length ∧ p.1.length ≤ 200 ∧ p.2.length ≤ 100) : mayB (m.map wOf) = true := by
  refine List.all_eq_true.2 fun x hx => ?_
  obtain ⟨p, hp, rfl⟩ := List.mem_map.1 hx
  obtain ⟨h1, h2, h3⟩ := h p hp
  have hne : p.1 ≠ [] := List.length_pos_iff.1 (by omega)
  have e1 : (p.1 == []) = false := beq_eq_false_iff_ne.2 hne
  show (!(p.1 == []) && decide (p.1.length ≤ 200) && decide (p.2.length ≤ 1048576) && !(false && !(p.2 == []))) = true
  rw [e1, decide_eq_true h2, decide_eq_true (show p.2.length ≤ 1048576 by omega)]
  rfl
end Go.Proofs.YtbjimikppdfmgaaGreatDoor
