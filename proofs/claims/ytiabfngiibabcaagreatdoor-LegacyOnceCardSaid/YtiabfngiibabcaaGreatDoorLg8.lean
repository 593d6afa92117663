/-
  What (*legacy.Log).grow has in hand: rows of hashes and of writes, a map, a leaf's bytes.
-/
import Derived.Test.YtiabfngiibabcaaGreatDoorBk
import Derived.Test.YtiabfngiibabcaaGreatDoorNd4
import Derived.Test.YtiabfngiibabcaaGreatDoorLg6
import Derived.Test.YtiabfngiibabcaaGreatDoorTl4
set_option linter.unusedVariables false
set_option linter.unusedSimpArgs false
set_option maxHeartbeats 3200000
set_option maxRecDepth 100000
namespace Go.Proofs.YtiabfngiibabcaaGreatDoor
open Go.RowKit

/-! ### plainly -/
theorem climbP_tops (n : Nat) : ∀ (f lv : Nat) (ts : List (List UInt8)) (h : List UInt8), (∀ t ∈ ts, t.length ≤ 100) → h.length ≤ 100 → (∀ t ∈ (climbP f lv n ts h).2.1, t.length ≤ 100) ∧ (climbP f lv n ts h).2.2.length ≤ 100 ∧ (climbP f lv n ts h).2.1.length ≤ ts.length ∧ (climbP f lv n ts h).1.length ≤ f
  | 0, lv, ts, h, h1, h2 => ⟨h1, h2, Nat.le_refl _, Nat.le_refl _⟩
  | f + 1, lv, ts, h, h1, h2 => by
    unfold climbP
    split
    · have ih := climbP_tops n f (lv + 1) ts.dropLast (nodeH (ts.getLastD []) h) (fun t ht => h1 t (List.dropLast_subset _ ht)) (by rw [nodeH_len]; omega)
      refine ⟨ih.1, ih.2.1, ?_, ?_⟩
      · have := ih.2.2.1
        rw [List.length_dropLast] at this
        show (climbP f (lv + 1) n ts.dropLast (nodeH (ts.getLastD []) h)).2.1.length ≤ _
        omega
      · have := ih.2.2.2
        simp only [List.length_cons]
        omega
    · exact ⟨h1, h2, Nat.le_refl _, by simp⟩
theorem growP_tops : ∀ (hs ts : List (List UInt8)) (n : Nat), (∀ t ∈ ts, t.length ≤ 100) → (∀ t ∈ hs, t.length ≤ 100) → (∀ t ∈ (growP n ts hs).2, t.length ≤ 100) ∧ (growP n ts hs).2.length ≤ ts.length + hs.length ∧ (growP n ts hs).1.length ≤ 13 * hs.length
  | [], ts, n, h1, h2 => ⟨h1, Nat.le_refl _, Nat.le_refl _⟩
  | h :: r, ts, n, h1, h2 => by
    obtain ⟨c1, c2, c3, c4⟩ := climbP_tops n 12 1 ts h h1 (h2 h (by simp))
    have ih := growP_tops r ((climbP 12 1 n ts h).2.1 ++ [(climbP 12 1 n ts h).2.2]) (n + 1) (fun t ht => by
      rcases List.mem_append.1 ht with ht | ht
      · exact c1 t ht
      · rw [List.mem_singleton.1 ht]; exact c2) (fun t ht => h2 t (by simp [ht]))
    obtain ⟨i1, i2, i3⟩ := ih
    unfold growP
    refine ⟨i1, ?_, ?_⟩
    · simp at i2 ⊢
      omega
    · simp at i3 ⊢
      omega
theorem growP_ne : ∀ (hs ts : List (List UInt8)) (n : Nat), ts ≠ [] ∨ hs ≠ [] → (growP n ts hs).2 ≠ []
  | [], ts, n, h => by
    rcases h with h | h
    · exact h
    · exact absurd rfl h
  | h :: r, ts, n, _ => by
    unfold growP
    exact growP_ne r _ _ (.inl (by simp))
theorem leafWs_fresh {m : KM} {at_ : Nat} {fm : KMapI} {x : Lf} {r : List Lf} (h : (kget m (iK (leafH (leafB x)))).isSome = false ∧ (kget fm (leafH (leafB x))).getD 0 = 0) : leafWs m at_ fm (x :: r) = ⟨lK at_, leafB x, false⟩ :: ⟨iK (leafH (leafB x)), numK at_, false⟩ :: leafWs m (at_ + 1) (kput fm (leafH (leafB x)) 1) r := by
  rw [leafWs, if_pos h]
theorem leafWs_old {m : KM} {at_ : Nat} {fm : KMapI} {x : Lf} {r : List Lf} (h : ¬ ((kget m (iK (leafH (leafB x)))).isSome = false ∧ (kget fm (leafH (leafB x))).getD 0 = 0)) : leafWs m at_ fm (x :: r) = ⟨lK at_, leafB x, false⟩ :: leafWs m (at_ + 1) fm r := by
  rw [leafWs, if_neg h]
/-! ### memory -/
theorem OwnI.look {P : Program} {k t e : TypeId} {w : World} {b : Nat} {m : KMapI} (h : OwnI P k w b m) (hk : P.underlying k = some .string) (ht : P.underlying t = some (.map k e)) (hz : (zeroValue e).run P w = .ok (.int .i64 0) w) (key : Key) (hl : key.length ≤ 1000000) :
    (Instr.lookup t (.map (some b)) (.string (S key)) false).run P w = .ok (.int .i64 ((kget m key).getD 0)) w := by
  obtain ⟨v, ps, hrun, hv⟩ := World.ownsMap.lookup h (Maps.string_keyed hk) ht hz (zd := .lit (.int .i64 0)) (zp := []) (Ri_int 0) (key_of hk key hl)
  rw [mapI_at] at hv
  rw [hrun]
  congr 1
  obtain ⟨z, rfl, hd⟩ := Ri_inv hv
  simp only [DataW.lit.injEq, Lit.int.injEq, true_and] at hd
  rw [hd]
/-- Rows of hashes and of writes, the map of hashes, the bytes at hand. -/
structure GR (W : World) (fb : Nat) (wr : World) (fm : KMapI) (hs : List (List UInt8)) (Ah : Option Addr) (ch : Nat) (os : List Wr) (Ao : Option Addr) (co : Nat) (l : List UInt8) (Ab : Option Addr) (cb : Nat) : Prop where
  gw : GW W wr hs Ah ch os Ao co
  map : OwnI Tryz.prog 9 wr fb fm
  by_ : ∃ base, wr.ownsRow base 5 1 (.slice Ab l.length cb) l.length (l.map B8)
  fbw : W.heap.size ≤ fb
section
variable {W wr w2 : World} {fb : Nat} {fm : KMapI} {hs : List (List UInt8)} {Ah Ao Ab : Option Addr} {ch co cb : Nat} {os : List Wr} {l : List UInt8}
theorem GR.below (h : GR W fb wr fm hs Ah ch os Ao co l Ab cb) (hb : Below wr.heap.size wr w2) : GR W fb w2 fm hs Ah ch os Ao co l Ab cb := by
  obtain ⟨h1, h2, ⟨b, h3⟩, h4⟩ := h
  exact ⟨h1.below hb, h2.kept (hb.block fb h2.lt), ⟨b, row_under h3 hb⟩, h4⟩
theorem GR.alloc (h : GR W fb wr fm hs Ah ch os Ao co l Ab cb) (o : Obj) : GR W fb (wr.alloc o) fm hs Ah ch os Ao co l Ab cb := h.below ((Below.refl _ _).alloc (Nat.le_refl _) _)
theorem GR.drew (h : GR W fb wr fm hs Ah ch os Ao co l Ab cb) : GR W fb wr.drew fm hs Ah ch os Ao co l Ab cb := h.below (below_drewN (Below.refl _ _) 1)
theorem GR.bytes (h : GR W fb wr fm hs Ah ch os Ao co l Ab cb) {l' : List UInt8} {Ab' : Option Addr} {cb' base : Nat} (hr : wr.ownsRow base 5 1 (.slice Ab' l'.length cb') l'.length (l'.map B8)) : GR W fb wr fm hs Ah ch os Ao co l' Ab' cb' := ⟨h.gw, h.map, ⟨base, hr⟩, h.fbw⟩
theorem GR.conv (h : GR W fb wr fm hs Ah ch os Ao co l Ab cb) : (convert 85 9 (.slice Ab l.length cb)).run Tryz.prog wr = .ok (.string (S l)) wr := by
  obtain ⟨b, h3⟩ := h.by_
  exact conv_row h3
theorem GR.addW (h : GR W fb wr fm hs Ah ch os Ao co l Ab cb) (y : Wr) (hl : os.length ≤ 1000000) : ∃ A' c' w', (Builtin.append_ #[105, 105] 105 #[.slice Ao os.length co, .slice (some ⟨wr.heap.size, 0, none⟩) 1 1]).run Tryz.prog (wr.alloc (.cells #[.string (S y.key), .string (S y.val), .bool y.gone] 104)) = .ok (.slice A' (os.length + 1) c') w' ∧ GR W fb w' fm hs Ah ch (os ++ [y]) A' c' l Ab cb := by
  obtain ⟨h0, h2, ⟨b, h3⟩, h4⟩ := h
  obtain ⟨A', c', w', hrun, hr, ht⟩ := append_wr wr y h0.wx hl h0.be.size
  have nm : ∀ k, OwnBy (.slice Ao os.length co) k → k ≠ fb := fun k hk => by
    obtain ⟨cs, hcs⟩ := row_heap h0.wx hk
    exact h2.not_blk (x := k) (tx := 104) (cs := cs) hcs
  exact ⟨A', c', w', hrun, ⟨row_keep h0.tx fun k hk => ht.block k (row_lt h0.tx hk) (row_apart h0.tx h0.wx (by decide) hk), hr, below_touch h0.be ht fun k hk => row_base_le h0.wx hk⟩,
    h2.kept (ht.block fb h2.lt fun hk => nm fb hk rfl), ⟨b, row_keep h3 fun k hk => ht.block k (row_lt h3 hk) (row_apart h3 h0.wx (by decide) hk)⟩, h4⟩
theorem GR.addT (h : GR W fb wr fm hs Ah ch os Ao co l Ab cb) (y : List UInt8) (hl : hs.length ≤ 1000000) : ∃ A' c' w', (Builtin.append_ #[39, 39] 39 #[.slice Ah hs.length ch, .slice (some ⟨wr.heap.size, 0, none⟩) 1 1]).run Tryz.prog (wr.alloc (.cells #[.string (S y)] 9)) = .ok (.slice A' (hs.length + 1) c') w' ∧ GR W fb w' fm (hs ++ [y]) A' c' os Ao co l Ab cb := by
  obtain ⟨h0, h2, ⟨b, h3⟩, h4⟩ := h
  obtain ⟨A', c', w', hrun, hr, ht⟩ := append_tx wr y h0.tx hl h0.be.size
  have nm : ∀ k, OwnBy (.slice Ah hs.length ch) k → k ≠ fb := fun k hk => by
    obtain ⟨cs, hcs⟩ := row_heap h0.tx hk
    exact h2.not_blk (x := k) (tx := 9) (cs := cs) hcs
  exact ⟨A', c', w', hrun, ⟨hr, row_keep h0.wx fun k hk => ht.block k (row_lt h0.wx hk) (row_apart h0.wx h0.tx (by decide) hk), below_touch h0.be ht fun k hk => row_base_le h0.tx hk⟩,
    h2.kept (ht.block fb h2.lt fun hk => nm fb hk rfl), ⟨b, row_keep h3 fun k hk => ht.block k (row_lt h3 hk) (row_apart h3 h0.tx (by decide) hk)⟩, h4⟩
theorem GR.note (h : GR W fb wr fm hs Ah ch os Ao co l Ab cb) (y : List UInt8) (hl : y.length ≤ 1000000) (hn : fm.length ≤ 1000000) : ∃ w', (Instr.mapUpdate 47 (.map (some fb)) (.string (S y)) (.int .i64 1)).run Tryz.prog wr = .ok () w' ∧ GR W fb w' (kput fm y 1) hs Ah ch os Ao co l Ab cb := by
  obtain ⟨h0, h2, ⟨b, h3⟩, h4⟩ := h
  obtain ⟨w', hrun, ho, hg⟩ := OwnI.put h2 (t := 47) (e := 3) (by kernel_rfl) (by kernel_rfl) (by omega) y hl 1
  have kept : ∀ {base n c : Nat} {e : TypeId} {size : Nat} {A : Option Addr} {xs : List Value}, wr.ownsRow base e size (.slice A n c) n xs → w'.ownsRow base e size (.slice A n c) n xs := fun hr => row_keep hr fun k hk => hg.block k (row_lt hr hk) fun e => by
    injection e with e
    obtain ⟨cs, hcs⟩ := row_heap hr hk
    exact h2.not_blk (x := k) (cs := cs) hcs e
  exact ⟨w', hrun, ⟨kept h0.tx, kept h0.wx, ⟨hg.os.trans h0.be.os, hg.tape.trans h0.be.tape, hg.output.trans h0.be.output, Nat.le_trans h0.be.size hg.size, fun k hk => (hg.block k (Nat.lt_of_lt_of_le hk h0.be.size) (fun e => by injection e with e; omega)).trans (h0.be.block k hk)⟩⟩, ho, ⟨b, kept h3⟩, h4⟩
end
/-- A row of writes behind another. -/
theorem append_wrs (W : World) {base : Nat} {A A2 : Option Addr} {c c2 base2 : Nat} {os ys : List Wr} (hown : W.ownsRow base 104 3 (.slice A os.length c) os.length (os.flatMap wCells)) (hy : W.ownsRow base2 104 3 (.slice A2 ys.length c2) ys.length (ys.flatMap wCells)) (hl : os.length ≤ 1000000) (hl2 : ys.length ≤ 1000000) (hbase : base ≤ W.heap.size) :
    ∃ A' c' w', (Builtin.append_ #[105, 105] 105 #[.slice A os.length c, .slice A2 ys.length c2]).run Tryz.prog W = .ok (.slice A' (os.length + ys.length) c') w' ∧
      w'.ownsRow base 104 3 (.slice A' (os ++ ys).length c') (os ++ ys).length ((os ++ ys).flatMap wCells) ∧ Touch W w' (OwnBy (.slice A os.length c)) (OwnBy (.slice A' (os.length + ys.length) c')) := by
  obtain ⟨i, hi, hz, hsz, hby⟩ := info_write
  have hfm : ∀ l : List Wr, (l.flatMap wCells).length = l.length * 3 := fun l => by
    induction l with
    | nil => rfl
    | cons a r ih => rw [List.flatMap_cons, List.length_append, ih]; simp [wCells]; omega
  obtain ⟨v', w', hrun, hown1, hgrow, hat⟩ := run_append_row (P := Tryz.prog) W base 105 105 104 i _ 3 40 (by kernel_rfl) hi hz hsz hby rfl (by decide) _ _ _ hown A2 ys.length c2 (ys.flatMap wCells) (hfm ys)
    (fun h => by
      subst h
      rcases hy.2 with ⟨h1, h2⟩ | ⟨g, cap, cur, hv, -⟩
      · exact h2
      · cases hv)
    (fun ad had j u hu => by
      rcases hy.2 with ⟨h1, h2⟩ | ⟨g, cap, cur, hv, hb, hh, hnc, r⟩
      · rw [had] at h1; cases h1
      · simp only [Value.slice.injEq] at hv
        obtain ⟨rfl, -, rfl⟩ := hv
        injection had with had
        subst had
        rw [add_plain', Nat.zero_add, ← hu]
        have hj : j < ys.length * 3 := by
          have := (List.getElem?_eq_some_iff.1 hu).1
          rw [hfm] at this
          exact this
        exact hy.cellAt j hj)
    (fun u hu => by
      obtain ⟨y, -, hu⟩ := List.mem_flatMap.1 hu
      simp only [wCells, List.mem_cons, List.not_mem_nil, or_false] at hu
      rcases hu with rfl | rfl | rfl <;> rfl)
    (by unfold maxLen; omega) (by omega) hbase
  have hlen : (os ++ ys).length = os.length + ys.length := by simp
  have hfl : (os ++ ys).flatMap wCells = os.flatMap wCells ++ ys.flatMap wCells := by simp
  obtain ⟨A', c', rfl⟩ := row_form hown1
  refine ⟨A', c', w', hrun, ?_, (Touch.of_grown hgrow fun k hk => hk).more fun k hk => ?_⟩
  · rw [hlen, hfl]
    exact hown1
  · rcases hat with h | h
    · exact .inl (h ▸ hk)
    · rw [OwnBy, h] at hk
      injection hk with hk
      exact .inr (by rw [← hk]; exact Nat.le_refl _)
end Go.Proofs.YtiabfngiibabcaaGreatDoor
