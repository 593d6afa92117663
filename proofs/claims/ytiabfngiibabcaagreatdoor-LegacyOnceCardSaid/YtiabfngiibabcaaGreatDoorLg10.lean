/-
  Walks of (*legacy.Log).Add: a certificate that is new; one that was seen. Printed by genLg4.py.
-/
import Derived.Test.YtiabfngiibabcaaGreatDoorLg9
import Derived.Test.YtiabfngiibabcaaGreatDoorLg4
set_option linter.unusedVariables false
set_option linter.unusedSimpArgs false
set_option maxHeartbeats 12800000
set_option maxRecDepth 100000
namespace Go.Proofs.YtiabfngiibabcaaGreatDoor
open Go.RowKit

theorem Turn.trans {T : Nat → Prop} {W W1 W2 : World} (h : Turn T W W1) (k : Turn T W1 W2) : Turn T W W2 :=
  ⟨k.os.trans h.os, k.tape.trans h.tape, k.output.trans h.output, Nat.le_trans h.size k.size, fun j hj hn => (k.block j (Nat.lt_of_lt_of_le hj h.size) hn).trans (h.block j hj hn)⟩
theorem Turn.more {T T' : Nat → Prop} {W W1 : World} (h : Turn T W W1) (hT : ∀ k, T k → T' k) : Turn T' W W1 := ⟨h.os, h.tape, h.output, h.size, fun j hj hn => h.block j hj fun ht => hn (hT j ht)⟩
theorem Turn.of_touch {p q : Nat → Prop} {W W1 : World} (h : Touch W W1 p q) : Turn p W W1 := ⟨h.os, h.tape, h.output, h.size, h.block⟩
theorem Turn.setCell {T : Nat → Prop} {W W1 : World} (h : Turn T W W1) (p : Addr) (hp : T p.block ∨ W.heap.size ≤ p.block) (v : Value) : Turn T W (W1.setCell p v) := by
  have hq := (Below.refl p.block W1).setCell (p := p) (Nat.le_refl _) v
  refine ⟨hq.os.trans h.os, hq.tape.trans h.tape, hq.output.trans h.output, Nat.le_trans h.size hq.size, fun j hj hn => ?_⟩
  rw [Below.heap_setCell _ _ _ _ (by
    rintro rfl
    rcases hp with hp | hp
    · exact hn hp
    · omega)]
  exact h.block j hj hn
theorem Turn.row {T : Nat → Prop} {W W1 : World} (h : Turn T W W1) {base n c : Nat} {e : TypeId} {size : Nat} {A : Option Addr} {xs : List Value} (hr : W.ownsRow base e size (.slice A n c) n xs) (hn : ∀ k, OwnBy (.slice A n c) k → ¬ T k) : W1.ownsRow base e size (.slice A n c) n xs := row_keep hr fun k hk => h.block k (row_lt hr hk) (hn k hk)
section
variable {W : World} {g N sb mb lb size cm c bp : Nat} {d : Dr} {m : KM} {Z : Nat → Prop} {A : Option Addr} {P : List Lf} {hd : Value} {C : KMapI}
/-- What a call of Add leaves. -/
def AddPost (W : World) (T : Nat → Prop) (g : Nat) (d : Dr) (N sb lb size cm bp : Nat) (m : KM) (P : List Lf) (hd : Value) (C : KMapI) (x : Lf) (A : Option Addr) (c : Nat) (Z : Nat → Prop) (mb : Nat) (e : Ending) (w' : World) : Prop :=
  e = .returned (.tuple #[leafV x, .int .i64 0]) ∧ ∃ mb' Z' A' c', St w' g d N lgN sb mb' m Z' ∧ Blk w' lb 49 (logCells sb size (.slice A' P.length c') hd cm) ∧ w'.ownsRow bp 30 2 (.slice A' P.length c') P.length (P.flatMap lCells) ∧ OwnI Tryz.prog 9 w' cm C ∧
    Turn T W w' ∧ (∀ k, foot Z' sb mb' k → foot Z sb mb k ∨ W.heap.size ≤ k) ∧ (∀ k, OwnBy (.slice A' P.length c') k → T k ∨ W.heap.size ≤ k) ∧ (∀ k, k = lb ∨ k = cm ∨ OwnBy (.slice A' P.length c') k → ¬ foot Z' sb mb' k)
theorem legacy_Add_new (hst : St W g d N lgN sb mb m Z) (hdn : d.down = false) (hB : Blk W lb 49 (logCells sb size (.slice A P.length c) hd cm)) (hP : W.ownsRow bp 30 2 (.slice A P.length c) P.length (P.flatMap lCells)) (hbp : bp ≤ W.heap.size) (hC : OwnI Tryz.prog 9 W cm C)
    (hF : ∀ k, k = lb ∨ k = cm ∨ OwnBy (.slice A P.length c) k → ¬ foot Z sb mb k) (x : Lf) (hok : okL x = true) (hnew : kget C x.cert = none) (hPl : P.length < 64) (hsz : size ≤ 1048576) (hCl : C.length ≤ 100000) (hml : m.length ≤ 100000) (hN : N < 1000000) (hL : LibL W)
    (hAp : (d.append (fileN lgN logN) (frameB [⟨pK (size + P.length), leafB x, false⟩])).2 = 0) (hSy : ((d.append (fileN lgN logN) (frameB [⟨pK (size + P.length), leafB x, false⟩])).1.sync (fileN lgN logN)).2 = 0) :
    Calls Tryz.prog 9 #[.pointer (some ⟨lb, 0, none⟩), .string (S x.cert), .int .i64 x.time] W (AddPost W (fun k => foot Z sb mb k ∨ k = lb ∨ k = cm ∨ OwnBy (.slice A P.length c) k) g (((d.append (fileN lgN logN) (frameB [⟨pK (size + P.length), leafB x, false⟩])).1.sync (fileN lgN logN)).1) (N + 1) sb lb size cm bp (doB m [⟨pK (size + P.length), leafB x, false⟩]) (P ++ [x]) hd (noteM C x) x A c Z mb) := by
  obtain ⟨W2, HW2⟩ : ∃ W2, Hid (W2 = (W.alloc (.cells #[.int .i64 0, .string (S [])] 30)).alloc (.cells #[.int .i64 x.time, .string (S x.cert)] 30)) := ⟨_, hid rfl⟩
  have b1 : Below W.heap.size W (W.alloc (.cells #[.int .i64 0, .string (S [])] 30)) := (Below.refl _ _).alloc (Nat.le_refl _) _
  have b2 : Below W.heap.size W W2 := by rw [HW2.out]; exact b1.alloc b1.size _
  have hz2 : W2.heap.size = W.heap.size + 2 := by rw [HW2.out]; simp
  have hR : Blk W2 W.heap.size 30 #[.int .i64 0, .string (S [])] := by rw [HW2.out]; exact (Blk.new _ _ _).alloc _
  have hX : Blk W2 (W.heap.size + 1) 30 #[.int .i64 x.time, .string (S x.cert)] := by rw [HW2.out]; simpa using Blk.new (W.alloc (.cells #[.int .i64 0, .string (S [])] 30)) 30 #[.int .i64 x.time, .string (S x.cert)]
  have hfl : ∀ k, foot Z sb mb k → k < W.heap.size := fun k hk => hst.lt hk
  have hlbW := hB.lt
  have hcmW := hC.lt
  obtain ⟨-, hxc1, hxc2⟩ := okL_of hok
  obtain ⟨⟨ht1, ht2⟩, -, -⟩ := okL_of hok
  -- the power is there
  have st1 : St (W.alloc (.cells #[.int .i64 0, .string (S [])] 30)) g d N lgN sb mb m Z := hst.keep (Turn.of_below b1 (fun _ => False)) (fun _ _ h => h)
  have AL := kv_Alive (st1.mw (X1 := []) (by simp)) (name := lgN) (dead := false) (List.Mem.head _)
  rw [hdn] at AL
  have HAL := hid AL
  have TL := hid (tls_Leaf_ok x W2 hok)
  -- what is before Apply
  have PRE := hid (show ∀ w3, Below W2.heap.size W2 w3 → w3.cell? ⟨lb, 0, none⟩ = some (.pointer (some ⟨sb, 0, none⟩)) ∧ w3.cell? ⟨lb, 1, none⟩ = some (.int .i64 size) ∧ w3.cell? ⟨lb, 2, none⟩ = some (.slice A P.length c) ∧ Blk w3 lb 49 (logCells sb size (.slice A P.length c) hd cm) ∧ OwnI Tryz.prog 9 w3 cm C ∧ Blk w3 (W.heap.size + 1) 30 #[.int .i64 x.time, .string (S x.cert)] ∧ Below W.heap.size W w3 by
    intro w3 hb
    have hb3 := bt b2 hb
    have h3 := hB.below hb3 hlbW
    obtain ⟨l0, l1, l2, l3, l4⟩ := log5 h3
    exact ⟨l0, l1, l2, h3, hC.kept (hb3.block cm hcmW), hX.below hb hX.lt, hb3⟩)
  have SEEN := hid (fun (w3 : World) (hb : Below W2.heap.size W2 w3) => by
    have := legacy_Seen (PRE.out w3 hb).2.2.2.1 (PRE.out w3 hb).2.2.2.2.1 x.cert (by omega)
    rw [hnew] at this
    exact this)
  have hpk : (pK (size + P.length)).length ≤ 100 := by
    unfold pK numK
    have := padL_le (size + P.length) 7 (by omega)
    simp
    omega
  have hlf : (leafB x).length ≤ 2000 := by rw [leafB_len]; omega
  have hmy : mayB [⟨pK (size + P.length), leafB x, false⟩] = true := by
    unfold mayB okW
    have h1 : pK (size + P.length) ≠ [] := by unfold pK; simp
    simp [h1]
    omega
  have hbl : (bodyB [⟨pK (size + P.length), leafB x, false⟩]).length ≤ 800000 := by
    unfold bodyB
    simp [wrB_len]
    omega
  have APP := hid (fun (w4 : World) (hb : Below W2.heap.size W2 w4) => by
    have hb4 := bt b2 hb
    have hb5 : Below W2.heap.size W2 (w4.alloc (.cells #[.string (S (pK (size + P.length))), .string (S (leafB x)), .bool false] 104)) := hb.alloc hb.size _
    have s5 : St (w4.alloc (.cells #[.string (S (pK (size + P.length))), .string (S (leafB x)), .bool false] 104)) g d N lgN sb mb m Z := hst.keep (Turn.of_below (bt b2 hb5) (fun _ => False)) (fun _ _ h => h)
    have hN5 := Blk.new w4 104 #[.string (S (pK (size + P.length))), .string (S (leafB x)), .bool false]
    exact st_Apply_ok s5 (X1 := [(w4.heap.size, 104, #[.string (S (pK (size + P.length))), .string (S (leafB x)), .bool false])]) (by
      intro y hy
      obtain rfl := List.mem_singleton.1 hy
      exact ⟨fun hf => by have h1 := hfl _ hf; have h2 := hb4.size; simp only [] at h1; omega, hN5⟩) hdn (some ⟨w4.heap.size, 0, none⟩) 1 [⟨pK (size + P.length), leafB x, false⟩] (fun W' hx h0 => by
      have hy := hx (w4.heap.size, 104, #[.string (S (pK (size + P.length))), .string (S (leafB x)), .bool false]) (by simp)
      refine ⟨w4.heap.size, 0, rfl, hy.lt, fun i hi => ?_⟩
      have : i = 0 := by simp at hi; omega
      subst this
      exact ⟨hy.cell 0, hy.cell 1, hy.cell 2⟩) (by simp) hmy hbl hml hN (by decide) hAp hSy)
  have LB := hid (fun (w3 : World) (hb : Below W2.heap.size W2 w3) => nodes_Staged (size + P.length) (by omega) w3 (hL.below (bt b2 hb)))
  -- behind Apply
  have PAST := hid (show ∀ w4 w5, Below W2.heap.size W2 w4 → Turn (foot Z sb mb) (w4.alloc (.cells #[.string (S (pK (size + P.length))), .string (S (leafB x)), .bool false] 104)) w5 → Turn (foot Z sb mb) W2 w5 ∧ w5.cell? ⟨lb, 0, none⟩ = some (.pointer (some ⟨sb, 0, none⟩)) ∧ Blk w5 lb 49 (logCells sb size (.slice A P.length c) hd cm) ∧ OwnI Tryz.prog 9 w5 cm C ∧ Blk w5 (W.heap.size + 1) 30 #[.int .i64 x.time, .string (S x.cert)] by
    intro w4 w5 hb ht
    have h0 : Turn (foot Z sb mb) W2 w5 := (Turn.of_below (hb.alloc hb.size _) _).trans ht
    have h1 : Turn (foot Z sb mb) W w5 := (Turn.of_below b2 _).trans h0
    have hB5 := h1.blk hB (hF lb (.inl rfl))
    exact ⟨h0, hB5.cell 0, hB5, hC.kept (h1.block cm hcmW (hF cm (.inr (.inl rfl)))), h0.blk hX (fun hf => by have := hfl _ hf; omega)⟩)
  have NOTE := hid (fun (w5 : World) (h1 : Blk w5 lb 49 (logCells sb size (.slice A P.length c) hd cm)) (h2 : OwnI Tryz.prog 9 w5 cm C) => legacy_note h1 h2 x (by omega) (by omega))
  have FIN := hid (show ∀ w5 w6, Turn (foot Z sb mb) W2 w5 → Touch w5 w6 (fun k => k = cm) (fun k => k = cm) → OwnI Tryz.prog 9 w6 cm (noteM C x) →
      w6.cell? ⟨lb, 2, none⟩ = some (.slice A P.length c) ∧ Blk w6 (W.heap.size + 1) 30 #[.int .i64 x.time, .string (S x.cert)] ∧ ∃ A' c' w7, (Builtin.append_ #[35, 35] 35 #[.slice A P.length c, .slice (some ⟨w6.heap.size, 0, none⟩) 1 1]).run Tryz.prog (w6.drew.alloc (.cells #[.int .i64 x.time, .string (S x.cert)] 30)) = .ok (.slice A' (P.length + 1) c') w7 ∧
        Blk w7 lb 49 (logCells sb size (.slice A P.length c) hd cm) ∧ w7.cell? ⟨W.heap.size + 1, 0, none⟩ = some (.int .i64 x.time) ∧ w7.cell? ⟨W.heap.size + 1, 1, none⟩ = some (.string (S x.cert)) ∧ (w7.setCell ⟨lb, 2, none⟩ (.slice A' (P.length + 1) c')).cell? ⟨W.heap.size + 1, 0, none⟩ = some (.int .i64 x.time) ∧ (w7.setCell ⟨lb, 2, none⟩ (.slice A' (P.length + 1) c')).cell? ⟨W.heap.size + 1, 1, none⟩ = some (.string (S x.cert)) ∧ Blk (w7.setCell ⟨lb, 2, none⟩ (.slice A' (P.length + 1) c')) W.heap.size 30 #[.int .i64 0, .string (S [])] ∧
        ∀ w9, w9 = ((w7.setCell ⟨lb, 2, none⟩ (.slice A' (P.length + 1) c')).setCell ⟨W.heap.size, 0, none⟩ (.int .i64 x.time)).setCell ⟨W.heap.size, 1, none⟩ (.string (S x.cert)) → w9.cell? ⟨W.heap.size, 0, none⟩ = some (.int .i64 x.time) ∧ w9.cell? ⟨W.heap.size, 1, none⟩ = some (.string (S x.cert)) ∧
          ∀ mb' Z' N' d' m', St w5 g d' N' lgN sb mb' m' Z' → (∀ k, foot Z' sb mb' k → foot Z sb mb k ∨ W2.heap.size ≤ k) → AddPost W (fun k => foot Z sb mb k ∨ k = lb ∨ k = cm ∨ OwnBy (.slice A P.length c) k) g d' N' sb lb size cm bp m' (P ++ [x]) hd (noteM C x) x A c Z mb (.returned (.tuple #[leafV x, .int .i64 0])) w9 by
    intro w5 w6 ht5 ht6 ho
    have h1 : Turn (foot Z sb mb) W w5 := (Turn.of_below b2 _).trans ht5
    have hB5 := h1.blk hB (hF lb (.inl rfl))
    have hr5 := h1.row hP fun k hk => hF k (.inr (.inr hk))
    have hR5 := ht5.blk hR fun hf => by have := hfl _ hf; omega
    have hX5 := ht5.blk hX fun hf => by have := hfl _ hf; omega
    have hncm : lb ≠ cm := hC.not_blk hB
    have hrw : ∀ k, OwnBy (.slice A P.length c) k → k < W.heap.size ∧ k ≠ cm ∧ k ≠ lb := fun k hk => by
      obtain ⟨cs, hcs⟩ := row_heap hP hk
      exact ⟨row_lt hP hk, hC.not_blk (x := k) (tx := 30) (cs := cs) hcs, Blk.ne_ (w := W) (t := 30) (cs := cs) hcs hB (by decide)⟩
    have hz5 := ht5.size
    have hz6 := ht6.size
    have hB6 := (Turn.of_touch ht6).blk hB5 hncm
    have hr6 := (Turn.of_touch ht6).row hr5 fun k hk => (hrw k hk).2.1
    have hR6 := (Turn.of_touch ht6).blk hR5 (by omega)
    have hX6 := (Turn.of_touch ht6).blk hX5 (by omega)
    obtain ⟨A8, c8, w7, hrun7, hr7, ht7⟩ := append_leaf w6.drew x (row_drew hr6 1) (by omega) (show bp ≤ w6.heap.size by omega)
    have hz7 : w6.heap.size ≤ w7.heap.size := ht7.size
    have tt7 : Turn (OwnBy (.slice A P.length c)) w6 w7 := ⟨ht7.os, ht7.tape, ht7.output, ht7.size, ht7.block⟩
    have hB7 := tt7.blk hB6 fun hk => (hrw _ hk).2.2 rfl
    have hR7 := tt7.blk hR6 fun hk => by have := (hrw _ hk).1; omega
    have hX7 := tt7.blk hX6 fun hk => by have := (hrw _ hk).1; omega
    have hlen : (P ++ [x]).length = P.length + 1 := by simp
    have hnew : ∀ k, OwnBy (.slice A8 (P.length + 1) c8) k → OwnBy (.slice A P.length c) k ∨ w6.heap.size ≤ k := fun k hk => ht7.new k hk
    have hnl : ∀ k, OwnBy (.slice A8 (P.length + 1) c8) k → k ≠ lb ∧ k ≠ W.heap.size ∧ k ≠ cm := fun k hk => by
      rcases hnew k hk with h | h
      · exact ⟨(hrw k h).2.2, by have := (hrw k h).1; omega, (hrw k h).2.1⟩
      · exact ⟨by omega, by omega, by omega⟩
    have hX8 : Blk (w7.setCell ⟨lb, 2, none⟩ (.slice A8 (P.length + 1) c8)) (W.heap.size + 1) 30 #[.int .i64 x.time, .string (S x.cert)] := hX7.far (p := ⟨lb, 2, none⟩) (by simp; omega) _
    have hR8 : Blk (w7.setCell ⟨lb, 2, none⟩ (.slice A8 (P.length + 1) c8)) W.heap.size 30 #[.int .i64 0, .string (S [])] := hR7.far (p := ⟨lb, 2, none⟩) (by simp; omega) _
    refine ⟨hB6.cell 2, hX6, A8, c8, w7, hrun7, hB7, hX7.cell 0, hX7.cell 1, hX8.cell 0, hX8.cell 1, hR8, ?_⟩
    rintro w9 rfl
    have hR9 : Blk (((w7.setCell ⟨lb, 2, none⟩ (.slice A8 (P.length + 1) c8)).setCell ⟨W.heap.size, 0, none⟩ (.int .i64 x.time)).setCell ⟨W.heap.size, 1, none⟩ (.string (S x.cert))) W.heap.size 30 #[.int .i64 x.time, .string (S x.cert)] := by
      have := (hR8.set_ 0 (.int .i64 x.time)).set_ 1 (.string (S x.cert))
      simpa using this
    refine ⟨hR9.cell 0, hR9.cell 1, ?_⟩
    intro mb' Z' N' d' m' hs hfp
    have far : ∀ k, k ≠ lb → k ≠ W.heap.size → (((w7.setCell ⟨lb, 2, none⟩ (.slice A8 (P.length + 1) c8)).setCell ⟨W.heap.size, 0, none⟩ (.int .i64 x.time)).setCell ⟨W.heap.size, 1, none⟩ (.string (S x.cert))).heap[k]? = w7.heap[k]? := fun k h2 h3 => (Below.heap_setCell _ _ _ _ h3).trans ((Below.heap_setCell _ _ _ _ h3).trans (Below.heap_setCell _ _ _ _ h2))
    have t9 : Turn (fun k => k = cm ∨ OwnBy (.slice A P.length c) k ∨ k = lb ∨ k = W.heap.size) w5 (((w7.setCell ⟨lb, 2, none⟩ (.slice A8 (P.length + 1) c8)).setCell ⟨W.heap.size, 0, none⟩ (.int .i64 x.time)).setCell ⟨W.heap.size, 1, none⟩ (.string (S x.cert))) :=
      (((((Turn.of_touch ht6).more fun k h => .inl h).trans (tt7.more fun k h => .inr (.inl h))).setCell ⟨lb, 2, none⟩ (.inl (.inr (.inr (.inl rfl)))) _).setCell ⟨W.heap.size, 0, none⟩ (.inl (.inr (.inr (.inr rfl)))) _).setCell ⟨W.heap.size, 1, none⟩ (.inl (.inr (.inr (.inr rfl)))) _
    have hfd : ∀ k, foot Z' sb mb' k → k ≠ lb ∧ k ≠ cm ∧ ¬ OwnBy (.slice A P.length c) k ∧ k ≠ W.heap.size ∧ k < w5.heap.size := fun k hk => by
      refine ⟨?_, ?_, ?_, ?_, hs.lt hk⟩
      · rintro rfl
        rcases hfp _ hk with h | h
        · exact hF _ (.inl rfl) h
        · omega
      · rintro rfl
        rcases hfp _ hk with h | h
        · exact hF _ (.inr (.inl rfl)) h
        · omega
      · intro h0
        rcases hfp _ hk with h | h
        · exact hF _ (.inr (.inr h0)) h
        · have := (hrw k h0).1; omega
      · rintro rfl
        rcases hfp _ hk with h | h
        · have := hfl _ h; omega
        · omega
    refine ⟨rfl, mb', Z', A8, c8, hs.keep t9 (fun k hk h => ?_), ?_, ?_, ?_, ?_, fun k hk => (hfp k hk).imp id (fun h => by omega), fun k hk => ?_, fun k hk hf => ?_⟩
    · obtain ⟨n1, n2, n3, n4, -⟩ := hfd k hk
      rcases h with h | h | h | h
      · exact n2 h
      · exact n3 h
      · exact n1 h
      · exact n4 h
    · rw [hlen]
      refine Blk.far (p := ⟨W.heap.size, 1, none⟩) (Blk.far (p := ⟨W.heap.size, 0, none⟩) (hB7.set_ 2 _) (by simp; omega) _) (by simp; omega) _
    · exact row_keep hr7 fun k hk => far k (hnl k (by rw [hlen] at hk; exact hk)).1 (hnl k (by rw [hlen] at hk; exact hk)).2.1
    · exact ho.kept ((far cm (Ne.symm hncm) (by omega)).trans (tt7.block cm (by omega) fun hk => (hrw _ hk).2.1 rfl))
    · refine ⟨t9.os.trans h1.os, t9.tape.trans h1.tape, t9.output.trans h1.output, Nat.le_trans h1.size t9.size, fun k hk hn => (t9.block k (by have := h1.size; omega) fun h => ?_).trans (h1.block k hk fun h => hn (.inl h))⟩
      rcases h with h | h | h | h
      · exact hn (.inr (.inr (.inl h)))
      · exact hn (.inr (.inr (.inr h)))
      · exact hn (.inr (.inl h))
      · omega
    · rw [hlen] at hk
      rcases hnew k hk with h | h
      · exact .inl (.inr (.inr (.inr h)))
      · exact .inr (by omega)
    · obtain ⟨n1, n2, n3, n4, n5⟩ := hfd k hf
      rcases hk with h | h | h
      · exact n1 h
      · exact n2 h
      · rw [hlen] at h
        rcases hnew k h with h | h
        · exact n3 h
        · omega)
  have hk0 : (W.alloc (.cells #[.int .i64 0, .string (S [])] 30)).cell? ⟨lb, 0, none⟩ = some (.pointer (some ⟨sb, 0, none⟩)) := (b1.cell (p := ⟨lb, 0, none⟩) hlbW).trans (hB.cell 0)
  have hw1 : IntKind.i64.wrap ((size : Int) + (P.length : Int)) = ((size + P.length : Nat) : Int) := by rw [IntWalk.i64_in _ (by omega)]; omega
  have hPd : decide ((64 : Int) ≤ (P.length : Int)) = false := by simp; omega
  have hlfl : (leafB x).length ≤ 1000000 := by omega
  have BY := hid (show ∀ (w3 w6 : World) (A3 : Option Addr) (c3 : Nat), W2.heap.size ≤ w3.heap.size → w3.ownsRow W2.heap.size 5 1 (.slice A3 (leafB x).length c3) (leafB x).length ((leafB x).map B8) → Turn (foot Z sb mb) w3 w6 → w6.ownsRow W2.heap.size 5 1 (.slice A3 (leafB x).length c3) (leafB x).length ((leafB x).map B8) from fun w3 w6 A3 c3 hz hr ht => ht.row hr fun k hk hf => by
    have h1 := hfl k hf
    have h2 := row_base_le hr hk
    omega)
  generalize hlfe : leafB x = lf at *
  generalize hpke : pK (size + P.length) = pk at *
  generalize noteM C x = NC at *
  obtain ⟨t, ce⟩ := x
  simp only [leafV] at *
  clear hB hC hP hst hF hX hR st1 AL hAp hSy hmy hbl hL hnew hok hpk hlf hlfe hpke b1 hfl hz2 ht1 ht2 hxc1 hxc2 hml hN hCl
  have HBB := hid b2
  clear b2
  go_enter Tryz.func9, Tryz.ntmps9
  go_wp2_with (first
    | (go_at_call 39; refine HAL.out.mono ?_; rintro e w1 ⟨rfl, hw⟩; rw [hw]; clear hw w1)
    | (go_at_call 40; rw [← HW2.out]; refine TL.out.mono ?_; rintro e w3 ⟨A3, c3, rfl, hr3, hb3⟩; obtain ⟨l0, l1, l2, -, -, -, -⟩ := PRE.out w3 hb3; have SE := hid (SEEN.out w3 hb3); have HB3 := hid hb3; have HR3 := hid hr3; clear hr3 hb3)
    | (go_at_call 41; refine SE.out.mono ?_; rintro e w4 ⟨rfl, hw⟩; rw [hw]; clear hw w4))
  go_region_held3 (fun w' => w'.cell? ⟨lb, 1, none⟩ = some (.int .i64 size) ∧ w'.cell? ⟨lb, 2, none⟩ = some (.slice A P.length c)) (simp [*, go_sem, World.cell?_alloc_past]) (first | fail)
  go_wp2
  have hb3d : Below W2.heap.size W2 w3.drew.drew := below_drewN (below_drewN HB3.out 1) 1
  have LB3 := hid (LB.out _ hb3d)
  have S3 : w3.drew.drew.cell? ⟨lb, 0, none⟩ = some (.pointer (some ⟨sb, 0, none⟩)) ∧ (convert 85 9 (.slice A3 lf.length c3)).run Tryz.prog w3.drew.drew = .ok (.string (S lf)) w3.drew.drew := ⟨l0, conv_row (row_drew (row_drew HR3.out 1) 1)⟩
  have HB3D := hid hb3d
  clear hb3d
  go_region_held3 (fun w' => w'.cell? ⟨lb, 0, none⟩ = some (.pointer (some ⟨sb, 0, none⟩)) ∧ (convert 85 9 (.slice A3 lf.length c3)).run Tryz.prog w' = .ok (.string (S lf)) w') (first | assumption | simp [*, go_sem, World.cell?_alloc_past]) (first
    | (go_at_call 43; refine LB3.out.mono ?_; rintro e w5 ⟨rfl, hb5⟩; have hb5' := bt HB3D.out hb5; have hr5 := row_under (row_drew (row_drew HR3.out 1) 1) hb5; have S5 : w5.cell? ⟨lb, 0, none⟩ = some (.pointer (some ⟨sb, 0, none⟩)) ∧ (convert 85 9 (.slice A3 lf.length c3)).run Tryz.prog w5 = .ok (.string (S lf)) w5 := ⟨(PRE.out w5 hb5').1, conv_row hr5⟩; have hb5a : Below W2.heap.size W2 (w5.alloc (.cells #[.string (S pk), .string (S lf), .bool false] 104)) := hb5'.alloc hb5'.size _; have hr5a := row_alloc hr5 (.cells #[.string (S pk), .string (S lf), .bool false] 104); have S5a : (w5.alloc (.cells #[.string (S pk), .string (S lf), .bool false] 104)).cell? ⟨lb, 0, none⟩ = some (.pointer (some ⟨sb, 0, none⟩)) ∧ (convert 85 9 (.slice A3 lf.length c3)).run Tryz.prog (w5.alloc (.cells #[.string (S pk), .string (S lf), .bool false] 104)) = .ok (.string (S lf)) (w5.alloc (.cells #[.string (S pk), .string (S lf), .bool false] 104)) := ⟨(PRE.out _ hb5a).1, conv_row hr5a⟩; have AP5 := hid (APP.out w5 hb5'); have HB5 := hid hb5'; have HR5 := hid hr5a; have HB5A := hid hb5a; clear hb5 hb5' hr5 hb5a hr5a)
    | (go_at_call 42; refine AP5.out.mono ?_; rintro e w6 ⟨rfl, mb6, Z6, hs6, ht6, hf6⟩; obtain ⟨q0, y0, y1, y2, y3⟩ := PAST.out w5 w6 HB5.out ht6; have S6 : w6.cell? ⟨lb, 0, none⟩ = some (.pointer (some ⟨sb, 0, none⟩)) ∧ (convert 85 9 (.slice A3 lf.length c3)).run Tryz.prog w6 = .ok (.string (S lf)) w6 := ⟨y0, conv_row (BY.out _ _ _ _ HB5A.out.size HR5.out ht6)⟩; have NT := hid (NOTE.out w6 y1 y2); have Q0 := hid q0; have HS6 := hid (And.intro hs6 (show ∀ k, foot Z6 sb mb6 k → foot Z sb mb k ∨ W2.heap.size ≤ k from fun k hk => (hf6 k hk).imp id fun h => Nat.le_trans HB5A.out.size h)); have x60 : w6.cell? ⟨W.heap.size + 1, 0, none⟩ = some (.int .i64 t) := y3.cell 0; have x61 : w6.cell? ⟨W.heap.size + 1, 1, none⟩ = some (.string (S ce)) := y3.cell 1; clear q0 y1 y2 y3 hs6 ht6 hf6))
  go_wp2_with (go_at_call 33; refine NT.out.mono ?_; rintro e w7 ⟨rfl, ho7, ht7⟩; obtain ⟨z2, hX7, A8, c8, w8, hrun8, hB8, t0, t1, v0, v1, hR8, hfin⟩ := FIN.out w6 w7 Q0.out ht7 ho7; have HFIN := hid hfin; have u0 : w7.cell? ⟨W.heap.size + 1, 0, none⟩ = some (.int .i64 t) := hX7.cell 0; have u1 : w7.cell? ⟨W.heap.size + 1, 1, none⟩ = some (.string (S ce)) := hX7.cell 1; obtain ⟨-, -, p2, -, -⟩ := log5 hB8; have q2 := hB8.frozen 2; have n0 := hR8.cell 0; have n1 := hR8.cell 1; have e0 := hR8.frozen 0; have e1 := hR8.frozen 1; simp at n0 n1; have hlt7 := hX7.lt; have hlb7 : lb < w7.heap.size := World.block_lt_of_cell? w7 _ z2; clear ho7 ht7 hX7 hB8 hR8 hfin)
  refine wp_thenF ?_
  refine region_anyK (fun w' => w'.cell? ⟨lb, 2, none⟩ = some (.slice A P.length c) ∧ w'.cell? ⟨W.heap.size + 1, 0, none⟩ = some (.int .i64 t) ∧ w'.cell? ⟨W.heap.size + 1, 1, none⟩ = some (.string (S ce))) 10 (by kernel_rfl) (by ((try dsimp only); first | assumption | simp [*, go_sem, World.cell?_alloc_past])) (fun hSk => ?_)
  refine anyK_take 0 [0] (v := ?_) rfl (by kernel_rfl) (by kernel_rfl) (fun _ _ _ h => h) (Or.inl ⟨by rfl, ?_⟩) hSk ?_
  rotate_left
  · intro w' hSw; (try dsimp only at hSw); go_simp; try with_reducible rfl
  try simp only [List.getElem_toArray, List.getElem_cons_succ, List.getElem_cons_zero, Act.put, List.setIfInBounds_toArray, List.set_cons_zero, List.set_cons_succ]
  refine anyK_take 1 [1] (v := ?_) rfl (by kernel_rfl) (by kernel_rfl) (fun _ _ _ h => h) (Or.inl ⟨by rfl, ?_⟩) hSk ?_
  rotate_left
  · intro w' hSw; (try dsimp only at hSw); go_simp; try with_reducible rfl
  try simp only [List.getElem_toArray, List.getElem_cons_succ, List.getElem_cons_zero, Act.put, List.setIfInBounds_toArray, List.set_cons_zero, List.set_cons_succ]
  refine anyK_take 2 [2] (v := ?_) rfl (by kernel_rfl) (by kernel_rfl) (fun _ _ _ h => h) (Or.inl ⟨by rfl, ?_⟩) hSk ?_
  rotate_left
  · intro w' hSw; (try dsimp only at hSw); go_simp; try with_reducible rfl
  try simp only [List.getElem_toArray, List.getElem_cons_succ, List.getElem_cons_zero, Act.put, List.setIfInBounds_toArray, List.set_cons_zero, List.set_cons_succ]
  refine anyK_take 3 [3] (v := ?_) rfl (by kernel_rfl) (by kernel_rfl) (fun _ _ _ h => h) (Or.inl ⟨by rfl, ?_⟩) hSk ?_
  rotate_left
  · intro w' hSw; (try dsimp only at hSw); go_simp; try with_reducible rfl
  try simp only [List.getElem_toArray, List.getElem_cons_succ, List.getElem_cons_zero, Act.put, List.setIfInBounds_toArray, List.set_cons_zero, List.set_cons_succ]
  refine anyK_take 4 [4] (v := ?_) rfl (by kernel_rfl) (by kernel_rfl) (fun _ _ _ h => h) (Or.inl ⟨by rfl, ?_⟩) hSk ?_
  rotate_left
  · intro w' hSw; (try dsimp only at hSw); go_simp; try with_reducible rfl
  try simp only [List.getElem_toArray, List.getElem_cons_succ, List.getElem_cons_zero, Act.put, List.setIfInBounds_toArray, List.set_cons_zero, List.set_cons_succ]
  refine anyK_take 5 [5] (v := ?_) rfl (by kernel_rfl) (by kernel_rfl) (fun _ _ _ h => h) (Or.inl ⟨by rfl, ?_⟩) hSk ?_
  rotate_left
  · intro w' hSw; (try dsimp only at hSw); go_simp; try with_reducible rfl
  try simp only [List.getElem_toArray, List.getElem_cons_succ, List.getElem_cons_zero, Act.put, List.setIfInBounds_toArray, List.set_cons_zero, List.set_cons_succ]
  refine anyK_only 6 (by kernel_rfl) rfl (fun K hK => ?_)
  (first | ((refine step_append_run rfl _ _ _ (by rfl) _ _ _ _ (by rfl) (by rfl) hrun8 ?_)) | go_simp)
  clear hSk
  refine hK.out _ _ (by ((try dsimp only); first | assumption | simp [*, go_sem, World.cell?_alloc_past])) (fun hSk => ?_)
  clear hK K
  try simp only [List.getElem_toArray, List.getElem_cons_succ, List.getElem_cons_zero, Act.put, List.setIfInBounds_toArray, List.set_cons_zero, List.set_cons_succ]
  refine anyK_only 7 (by kernel_rfl) rfl (fun K hK => ?_)
  (first | ((refine step_append_run rfl _ _ _ (by rfl) _ _ _ _ (by rfl) (by rfl) hrun8 ?_)) | go_simp)
  clear hSk
  refine hK.out _ _ (by ((try dsimp only); first | assumption | simp [*, go_sem, World.cell?_alloc_past])) (fun hSk => ?_)
  clear hK K
  try simp only [List.getElem_toArray, List.getElem_cons_succ, List.getElem_cons_zero, Act.put, List.setIfInBounds_toArray, List.set_cons_zero, List.set_cons_succ]
  refine anyK_take 8 [9, 8] (v := ?_) rfl (by kernel_rfl) (by kernel_rfl) (fun _ _ _ h => h) (Or.inl ⟨by rfl, ?_⟩) hSk ?_
  rotate_left
  · intro w' hSw; (try dsimp only at hSw); go_simp; try with_reducible rfl
  try simp only [List.getElem_toArray, List.getElem_cons_succ, List.getElem_cons_zero, Act.put, List.setIfInBounds_toArray, List.set_cons_zero, List.set_cons_succ]
  refine anyK_take 9 [9] (v := ?_) rfl (by kernel_rfl) (by kernel_rfl) (fun _ _ _ h => h) (Or.inl ⟨by rfl, ?_⟩) hSk ?_
  rotate_left
  · intro w' hSw; (try dsimp only at hSw); go_simp; try with_reducible rfl
  try simp only [List.getElem_toArray, List.getElem_cons_succ, List.getElem_cons_zero, Act.put, List.setIfInBounds_toArray, List.set_cons_zero, List.set_cons_succ]
  refine anyK_last (by kernel_rfl) rfl (by kernel_rfl) (fun K hK => ?_)
  go_simp
  refine hK.out _ _ ?_
  clear hK K
  try simp only [List.getElem_toArray, List.getElem_cons_succ, List.getElem_cons_zero, Act.put, List.setIfInBounds_toArray, List.set_cons_zero, List.set_cons_succ]
  refine anyK_done (by kernel_rfl) ?_ _
  go_wp2
  obtain ⟨g0, g1, hpost⟩ := HFIN.out _ rfl
  refine bodyPost_ret (v := .tuple #[.agg #[.int .i64 t, .string (S ce)], .int .i64 0]) (by simp [results, Tryz.results9, go_sem, g0, g1]) rfl ?_
  exact hpost _ _ _ _ _ HS6.out.1 HS6.out.2
theorem legacy_Add_seen (hst : St W g d N lgN sb mb m Z) (hdn : d.down = false) {st : Value} (hB : Blk W lb 49 (logCells sb size st hd cm)) (hC : OwnI Tryz.prog 9 W cm C) (ce : List UInt8) (t t0 : Int) (hok : okL ⟨t, ce⟩ = true) (hseen : kget C ce = some t0) :
    Calls Tryz.prog 9 #[.pointer (some ⟨lb, 0, none⟩), .string (S ce), .int .i64 t] W fun e w' => e = .returned (.tuple #[leafV ⟨t0, ce⟩, .int .i64 0]) ∧ Below W.heap.size W w' := by
  obtain ⟨W2, HW2⟩ : ∃ W2, Hid (W2 = (W.alloc (.cells #[.int .i64 0, .string (S [])] 30)).alloc (.cells #[.int .i64 t, .string (S ce)] 30)) := ⟨_, hid rfl⟩
  have b1 : Below W.heap.size W (W.alloc (.cells #[.int .i64 0, .string (S [])] 30)) := (Below.refl _ _).alloc (Nat.le_refl _) _
  have b2 : Below W.heap.size W W2 := by rw [HW2.out]; exact b1.alloc b1.size _
  have hR : Blk W2 W.heap.size 30 #[.int .i64 0, .string (S [])] := by rw [HW2.out]; exact (Blk.new _ _ _).alloc _
  have hlbW := hB.lt
  have hcmW := hC.lt
  obtain ⟨-, hxc1, hxc2⟩ := okL_of hok
  simp only [] at hxc1 hxc2
  have st1 : St (W.alloc (.cells #[.int .i64 0, .string (S [])] 30)) g d N lgN sb mb m Z := hst.keep (Turn.of_below b1 (fun _ => False)) (fun _ _ h => h)
  have AL := kv_Alive (st1.mw (X1 := []) (by simp)) (name := lgN) (dead := false) (List.Mem.head _)
  rw [hdn] at AL
  have HAL := hid AL
  have TL := hid (tls_Leaf_ok ⟨t, ce⟩ W2 hok)
  have SEEN := hid (fun (w3 : World) (hb : Below W2.heap.size W2 w3) => by
    have := legacy_Seen (hB.below (bt b2 hb) hlbW) (hC.kept ((bt b2 hb).block cm hcmW)) ce (by omega)
    rw [hseen] at this
    exact this)
  have FIN := hid (show ∀ w3, Below W2.heap.size W2 w3 → Blk w3 W.heap.size 30 #[.int .i64 0, .string (S [])] ∧ ∀ w9, w9 = (w3.setCell ⟨W.heap.size, 0, none⟩ (.int .i64 t0)).setCell ⟨W.heap.size, 1, none⟩ (.string (S ce)) → w9.cell? ⟨W.heap.size, 0, none⟩ = some (.int .i64 t0) ∧ w9.cell? ⟨W.heap.size, 1, none⟩ = some (.string (S ce)) ∧ Below W.heap.size W w9 by
    intro w3 hb
    have hR3 := hR.below hb hR.lt
    refine ⟨hR3, ?_⟩
    rintro w9 rfl
    have hR9 : Blk ((w3.setCell ⟨W.heap.size, 0, none⟩ (.int .i64 t0)).setCell ⟨W.heap.size, 1, none⟩ (.string (S ce))) W.heap.size 30 #[.int .i64 t0, .string (S ce)] := by
      have := (hR3.set_ 0 (.int .i64 t0)).set_ 1 (.string (S ce))
      simpa using this
    exact ⟨hR9.cell 0, hR9.cell 1, ((bt b2 hb).setCell (p := ⟨W.heap.size, 0, none⟩) (Nat.le_refl _) _).setCell (p := ⟨W.heap.size, 1, none⟩) (Nat.le_refl _) _⟩)
  have hk0 : (W.alloc (.cells #[.int .i64 0, .string (S [])] 30)).cell? ⟨lb, 0, none⟩ = some (.pointer (some ⟨sb, 0, none⟩)) := (b1.cell (p := ⟨lb, 0, none⟩) hlbW).trans (hB.cell 0)
  simp only [leafV] at *
  generalize leafB ⟨t, ce⟩ = lf at *
  clear hB hC hst hR st1 AL hok hseen b1 b2 hxc1
  go_enter Tryz.func9, Tryz.ntmps9
  go_wp2_with (first
    | (go_at_call 39; refine HAL.out.mono ?_; rintro e w1 ⟨rfl, hw⟩; rw [hw]; clear hw w1)
    | (go_at_call 40; rw [← HW2.out]; refine TL.out.mono ?_; rintro e w3 ⟨A3, c3, rfl, hr3, hb3⟩; have SE := hid (SEEN.out w3 hb3); obtain ⟨hR3, hfin⟩ := FIN.out w3 hb3; have HFIN := hid hfin; have n0 := hR3.cell 0; have n1 := hR3.cell 1; have e0 := hR3.frozen 0; have e1 := hR3.frozen 1; simp at n0 n1; clear hr3 hb3 hR3 hfin)
    | (go_at_call 41; refine SE.out.mono ?_; rintro e w4 ⟨rfl, hw⟩; rw [hw]; clear hw w4; simp only [Option.getD_some, Option.isSome_some]))
  obtain ⟨g0, g1, hb9⟩ := HFIN.out _ rfl
  exact bodyPost_ret (v := .tuple #[.agg #[.int .i64 t0, .string (S ce)], .int .i64 0]) (by simp [results, Tryz.results9, go_sem, g0, g1]) rfl ⟨rfl, hb9⟩
end
end Go.Proofs.YtiabfngiibabcaaGreatDoor
