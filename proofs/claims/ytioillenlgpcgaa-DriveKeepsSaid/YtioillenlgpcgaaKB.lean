/- Both drives, and a list of texts beside them that grows. -/
import Derived.Test.YtioillenlgpcgaaKeepPlain
set_option linter.unusedVariables false
set_option linter.unusedSimpArgs false
set_option maxRecDepth 100000
namespace Go.Proofs.Ytioillenlgpcgaa
open Go.RowKit

theorem row_below' {w w' : World} {base : Nat} {e : TypeId} {size n : Nat} {v : Value} {xs : List Value} (h : w.ownsRow base e size v n xs) (hb : Below w.heap.size w w') : w'.ownsRow base e size v n xs := row_keep h fun k hk => by
  obtain ⟨cs, hcs⟩ := row_heap h hk
  exact hb.block k (Array.getElem?_eq_some_iff.1 hcs).1
def KB (w0 : World) (g r : Nat) (d e : Dr) (N : Nat) (v : Value) (ms : List (List UInt8)) (W : World) : Prop :=
  ∃ q cs, v.ownBlock = some q ∧ DB w0 g r d e N [(q, 9, cs)] W ∧ W.ownsRow w0.heap.size 9 1 v ms.length (ms.map strV)
section
variable {w0 W : World} {g r N : Nat} {d e : Dr} {v : Value} {ms : List (List UInt8)}
theorem KB.db (h : KB w0 g r d e N v ms W) : DB w0 g r d e N [] W := by
  obtain ⟨q, cs, h1, h2, h3⟩ := h
  exact h2.drop
theorem KB.row (h : KB w0 g r d e N v ms W) : W.ownsRow w0.heap.size 9 1 v ms.length (ms.map strV) := by
  obtain ⟨q, cs, h1, h2, h3⟩ := h
  exact h3
theorem KB.below (h : KB w0 g r d e N v ms W) {W' : World} (hb : Below W.heap.size W W') : KB w0 g r d e N v ms W' := by
  obtain ⟨q, cs, h1, h2, h3⟩ := h
  exact ⟨q, cs, h1, h2.below hb, row_below' h3 hb⟩
theorem KB.more (h : KB w0 g r d e N v ms W) {M : Nat} (hM : N ≤ M) : KB w0 g r d e M v ms W := by
  obtain ⟨q, cs, h1, h2, h3⟩ := h
  exact ⟨q, cs, h1, h2.more hM, h3⟩
/-- A call that turns the drives. -/
theorem KB.turn (h : KB w0 g r d e N v ms W) {fn : Nat} {args : Array Value} {d' e' : Dr} {N' : Nat} {R : Ending → Prop} (hc : ∀ X, DB w0 g r d e N X W → Calls Try.prog fn args W fun x w' => R x ∧ DB w0 g r d' e' N' X w') :
    Calls Try.prog fn args W fun x w' => R x ∧ KB w0 g r d' e' N' v ms w' := by
  obtain ⟨q, cs, h1, h2, h3⟩ := h
  refine (hc _ h2).mono ?_
  rintro x w' ⟨hR, hD⟩
  refine ⟨hR, q, cs, h1, hD, row_keep h3 fun k hk => ?_⟩
  have hkq : q = k := by rw [h1] at hk; injection hk
  subst hkq
  have b1 : W.heap[q]? = _ := h2.blk (x := (q, 9, cs)) (by simp)
  have b2 : w'.heap[q]? = _ := hD.blk (x := (q, 9, cs)) (by simp)
  rw [b1, b2]
theorem KB.appendD (h : KB w0 g r d e N v ms W) (hN : N < 1000000000) (a : Key) (hl : a.length ≤ 1000000) (b : List UInt8) (hbl : b.length ≤ 1000000000) :
    Calls Try.prog 11 #[.pointer (some ⟨g, 0, none⟩), .string (S a), .slice (some ⟨W.heap.size, 0, none⟩) b.length (grownCap W b.length 0 5)] (Lib.bytesWorld W 5 (S b)) fun x w' => x = .returned (.int .i64 (d.append a b).2) ∧ KB w0 g r (d.append a b).1 e (N + 1) v ms w' := by
  obtain ⟨q, cs, h1, h2, h3⟩ := h
  refine (h2.appendD hN a hl b hbl).mono ?_
  rintro x w' ⟨hR, hD⟩
  refine ⟨hR, q, cs, h1, hD, row_keep h3 fun k hk => ?_⟩
  have hkq : q = k := by rw [h1] at hk; injection hk
  subst hkq
  have b1 : W.heap[q]? = _ := h2.blk (x := (q, 9, cs)) (by simp)
  have b2 : w'.heap[q]? = _ := hD.blk (x := (q, 9, cs)) (by simp)
  rw [b1, b2]
theorem KB.first (h : DB w0 g r d e N [] W) {A : Option Addr} {n c : Nat} {w' : World} (hr : w'.ownsRow W.heap.size 9 1 (.slice A n c) ms.length (ms.map strV)) (hb : Below W.heap.size W w') (hne : ms ≠ []) : KB w0 g r d e N (.slice A n c) ms w' := by
  have hown : ∃ q, (Value.slice A n c).ownBlock = some q := by
    rcases hr.2 with ⟨h1, h2⟩ | ⟨gg, cap, cur, h1, _⟩
    · exact absurd (List.eq_nil_of_length_eq_zero h2) hne
    · rw [h1]; exact ⟨gg, rfl⟩
  obtain ⟨q, hq⟩ := hown
  obtain ⟨cs, hcs⟩ := row_heap hr hq
  have hge := row_base_le hr hq
  obtain ⟨fp, fq, h1, h2, h3, h4, h5, h6, h7, h8, h9⟩ := h
  refine ⟨q, cs, hq, ⟨fp, fq, h1.below hb, h2.below hb, h3, h4, h5, bt h6 hb, h7, h8, fun x hx => ?_⟩, row_base hr h6.size⟩
  rw [List.mem_singleton] at hx
  subst hx
  exact ⟨fun hk => by have := h1.lt q hk; omega, fun hk => by have := h2.lt q hk; omega, hcs⟩
theorem KB.grow {A A' : Option Addr} {n c n' c' : Nat} (h : KB w0 g r d e N (.slice A n c) ms W) {ms2 : List (List UInt8)} {w' : World} (hr : w'.ownsRow w0.heap.size 9 1 (.slice A' n' c') ms2.length (ms2.map strV)) (hb : Below w0.heap.size W w')
    (hg : W.grownBy w' (Value.slice A n c).ownBlock) (ho : (Value.slice A' n' c').ownBlock = (Value.slice A n c).ownBlock ∨ (Value.slice A' n' c').ownBlock = some W.heap.size) : KB w0 g r d e N (.slice A' n' c') ms2 w' := by
  obtain ⟨q, cs, hq, hD, hrow⟩ := h
  obtain ⟨fp, fq, h1, h2, h3, h4, h5, h6, h7, h8, h9⟩ := hD
  obtain ⟨k1, k2, k3⟩ := h9 _ (List.mem_singleton.2 rfl)
  have hown : ∃ q', (Value.slice A' n' c').ownBlock = some q' ∧ (q' = q ∨ q' = W.heap.size) := by
    rcases ho with ho | ho
    · exact ⟨q, ho.trans hq, .inl rfl⟩
    · exact ⟨_, ho, .inr rfl⟩
  obtain ⟨q', hq', hqq⟩ := hown
  obtain ⟨cs', hcs'⟩ := row_heap hr hq'
  rw [hq] at hg
  have keep : ∀ k, k < W.heap.size → k ≠ q → w'.heap[k]? = W.heap[k]? := fun k hk hne => hg.block k hk (fun he => hne (Option.some.inj he))
  refine ⟨q', cs', hq', ⟨fp, fq, h1.keep hg.size (fun k hk => keep k (h1.lt k hk) (fun he => k1 (he ▸ hk))), h2.keep hg.size (fun k hk => keep k (h2.lt k hk) (fun he => k2 (he ▸ hk))), h3, h4, h5, h6.trans hb, h7, h8, fun x hx => ?_⟩, hr⟩
  rw [List.mem_singleton] at hx
  subst hx
  refine ⟨fun hk => ?_, fun hk => ?_, hcs'⟩
  · rcases hqq with rfl | rfl
    · exact k1 hk
    · have := h1.lt _ hk; omega
  · rcases hqq with rfl | rfl
    · exact k2 hk
    · have := h2.lt _ hk; omega
end
/-- append(row, texts): what turns. -/
theorem wpList_append_strs2 {W : World} {ops : Array Oper} {rest : List Oper} {o : Oper} {a : Act} {Q : Exit → Act → World → Prop} (hgd : o.guard = none) (s x : Operand) {base : Nat} {A B : Option Addr} {c m cb : Nat} {os ns : List (List UInt8)}
    (ho : o.op = .call { callee := .builtin .append, args := #[s, x], argTypes := #[22, 22] }) (hty : o.type = 22) (hs : a.eval s = .slice A os.length c) (hx : a.eval x = .slice B m cb)
    (hm : m = ns.length) (hown : W.ownsRow base 9 1 (.slice A os.length c) os.length (os.map strV)) (hnone : B = none → m = 0) (hcell : ∀ ad, B = some ad → ∀ j u, (ns.map strV)[j]? = some u → W.cell? (ad.add j) = some u)
    (hl : os.length + ns.length ≤ 2000000000) (hbase : base ≤ W.heap.size)
    (h : ∀ A' c' w', w'.ownsRow base 9 1 (.slice A' (os ++ ns).length c') (os ++ ns).length ((os ++ ns).map strV) → Below base W w' → W.grownBy w' (Value.slice A os.length c).ownBlock →
      ((Value.slice A' (os ++ ns).length c').ownBlock = (Value.slice A os.length c).ownBlock ∨ (Value.slice A' (os ++ ns).length c').ownBlock = some W.heap.size) → wpList Try.prog ops Q rest (a.put o.dst (.slice A' (os ++ ns).length c')) w') :
    wpList Try.prog ops Q (o :: rest) a W := by
  subst hm
  obtain ⟨i, hi, hz, hsz, hby⟩ := info_str
  obtain ⟨v', w', hrun, hown1, hgrow, hat⟩ := run_append_row (P := Try.prog) W base 22 22 9 i _ 1 16 (by kernel_rfl) hi hz hsz hby rfl (by decide) _ _ _ hown B ns.length cb (ns.map strV) (by simp) hnone hcell
    (fun u hu => by
      obtain ⟨r, hr, rfl⟩ := List.mem_map.1 hu
      rfl)
    (by unfold maxLen; omega) (by omega) hbase
  have hlen : (os ++ ns).length = os.length + ns.length := by simp
  have hfl : (os ++ ns).map strV = os.map strV ++ ns.map strV := by simp
  rw [← hlen, ← hfl] at hown1
  obtain ⟨A', c', rfl⟩ := row_form hown1
  exact wpList_append_run hgd s x _ ho _ _ _ _ hs hx (by rw [hty]; exact hrun) (h A' c' w' hown1 ((Below.refl base W).grown hgrow hbase fun k hk => row_base_le hown hk) hgrow hat)
end Go.Proofs.Ytioillenlgpcgaa
