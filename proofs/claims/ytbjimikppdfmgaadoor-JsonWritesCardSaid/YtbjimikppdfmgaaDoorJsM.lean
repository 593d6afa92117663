/- JSON's values in memory. -/
import Derived.Test.YtbjimikppdfmgaaDoorJsP
import Derived.Test.YtbjimikppdfmgaaDoorDMem
import Derived.Test.YtbjimikppdfmgaaDoorBy
set_option linter.unusedVariables false
set_option linter.unusedSimpArgs false
set_option maxHeartbeats 1600000
set_option maxRecDepth 100000
namespace Go.Proofs.YtbjimikppdfmgaaDoor
open Go.RowKit

/-- A value's own five cells. -/
structure J5 where
  kind : Int
  text : List UInt8
  num : Int
  nA : Option Addr
  nn : Nat
  nc : Nat
  kA : Option Addr
  kn : Nat
  kc : Nat
def J5.cs (x : J5) : List Value := [.int .i64 x.kind, .string (S x.text), .int .i64 x.num, .slice x.nA x.nn x.nc, .slice x.kA x.kn x.kc]
def J5.val (x : J5) : Value := .agg #[.int .i64 x.kind, .string (S x.text), .int .i64 x.num, .slice x.nA x.nn x.nc, .slice x.kA x.kn x.kc]
def NamesAt (w : World) (ok : Nat → Prop) (A : Option Addr) (ns : List (List UInt8)) : Prop :=
  0 < ns.length → ∃ b o, A = some ⟨b, o, none⟩ ∧ ok b ∧ b < w.heap.size ∧ ∀ i, (h : i < ns.length) → w.cell? ⟨b, o + i, none⟩ = some (.string (S ns[i]))
def KidsAt (w : World) (ok : Nat → Prop) (B : Option Addr) (xs : List J5) : Prop :=
  0 < xs.length → ∃ b o, B = some ⟨b, o, none⟩ ∧ ok b ∧ b < w.heap.size ∧ ∀ i, (h : i < xs.length) → ∀ j u, xs[i].cs[j]? = some u → w.cell? ⟨b, o + (i * 5 + j), none⟩ = some u
inductive JAt (w : World) (ok : Nat → Prop) : Jv → J5 → Prop
  | mk (x : J5) (ns : List (List UInt8)) (ks : List Jv) (xs : List J5) (hn : x.nn = ns.length) (hnc : ns.length ≤ x.nc) (hk : x.kn = ks.length) (hkc : ks.length ≤ x.kc) (hbn : ns.length ≤ 9223372036854775807) (hbk : ks.length ≤ 9223372036854775807) (hN : NamesAt w ok x.nA ns) (hl : xs.length = ks.length)
      (hK : KidsAt w ok x.kA xs) (hs : ∀ i (h : i < ks.length) (h' : i < xs.length), JAt w ok ks[i] xs[i]) : JAt w ok (.mk x.kind x.text x.num ns ks) x

theorem cell_same {w w' : World} {b : Nat} (h : w'.heap[b]? = w.heap[b]?) (i : Nat) : w'.cell? ⟨b, i, none⟩ = w.cell? ⟨b, i, none⟩ := by
  unfold World.cell?
  simp only [h]
section
variable {w w' : World} {ok ok' : Nat → Prop}
theorem NamesAt.keep {A : Option Addr} {ns : List (List UInt8)} (h : NamesAt w ok A ns) (hk : ∀ k, ok k → k < w.heap.size → w'.heap[k]? = w.heap[k]?) (hs : w.heap.size ≤ w'.heap.size) (ho : ∀ k, ok k → k < w.heap.size → ok' k) : NamesAt w' ok' A ns := fun h0 => by
  obtain ⟨b, o, rfl, hb, hlt, hc⟩ := h h0
  exact ⟨b, o, rfl, ho b hb hlt, Nat.lt_of_lt_of_le hlt hs, fun i hi => (cell_same (hk b hb hlt) _).trans (hc i hi)⟩
theorem KidsAt.keep {A : Option Addr} {xs : List J5} (h : KidsAt w ok A xs) (hk : ∀ k, ok k → k < w.heap.size → w'.heap[k]? = w.heap[k]?) (hs : w.heap.size ≤ w'.heap.size) (ho : ∀ k, ok k → k < w.heap.size → ok' k) : KidsAt w' ok' A xs := fun h0 => by
  obtain ⟨b, o, rfl, hb, hlt, hc⟩ := h h0
  exact ⟨b, o, rfl, ho b hb hlt, Nat.lt_of_lt_of_le hlt hs, fun i hi j u hu => (cell_same (hk b hb hlt) _).trans (hc i hi j u hu)⟩
theorem JAt.keep {j : Jv} {x : J5} (h : JAt w ok j x) (hk : ∀ k, ok k → k < w.heap.size → w'.heap[k]? = w.heap[k]?) (hs : w.heap.size ≤ w'.heap.size) (ho : ∀ k, ok k → k < w.heap.size → ok' k) : JAt w' ok' j x := by
  induction h with
  | mk x ns ks xs hn hnc hk' hkc hbn hbk hN hl hK _ ih => exact .mk x ns ks xs hn hnc hk' hkc hbn hbk (hN.keep hk hs ho) hl (hK.keep hk hs ho) ih
theorem JAt.belowW {j : Jv} {x : J5} (h : JAt w ok j x) (hb : Below w.heap.size w w') : JAt w' ok j x := h.keep (fun k _ hlt => hb.block k hlt) hb.size (fun k h _ => h)
end
theorem jcs_len (xs : List J5) : (xs.flatMap J5.cs).length = xs.length * 5 := by
  induction xs with
  | nil => rfl
  | cons p ps ih => simp [J5.cs] at ih ⊢; omega
theorem jcs_get (xs : List J5) : ∀ i, (h : i < xs.length) → ∀ j u, xs[i].cs[j]? = some u → (xs.flatMap J5.cs)[i * 5 + j]? = some u := by
  induction xs with
  | nil => intro i h; simp at h
  | cons p ps ih =>
    intro i h j u hu
    rw [List.flatMap_cons]
    rcases i with _ | i
    · have hj : j < p.cs.length := (List.getElem?_eq_some_iff.1 hu).1
      rw [Nat.zero_mul, Nat.zero_add, List.getElem?_append_left hj]
      exact hu
    · have := ih i (by simpa using h) j u hu
      have hl : p.cs.length = 5 := rfl
      rw [List.getElem?_append_right (by rw [hl]; omega), hl, show (i + 1) * 5 + j - 5 = i * 5 + j by omega]
      exact this
theorem kids_row {w : World} {base : Nat} {A : Option Addr} {c : Nat} {xs : List J5} (h : w.ownsRow base 40 5 (.slice A xs.length c) xs.length (xs.flatMap J5.cs)) : KidsAt w (fun k => base ≤ k) A xs := fun h0 => by
  rcases h.2 with ⟨h1, h2⟩ | ⟨g, cap, cur, hv, hb, hh, r⟩
  · omega
  · simp only [Value.slice.injEq] at hv
    obtain ⟨rfl, -, rfl⟩ := hv
    refine ⟨g, 0, rfl, hb, (Array.getElem?_eq_some_iff.1 hh).1, fun i hi j u hu => ?_⟩
    have hj : j < 5 := (List.getElem?_eq_some_iff.1 hu).1
    rw [Nat.zero_add]
    exact (h.cellAt (i * 5 + j) (by omega)).trans (jcs_get xs i hi j u hu)
theorem info_json : ∃ i, (Tryd.prog).info? 40 = some i ∧ i.zero = some (.agg #[.int .i64 0, .string ByteArray.empty, .int .i64 0, .slice none 0 0, .slice none 0 0]) ∧ i.size = 5 ∧ i.bytes = 80 := by
  have h : ((Tryd.prog).info? 40).map (fun i => (i.zero, i.size, i.bytes)) = some (some (.agg #[.int .i64 0, .string ByteArray.empty, .int .i64 0, .slice none 0 0, .slice none 0 0]), 5, 80) := by kernel_rfl
  obtain ⟨i, hi, he⟩ := Option.map_eq_some_iff.1 h
  simp only [Prod.mk.injEq] at he
  exact ⟨i, hi, he.1, he.2.1, he.2.2⟩
/-- append(out, v), in a walk. -/
theorem wpList_append_json {W : World} {ops : Array Oper} {rest : List Oper} {o : Oper} {a : Act} {Q : Exit → Act → World → Prop} (hgd : o.guard = none) (s x : Operand) {base : Nat} {A : Option Addr} {c : Nat} {os : List J5} {y : J5}
    (ho : o.op = .call { callee := .builtin .append, args := #[s, x], argTypes := #[38, 38] }) (hty : o.type = 38) (hs : a.eval s = .slice A os.length c) (hx : a.eval x = .slice (some ⟨W.heap.size, 0, none⟩) 1 1)
    (hown : W.ownsRow base 40 5 (.slice A os.length c) os.length (os.flatMap J5.cs)) (hl : os.length ≤ 1000000) (hbase : base ≤ W.heap.size)
    (h : ∀ A' c' w', w'.ownsRow base 40 5 (.slice A' (os ++ [y]).length c') (os ++ [y]).length ((os ++ [y]).flatMap J5.cs) → w'.heap.size ≥ W.heap.size → (∀ k, k < W.heap.size → (Value.slice A os.length c).ownBlock ≠ some k → w'.heap[k]? = W.heap[k]?) → Below base W w' → ((Value.slice A' (os ++ [y]).length c').ownBlock = (Value.slice A os.length c).ownBlock ∨ (Value.slice A' (os ++ [y]).length c').ownBlock = some (W.heap.size + 1)) →
      wpList Tryd.prog ops Q rest (a.put o.dst (.slice A' (os ++ [y]).length c')) w') :
    wpList Tryd.prog ops Q (o :: rest) a (W.alloc (.cells #[.int .i64 y.kind, .string (S y.text), .int .i64 y.num, .slice y.nA y.nn y.nc, .slice y.kA y.kn y.kc] 40)) := by
  obtain ⟨i, hi, hz, hsz, hby⟩ := info_json
  have b0 : Below W.heap.size W (W.alloc (.cells #[.int .i64 y.kind, .string (S y.text), .int .i64 y.num, .slice y.nA y.nn y.nc, .slice y.kA y.kn y.kc] 40)) := (Below.refl _ _).alloc (Nat.le_refl _) _
  have hB := Blk.new W 40 #[.int .i64 y.kind, .string (S y.text), .int .i64 y.num, .slice y.nA y.nn y.nc, .slice y.kA y.kn y.kc]
  obtain ⟨v', w', hrun, hown1, hgrow, hat⟩ := run_append_row (P := Tryd.prog) _ base 38 38 40 i _ 5 80 (by kernel_rfl) hi hz hsz hby rfl (by decide) _ _ _ (row_alloc hown (.cells #[.int .i64 y.kind, .string (S y.text), .int .i64 y.num, .slice y.nA y.nn y.nc, .slice y.kA y.kn y.kc] 40)) (some ⟨W.heap.size, 0, none⟩) 1 1 y.cs (by simp [J5.cs]) (fun h => by cases h)
    (fun ad had j u hu => by
      injection had with had
      subst had
      rw [add_plain', Nat.zero_add, hB.cell j, ← hu]
      simp [J5.cs])
    (fun u hu => by
      simp only [J5.cs, List.mem_cons, List.not_mem_nil, or_false] at hu
      rcases hu with rfl | rfl | rfl | rfl | rfl <;> rfl)
    (by unfold maxLen; omega) (by omega) (by simp; omega)
  have hlen : (os ++ [y]).length = os.length + 1 := by simp
  have hfl : (os ++ [y]).flatMap J5.cs = os.flatMap J5.cs ++ y.cs := by simp
  obtain ⟨A', c', rfl⟩ := row_form hown1
  rw [← hlen, ← hfl] at hown1
  rw [← hlen] at hrun
  refine wpList_append_run hgd s x _ ho _ _ _ _ hs hx (by rw [hty]; exact hrun) (h A' c' w' hown1 ?_ ?_ ((b0.mono hbase).grown hgrow (by simp; omega) fun k hk => row_base_le hown hk) ?_)
  · have := hgrow.size
    simp at this
    omega
  · intro k hk hA
    exact (hgrow.block k (by simp; omega) (fun e => hA e.symm)).trans (b0.block k hk)
  · rcases hat with h | h
    · exact .inl (by rw [hlen]; exact h)
    · right
      rw [hlen, h]
      simp
end Go.Proofs.YtbjimikppdfmgaaDoor
