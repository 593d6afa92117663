/- Rows of names in memory; slices.Contains. -/
import Derived.Test.YtbjimikppdfmgaaDoorJsM
import Derived.Test.YtbjimikppdfmgaaDoorLayJ
set_option linter.unusedVariables false
set_option linter.unusedSimpArgs false
set_option maxHeartbeats 1600000
set_option maxRecDepth 100000
namespace Go.Proofs.YtbjimikppdfmgaaDoor
open Go.RowKit

def sV (n : List UInt8) : Value := .string (S n)
theorem sV_get (ns : List (List UInt8)) (i : Nat) (h : i < ns.length) : (ns.map sV)[i]? = some (.string (S ns[i])) := by simp [h, sV]
theorem names_row {w : World} {base : Nat} {A : Option Addr} {c : Nat} {ns : List (List UInt8)} (h : w.ownsRow base 9 1 (.slice A ns.length c) ns.length (ns.map sV)) : NamesAt w (fun k => base ≤ k ∧ (Value.slice A ns.length c).ownBlock = some k) A ns := fun h0 => by
  rcases h.2 with ⟨h1, h2⟩ | ⟨g, cap, cur, hv, hb, hh, r⟩
  · omega
  · simp only [Value.slice.injEq] at hv
    obtain ⟨rfl, -, rfl⟩ := hv
    refine ⟨g, 0, rfl, ⟨hb, rfl⟩, (Array.getElem?_eq_some_iff.1 hh).1, fun i hi => ?_⟩
    rw [Nat.zero_add]
    exact (h.cellAt i (by omega)).trans (sV_get ns i hi)
theorem info_str : ∃ i, (Tryd.prog).info? 9 = some i ∧ i.zero = some (.string ByteArray.empty) ∧ i.size = 1 ∧ i.bytes = 16 := by
  have h : ((Tryd.prog).info? 9).map (fun i => (i.zero, i.size, i.bytes)) = some (some (.string ByteArray.empty), 1, 16) := by kernel_rfl
  obtain ⟨i, hi, he⟩ := Option.map_eq_some_iff.1 h
  simp only [Prod.mk.injEq] at he
  exact ⟨i, hi, he.1, he.2.1, he.2.2⟩
/-- append(names, n), in a walk. -/
theorem wpList_append_name {W : World} {ops : Array Oper} {rest : List Oper} {o : Oper} {a : Act} {Q : Exit → Act → World → Prop} (hgd : o.guard = none) (s x : Operand) {base : Nat} {A : Option Addr} {c : Nat} {os : List (List UInt8)} {y : List UInt8}
    (ho : o.op = .call { callee := .builtin .append, args := #[s, x], argTypes := #[32, 32] }) (hty : o.type = 32) (hs : a.eval s = .slice A os.length c) (hx : a.eval x = .slice (some ⟨W.heap.size, 0, none⟩) 1 1)
    (hown : W.ownsRow base 9 1 (.slice A os.length c) os.length (os.map sV)) (hl : os.length ≤ 1000000) (hbase : base ≤ W.heap.size)
    (h : ∀ A' c' w', w'.ownsRow base 9 1 (.slice A' (os ++ [y]).length c') (os ++ [y]).length ((os ++ [y]).map sV) → w'.heap.size ≥ W.heap.size → (∀ k, k < W.heap.size → (Value.slice A os.length c).ownBlock ≠ some k → w'.heap[k]? = W.heap[k]?) → Below base W w' → ((Value.slice A' (os ++ [y]).length c').ownBlock = (Value.slice A os.length c).ownBlock ∨ (Value.slice A' (os ++ [y]).length c').ownBlock = some (W.heap.size + 1)) →
      wpList Tryd.prog ops Q rest (a.put o.dst (.slice A' (os ++ [y]).length c')) w') :
    wpList Tryd.prog ops Q (o :: rest) a (W.alloc (.cells #[.string (S y)] 9)) := by
  obtain ⟨i, hi, hz, hsz, hby⟩ := info_str
  have b0 : Below W.heap.size W (W.alloc (.cells #[.string (S y)] 9)) := (Below.refl _ _).alloc (Nat.le_refl _) _
  have hB := Blk.new W 9 #[.string (S y)]
  obtain ⟨v', w', hrun, hown1, hgrow, hat⟩ := run_append_row (P := Tryd.prog) _ base 32 32 9 i _ 1 16 (by kernel_rfl) hi hz hsz hby rfl (by decide) _ _ _ (row_alloc hown (.cells #[.string (S y)] 9)) (some ⟨W.heap.size, 0, none⟩) 1 1 [sV y] (by simp) (fun h => by cases h)
    (fun ad had j u hu => by
      injection had with had
      subst had
      rw [add_plain', Nat.zero_add, hB.cell j, ← hu]
      simp [sV])
    (fun u hu => by
      simp only [List.mem_cons, List.not_mem_nil, or_false] at hu
      subst hu; rfl)
    (by unfold maxLen; omega) (by omega) (by simp; omega)
  have hlen : (os ++ [y]).length = os.length + 1 := by simp
  have hfl : (os ++ [y]).map sV = os.map sV ++ [sV y] := by simp
  obtain ⟨A', c', rfl⟩ := row_form hown1
  rw [← hlen, ← hfl] at hown1
  rw [← hlen] at hrun
  refine wpList_append_run hgd s x _ ho _ _ _ _ hs hx (by rw [hty]; exact hrun) (h A' c' w' hown1 ?_ ?_ ((b0.mono hbase).grown hgrow (by simp; omega) fun k hk => row_base_le hown hk) ?_)
  · have := hgrow.size
    simp at this
    omega
  · intro k hk hA
    exact (hgrow.block k (by simp; omega) (fun e => hA e.symm)).trans (b0.block k hk)
  · rcases hat with h | h
    · exact .inl (by rw [hlen]; exact h)
    · right
      rw [hlen, h]
      simp
theorem containsS_map (ns : List (List UInt8)) (n : List UInt8) : Lib.containsS (ns.map S) (S n) = ns.contains n := by
  rw [Bool.eq_iff_iff, Lib.containsS_iff, List.contains_iff_mem]
  constructor
  · intro h
    obtain ⟨a, ha, he⟩ := List.mem_map.1 h
    exact S_inj he ▸ ha
  · exact fun h => List.mem_map_of_mem h
theorem js_Contains {w : World} {ok : Nat → Prop} {A : Option Addr} (ns : List (List UInt8)) (c : Nat) (h : NamesAt w ok A ns) (hl : ns.length ≤ 1000000) (n : List UInt8) :
    Calls Tryd.prog 88 #[.slice A ns.length c, .string (S n)] w fun e w' => e = .returned (.bool (ns.contains n)) ∧ w' = w := by
  by_cases h0 : 0 < ns.length
  · obtain ⟨b, o, rfl, -, -, hc⟩ := h h0
    have := AnyG.slices_Contains_string layContains b o ns.length c (ns.map S) (S n) w (by simp) (by omega) (fun j hj => by
      simp at hj
      rw [hc j hj]
      simp [List.getD, hj])
    rw [List.take_of_length_le (by simp), containsS_map] at this
    exact this
  · obtain rfl : ns = [] := List.eq_nil_of_length_eq_zero (by omega)
    exact AnyG.slices_Contains_string_empty layContains A c (S n) w
end Go.Proofs.YtbjimikppdfmgaaDoor
