/- Lists of names and values in memory: what is appended. -/
import Derived.Test.YtecekflooihkoaaDoorBy
import Derived.Test.YtecekflooihkoaaDoorGets
set_option linter.unusedVariables false
set_option linter.unusedSimpArgs false
set_option maxHeartbeats 1600000
set_option maxRecDepth 100000
namespace Go.Proofs.YtecekflooihkoaaDoor
open Go.RowKit

def pCells (p : SPair) : List Value := [.string (S p.1), .string (S p.2)]
theorem pCells_len (ps : List SPair) : (ps.flatMap pCells).length = ps.length * 2 := by
  induction ps with
  | nil => rfl
  | cons p ps ih => simp [pCells] at ih ⊢; omega
theorem pCells_get (ps : List SPair) : ∀ i, (h : i < ps.length) → (ps.flatMap pCells)[i * 2]? = some (.string (S ps[i].1)) ∧ (ps.flatMap pCells)[i * 2 + 1]? = some (.string (S ps[i].2)) := by
  induction ps with
  | nil => intro i h; simp at h
  | cons p ps ih =>
    intro i h
    rw [List.flatMap_cons]
    rcases i with _ | i
    · simp [pCells]
    · have := ih i (by simpa using h)
      have hl : (pCells p).length = 2 := rfl
      rw [List.getElem?_append_right (by rw [hl]; omega), List.getElem?_append_right (by rw [hl]; omega), hl]
      rw [show (i + 1) * 2 - 2 = i * 2 by omega, show (i + 1) * 2 + 1 - 2 = i * 2 + 1 by omega]
      exact this
theorem pairs_row {w : World} {base : Nat} {A : Option Addr} {c : Nat} {ps : List SPair} (h : w.ownsRow base 33 2 (.slice A ps.length c) ps.length (ps.flatMap pCells)) : PairsAt w A ps := fun h0 => by
  rcases h.2 with ⟨h1, h2⟩ | ⟨g, cap, cur, hv, hb, hh, r⟩
  · omega
  · simp only [Value.slice.injEq] at hv
    obtain ⟨rfl, -, rfl⟩ := hv
    refine ⟨g, 0, rfl, (Array.getElem?_eq_some_iff.1 hh).1, fun i hi => ?_⟩
    obtain ⟨p1, p2⟩ := pCells_get ps i hi
    rw [Nat.zero_add]
    exact ⟨(h.cellAt (i * 2) (by omega)).trans p1, (h.cellAt (i * 2 + 1) (by omega)).trans p2⟩
theorem info_pair : ∃ i, (Tryd.prog).info? 33 = some i ∧ i.zero = some (.agg #[.string ByteArray.empty, .string ByteArray.empty]) ∧ i.size = 2 ∧ i.bytes = 32 := by
  have h : ((Tryd.prog).info? 33).map (fun i => (i.zero, i.size, i.bytes)) = some (some (.agg #[.string ByteArray.empty, .string ByteArray.empty]), 2, 32) := by kernel_rfl
  obtain ⟨i, hi, he⟩ := Option.map_eq_some_iff.1 h
  simp only [Prod.mk.injEq] at he
  exact ⟨i, hi, he.1, he.2.1, he.2.2⟩
/-- append(out, p), in a walk. -/
theorem wpList_append_pair {W : World} {ops : Array Oper} {rest : List Oper} {o : Oper} {a : Act} {Q : Exit → Act → World → Prop} (hgd : o.guard = none) (s x : Operand) {base : Nat} {A : Option Addr} {c : Nat} {os : List SPair} {y : SPair}
    (ho : o.op = .call { callee := .builtin .append, args := #[s, x], argTypes := #[23, 23] }) (hty : o.type = 23) (hs : a.eval s = .slice A os.length c) (hx : a.eval x = .slice (some ⟨W.heap.size, 0, none⟩) 1 1)
    (hown : W.ownsRow base 33 2 (.slice A os.length c) os.length (os.flatMap pCells)) (hl : os.length ≤ 1000000) (hbase : base ≤ W.heap.size)
    (h : ∀ A' c' w', w'.ownsRow base 33 2 (.slice A' (os ++ [y]).length c') (os ++ [y]).length ((os ++ [y]).flatMap pCells) → Below base W w' → wpList Tryd.prog ops Q rest (a.put o.dst (.slice A' (os ++ [y]).length c')) w') :
    wpList Tryd.prog ops Q (o :: rest) a (W.alloc (.cells #[.string (S y.1), .string (S y.2)] 33)) := by
  obtain ⟨i, hi, hz, hsz, hby⟩ := info_pair
  have b0 : Below W.heap.size W (W.alloc (.cells #[.string (S y.1), .string (S y.2)] 33)) := (Below.refl _ _).alloc (Nat.le_refl _) _
  have hB := Blk.new W 33 #[.string (S y.1), .string (S y.2)]
  obtain ⟨v', w', hrun, hown1, hgrow, hat⟩ := run_append_row (P := Tryd.prog) _ base 23 23 33 i _ 2 32 (by kernel_rfl) hi hz hsz hby rfl (by decide) _ _ _ (row_alloc hown (.cells #[.string (S y.1), .string (S y.2)] 33)) (some ⟨W.heap.size, 0, none⟩) 1 1 (pCells y) rfl (fun h => by cases h)
    (fun ad had j u hu => by
      injection had with had
      subst had
      rw [add_plain', Nat.zero_add, hB.cell j, ← hu]
      simp [pCells])
    (fun u hu => by
      simp only [pCells, List.mem_cons, List.not_mem_nil, or_false] at hu
      rcases hu with rfl | rfl <;> rfl)
    (by unfold maxLen; omega) (by omega) (by simp; omega)
  have hlen : (os ++ [y]).length = os.length + 1 := by simp
  have hfl : (os ++ [y]).flatMap pCells = os.flatMap pCells ++ pCells y := by simp
  rw [← hlen, ← hfl] at hown1
  obtain ⟨A', c', rfl⟩ := row_form hown1
  exact wpList_append_run hgd s x _ ho _ _ _ _ hs hx (by rw [hty]; exact hrun) (h A' c' w' hown1 ((b0.mono hbase).grown hgrow (by simp; omega) fun k hk => row_base_le hown hk))
/-- append(b, x), x one byte. -/
theorem append_byte (W : World) {base : Nat} {A : Option Addr} {c : Nat} {os : List UInt8} (y : UInt8) (hown : W.ownsRow base 5 1 (.slice A os.length c) os.length (os.map B8)) (hl : os.length ≤ 1000000) (hbase : base ≤ W.heap.size) :
    ∃ A' c' w', (Builtin.append_ #[63, 63] 63 #[.slice A os.length c, .slice (some ⟨W.heap.size, 0, none⟩) 1 1]).run Tryd.prog (W.alloc (.cells #[.int .u8 y.toNat] 5)) = .ok (.slice A' (os.length + 1) c') w' ∧
      w'.ownsRow base 5 1 (.slice A' (os ++ [y]).length c') (os ++ [y]).length ((os ++ [y]).map B8) ∧ Below base W w' := by
  obtain ⟨i, hi, hz, hsz, hby⟩ := info_u8
  have b0 : Below W.heap.size W (W.alloc (.cells #[B8 y] 5)) := (Below.refl _ _).alloc (Nat.le_refl _) _
  have hB := Blk.new W 5 #[B8 y]
  obtain ⟨v', w', hrun, hown1, hgrow, hat⟩ := run_append_row (P := Tryd.prog) _ base 63 63 5 i _ 1 1 (by kernel_rfl) hi hz hsz hby rfl (by decide) _ _ _ (row_alloc hown (.cells #[B8 y] 5)) (some ⟨W.heap.size, 0, none⟩) 1 1 [B8 y] rfl (fun h => by cases h)
    (fun ad had j u hu => by
      injection had with had
      subst had
      rw [add_plain', Nat.zero_add, hB.cell j, ← hu]
      simp)
    (fun u hu => by
      simp only [List.mem_cons, List.not_mem_nil, or_false] at hu
      subst hu
      rfl)
    (by unfold maxLen; omega) (by omega) (by simp; omega)
  have hlen : (os ++ [y]).length = os.length + 1 := by simp
  have hfl : (os ++ [y]).map B8 = os.map B8 ++ [B8 y] := by simp
  obtain ⟨A', c', rfl⟩ := row_form hown1
  refine ⟨A', c', w', hrun, ?_, (b0.mono hbase).grown hgrow (by simp; omega) fun k hk => row_base_le hown hk⟩
  rw [hlen, hfl]
  exact hown1
end Go.Proofs.YtecekflooihkoaaDoor
