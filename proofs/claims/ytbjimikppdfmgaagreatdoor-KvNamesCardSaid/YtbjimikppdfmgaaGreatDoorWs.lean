/- Batches in memory. -/
import Derived.Test.YtbjimikppdfmgaaGreatDoorBy
import Derived.Test.YtbjimikppdfmgaaGreatDoorKvPlain
set_option linter.unusedVariables false
set_option linter.unusedSimpArgs false
set_option maxHeartbeats 1600000
set_option maxRecDepth 100000
namespace Go.Proofs.YtbjimikppdfmgaaGreatDoor
open Go.RowKit

def wCells (x : Wr) : List Value := [.string (S x.key), .string (S x.val), .bool x.gone]
/-- A batch that is there. -/
def WsAt (w : World) (A : Option Addr) (l : List Wr) : Prop := 0 < l.length → ∃ b off, A = some ⟨b, off, none⟩ ∧ b < w.heap.size ∧ ∀ i, (h : i < l.length) →
  w.cell? ⟨b, off + i * 3, none⟩ = some (.string (S l[i].key)) ∧ w.cell? ⟨b, off + i * 3 + 1, none⟩ = some (.string (S l[i].val)) ∧ w.cell? ⟨b, off + i * 3 + 2, none⟩ = some (.bool l[i].gone)
theorem WsAt.below {w w' : World} {A : Option Addr} {l : List Wr} (h : WsAt w A l) (hb : Below w.heap.size w w') : WsAt w' A l := fun h0 => by
  obtain ⟨b, off, rfl, hlt, hc⟩ := h h0
  refine ⟨b, off, rfl, Nat.lt_of_lt_of_le hlt hb.size, fun i hi => ?_⟩
  obtain ⟨c1, c2, c3⟩ := hc i hi
  exact ⟨(hb.cell hlt).trans c1, (hb.cell hlt).trans c2, (hb.cell hlt).trans c3⟩
/-- Blocks below a bound stay: where the batch lies below it. -/
def WsIn' (w : World) (B : Nat) (A : Option Addr) (l : List Wr) : Prop := WsAt w A l ∧ ∀ p, A = some p → p.block < B
theorem wCells_len (ps : List Wr) : (ps.flatMap wCells).length = ps.length * 3 := by
  induction ps with
  | nil => rfl
  | cons p ps ih => simp [wCells] at ih ⊢; omega
theorem wCells_get (ps : List Wr) : ∀ i, (h : i < ps.length) → (ps.flatMap wCells)[i * 3]? = some (.string (S ps[i].key)) ∧ (ps.flatMap wCells)[i * 3 + 1]? = some (.string (S ps[i].val)) ∧ (ps.flatMap wCells)[i * 3 + 2]? = some (.bool ps[i].gone) := by
  induction ps with
  | nil => intro i h; simp at h
  | cons p ps ih =>
    intro i h
    rw [List.flatMap_cons]
    rcases i with _ | i
    · simp [wCells]
    · have := ih i (by simpa using h)
      have hl : (wCells p).length = 3 := rfl
      rw [List.getElem?_append_right (by rw [hl]; omega), List.getElem?_append_right (by rw [hl]; omega), List.getElem?_append_right (by rw [hl]; omega), hl]
      rw [show (i + 1) * 3 - 3 = i * 3 by omega, show (i + 1) * 3 + 1 - 3 = i * 3 + 1 by omega, show (i + 1) * 3 + 2 - 3 = i * 3 + 2 by omega]
      exact this
theorem ws_row {w : World} {base : Nat} {A : Option Addr} {c : Nat} {ps : List Wr} (h : w.ownsRow base 31 3 (.slice A ps.length c) ps.length (ps.flatMap wCells)) : WsAt w A ps := fun h0 => by
  rcases h.2 with ⟨h1, h2⟩ | ⟨g, cap, cur, hv, hb, hh, r⟩
  · omega
  · simp only [Value.slice.injEq] at hv
    obtain ⟨rfl, -, rfl⟩ := hv
    refine ⟨g, 0, rfl, (Array.getElem?_eq_some_iff.1 hh).1, fun i hi => ?_⟩
    obtain ⟨p1, p2, p3⟩ := wCells_get ps i hi
    simp only [Nat.zero_add]
    exact ⟨(h.cellAt (i * 3) (by omega)).trans p1, (h.cellAt (i * 3 + 1) (by omega)).trans p2, (h.cellAt (i * 3 + 2) (by omega)).trans p3⟩
theorem info_write : ∃ i, (Tryz.prog).info? 31 = some i ∧ i.zero = some (.agg #[.string ByteArray.empty, .string ByteArray.empty, .bool false]) ∧ i.size = 3 ∧ i.bytes = 40 := by
  have h : ((Tryz.prog).info? 31).map (fun i => (i.zero, i.size, i.bytes)) = some (some (.agg #[.string ByteArray.empty, .string ByteArray.empty, .bool false]), 3, 40) := by kernel_rfl
  obtain ⟨i, hi, he⟩ := Option.map_eq_some_iff.1 h
  simp only [Prod.mk.injEq] at he
  exact ⟨i, hi, he.1, he.2.1, he.2.2⟩
/-- append(out, w), in a walk. -/
theorem wpList_append_write {W : World} {ops : Array Oper} {rest : List Oper} {o : Oper} {a : Act} {Q : Exit → Act → World → Prop} (hgd : o.guard = none) (s x : Operand) {base : Nat} {A : Option Addr} {c : Nat} {os : List Wr} {y : Wr}
    (ho : o.op = .call { callee := .builtin .append, args := #[s, x], argTypes := #[32, 32] }) (hty : o.type = 32) (hs : a.eval s = .slice A os.length c) (hx : a.eval x = .slice (some ⟨W.heap.size, 0, none⟩) 1 1)
    (hown : W.ownsRow base 31 3 (.slice A os.length c) os.length (os.flatMap wCells)) (hl : os.length ≤ 1000000) (hbase : base ≤ W.heap.size)
    (h : ∀ A' c' w', w'.ownsRow base 31 3 (.slice A' (os ++ [y]).length c') (os ++ [y]).length ((os ++ [y]).flatMap wCells) → Below base W w' → wpList Tryz.prog ops Q rest (a.put o.dst (.slice A' (os ++ [y]).length c')) w') :
    wpList Tryz.prog ops Q (o :: rest) a (W.alloc (.cells #[.string (S y.key), .string (S y.val), .bool y.gone] 31)) := by
  obtain ⟨i, hi, hz, hsz, hby⟩ := info_write
  have b0 : Below W.heap.size W (W.alloc (.cells #[.string (S y.key), .string (S y.val), .bool y.gone] 31)) := (Below.refl _ _).alloc (Nat.le_refl _) _
  have hB := Blk.new W 31 #[.string (S y.key), .string (S y.val), .bool y.gone]
  obtain ⟨v', w', hrun, hown1, hgrow, hat⟩ := run_append_row (P := Tryz.prog) _ base 32 32 31 i _ 3 40 (by kernel_rfl) hi hz hsz hby rfl (by decide) _ _ _ (row_alloc hown (.cells #[.string (S y.key), .string (S y.val), .bool y.gone] 31)) (some ⟨W.heap.size, 0, none⟩) 1 1 (wCells y) (by simp [wCells]) (fun h => by cases h)
    (fun ad had j u hu => by
      injection had with had
      subst had
      rw [add_plain', Nat.zero_add, hB.cell j, ← hu]
      simp [wCells])
    (fun u hu => by
      simp only [wCells, List.mem_cons, List.not_mem_nil, or_false] at hu
      rcases hu with rfl | rfl | rfl <;> rfl)
    (by unfold maxLen; omega) (by omega) (by simp; omega)
  have hlen : (os ++ [y]).length = os.length + 1 := by simp
  have hfl : (os ++ [y]).flatMap wCells = os.flatMap wCells ++ wCells y := by simp
  obtain ⟨A', c', rfl⟩ := row_form hown1
  rw [← hlen, ← hfl] at hown1
  rw [← hlen] at hrun
  exact wpList_append_run hgd s x _ ho _ _ _ _ hs hx (by rw [hty]; exact hrun) (h A' c' w' hown1 ((b0.mono hbase).grown hgrow (by simp; omega) fun k hk => row_base_le hown hk))
end Go.Proofs.YtbjimikppdfmgaaGreatDoor
