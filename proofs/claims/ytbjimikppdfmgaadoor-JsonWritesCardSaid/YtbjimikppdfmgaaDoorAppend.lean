/- A byte is appended. -/
import Derived.Test.YtbjimikppdfmgaaDoorBy
import Derived.Test.YtbjimikppdfmgaaDoorDMem
set_option linter.unusedVariables false
set_option linter.unusedSimpArgs false
set_option maxHeartbeats 1600000
set_option maxRecDepth 100000
namespace Go.Proofs.YtbjimikppdfmgaaDoor
open Go.RowKit

/-- append(b, x), x one byte. -/
theorem append_byte (W : World) {base : Nat} {A : Option Addr} {c : Nat} {os : List UInt8} (y : UInt8) (hown : W.ownsRow base 5 1 (.slice A os.length c) os.length (os.map B8)) (hl : os.length ≤ 1000000) (hbase : base ≤ W.heap.size) :
    ∃ A' c' w', (Builtin.append_ #[47, 47] 47 #[.slice A os.length c, .slice (some ⟨W.heap.size, 0, none⟩) 1 1]).run Tryd.prog (W.alloc (.cells #[.int .u8 y.toNat] 5)) = .ok (.slice A' (os.length + 1) c') w' ∧
      w'.ownsRow base 5 1 (.slice A' (os ++ [y]).length c') (os ++ [y]).length ((os ++ [y]).map B8) ∧ Below base W w' := by
  obtain ⟨i, hi, hz, hsz, hby⟩ := info_u8
  have b0 : Below W.heap.size W (W.alloc (.cells #[B8 y] 5)) := (Below.refl _ _).alloc (Nat.le_refl _) _
  have hB := Blk.new W 5 #[B8 y]
  obtain ⟨v', w', hrun, hown1, hgrow, hat⟩ := run_append_row (P := Tryd.prog) _ base 47 47 5 i _ 1 1 (by kernel_rfl) hi hz hsz hby rfl (by decide) _ _ _ (row_alloc hown (.cells #[B8 y] 5)) (some ⟨W.heap.size, 0, none⟩) 1 1 [B8 y] rfl (fun h => by cases h)
    (fun ad had j u hu => by
      injection had with had
      subst had
      rw [add_plain', Nat.zero_add, hB.cell j, ← hu]
      simp)
    (fun u hu => by
      simp only [List.mem_cons, List.not_mem_nil, or_false] at hu
      subst hu
      rfl)
    (by unfold maxLen; omega) (by omega) (by simp; omega)
  have hlen : (os ++ [y]).length = os.length + 1 := by simp
  have hfl : (os ++ [y]).map B8 = os.map B8 ++ [B8 y] := by simp
  obtain ⟨A', c', rfl⟩ := row_form hown1
  refine ⟨A', c', w', hrun, ?_, (b0.mono hbase).grown hgrow (by simp; omega) fun k hk => row_base_le hown hk⟩
  rw [hlen, hfl]
  exact hown1
/-- The block of a slice. -/
def OwnBy (v : Value) (k : Nat) : Prop := v.ownBlock = some k
/-- append(b, x), x one byte. -/
theorem append_byteT (W : World) {base : Nat} {A : Option Addr} {c : Nat} {os : List UInt8} (y : UInt8) (hown : W.ownsRow base 5 1 (.slice A os.length c) os.length (os.map B8)) (hl : os.length ≤ 1000000) (hbase : base ≤ W.heap.size) :
    ∃ A' c' w', (Builtin.append_ #[47, 47] 47 #[.slice A os.length c, .slice (some ⟨W.heap.size, 0, none⟩) 1 1]).run Tryd.prog (W.alloc (.cells #[.int .u8 y.toNat] 5)) = .ok (.slice A' (os.length + 1) c') w' ∧
      w'.ownsRow base 5 1 (.slice A' (os ++ [y]).length c') (os ++ [y]).length ((os ++ [y]).map B8) ∧ Touch W w' (OwnBy (.slice A os.length c)) (OwnBy (.slice A' (os.length + 1) c')) := by
  obtain ⟨i, hi, hz, hsz, hby⟩ := info_u8
  have b0 : Below W.heap.size W (W.alloc (.cells #[B8 y] 5)) := (Below.refl _ _).alloc (Nat.le_refl _) _
  have hB := Blk.new W 5 #[B8 y]
  obtain ⟨v', w', hrun, hown1, hgrow, hat⟩ := run_append_row (P := Tryd.prog) _ base 47 47 5 i _ 1 1 (by kernel_rfl) hi hz hsz hby rfl (by decide) _ _ _ (row_alloc hown (.cells #[B8 y] 5)) (some ⟨W.heap.size, 0, none⟩) 1 1 [B8 y] rfl (fun h => by cases h)
    (fun ad had j u hu => by
      injection had with had
      subst had
      rw [add_plain', Nat.zero_add, hB.cell j, ← hu]
      simp)
    (fun u hu => by
      simp only [List.mem_cons, List.not_mem_nil, or_false] at hu
      subst hu
      rfl)
    (by unfold maxLen; omega) (by omega) (by simp; omega)
  have hlen : (os ++ [y]).length = os.length + 1 := by simp
  have hfl : (os ++ [y]).map B8 = os.map B8 ++ [B8 y] := by simp
  obtain ⟨A', c', rfl⟩ := row_form hown1
  refine ⟨A', c', w', hrun, ?_, (Touch.of_below b0 _).trans ((Touch.of_grown hgrow fun k hk => hk).more fun k hk => ?_)⟩
  · rw [hlen, hfl]
    exact hown1
  · rcases hat with h | h
    · exact .inl (h ▸ hk)
    · rw [OwnBy, h] at hk
      injection hk with hk
      exact .inr (by omega)
end Go.Proofs.YtbjimikppdfmgaaDoor
