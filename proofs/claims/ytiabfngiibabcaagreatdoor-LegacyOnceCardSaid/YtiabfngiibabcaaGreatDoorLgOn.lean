/-
  What a log is that takes one certificate in: deed by deed.
-/
import Derived.Test.YtiabfngiibabcaaGreatDoorLg13
import Derived.Test.YtiabfngiibabcaaGreatDoorM14
import Derived.Test.YtiabfngiibabcaaGreatDoorLgPl
set_option linter.unusedVariables false
set_option linter.unusedSimpArgs false
set_option maxHeartbeats 3200000
set_option maxRecDepth 100000
namespace Go.Proofs.YtiabfngiibabcaaGreatDoor
open Go.RowKit

/-- A log, whole; all its blocks are new behind w0. -/
def LF (w0 W : World) (g : Nat) (q : Int) (log : List UInt8) (lb : Nat) (m : KM) (size : Nat) (P : List Lf) (H : List Hd) (C : KMapI) (F : Nat → Prop) : Prop :=
  ∃ N k sb mb cm base A c Ah ch Z, N ≤ P.length ∧ LogS W g (U (fsL log) q k) N lb sb mb cm m size P H C base A c Ah ch Z ∧ Below w0.heap.size w0 W ∧ ((∀ j, foot Z sb mb j ∨ j = lb ∨ j = cm ∨ OwnBy (.slice A P.length c) j ∨ OwnBy (.slice Ah H.length ch) j → F j) ∧ ∀ j, F j → w0.heap.size ≤ j ∧ j < W.heap.size) ∧ w0.heap.size ≤ base
/-- What is enough to be asked. -/
def LW (w0 W : World) (g : Nat) (q : Int) (log : List UInt8) (lb : Nat) (m : KM) (size : Nat) (P : List Lf) (C : KMapI) (F : Nat → Prop) : Prop :=
  ∃ N k sb mb cm A c hd Z, N ≤ 20 ∧ St W g (U (fsL log) q k) N lgN sb mb m Z ∧ Blk W lb 49 (logCells sb size (.slice A P.length c) hd cm) ∧ OwnI Tryz.prog 9 W cm C ∧ Below w0.heap.size w0 W ∧ ((∀ j, foot Z sb mb j ∨ j = lb ∨ j = cm → F j) ∧ ∀ j, F j → w0.heap.size ≤ j ∧ j < W.heap.size) ∧ ((A = none ∧ P = []) ∨ ∃ b off, A = some ⟨b, off, none⟩ ∧ (P ≠ [] → b < W.heap.size) ∧ ∀ j u, (P.flatMap lCells)[j]? = some u → W.cell? ⟨b, off + j, none⟩ = some u)
section
variable {w0 W W' : World} {g lb size : Nat} {q : Int} {log : List UInt8} {m : KM} {P : List Lf} {H : List Hd} {C : KMapI} {F : Nat → Prop}
theorem LF.below (h : LF w0 W g q log lb m size P H C F) (hb : Below W.heap.size W W') : LF w0 W' g q log lb m size P H C F := by
  obtain ⟨N, k, sb, mb, cm, base, A, c, Ah, ch, Z, hN, hS, hw, hf, hbs⟩ := h
  exact ⟨N, k, sb, mb, cm, base, A, c, Ah, ch, Z, hN, ⟨hS.st.keep (Turn.of_below hb (fun _ => False)) (fun _ _ h => h), hS.blk.below hb hS.blk.lt, row_under hS.pr hb, row_under hS.hr hb, hS.cr.kept (hb.block cm hS.cr.lt), hS.fr, hS.bl.1, hS.bl.2.1, Nat.le_trans hS.bl.2.2 hb.size⟩, hw.trans (hb.mono hw.size), ⟨hf.1, fun j hj => ⟨(hf.2 j hj).1, Nat.lt_of_lt_of_le (hf.2 j hj).2 hb.size⟩⟩, hbs⟩
theorem LW.below (h : LW w0 W g q log lb m size P C F) (hb : Below W.heap.size W W') : LW w0 W' g q log lb m size P C F := by
  obtain ⟨N, k, sb, mb, cm, A, c, hd, Z, hN, h1, h2, h3, hw, hf, hA⟩ := h
  refine ⟨N, k, sb, mb, cm, A, c, hd, Z, hN, h1.keep (Turn.of_below hb (fun _ => False)) (fun _ _ h => h), h2.below hb h2.lt, h3.kept (hb.block cm h3.lt), hw.trans (hb.mono hw.size), ⟨hf.1, fun j hj => ⟨(hf.2 j hj).1, Nat.lt_of_lt_of_le (hf.2 j hj).2 hb.size⟩⟩, ?_⟩
  rcases hA with h | ⟨b, off, rfl, hl, hc⟩
  · exact .inl h
  · refine .inr ⟨b, off, rfl, fun hne => Nat.lt_of_lt_of_le (hl hne) hb.size, fun j u hu => ?_⟩
    have hne : P ≠ [] := by rintro rfl; simp at hu
    exact (hb.cell (p := ⟨b, off + j, none⟩) (hl hne)).trans (hc j u hu)
theorem lCells_len (P : List Lf) : (P.flatMap lCells).length = P.length * 2 := by
  induction P with
  | nil => rfl
  | cons a r ih => rw [List.flatMap_cons, List.length_append, ih]; simp [lCells]; omega
theorem LF.lw (h : LF w0 W g q log lb m size P H C F) (hpl : P.length ≤ 20) : LW w0 W g q log lb m size P C F := by
  obtain ⟨N, k, sb, mb, cm, base, A, c, Ah, ch, Z, hN, hS, hw, hf, hbs⟩ := h
  refine ⟨N, k, sb, mb, cm, A, c, _, Z, by omega, hS.st, hS.blk, hS.cr, hw, ⟨fun j hj => hf.1 j (by
    rcases hj with h | h | h
    · exact .inl h
    · exact .inr (.inl h)
    · exact .inr (.inr (.inl h))), hf.2⟩, ?_⟩
  rcases hS.pr.2 with ⟨h1, h2⟩ | ⟨b, cap, cur, hv, hb, hh, r⟩
  · simp only [Value.slice.injEq] at h1
    exact .inl ⟨h1.1, List.eq_nil_of_length_eq_zero h2⟩
  · simp only [Value.slice.injEq] at hv
    obtain ⟨rfl, -, rfl⟩ := hv
    refine .inr ⟨b, 0, rfl, fun _ => (Array.getElem?_eq_some_iff.1 hh).1, fun j u hu => ?_⟩
    obtain ⟨hj, -⟩ := List.getElem?_eq_some_iff.1 hu
    rw [lCells_len] at hj
    rw [Nat.zero_add, ← hu]
    exact hS.pr.cellAt j hj
theorem on_Size (h : LW w0 W g q log lb m size P C F) : Calls Tryz.prog 11 #[.pointer (some ⟨lb, 0, none⟩)] W fun e w' => e = .returned (.int .i64 size) ∧ w' = W := by
  obtain ⟨N, k, sb, mb, cm, A, c, hd, Z, hN, h1, h2, h3, hw, hf, hA⟩ := h
  exact legacy_Size h2
theorem on_Staged (h : LW w0 W g q log lb m size P C F) (hl : P.length ≤ 1000000) : Calls Tryz.prog 12 #[.pointer (some ⟨lb, 0, none⟩)] W fun e w' => ∃ A c, e = .returned (.slice A P.length c) ∧ w'.ownsRow W.heap.size 30 2 (.slice A P.length c) P.length (P.flatMap lCells) ∧ Below W.heap.size W w' := by
  obtain ⟨N, k, sb, mb, cm, A, c, hd, Z, hN, h1, h2, h3, hw, hf, hA⟩ := h
  have CL := hid (show Calls Tryz.prog 48 #[.slice A P.length c] W fun e w' => ∃ A' c', e = .returned (.slice A' P.length c') ∧ w'.ownsRow W.heap.size 30 2 (.slice A' P.length c') P.length (P.flatMap lCells) ∧ Below W.heap.size W w' by
    rcases hA with ⟨rfl, rfl⟩ | ⟨b, off, rfl, hb, hc⟩
    · refine (AnyE.slices_Clone_nil layCloneLf 0 c W).mono ?_
      rintro e w' ⟨rfl, rfl⟩
      exact ⟨none, 0, rfl, World.ownsRow_nil _ _ _ _, Below.refl _ _⟩
    · obtain ⟨i, hi, hz, hsz, hby⟩ := info_leaf
      refine (AnyE.slices_Clone layCloneLf i _ 2 24 hi hz hsz hby rfl (by decide) (fun w => by kernel_rfl) b off P.length c (P.flatMap lCells) W (lCells_len P) (by unfold maxLen; omega) (by omega) (fun j u hu => hc j u hu) (fun u hu => ?_)).mono ?_
      · obtain ⟨y, -, hu⟩ := List.mem_flatMap.1 hu
        simp only [lCells, List.mem_cons, List.not_mem_nil, or_false] at hu
        rcases hu with rfl | rfl <;> rfl
      · rintro e w' ⟨v', rfl, hr, -, hb⟩
        obtain ⟨A', c', rfl⟩ := row_form hr
        exact ⟨A', c', rfl, hr, hb⟩)
  have k2 := h2.cell 2
  simp [logCells] at k2
  clear h1 h2 h3 hw hf hA
  go_enter Tryz.func12, Tryz.ntmps12
  go_wp2_with fail
  refine CL.out.mono ?_
  rintro e w2 ⟨A', c', rfl, hr, hb⟩
  have HF := hid (And.intro hr hb)
  clear hr hb
  go_wp2
  go_ret
  exact ⟨A', c', rfl, HF.out.1, HF.out.2⟩
theorem on_Open_new {Z : Nat → Prop} (hd : IsDrive W g (Dr.new q) Z) (hq : quotableB q = true) (hb : Below w0.heap.size w0 W) (hZ : ∀ k, Z k → w0.heap.size ≤ k) (hL : LibL w0) :
    Calls Tryz.prog 8 #[.pointer (some ⟨g, 0, none⟩)] W fun e w' => ∃ lb, e = .returned (.tuple #[.pointer (some ⟨lb, 0, none⟩), .int .i64 0]) ∧ ∃ F, LF w0 w' g q [] lb [] 0 [] [] [] F ∧ Turn Z W w' ∧ ∀ j, F j → Z j ∨ W.heap.size ≤ j := by
  obtain ⟨n1, n2, n3⟩ := lgN_ok
  obtain ⟨e1, e2, e3⟩ := fsL_new_none q
  have hop := st_Open_new hd (Dr.Ok.new q hq) (by omega) n1 n2 n3 rfl e1 e2 e3
  rw [fsL_new q] at hop
  refine (legacy_Open_at hop List.Pairwise.nil (by simp) (fun w' ht => hL.below (ht.below hb hZ)) [] [] [] (by simp) (by simp) (by simp) rfl (by simp) rfl (by simp) rfl (by simp)).mono ?_
  rintro e w' ⟨lb, sb, mb, cm, A, c, Ah, ch, Z', base, rfl, hS, hbs, ht, hf⟩
  refine ⟨lb, rfl, fun j => (Z j ∨ W.heap.size ≤ j) ∧ j < w'.heap.size, ⟨0, _, sb, mb, cm, base, A, c, Ah, ch, Z', Nat.zero_le _, hS, ht.below hb hZ, ⟨fun j hj => ?_, fun j hj => ⟨?_, hj.2⟩⟩, Nat.le_trans hb.size hbs⟩, ht, fun j hj => hj.1⟩
  · rcases hj with h | rfl | rfl | h | h
    · exact ⟨hf j h, hS.st.lt h⟩
    · exact ⟨.inr (Nat.le_trans hbs hS.bl.1), hS.blk.lt⟩
    · exact ⟨.inr (Nat.le_trans hbs hS.bl.2.1), hS.cr.lt⟩
    · exact ⟨.inr (Nat.le_trans hbs (row_base_le hS.pr h)), row_lt hS.pr h⟩
    · exact ⟨.inr (Nat.le_trans hbs (row_base_le hS.hr h)), row_lt hS.hr h⟩
  · rcases hj.1 with h | h
    · exact hZ j h
    · exact Nat.le_trans hb.size h
end
end Go.Proofs.YtiabfngiibabcaaGreatDoor
