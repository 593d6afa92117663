/- Rows of values grow; walks of json.Map, Text, Int. -/
import Derived.Test.YtbjimikppdfmgaaDoorJsL
import Derived.Test.YtbjimikppdfmgaaDoorJsO
set_option linter.unusedVariables false
set_option linter.unusedSimpArgs false
set_option maxHeartbeats 8000000
set_option maxRecDepth 100000
namespace Go.Proofs.YtbjimikppdfmgaaDoor
open Go.RowKit Go.Shelf

def leafT (t : List UInt8) : J5 := ⟨1, t, 0, none, 0, 0, none, 0, 0⟩
def leafI (n : Int) : J5 := ⟨2, [], n, none, 0, 0, none, 0, 0⟩
theorem append_json {W : World} {base : Nat} {A : Option Addr} {c : Nat} {os : List J5} (y : J5)
    (hown : W.ownsRow base 40 5 (.slice A os.length c) os.length (os.flatMap J5.cs)) (hl : os.length ≤ 1000000) (hbase : base ≤ W.heap.size) :
    ∃ A' c' w', (Builtin.append_ #[38, 38] 38 #[.slice A os.length c, .slice (some ⟨W.heap.size, 0, none⟩) 1 1]).run Tryd.prog (W.alloc (.cells y.ar 40)) = .ok (.slice A' (os.length + 1) c') w' ∧
      w'.ownsRow base 40 5 (.slice A' (os ++ [y]).length c') (os ++ [y]).length ((os ++ [y]).flatMap J5.cs) ∧ w'.heap.size ≥ W.heap.size ∧ (∀ k, k < W.heap.size → (Value.slice A os.length c).ownBlock ≠ some k → w'.heap[k]? = W.heap[k]?) ∧ Below base W w' ∧ ((Value.slice A' (os ++ [y]).length c').ownBlock = (Value.slice A os.length c).ownBlock ∨ (Value.slice A' (os ++ [y]).length c').ownBlock = some (W.heap.size + 1)) := by
  obtain ⟨i, hi, hz, hsz, hby⟩ := info_json
  have b0 : Below W.heap.size W (W.alloc (.cells y.ar 40)) := (Below.refl _ _).alloc (Nat.le_refl _) _
  have hB := Blk.new W 40 y.ar
  obtain ⟨v', w', hrun, hown1, hgrow, hat⟩ := run_append_row (P := Tryd.prog) _ base 38 38 40 i _ 5 80 (by kernel_rfl) hi hz hsz hby rfl (by decide) _ _ _ (row_alloc hown (.cells y.ar 40)) (some ⟨W.heap.size, 0, none⟩) 1 1 y.cs (by simp [J5.cs]) (fun h => by cases h)
    (fun ad had j u hu => by
      injection had with had
      subst had
      rw [add_plain', Nat.zero_add, hB.cell j, ← hu]
      simp [J5.cs, J5.ar])
    (fun u hu => by
      simp only [J5.cs, List.mem_cons, List.not_mem_nil, or_false] at hu
      rcases hu with rfl | rfl | rfl | rfl | rfl <;> rfl)
    (by unfold maxLen; omega) (by omega) (by simp; omega)
  have hlen : (os ++ [y]).length = os.length + 1 := by simp
  have hfl : (os ++ [y]).flatMap J5.cs = os.flatMap J5.cs ++ y.cs := by simp
  obtain ⟨A', c', rfl⟩ := row_form hown1
  rw [← hlen, ← hfl] at hown1
  refine ⟨A', c', w', hrun, hown1, ?_, ?_, (b0.mono hbase).grown hgrow (by simp; omega) (fun k hk => row_base_le hown hk), ?_⟩
  · have := hgrow.size
    simp at this
    omega
  · intro k hk hA
    exact (hgrow.block k (by simp; omega) (fun e => hA e.symm)).trans (b0.block k hk)
  · rcases hat with h | h
    · exact .inl (by rw [hlen]; exact h)
    · right
      rw [hlen, h]
      simp
/-- append(nil, names...). -/
theorem append_names {W : World} {base : Nat} {ok : Nat → Prop} {A : Option Addr} (ns : List (List UInt8)) (c : Nat) (hN : NamesAt W ok A ns) (hl : ns.length ≤ 1000000) (hbase : base ≤ W.heap.size) :
    ∃ A' c' w', (Builtin.append_ #[32, 32] 32 #[.slice none 0 0, .slice A ns.length c]).run Tryd.prog W = .ok (.slice A' ns.length c') w' ∧ w'.ownsRow base 9 1 (.slice A' ns.length c') ns.length (ns.map sV) ∧ Below W.heap.size W w' := by
  obtain ⟨i, hi, hz, hsz, hby⟩ := info_str
  by_cases h0 : 0 < ns.length
  · obtain ⟨b, o, rfl, -, -, hc⟩ := hN h0
    obtain ⟨v', w', hrun, hown1, hgrow, hat⟩ := run_append_row (P := Tryd.prog) W base 32 32 9 i _ 1 16 (by kernel_rfl) hi hz hsz hby rfl (by decide) _ 0 [] (World.ownsRow_nil W base 9 1) (some ⟨b, o, none⟩) ns.length c (ns.map sV) (by simp) (fun h => by cases h)
      (fun ad had j u hu => by
        injection had with had
        subst had
        rw [add_plain']
        have hj : j < ns.length := by simpa using (List.getElem?_eq_some_iff.1 hu).1
        rw [sV_get ns j hj] at hu
        rw [← hu]
        exact hc j hj)
      (fun u hu => by
        obtain ⟨x, -, rfl⟩ := List.mem_map.1 hu
        rfl)
      (by unfold maxLen; omega) (by omega) hbase
    rw [Nat.zero_add] at hown1
    obtain ⟨A', c', rfl⟩ := row_form hown1
    exact ⟨A', c', w', hrun, by simpa using hown1, (Below.refl _ _).grown hgrow (Nat.le_refl _) (fun k hk => by cases hk)⟩
  · obtain rfl : ns = [] := List.eq_nil_of_length_eq_zero (by omega)
    obtain ⟨v', w', hrun, hown1, hgrow, hat⟩ := run_append_row (P := Tryd.prog) W base 32 32 9 i _ 1 16 (by kernel_rfl) hi hz hsz hby rfl (by decide) _ 0 [] (World.ownsRow_nil W base 9 1) none 0 0 [] rfl (fun _ => rfl) (fun ad had => by cases had) (fun u hu => by cases hu) (by unfold maxLen; omega) (by omega) hbase
    refine ⟨none, 0, W, ?_, World.ownsRow_nil _ _ _ _, Below.refl _ _⟩
    cases A with
    | none =>
      simp [Builtin.append_, run_underlying (show (Tryd.prog).underlying 32 = some (.slice 9) by kernel_rfl), sizeOf, typeInfo, hi, Builtin.lenOf, Builtin.firstCells]
    | some ad =>
      simp [Builtin.append_, run_underlying (show (Tryd.prog).underlying 32 = some (.slice 9) by kernel_rfl), sizeOf, typeInfo, hi, Builtin.lenOf, Builtin.firstCells, storeCells, loadCells, loadCellsFrom]
theorem js_Text (t : List UInt8) (W : World) : Calls Tryd.prog 22 #[.string (S t)] W fun e w' => e = .returned (.agg #[.int .i64 1, .string (S t), .int .i64 0, .slice none 0 0, .slice none 0 0]) ∧ Below W.heap.size W w' := by
  have HB := hid (fun o => (Below.refl W.heap.size W).alloc (Nat.le_refl _) o)
  go_enter Tryd.func22, Tryd.ntmps22
  go_wp2
  refine bodyPost_ret (v := .agg #[.int .i64 1, .string (S t), .int .i64 0, .slice none 0 0, .slice none 0 0]) (by simp [results, Tryd.results22, go_sem]) rfl ⟨rfl, HB.out _⟩
theorem js_Int (n : Int) (W : World) : Calls Tryd.prog 23 #[.int .i64 n] W fun e w' => e = .returned (.agg #[.int .i64 2, .string (S []), .int .i64 n, .slice none 0 0, .slice none 0 0]) ∧ Below W.heap.size W w' := by
  have HB := hid (fun o => (Below.refl W.heap.size W).alloc (Nat.le_refl _) o)
  go_enter Tryd.func23, Tryd.ntmps23
  go_wp2
  refine bodyPost_ret (v := .agg #[.int .i64 2, .string (S []), .int .i64 n, .slice none 0 0, .slice none 0 0]) (by simp [results, Tryd.results23, go_sem]) rfl ⟨rfl, HB.out _⟩
theorem row_nil_at {w : World} {base : Nat} {e : TypeId} {size : Nat} {v : Value} (h : w.ownsRow base e size v 0 []) : ∃ A c, v = .slice A 0 c := row_form h
theorem js_CloneS {w : World} {ok : Nat → Prop} {A : Option Addr} (ns : List (List UInt8)) (c : Nat) (h : NamesAt w ok A ns) (hA : A = none → ns = []) (hl : ns.length ≤ 1000000) :
    Calls Tryd.prog 59 #[.slice A ns.length c] w fun e w' => ∃ A' c', e = .returned (.slice A' ns.length c') ∧ w'.ownsRow w.heap.size 9 1 (.slice A' ns.length c') ns.length (ns.map sV) ∧ Below w.heap.size w w' := by
  by_cases h0 : 0 < ns.length
  · obtain ⟨b, o, rfl, -, -, hc⟩ := h h0
    refine (AnyG.slices_Clone_string layCloneS b o ns.length c (ns.map S) w (by simp) (by omega) (fun j hj => by
      simp at hj
      rw [hc j hj]
      simp [List.getD, hj])).mono ?_
    rintro e w' ⟨v', rfl, hr, -, hb⟩
    have e1 : ((ns.map S).take ns.length).map Value.string = ns.map sV := by
      rw [List.take_of_length_le (by simp), List.map_map]
      rfl
    rw [e1] at hr
    obtain ⟨A', c', rfl⟩ := row_form hr
    exact ⟨A', c', rfl, hr, hb⟩
  · obtain rfl : ns = [] := List.eq_nil_of_length_eq_zero (by omega)
    cases A with
    | none =>
      refine (AnyG.slices_Clone_string_nil layCloneS 0 c w).mono ?_
      rintro e w' ⟨rfl, rfl⟩
      exact ⟨none, 0, rfl, World.ownsRow_nil _ _ _ _, Below.refl _ _⟩
    | some ad =>
      refine (AnyG.slices_Clone_string_zero layCloneS ad c w).mono ?_
      rintro e w' ⟨v', rfl, hr, -, hb⟩
      obtain ⟨A', c', rfl⟩ := row_form hr
      exact ⟨A', c', rfl, hr, hb⟩
theorem js_CloneJ {w : World} {b o : Nat} (xs : List J5) (c : Nat) (hl : xs.length ≤ 1000000) (hc : ∀ i, (h : i < xs.length) → ∀ j u, xs[i].cs[j]? = some u → w.cell? ⟨b, o + (i * 5 + j), none⟩ = some u) :
    Calls Tryd.prog 60 #[.slice (some ⟨b, o, none⟩) xs.length c] w fun e w' => ∃ A' c', e = .returned (.slice A' xs.length c') ∧ w'.ownsRow w.heap.size 40 5 (.slice A' xs.length c') xs.length (xs.flatMap J5.cs) ∧ Below w.heap.size w w' := by
  obtain ⟨i, hi, hz, hsz, hby⟩ := info_json
  refine (AnyE.slices_Clone layCloneJ i _ 5 80 hi hz hsz hby rfl (by decide) (fun w => by kernel_rfl) b o xs.length c (xs.flatMap J5.cs) w (jcs_len xs) (by unfold maxLen; omega) (by omega) (fun j u hu => ?_) (fun u hu => ?_)).mono ?_
  · have hj : j < xs.length * 5 := by
      have := (List.getElem?_eq_some_iff.1 hu).1
      rwa [jcs_len] at this
    have hq : j / 5 < xs.length := by omega
    have hm : j % 5 < 5 := by omega
    have e : j = j / 5 * 5 + j % 5 := by omega
    have h5 : (xs[j / 5].cs).length = 5 := rfl
    obtain ⟨u', hu'⟩ : ∃ u', xs[j / 5].cs[j % 5]? = some u' := ⟨xs[j / 5].cs[j % 5]'(by rw [h5]; exact hm), List.getElem?_eq_getElem (by rw [h5]; exact hm)⟩
    have h1 := jcs_get xs (j / 5) hq (j % 5) u' hu'
    rw [← e, hu] at h1
    rw [h1]
    have h2 := hc (j / 5) hq (j % 5) u' hu'
    rwa [← e] at h2
  · obtain ⟨x, -, hx⟩ := List.mem_flatMap.1 hu
    simp only [J5.cs, List.mem_cons, List.not_mem_nil, or_false] at hx
    rcases hx with rfl | rfl | rfl | rfl | rfl <;> rfl
  · rintro e w' ⟨v', rfl, hr, -, hb⟩
    obtain ⟨A', c', rfl⟩ := row_form hr
    exact ⟨A', c', rfl, hr, hb⟩
theorem js_Map {W : World} {ok : Nat → Prop} {A : Option Addr} (ns : List (List UInt8)) (c : Nat) (h : NamesAt W ok A ns) (hl : ns.length ≤ 1000000) {b o : Nat} (xs : List J5) (d : Nat) (hx : xs.length ≤ 1000000) (hc : ∀ i, (h : i < xs.length) → ∀ j u, xs[i].cs[j]? = some u → W.cell? ⟨b, o + (i * 5 + j), none⟩ = some u) (hb : b < W.heap.size) (hA : A = none → ns = []) :
    Calls Tryd.prog 24 #[.slice A ns.length c, .slice (some ⟨b, o, none⟩) xs.length d] W fun e w' => ∃ A' c' B' d', e = .returned (.agg #[.int .i64 4, .string (S []), .int .i64 0, .slice A' ns.length c', .slice B' xs.length d']) ∧ w'.ownsRow W.heap.size 9 1 (.slice A' ns.length c') ns.length (ns.map sV) ∧ w'.ownsRow W.heap.size 40 5 (.slice B' xs.length d') xs.length (xs.flatMap J5.cs) ∧ Below W.heap.size W w' := by
  have b1 := (Below.refl W.heap.size W).alloc (Nat.le_refl _) (.cells zeroJ.ar 40)
  have Z1 := Blk.new W 40 zeroJ.ar
  have C1 := hid (js_CloneS (w := W.alloc (.cells zeroJ.ar 40)) (ok := ok) ns c (h.keep (fun k _ hlt => b1.block k hlt) b1.size (fun k h _ => h)) hA hl)
  have C2 := hid (fun (w1 : World) (hw : Below W.heap.size W w1) => js_CloneJ (w := w1) xs d hx (fun i hi j u hu => (cell_same (hw.block b hb) _).trans (hc i hi j u hu)))
  have HZ := hid Z1
  have HB1 := hid b1
  clear h hc b1 Z1
  go_enter Tryd.func24, Tryd.ntmps24
  go_wp2_with fail
  refine C1.out.mono ?_
  rintro e w1 ⟨A', c', rfl, r1, h1⟩
  have HB2 := hid (bt HB1.out h1)
  have HR1 := hid r1
  have HZ2 := hid (HZ.out.below h1 HZ.out.lt)
  clear r1 h1 C1 HZ
  go_wp2_with fail
  refine (C2.out _ HB2.out).mono ?_
  rintro e w2 ⟨B', d', rfl, r2, h2⟩
  have HB3 := hid (bt HB2.out h2)
  have HZ3 := hid (HZ2.out.below h2 HZ2.out.lt)
  have HR1' := hid (row_below HR1.out h2)
  have HR2 := hid r2
  obtain ⟨z0, z1, z2, z3, z4⟩ := (show w2.cell? ⟨W.heap.size, 0, none⟩ = some (.int .i64 0) ∧ w2.cell? ⟨W.heap.size, 1, none⟩ = some (.string (S [])) ∧ w2.cell? ⟨W.heap.size, 2, none⟩ = some (.int .i64 0) ∧ w2.cell? ⟨W.heap.size, 3, none⟩ = some (.slice none 0 0) ∧ w2.cell? ⟨W.heap.size, 4, none⟩ = some (.slice none 0 0) from ⟨(HZ3.out.cell 0).trans rfl, (HZ3.out.cell 1).trans rfl, (HZ3.out.cell 2).trans rfl, (HZ3.out.cell 3).trans rfl, (HZ3.out.cell 4).trans rfl⟩)
  have m0 := HZ3.out.frozen 0
  have m1 := HZ3.out.frozen 1
  have m2 := HZ3.out.frozen 2
  have m3 := HZ3.out.frozen 3
  have m4 := HZ3.out.frozen 4
  have hs1 : W.heap.size + 1 ≤ w1.heap.size := HZ2.out.lt
  have HF := hid (fun (u0 u1 u2 u3 u4 : Value) => show ∃ A'' c'' B'' d'', Ending.returned (.agg #[.int .i64 4, .string (S []), .int .i64 0, .slice A' ns.length c', .slice B' xs.length d']) = .returned (.agg #[.int .i64 4, .string (S []), .int .i64 0, .slice A'' ns.length c'', .slice B'' xs.length d'']) ∧ (((((w2.setCell ⟨W.heap.size, 0, none⟩ u0).setCell ⟨W.heap.size, 1, none⟩ u1).setCell ⟨W.heap.size, 2, none⟩ u2).setCell ⟨W.heap.size, 3, none⟩ u3).setCell ⟨W.heap.size, 4, none⟩ u4).ownsRow W.heap.size 9 1 (.slice A'' ns.length c'') ns.length (ns.map sV) ∧ (((((w2.setCell ⟨W.heap.size, 0, none⟩ u0).setCell ⟨W.heap.size, 1, none⟩ u1).setCell ⟨W.heap.size, 2, none⟩ u2).setCell ⟨W.heap.size, 3, none⟩ u3).setCell ⟨W.heap.size, 4, none⟩ u4).ownsRow W.heap.size 40 5 (.slice B'' xs.length d'') xs.length (xs.flatMap J5.cs) ∧ Below W.heap.size W (((((w2.setCell ⟨W.heap.size, 0, none⟩ u0).setCell ⟨W.heap.size, 1, none⟩ u1).setCell ⟨W.heap.size, 2, none⟩ u2).setCell ⟨W.heap.size, 3, none⟩ u3).setCell ⟨W.heap.size, 4, none⟩ u4) from by
    have hk : ∀ k, k ≠ W.heap.size → (((((w2.setCell ⟨W.heap.size, 0, none⟩ u0).setCell ⟨W.heap.size, 1, none⟩ u1).setCell ⟨W.heap.size, 2, none⟩ u2).setCell ⟨W.heap.size, 3, none⟩ u3).setCell ⟨W.heap.size, 4, none⟩ u4).heap[k]? = w2.heap[k]? := fun k hk => by
      rw [set_other _ _ _ _ k hk, set_other _ _ _ _ k hk, set_other _ _ _ _ k hk, set_other _ _ _ _ k hk, set_other _ _ _ _ k hk]
    have hs : (((((w2.setCell ⟨W.heap.size, 0, none⟩ u0).setCell ⟨W.heap.size, 1, none⟩ u1).setCell ⟨W.heap.size, 2, none⟩ u2).setCell ⟨W.heap.size, 3, none⟩ u3).setCell ⟨W.heap.size, 4, none⟩ u4).heap.size = w2.heap.size := by
      rw [set_size, set_size, set_size, set_size, set_size]
    refine ⟨A', c', B', d', rfl, row_base (row_keep HR1'.out fun k hk1 => hk k ?_) ?_, row_base (row_keep HR2.out fun k hk1 => hk k ?_) ?_, HB3.out.os, HB3.out.tape, HB3.out.output, by rw [hs]; exact HB3.out.size, fun k hk1 => (hk k (by omega)).trans (HB3.out.block k hk1)⟩
    · have := row_base_le HR1'.out hk1
      simp [alloc_size] at this
      omega
    · simp [alloc_size]
    · have := row_base_le HR2.out hk1
      omega
    · omega)
  clear HB2 HB3 HR1 HR1' HR2 HZ2 HZ3 C2 HB1 r2 h2
  go_wp2
  refine bodyPost_ret (v := .agg #[.int .i64 4, .string (S []), .int .i64 0, .slice A' ns.length c', .slice B' xs.length d']) (by simp [results, Tryd.results24, go_sem, z0, z1, z2, z3, z4]) rfl (HF.out _ _ _ _ _)
end Go.Proofs.YtbjimikppdfmgaaDoor
