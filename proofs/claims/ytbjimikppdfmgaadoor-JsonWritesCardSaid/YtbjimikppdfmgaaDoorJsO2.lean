/- Arguments opened: JSON's values, with bounds of their texts. -/
import Derived.Test.YtbjimikppdfmgaaDoorJsO
set_option linter.unusedVariables false
set_option linter.unusedSimpArgs false
set_option maxHeartbeats 1600000
set_option maxRecDepth 100000
namespace Go.Proofs.YtbjimikppdfmgaaDoor
open Go.RowKit Go.ChangeShapes Go.WideShapes Go.Deep

/-- A value's texts are texts. -/
inductive TxtB : Jv → Prop
  | mk (k : Int) (t : List UInt8) (u : Int) (ns : List (List UInt8)) (ks : List Jv) (ht : t.length ≤ 9223372036854775807) (hn : ∀ s ∈ ns, s.length ≤ 9223372036854775807) (hk : ∀ i (h : i < ks.length), TxtB ks[i]) : TxtB (.mk k t u ns ks)
theorem open_names2 {H : Type} {enc : TypeId × Value → H} {w : World} {base : Nat} {spare : Nat → Bool} {held : Bool} {A : Option Addr} {n cap : Nat} {d : DataW H} {ps : List MemPlace}
    (h : DataW.Trod enc Tryd.prog w base spare held 32 (.slice A n cap) d ps) : ∃ l : List (List UInt8), n = l.length ∧ l.length ≤ cap ∧ (cap : Int) ≤ 9223372036854775807 ∧ NamesAt w (fun _ => True) A l ∧ ∀ s ∈ l, s.length ≤ 9223372036854775807 := by
  have hC : (Tryd.prog).cellsOf 9 = 1 := by kernel_rfl
  obtain ⟨h1, h2, h3⟩ := open_slice_any Tryd.underlying32 (by rw [hC]; omega) h
  rw [hC] at h3
  rcases Nat.eq_zero_or_pos n with h0 | h0
  · exact ⟨[], by simpa using h0, by simp, h2, (fun h => absurd h (by simp)), (fun s hs => by cases hs)⟩
  · obtain ⟨b, off, hA, hb, hi⟩ := h3 h0
    obtain ⟨l, hl, hp⟩ := choose_list n (fun i (q : List UInt8) => w.cell? ⟨b, off + i, none⟩ = some (.string (S q)) ∧ q.length ≤ 9223372036854775807) [] (fun i hin => by
      obtain ⟨cs, m, y, hlen, hcell, ht⟩ := hi i hin
      obtain ⟨s0, c0, -, hsz⟩ := DataW.trod_string Tryd.underlying9 ht
      subst c0
      have := hcell 0 (by omega)
      rw [Nat.add_zero, Nat.mul_one] at this
      exact ⟨s0.data.toList, by rw [S_of]; exact this, by unfold maxLen at hsz; rw [← S_size, S_of]; omega⟩)
    exact ⟨l, hl.symm, by omega, h2, (fun _ => ⟨b, off, hA, trivial, hb, fun i hi => (hp i hi).1⟩), (fun s hs => by
      obtain ⟨i, hi, rfl⟩ := List.mem_iff_getElem.1 hs
      exact (hp i hi).2)⟩
theorem open_json_cells2 {H : Type} {enc : TypeId × Value → H} {w : World} {base : Nat} {spare : Nat → Bool} {held : Bool} : ∀ (N : Nat) (fuel : Nat), fuel ≤ N → ∀ (cs : List Value) (y : DataW H × List MemPlace), DataW.trod enc Tryd.prog w base spare held fuel 40 cs = some y → ∃ (j : Jv) (x : J5), JAt w (fun _ => True) j x ∧ TxtB j ∧ cs = x.cs
  | 0, fuel, hf, cs, y, h => by
    obtain rfl : fuel = 0 := by omega
    simp [DataW.trod] at h
  | N + 1, fuel, hfu, cs, y, h => by
    have hC : (Tryd.prog).cellsOf 40 = 5 := by kernel_rfl
    obtain ⟨n', hn', hlen, hf⟩ := fields_fuel Tryd.underlying40 (by kernel_rfl) h
    rw [hC] at hlen
    obtain ⟨v0, z0, e0, t0⟩ := hf 0 _ rfl (by omega)
    obtain ⟨v1, z1, e1, t1⟩ := hf 1 _ rfl (by omega)
    obtain ⟨v2, z2, e2, t2⟩ := hf 2 _ rfl (by omega)
    obtain ⟨v3, z3, e3, t3⟩ := hf 3 _ rfl (by omega)
    obtain ⟨v4, z4, e4, t4⟩ := hf 4 _ rfl (by omega)
    obtain ⟨k, c0, -, -⟩ := DataW.trod_int Tryd.underlying3 t0
    obtain ⟨t, c1, -, htz⟩ := DataW.trod_string Tryd.underlying9 t1
    obtain ⟨u, c2, -, -⟩ := DataW.trod_int Tryd.underlying3 t2
    simp only [List.cons.injEq, and_true] at c0 c1 c2
    subst c0 c1 c2
    have hcs : cs = [.int .i64 k, .string t, .int .i64 u, v3, v4] := by
      match cs, hlen, e0, e1, e2, e3, e4 with
      | [a, b, c, d, e], _, e0, e1, e2, e3, e4 =>
        simp at e0 e1 e2 e3 e4
        subst e0 e1 e2 e3 e4
        rfl
    obtain ⟨A, nn, nc, rfl⟩ : ∃ A nn nc, v3 = .slice A nn nc := by
      rcases DataW.trod_slice Tryd.underlying32 t3 with ⟨h1, -⟩ | ⟨a, len, cap, _, _, _, _, h1, _⟩
      · simp only [List.cons.injEq, and_true] at h1
        exact ⟨_, _, _, h1⟩
      · simp only [List.cons.injEq, and_true] at h1
        exact ⟨_, _, _, h1⟩
    obtain ⟨ns, hn1, hn2, hn3, hN, hNB⟩ := open_names2 (A := A) (n := nn) (cap := nc) ⟨n', t3⟩
    have hK : ∃ (B : Option Addr) (kc : Nat) (ks : List Jv) (xs : List J5), v4 = .slice B ks.length kc ∧ ks.length ≤ kc ∧ ks.length ≤ 9223372036854775807 ∧ xs.length = ks.length ∧ KidsAt w (fun _ => True) B xs ∧ ∀ i (h : i < ks.length) (h' : i < xs.length), JAt w (fun _ => True) ks[i] xs[i] ∧ TxtB ks[i] := by
      rcases DataW.trod_slice Tryd.underlying38 t4 with ⟨h1, -⟩ | ⟨a, len, cap, elems, rest, n2, hn2, h1, -, hb, hl, hm, hlen2, hel, -, -⟩
      · simp only [List.cons.injEq, and_true] at h1
        exact ⟨none, 0, [], [], h1, Nat.zero_le _, Nat.zero_le _, rfl, (fun h => by simp at h), (fun i h => by simp at h)⟩
      · simp only [List.cons.injEq, and_true] at h1
        rw [hC] at hel
        have hat : ∀ i, i < len → ∃ (j : Jv) (x : J5), (JAt w (fun _ => True) j x ∧ TxtB j) ∧ ∀ jj u, x.cs[jj]? = some u → w.cell? ((a.add (i * 5)).add jj) = some u := fun i hi => by
          have he := hel i hi
          rw [List.getElem?_eq_getElem (by omega)] at he
          obtain ⟨cs', hc1, hc2⟩ := Option.bind_eq_some_iff.1 he
          obtain ⟨j, x, hj, hjt, rfl⟩ := open_json_cells2 N n2 (by omega) cs' _ hc2
          obtain ⟨_, _, hat⟩ := World.cells?_some hc1
          exact ⟨j, x, ⟨hj, hjt⟩, fun jj u hu => (hat jj (List.getElem?_eq_some_iff.1 hu).1).trans hu⟩
        rcases Nat.eq_zero_or_pos len with h0 | h0
        · subst h0
          exact ⟨some a, cap, [], [], h1, Nat.zero_le _, Nat.zero_le _, rfl, (fun h => by simp at h), (fun i h => by simp at h)⟩
        · obtain ⟨j0, x0, -, hx0⟩ := hat 0 h0
          have h00 := hx0 0 _ rfl
          have hs0 : (a.add (0 * 5)).add 0 = a := by simp [Addr.add]
          rw [hs0] at h00
          obtain ⟨b, off, spot⟩ := a
          have hspot : spot = none := by simpa using World.cell?_spot h00
          subst hspot
          obtain ⟨l, hll, hp⟩ := choose_list len (fun i (p : Jv × J5) => (JAt w (fun _ => True) p.1 p.2 ∧ TxtB p.1) ∧ ∀ jj u, p.2.cs[jj]? = some u → w.cell? ⟨b, off + (i * 5 + jj), none⟩ = some u) (.mk 0 [] 0 [] [], ⟨0, [], 0, none, 0, 0, none, 0, 0⟩) (fun i hin => by
            obtain ⟨j, x, hj, hx⟩ := hat i hin
            refine ⟨(j, x), hj, fun jj u hu => ?_⟩
            have := hx jj u hu
            rw [show ((⟨b, off, none⟩ : Addr).add (i * 5)).add jj = ⟨b, off + (i * 5 + jj), none⟩ by
              unfold Addr.add; split <;> split <;> simp_all <;> omega] at this
            exact this)
          refine ⟨some ⟨b, off, none⟩, cap, l.map (·.1), l.map (·.2), by simpa [hll] using h1, by simp [hll]; exact hl, by simp [hll]; unfold maxLen at hm; omega, by simp, fun _ => ⟨b, off, rfl, trivial, World.block_lt_of_cell? w _ h00, fun i hi jj u hu => ?_⟩, fun i h h' => ?_⟩
          · simp at hi hu
            exact (hp i hi).2 jj u hu
          · simp at h ⊢
            exact (hp i h).1
    obtain ⟨B, kc, ks, xs, rfl, hk1, hk2, hk3, hK, hs⟩ := hK
    refine ⟨.mk k t.data.toList u ns ks, ⟨k, t.data.toList, u, A, nn, nc, B, ks.length, kc⟩, .mk ⟨k, t.data.toList, u, A, nn, nc, B, ks.length, kc⟩ ns ks xs hn1 hn2 rfl hk1 (by omega) hk2 hN hk3 hK (fun i h h' => (hs i h h').1), .mk _ _ _ _ _ (by unfold maxLen at htz; rw [← S_size, S_of]; omega) hNB (fun i h => (hs i h (by omega)).2), ?_⟩
    rw [hcs, J5.cs, S_of]
theorem open_json2 {H : Type} {enc : TypeId × Value → H} {w : World} {base : Nat} {spare : Nat → Bool} {held : Bool} {v : Value} {d : DataW H} {ps : List MemPlace} {r : Reach} {b0 : Nat} (hval : Value.okWide Tryd.prog w r b0 40 v)
    (h : DataW.Trod enc Tryd.prog w base spare held 40 v d ps) : ∃ (j : Jv) (x : J5), JAt w (fun _ => True) j x ∧ TxtB j ∧ v = x.val := by
  obtain ⟨cs, rfl, hsz⟩ := okWide_struct Tryd.underlying40 hval
  obtain ⟨fuel, hf⟩ := h
  obtain ⟨j, x, hj, hjt, hc⟩ := open_json_cells2 fuel fuel (Nat.le_refl _) _ _ hf
  refine ⟨j, x, hj, hjt, ?_⟩
  have h1 : cs.toList = x.cs := by simpa [Value.cells] using hc
  have h2 : cs = x.cs.toArray := by rw [← h1]
  rw [h2]
  rfl
end Go.Proofs.YtbjimikppdfmgaaDoor
