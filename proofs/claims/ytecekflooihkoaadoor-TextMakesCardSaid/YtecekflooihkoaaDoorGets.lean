/- Walks of package text: find, Get; of pantilelaw07: TextGets. -/
import Derived.Test.YtecekflooihkoaaDoorLaw07
import Derived.Test.YtecekflooihkoaaDoorOpen
import Derived.Test.YtecekflooihkoaaDoorQPlain
set_option linter.unusedVariables false
set_option linter.unusedSimpArgs false
set_option maxHeartbeats 800000
set_option maxRecDepth 100000
namespace Go.Proofs.YtecekflooihkoaaDoor
open Go.RowKit

/-- A slice of names and values. -/
def PairsAt (w : World) (A : Option Addr) (ps : List SPair) : Prop :=
  0 < ps.length → ∃ b off, A = some ⟨b, off, none⟩ ∧ b < w.heap.size ∧ ∀ i, (h : i < ps.length) → w.cell? ⟨b, off + i * 2, none⟩ = some (.string (S ps[i].1)) ∧ w.cell? ⟨b, off + i * 2 + 1, none⟩ = some (.string (S ps[i].2))
theorem PairsAt.below {w w' : World} {A : Option Addr} {ps : List SPair} (h : PairsAt w A ps) (hb : Below w.heap.size w w') : PairsAt w' A ps := fun h0 => by
  obtain ⟨b, off, hA, hlt, hc⟩ := h h0
  exact ⟨b, off, hA, Nat.lt_of_lt_of_le hlt hb.size, fun i hi => ⟨(hb.cell (p := ⟨b, _, none⟩) hlt).trans (hc i hi).1, (hb.cell (p := ⟨b, _, none⟩) hlt).trans (hc i hi).2⟩⟩

/-- The place of the first one that is so, below 0: none. -/
def findN (q : SPair → Bool) : List SPair → Nat → Int
  | [], _ => -1
  | p :: ps, k => if q p then k else findN q ps (k + 1)

theorem find_closure (nm a b : List UInt8) (p : Addr) (w : World) (hp : w.cell? p = some (.string (S nm))) (hlt : p.block < w.heap.size) :
    Calls Tryd.prog 82 #[.agg #[.string (S a), .string (S b)], .pointer (some p)] w fun e w' => e = .returned (.bool (a == nm)) ∧ Below w.heap.size w w' := by
  have h1 : (w.alloc (.cells #[.string (S a), .string (S b)] 33)).cell? p = some (.string (S nm)) := (World.cell?_alloc_lt w _ p hlt).trans hp
  go_enter Tryd.func82, Tryd.ntmps82
  go_wp2
  go_ret
  exact ⟨rfl, (Below.refl _ _).alloc (Nat.le_refl _) _⟩

theorem indexFunc_pairs (nm : List UInt8) (p : Addr) (A : Option Addr) (ps : List SPair) (cap : Nat) (w : World) (hm : ps.length ≤ 1000000) (hA : PairsAt w A ps) (hp : w.cell? p = some (.string (S nm))) (hlt : p.block < w.heap.size) :
    Calls Tryd.prog 81 #[.slice A ps.length cap, .func (.func 82) #[] #[.pointer (some p)]] w fun e w' => e = .returned (.int .i64 (findN (fun x => x.1 == nm) ps 0)) ∧ Below w.heap.size w w' := by
  go_enter Tryd.func81, Tryd.ntmps81
  go_wp2
  go_loopw [8] (fun i wr => ∃ k : Nat, k ≤ ps.length ∧ i = .int .i64 k ∧ Hid (findN (fun x => x.1 == nm) (ps.drop k) k = findN (fun x => x.1 == nm) ps 0) ∧ Below w.heap.size w wr) (fun i _ => ps.length - (intOf i).toNat)
  case atStart => exact ⟨0, Nat.zero_le _, rfl, rfl, Below.refl _ _⟩
  case round =>
    obtain ⟨k, hk, rfl, hf, hb⟩ := hrel
    by_cases h : k < ps.length
    · obtain ⟨b, off, rfl, hbl, hc⟩ := (hA.below hb) (by omega)
      obtain ⟨h1, h2⟩ := hc k h
      have hcl := find_closure nm ps[k].1 ps[k].2 p wr ((hb.cell hlt).trans hp) (Nat.lt_of_lt_of_le hlt hb.size)
      have HC := hid hcl
      clear hcl hc
      have hd : ps.drop k = ps[k] :: ps.drop (k + 1) := List.drop_eq_getElem_cons h
      by_cases hq : (ps[k].1 == nm) = true
      · have H := hid (show findN (fun x => x.1 == nm) ps 0 = (k : Int) by rw [← hf.out, hd, findN, if_pos hq])
        clear hd
        go_wp2_with fail
        refine HC.out.mono ?_
        rintro e w1 ⟨rfl, hb1⟩
        go_wp2
        go_ret
        exact ⟨by rw [H.out]; rfl, bt hb hb1⟩
      · have hq' : (ps[k].1 == nm) = false := by simpa using hq
        have H := hid (show findN (fun x => x.1 == nm) (ps.drop (k + 1)) (k + 1) = findN (fun x => x.1 == nm) ps 0 by rw [← hf.out, hd, findN, if_neg hq])
        clear hd hq
        go_wp2_with fail
        refine HC.out.mono ?_
        rintro e w1 ⟨rfl, hb1⟩
        go_wp2
        go_roundw
        case rel => exact ⟨k + 1, by omega, by go_num, H, bt hb hb1⟩
        case measure => simp [intOf]; omega
    · have hk' : k = ps.length := by omega
      subst hk'
      have H := hid (show findN (fun x => x.1 == nm) ps 0 = -1 by rw [← hf.out, List.drop_length, findN])
      go_wp2
      go_ret
      exact ⟨by rw [H.out]; rfl, hb⟩

theorem text_find (nm : List UInt8) (A : Option Addr) (ps : List SPair) (cap : Nat) (w : World) (hm : ps.length ≤ 1000000) (hA : PairsAt w A ps) :
    Calls Tryd.prog 39 #[.slice A ps.length cap, .string (S nm)] w fun e w' => e = .returned (.int .i64 (findN (fun x => x.1 == nm) ps 0)) ∧ Below w.heap.size w w' := by
  have b0 : Below w.heap.size w (w.alloc (.cells #[.string (S nm)] 9)) := (Below.refl _ _).alloc (Nat.le_refl _) _
  have hA' := hA.below b0
  have hc : (w.alloc (.cells #[.string (S nm)] 9)).cell? ⟨w.heap.size, 0, none⟩ = some (.string (S nm)) := (Blk.new _ _ _).cell 0
  have hmf : ∀ (fn : Fn) (first cap : Array Value) (w : World), (Instr.makeFunc fn first cap).run Tryd.prog w = .ok (.func fn first cap) w := fun _ _ _ _ => rfl
  go_enter Tryd.func39, Tryd.ntmps39
  go_wp2_with fail
  refine (indexFunc_pairs nm ⟨w.heap.size, 0, none⟩ A ps cap _ hm hA' hc (by simp)).mono ?_
  rintro e w1 ⟨rfl, hb1⟩
  go_wp2
  go_ret
  exact ⟨rfl, b0.trans (hb1.mono (by simp))⟩

/-- What text.Get tells. -/
def getV (nm : List UInt8) (ps : List SPair) : List UInt8 := ((ps.find? fun x => x.1 == nm).map (·.2)).getD []
def getB (nm : List UInt8) (ps : List SPair) : Bool := (ps.find? fun x => x.1 == nm).isSome
theorem findN_spec (q : SPair → Bool) (ps : List SPair) : ∀ k : Nat, (findN q ps k = -1 ∧ ps.find? q = none) ∨ ∃ i : Nat, ∃ h : i < ps.length, findN q ps k = ((k + i : Nat) : Int) ∧ ps.find? q = some ps[i] ∧ q ps[i] = true ∧ ∀ j, (hj : j < ps.length) → j < i → q ps[j] = false := by
  induction ps with
  | nil => intro k; exact .inl ⟨rfl, rfl⟩
  | cons p ps ih =>
    intro k
    by_cases h : q p = true
    · refine .inr ⟨0, by simp, ?_⟩
      simp [findN, h]
    · have h' : q p = false := by simpa using h
      rcases ih (k + 1) with ⟨h1, h2⟩ | ⟨i, hi, h1, h2, h3, h4⟩
      · exact .inl ⟨by simp [findN, h', h1], by simp [h', h2]⟩
      · refine .inr ⟨i + 1, by simp; omega, by rw [findN, if_neg h, h1]; congr 1; omega, by simpa [h'] using h2, by simpa using h3, ?_⟩
        intro j hj hji
        rcases j with _ | j
        · exact h'
        · exact h4 j (by simpa using hj) (by omega)

theorem text_Get (nm : List UInt8) (A : Option Addr) (ps : List SPair) (cap : Nat) (w : World) (hm : ps.length ≤ 1000000) (hA : PairsAt w A ps) :
    Calls Tryd.prog 14 #[.slice A ps.length cap, .string (S nm)] w fun e w' => e = .returned (.tuple #[.string (S (getV nm ps)), .bool (getB nm ps)]) ∧ Below w.heap.size w w' := by
  rcases findN_spec (fun x => x.1 == nm) ps 0 with ⟨h1, h2⟩ | ⟨i, hi, h1, h2, h3, h4⟩
  · have H1 := hid (show getV nm ps = [] by simp [getV, h2])
    have H2 := hid (show getB nm ps = false by simp [getB, h2])
    have F := hid (text_find nm A ps cap w hm hA)
    rw [h1] at F
    clear h1 h2
    go_enter Tryd.func14, Tryd.ntmps14
    go_wp2_with fail
    refine F.out.mono ?_
    rintro e w1 ⟨rfl, hb1⟩
    go_wp2
    go_ret2
    exact ⟨by rw [H1.out, H2.out]; rfl, hb1⟩
  · have H1 := hid (show getV nm ps = ps[i].2 by simp [getV, h2])
    have H2 := hid (show getB nm ps = true by simp [getB, h2])
    have F := hid (text_find nm A ps cap w hm hA)
    rw [h1, Nat.zero_add] at F
    clear h1 h2 h3 h4
    obtain ⟨b, off, rfl, hbl, hc⟩ := hA (by omega)
    have c1 := (hc i hi).2
    clear hc
    go_enter Tryd.func14, Tryd.ntmps14
    go_wp2_with fail
    refine F.out.mono ?_
    rintro e w1 ⟨rfl, hb1⟩
    have c2 := (hb1.cell (p := ⟨b, off + i * 2 + 1, none⟩) hbl).trans c1
    go_wp2
    go_ret2
    exact ⟨by rw [H1.out, H2.out]; rfl, hb1⟩

theorem PairsAt.take {w : World} {A : Option Addr} {ps : List SPair} (h : PairsAt w A ps) (n : Nat) : PairsAt w A (ps.take n) := fun h0 => by
  obtain ⟨b, off, hA, hlt, hc⟩ := h (by simp at h0; omega)
  refine ⟨b, off, hA, hlt, fun i hi => ?_⟩
  have hi' : i < ps.length := by simp at hi; omega
  have := hc i hi'
  simpa using this

theorem open_pairs {H : Type} {enc : TypeId × Value → H} {w : World} {base : Nat} {spare : Nat → Bool} {held : Bool} {A : Option Addr} {n cap : Nat} {d : DataW H} {ps : List MemPlace}
    (h : DataW.Trod enc Tryd.prog w base spare held 23 (.slice A n cap) d ps) : ∃ qs : List SPair, n = qs.length ∧ qs.length ≤ cap ∧ (cap : Int) ≤ 9223372036854775807 ∧ PairsAt w A qs := by
  have hC : (Tryd.prog).cellsOf 33 = 2 := by kernel_rfl
  obtain ⟨h1, h2, h3⟩ := open_slice_any Tryd.underlying23 (by rw [hC]; omega) h
  rw [hC] at h3
  rcases Nat.eq_zero_or_pos n with h0 | h0
  · exact ⟨[], by simpa using h0, by simp, h2, fun h => absurd h (by simp)⟩
  · obtain ⟨b, off, hA, hb, hi⟩ := h3 h0
    obtain ⟨l, hl, hp⟩ := choose_list n (fun i (q : SPair) => w.cell? ⟨b, off + i * 2, none⟩ = some (.string (S q.1)) ∧ w.cell? ⟨b, off + i * 2 + 1, none⟩ = some (.string (S q.2))) ([], []) (fun i hin => by
      obtain ⟨cs, m, y, hlen, hcell, ht⟩ := hi i hin
      have hf := open_fields Tryd.underlying33 (by kernel_rfl) ht
      obtain ⟨v0, m0, z0, e0, t0⟩ := hf 0 _ rfl (by omega)
      obtain ⟨v1, m1, z1, e1, t1⟩ := hf 1 _ rfl (by omega)
      obtain ⟨s0, c0, -, -⟩ := DataW.trod_string Tryd.underlying9 t0
      obtain ⟨s1, c1, -, -⟩ := DataW.trod_string Tryd.underlying9 t1
      simp only [List.cons.injEq, and_true] at c0 c1
      subst c0 c1
      refine ⟨(s0.data.toList, s1.data.toList), ?_, ?_⟩
      · rw [S_of, ← e0, ← hcell 0 (by omega), Nat.add_zero]
      · rw [S_of, ← e1, ← hcell 1 (by omega), Nat.add_assoc])
    exact ⟨l, hl.symm, by omega, h2, fun _ => ⟨b, off, hA, hb, hp⟩⟩

end Go.Proofs.YtecekflooihkoaaDoor
