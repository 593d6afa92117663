/- The document's drive in memory; walks of its All, at, may, Quota, Arm, New. Walks of the document's drive: at, Used, may, Quota, Arm, New, Read. Walks of the document's drive: put, cut. The document's drive: a new row of files, a file's place written; walk of cut. -/
import Derived.Test.YtioillenlgpcgaaRefPlain
import Derived.Test.YtioillenlgpcgaaBytes
import Derived.Test.YtioillenlgpcgaaDrive4
import Derived.Test.YtioillenlgpcgaaDrive9
import Derived.Test.YtioillenlgpcgaaList
import Derived.Deep.RegionHeld3
import Derived.Deep.DrawnRows
import Derived.Test.YtioillenlgpcgaaDrOk
import Derived.Test.YtioillenlgpcgaaDrive13
import Derived.Deep.QuietTactic
import Derived.BigQuiet
set_option linter.unusedVariables false
set_option linter.unusedSimpArgs false
set_option maxHeartbeats 1600000
set_option maxRecDepth 100000
namespace Go.Proofs.Ytioillenlgpcgaa
open Go.RowKit

/-- A file of the document's drive: its name, what it has, the slice of its pieces. -/
structure RF where
  key : Key
  f : File
  pv : Value
def rCells (r : RF) : List Value := [.string (S r.key), .string (S r.f.safe), r.pv]
def rAgg (r : RF) : Value := .agg #[.string (S r.key), .string (S r.f.safe), r.pv]
structure StrsRow (w : World) (fp : Nat → Prop) (v : Value) (ls : List (List UInt8)) : Prop where
  row : w.ownsRow 0 9 1 v ls.length (ls.map fun l => Value.string (S l))
  own : ∀ k, v.ownBlock = some k → fp k
structure HasRef (w : World) (fp : Nat → Prop) (v : Value) (rs : List RF) : Prop where
  row : w.ownsRow 0 78 3 v rs.length (rs.flatMap rCells)
  own : ∀ k, v.ownBlock = some k → fp k
  each : ∀ r ∈ rs, StrsRow w fp r.pv r.f.pieces
def refCells (d : Dr) (v : Value) : Array Value := #[v, .int .i64 d.quota, .int .i64 d.deeds, .bool d.down, .int .i64 d.left]
def rPair (r : RF) : Key × File := (r.key, r.f)
structure IsRef (w : World) (g : Nat) (d : Dr) (fp : Nat → Prop) : Prop where
  lt : ∀ k, fp k → k < w.heap.size
  own : fp g
  has : ∃ v rs, Blk w g 63 (refCells d v) ∧ HasRef w fp v rs ∧ d.files = rs.map rPair
def ThenR (w : World) (g : Nat) (d : Dr) (fp : Nat → Prop) (w' : World) : Prop := ∃ fp', IsRef w' g d fp' ∧ Touch w w' fp fp'

theorem flat3 (rs : List RF) : ∀ (i j : Nat), j < 3 → (rs.flatMap rCells)[i * 3 + j]? = (rs[i]?).bind fun r => (rCells r)[j]? := by
  induction rs with
  | nil => intro i j hj; simp
  | cons r rs ih =>
    intro i j hj
    rw [List.flatMap_cons]
    cases i with
    | zero =>
      rw [Nat.zero_mul, Nat.zero_add, List.getElem?_append_left (by simp [rCells]; omega)]
      rfl
    | succ i =>
      rw [List.getElem?_append_right (by simp [rCells]; omega)]
      have : (i + 1) * 3 + j - (rCells r).length = i * 3 + j := by simp [rCells]; omega
      rw [this, ih i j hj]
      rfl
theorem flat_len (rs : List RF) : (rs.flatMap rCells).length = rs.length * 3 := by
  induction rs with
  | nil => rfl
  | cons r rs ih => rw [List.flatMap_cons, List.length_append, ih]; simp [rCells]; omega
theorem HasRef.elem {w : World} {fp : Nat → Prop} {v : Value} {rs : List RF} (h : HasRef w fp v rs) {i : Nat} (hi : i < rs.length) : ∃ b c, v = .slice (some ⟨b, 0, none⟩) rs.length c ∧ b < w.heap.size ∧ rs.length ≤ c ∧
    w.cell? ⟨b, i * 3, none⟩ = some (.string (S rs[i].key)) ∧ w.cell? ⟨b, i * 3 + 1, none⟩ = some (.string (S rs[i].f.safe)) ∧ w.cell? ⟨b, i * 3 + 2, none⟩ = some rs[i].pv := by
  have hrow := h.row
  rcases hrow.2 with ⟨h1, h2⟩ | ⟨g, cap, cur, rfl, hb, hh, hn, _⟩
  · omega
  · have hc : ∀ j, j < 3 → w.cell? ⟨g, i * 3 + j, none⟩ = (rCells rs[i])[j]? := fun j hj => by
      rw [hrow.cellAt (i * 3 + j) (by omega), flat3 rs i j hj, List.getElem?_eq_getElem hi]
      rfl
    refine ⟨g, cap, rfl, (Array.getElem?_eq_some_iff.1 hh).1, hn, ?_, ?_, ?_⟩
    · have := hc 0 (by omega); rw [Nat.add_zero] at this; exact this
    · exact hc 1 (by omega)
    · exact hc 2 (by omega)
theorem HasRef.form {w : World} {fp : Nat → Prop} {v : Value} {rs : List RF} (h : HasRef w fp v rs) : ∃ A c, v = .slice A rs.length c := row_form h.row
theorem StrsRow.keep {w w' : World} {fp fp' : Nat → Prop} {v : Value} {ls : List (List UInt8)} (h : StrsRow w fp v ls) (hk : ∀ k cs, fp k → w.heap[k]? = some (.cells cs 9 (0, 0)) → w'.heap[k]? = w.heap[k]?) (hf : ∀ k, fp k → fp' k) : StrsRow w' fp' v ls :=
  ⟨row_keep h.row fun k hkk => by
    obtain ⟨cs, hcs⟩ := row_heap h.row hkk
    exact hk k cs (h.own k hkk) hcs, fun k hkk => hf k (h.own k hkk)⟩
theorem HasRef.keep {w w' : World} {fp fp' : Nat → Prop} {v : Value} {rs : List RF} (h : HasRef w fp v rs) (hk : ∀ k cs t, fp k → t ≠ 63 → w.heap[k]? = some (.cells cs t (0, 0)) → w'.heap[k]? = w.heap[k]?) (hf : ∀ k, fp k → fp' k) : HasRef w' fp' v rs :=
  ⟨row_keep h.row fun k hkk => by
    obtain ⟨cs, hcs⟩ := row_heap h.row hkk
    exact hk k cs _ (h.own k hkk) (by decide) hcs, fun k hkk => hf k (h.own k hkk), fun r hr => (h.each r hr).keep (fun k cs h1 h2 => hk k cs _ h1 (by decide) h2) hf⟩
theorem HasRef.turned {w w' : World} {fp : Nat → Prop} {g : Nat} {cs : Array Value} {v : Value} {rs : List RF} (h : HasRef w fp v rs) (hb : Blk w g 63 cs) (hk : ∀ k, k ≠ g → fp k → w'.heap[k]? = w.heap[k]?) : HasRef w' fp v rs :=
  h.keep (fun k cs' t h1 h2 h3 => hk k (by
    rintro rfl
    unfold Blk at hb
    rw [hb] at h3
    injection h3 with h3
    injection h3 with _ h4
    exact h2 h4.symm) h1) (fun _ h => h)
theorem IsRef.keep {w w' : World} {g : Nat} {d : Dr} {fp : Nat → Prop} (h : IsRef w g d fp) (hs : w.heap.size ≤ w'.heap.size) (hk : ∀ k, fp k → w'.heap[k]? = w.heap[k]?) : IsRef w' g d fp := by
  obtain ⟨v, rs, hb, hf, hd⟩ := h.has
  exact ⟨fun k hk => Nat.lt_of_lt_of_le (h.lt k hk) hs, h.own, v, rs, (hk g h.own).trans hb, hf.keep (fun k _ _ h1 _ _ => hk k h1) (fun _ h => h), hd⟩
theorem IsRef.below {w w' : World} {g : Nat} {d : Dr} {fp : Nat → Prop} (h : IsRef w g d fp) (hb : Below w.heap.size w w') : IsRef w' g d fp := h.keep hb.size fun k hk => hb.block k (h.lt k hk)
theorem IsRef.mk' {w w' : World} {g : Nat} {d d' : Dr} {fp : Nat → Prop} {cs : Array Value} {v : Value} {rs : List RF} (h : IsRef w g d fp) (hb : Blk w g 63 cs) (hf : HasRef w fp v rs) (hs : w.heap.size ≤ w'.heap.size)
    (hk : ∀ k, k ≠ g → w'.heap[k]? = w.heap[k]?) (hb' : Blk w' g 63 (refCells d' v)) (hd : d'.files = rs.map rPair) : IsRef w' g d' fp :=
  ⟨fun k hk => Nat.lt_of_lt_of_le (h.lt k hk) hs, h.own, v, rs, hb', hf.turned hb (fun k h1 _ => hk k h1), hd⟩

theorem flatten_take_succ (ls : List (List UInt8)) {k : Nat} (h : k < ls.length) : (ls.take (k + 1)).flatten = (ls.take k).flatten ++ ls[k] := by
  have h1 : ls.take (k + 1) = ls.take k ++ [ls[k]] := by simp
  rw [h1, List.flatten_append]
  simp
theorem ref_All {w : World} {fp : Nat → Prop} {r : RF} (hS : StrsRow w fp r.pv r.f.pieces) (hn : r.f.pieces.length ≤ 1000000000) (hl : r.f.all.length ≤ 1000000000000) :
    Calls Try.prog 67 #[rAgg r] w fun e w' => e = .returned (.string (S r.f.all)) ∧ Below w.heap.size w w' := by
  obtain ⟨key, f, pv⟩ := r
  obtain ⟨safe, ps⟩ := f
  simp only [rAgg] at *
  have hl2 : safe.length + ps.flatten.length ≤ 1000000000000 := by simpa [File.all] using hl
  have hrow := hS.row
  obtain ⟨A, c, rfl⟩ := row_form hrow
  have hall : (File.mk safe ps).all = safe ++ ps.flatten := rfl
  rw [hall] at hl ⊢
  have hW : Below w.heap.size w (w.alloc (.cells #[.string (S key), .string (S safe), .slice A ps.length c] 78)) := (Below.refl _ _).alloc (Nat.le_refl _) _
  have hcell : ∀ k, (h : k < ps.length) → ∃ b, A = some ⟨b, 0, none⟩ ∧ (w.alloc (.cells #[.string (S key), .string (S safe), .slice A ps.length c] 78)).cell? ⟨b, k, none⟩ = some (.string (S ps[k])) := fun k hk => by
    rcases hrow.2 with ⟨h1, h2⟩ | ⟨g, cap, cur, h1, hb, hh, _⟩
    · omega
    · simp only [Value.slice.injEq] at h1
      obtain ⟨rfl, _, rfl⟩ := h1
      refine ⟨g, rfl, ?_⟩
      have hlt : g < w.heap.size := (Array.getElem?_eq_some_iff.1 hh).1
      rw [hW.cell (p := ⟨g, k, none⟩) hlt, hrow.cellAt k (by omega)]
      simp [List.getElem?_map, List.getElem?_eq_getElem hk]
  have HC := hid hcell
  have HB := hid hW
  have hlen : ∀ k, (ps.take k).flatten.length ≤ ps.flatten.length := fun k => by
    have h : ps.flatten = (ps.take k).flatten ++ (ps.drop k).flatten := by rw [← List.flatten_append, List.take_append_drop]
    rw [h, List.length_append]
    omega
  have HL := hid hlen
  clear hS hrow hcell hW hlen hall
  go_enter Try.func67, Try.ntmps67
  go_wp2
  go_loopw [3, 4] (fun s i wr => ∃ k : Nat, k ≤ ps.length ∧ i = .int .i64 k ∧ s = .string (S (safe ++ (ps.take k).flatten)) ∧ wr = w.alloc (.cells #[.string (S key), .string (S safe), .slice A ps.length c] 78)) (fun _ i _ => ps.length - (intOf i).toNat)
  case atStart => exact ⟨0, Nat.zero_le _, rfl, by simp, rfl⟩
  case round =>
    obtain ⟨k, hk, rfl, rfl, rfl⟩ := hrel
    by_cases h : k < ps.length
    · obtain ⟨b, rfl, c1⟩ := HC.out k h
      have e1 := hid (flatten_take_succ ps h)
      have e2 := HL.out (k + 1)
      rw [e1.out, List.length_append] at e2
      have e3 : ¬ (9223372036854775807 < safe.length + (ps.take k).flatten.length + ps[k].length) := by omega
      clear e2
      generalize ps[k] = pk at *
      generalize (ps.take k).flatten = tk at *
      go_wp2
      go_roundw
      case rel => exact ⟨k + 1, by omega, by go_num, by rw [e1.out], by first | rfl | trivial⟩
      case measure => simp [intOf]; omega
    · have hk' : k = ps.length := by omega
      subst hk'
      rw [List.take_length]
      go_wp2
      go_ret
      exact ⟨rfl, HB.out⟩
end Go.Proofs.Ytioillenlgpcgaa

set_option linter.unusedVariables false
set_option linter.unusedSimpArgs false
set_option maxHeartbeats 3200000
set_option maxRecDepth 100000
namespace Go.Proofs.Ytioillenlgpcgaa
open Go.RowKit

theorem ref_at {w : World} {g : Nat} {d : Dr} {fp : Nat → Prop} (h : IsRef w g d fp) (name : Key) (hlen : d.files.length ≤ 1000000) : Calls Try.prog 63 #[.pointer (some ⟨g, 0, none⟩), .string (S name)] w fun e w' => e = .returned (.int .i64 (atN name d.files 0)) ∧ w' = w := by
  obtain ⟨v, rs, hb, hf, hd⟩ := h.has
  have hEl := hid (fun i (hi : i < rs.length) => hf.elem hi)
  obtain ⟨A, c, rfl⟩ := hf.form
  have c0 := hb.cell 0
  simp [refCells] at c0
  have hlr : rs.length ≤ 1000000 := by rw [hd] at hlen; simpa using hlen
  rw [hd]
  clear h hb hf hd hlen
  go_enter Try.func63, Try.ntmps63
  go_wp2
  go_loopw [5] (fun i wr => ∃ k : Nat, k ≤ rs.length ∧ i = .int .i64 k ∧ Hid (atN name ((rs.map rPair).drop k) k = atN name (rs.map rPair) 0) ∧ wr = w) (fun i _ => rs.length - (intOf i).toNat)
  case atStart => exact ⟨0, Nat.zero_le _, rfl, rfl, rfl⟩
  case round =>
    obtain ⟨k, hk, rfl, hA, rfl⟩ := hrel
    by_cases h : k < rs.length
    · obtain ⟨b, c', hv, hbl, hn, e0, e1, e2⟩ := hEl.out k h
      simp only [Value.slice.injEq] at hv
      obtain ⟨rfl, _, rfl⟩ := hv
      have hlm : k < (rs.map rPair).length := by simpa using h
      have hd : (rs.map rPair).drop k = (rs[k].key, rs[k].f) :: (rs.map rPair).drop (k + 1) := by
        rw [List.drop_eq_getElem_cons hlm]
        simp [rPair]
      by_cases hq : rs[k].key = name
      · have hqb : (rs[k].key == name) = true := by simpa using hq
        have H := hid (show atN name (rs.map rPair) 0 = (k : Int) by
          rw [← hA.out, hd]
          show (if (rs[k].key == name) = true then (k : Int) else _) = _
          rw [if_pos hqb])
        clear hd hA hq e1 e2
        generalize rs[k].key = ky at *
        go_wp2
        go_ret
        exact ⟨by rw [H.out]; rfl, by first | rfl | trivial⟩
      · have hqb : (rs[k].key == name) = false := by simpa using hq
        have H := hid (show atN name ((rs.map rPair).drop (k + 1)) (k + 1) = atN name (rs.map rPair) 0 by
          rw [← hA.out, hd]
          show _ = (if (rs[k].key == name) = true then (k : Int) else _)
          rw [hqb]
          rfl)
        clear hd hA hq e1 e2
        generalize rs[k].key = ky at *
        go_wp2
        go_roundw
        case rel => exact ⟨k + 1, by omega, by go_num, H, by first | rfl | trivial⟩
        case measure => simp [intOf]; omega
    · have hk' : k = rs.length := by omega
      subst hk'
      have H := hid (show atN name (rs.map rPair) 0 = -1 by
        rw [← hA.out, List.drop_of_length_le (by simp)]
        rfl)
      go_wp2
      go_ret
      exact ⟨by rw [H.out]; rfl, by first | rfl | trivial⟩

theorem ref_may {w : World} {g : Nat} {d : Dr} {fp : Nat → Prop} (h : IsRef w g d fp) (hl : -1 ≤ d.left) (hl2 : d.left ≤ 9223372036854775807) (e : Int) :
    Calls Try.prog 64 #[.pointer (some ⟨g, 0, none⟩), .int .i64 e] w fun x w' => x = .returned (.int .i64 (d.may e).2) ∧ IsRef w' g (d.may e).1 fp ∧ Touch w w' fp fp := by
  obtain ⟨v, rs, hb, hf, hd⟩ := h.has
  have c2 := hb.cell 2
  have c3 := hb.cell 3
  have c4 := hb.cell 4
  simp [refCells] at c2 c3 c4
  have f2 := hb.frozen 2
  have f3 := hb.frozen 3
  have f4 := hb.frozen 4
  have H := hid h
  have HB := hid hb
  have HF := hid hf
  have HD := hid hd
  clear h hb hf hd
  cases hdn : d.down with
  | true =>
    have E := hid (show d.may e = (d, 13) by unfold Dr.may; rw [hdn]; rfl)
    rw [hdn] at c3
    clear hdn
    go_enter Try.func64, Try.ntmps64
    go_wp2
    go_ret
    exact ⟨by rw [E.out]; rfl, by rw [E.out]; exact H.out, Touch.refl _ _⟩
  | false =>
    rw [hdn] at c3
    by_cases he : e = 0
    · subst he
      by_cases hl0 : d.left = 0
      · have E := hid (show d.may 0 = ({ d with down := true, left := -1 }, 13) by unfold Dr.may; simp [hdn, hl0])
        rw [hl0] at c4
        clear hdn hl0
        go_enter Try.func64, Try.ntmps64
        go_wp2
        go_ret
        refine ⟨by rw [E.out]; rfl, ?_, (Touch.setCell _ _ H.out.own _).trans (Touch.setCell _ _ H.out.own _)⟩
        rw [E.out]
        refine IsRef.mk' H.out HB.out HF.out (by simp [set_size]) (fun k hk => (set_other _ _ _ _ k hk).trans (set_other _ _ _ _ k hk)) ?_ HD.out
        exact (HB.out.set_ 3 (.bool true)).set_ 4 (.int .i64 (-1))
      · by_cases hl1 : 0 < d.left
        · have E := hid (show d.may 0 = ({ d with left := d.left - 1, deeds := wrap1 d.deeds }, 0) by unfold Dr.may; simp [hdn, hl0]; intro h; omega)
          have hw1 : wrap64 (d.deeds + 1) = wrap1 d.deeds := rfl
          have hne : (d.left == 0) = false := by simpa using hl0
          clear hdn hl0
          go_enter Try.func64, Try.ntmps64
          go_wp2
          go_ret
          refine ⟨by rw [E.out]; rfl, ?_, (Touch.setCell _ _ H.out.own _).trans (Touch.setCell _ _ H.out.own _)⟩
          rw [E.out]
          refine IsRef.mk' H.out HB.out HF.out (by simp [set_size]) (fun k hk => (set_other _ _ _ _ k hk).trans (set_other _ _ _ _ k hk)) ?_ HD.out
          exact (HB.out.set_ 4 (.int .i64 (d.left - 1))).set_ 2 (.int .i64 (wrap1 d.deeds))
        · have hlm : d.left = -1 := by omega
          have E := hid (show d.may 0 = ({ d with deeds := wrap1 d.deeds }, 0) by unfold Dr.may; simp [hdn, hl0]; rw [if_neg (by omega)]; exact hlm.symm)
          have hw1 : wrap64 (d.deeds + 1) = wrap1 d.deeds := rfl
          rw [hlm] at c4
          clear hdn hl0 hl1 hlm
          go_enter Try.func64, Try.ntmps64
          go_wp2
          go_ret
          refine ⟨by rw [E.out]; rfl, ?_, Touch.setCell _ _ H.out.own _⟩
          rw [E.out]
          refine IsRef.mk' H.out HB.out HF.out (by simp [set_size]) (fun k hk => set_other _ _ _ _ k hk) ?_ HD.out
          exact HB.out.set_ 2 (.int .i64 (wrap1 d.deeds))
    · have E := hid (show d.may e = (d, e) by unfold Dr.may; simp [hdn, he])
      have hne : (e == 0) = false := by simpa using he
      clear hdn
      go_enter Try.func64, Try.ntmps64
      go_wp2
      go_ret
      exact ⟨by rw [E.out]; rfl, by rw [E.out]; exact H.out, Touch.refl _ _⟩

theorem ref_Quota {w : World} {g : Nat} {d : Dr} {fp : Nat → Prop} (h : IsRef w g d fp) (n : Int) : Calls Try.prog 45 #[.pointer (some ⟨g, 0, none⟩), .int .i64 n] w fun e w' => e = .returned (.int .i64 (d.quotaE n)) ∧ IsRef w' g (d.setQuota n) fp ∧ Touch w w' fp fp := by
  obtain ⟨v, rs, hb, hf, hd⟩ := h.has
  have c3 := hb.cell 3
  have c1 := hb.cell 1
  simp [refCells] at c3 c1
  have f1 := hb.frozen 1
  have H := hid h
  have HB := hid hb
  have HF := hid hf
  have HD := hid hd
  clear h hb hf hd
  cases hdn : d.down with
  | true =>
    have E1 := hid (show d.quotaE n = 13 by simp [Dr.quotaE, hdn])
    have E2 := hid (show d.setQuota n = d by simp [Dr.setQuota, E1.out])
    rw [hdn] at c3
    clear hdn
    go_enter Try.func45, Try.ntmps45
    go_wp2
    go_ret
    exact ⟨by rw [E1.out]; rfl, by rw [E2.out]; exact H.out, Touch.refl _ _⟩
  | false =>
    rw [hdn] at c3
    by_cases h0 : n < 0
    · have E1 := hid (show d.quotaE n = 1 by simp [Dr.quotaE, hdn, quotableB]; omega)
      have E2 := hid (show d.setQuota n = d by simp [Dr.setQuota, E1.out])
      clear hdn
      go_enter Try.func45, Try.ntmps45
      go_wp2
      go_ret
      exact ⟨by rw [E1.out]; rfl, by rw [E2.out]; exact H.out, Touch.refl _ _⟩
    · by_cases h1 : 16777216 < n
      · have E1 := hid (show d.quotaE n = 1 by simp [Dr.quotaE, hdn, quotableB]; omega)
        have E2 := hid (show d.setQuota n = d by simp [Dr.setQuota, E1.out])
        clear hdn
        go_enter Try.func45, Try.ntmps45
        go_wp2
        go_ret
        exact ⟨by rw [E1.out]; rfl, by rw [E2.out]; exact H.out, Touch.refl _ _⟩
      · have E1 := hid (show d.quotaE n = 0 by simp [Dr.quotaE, hdn, quotableB]; omega)
        have E2 := hid (show d.setQuota n = { d with quota := n } by simp [Dr.setQuota, E1.out])
        clear hdn
        go_enter Try.func45, Try.ntmps45
        go_wp2
        go_ret
        refine ⟨by rw [E1.out]; rfl, ?_, Touch.setCell _ _ H.out.own _⟩
        rw [E2.out]
        exact IsRef.mk' H.out HB.out HF.out (by simp [set_size]) (fun k hk => set_other _ _ _ _ k hk) (HB.out.set_ 1 (.int .i64 n)) HD.out
theorem ref_Arm {w : World} {g : Nat} {d : Dr} {fp : Nat → Prop} (h : IsRef w g d fp) (n : Int) : Calls Try.prog 42 #[.pointer (some ⟨g, 0, none⟩), .int .i64 n] w fun e w' => e = .returned (.tuple #[]) ∧ IsRef w' g (d.arm n) fp ∧ Touch w w' fp fp := by
  obtain ⟨v, rs, hb, hf, hd⟩ := h.has
  have c4 := hb.cell 4
  simp [refCells] at c4
  have f4 := hb.frozen 4
  have H := hid h
  have HB := hid hb
  have HF := hid hf
  have HD := hid hd
  clear h hb hf hd
  by_cases h0 : n < 0
  · have E := hid (show d.arm n = { d with left := -1 } by unfold Dr.arm; rw [if_neg (by omega)])
    go_enter Try.func42, Try.ntmps42
    go_wp2
    go_end0
    refine ⟨rfl, ?_, (Touch.setCell _ _ H.out.own _).trans (Touch.setCell _ _ H.out.own _)⟩
    rw [E.out]
    exact IsRef.mk' H.out HB.out HF.out (by simp [set_size]) (fun k hk => (set_other _ _ _ _ k hk).trans (set_other _ _ _ _ k hk)) ((HB.out.set_ 4 (.int .i64 n)).set_ 4 (.int .i64 (-1))) HD.out
  · have E := hid (show d.arm n = { d with left := n } by unfold Dr.arm; rw [if_pos (by omega)])
    go_enter Try.func42, Try.ntmps42
    go_wp2
    go_end0
    refine ⟨rfl, ?_, Touch.setCell _ _ H.out.own _⟩
    rw [E.out]
    exact IsRef.mk' H.out HB.out HF.out (by simp [set_size]) (fun k hk => set_other _ _ _ _ k hk) (HB.out.set_ 4 (.int .i64 n)) HD.out
theorem ref_New (q : Int) (w : World) : Calls Try.prog 8 #[.int .i64 q] w fun e w' => (quotableB q = true → ∃ g, e = .returned (.pointer (some ⟨g, 0, none⟩)) ∧ ∃ fp, IsRef w' g (Dr.new q) fp ∧ Below w.heap.size w w' ∧ ∀ k, fp k → w.heap.size ≤ k) ∧ (quotableB q = false → e = .returned (.pointer none) ∧ w' = w) := by
  by_cases h0 : q < 0
  · have E := hid (show quotableB q = false by simp [quotableB]; omega)
    go_enter Try.func8, Try.ntmps8
    go_wp2
    go_ret
    exact ⟨fun h => (by rw [E.out] at h; cases h), fun _ => ⟨rfl, rfl⟩⟩
  · by_cases h1 : 16777216 < q
    · have E := hid (show quotableB q = false by simp [quotableB]; omega)
      go_enter Try.func8, Try.ntmps8
      go_wp2
      go_ret
      exact ⟨fun h => (by rw [E.out] at h; cases h), fun _ => ⟨rfl, rfl⟩⟩
    · have E := hid (show quotableB q = true by simp [quotableB]; omega)
      go_enter Try.func8, Try.ntmps8
      go_wp2
      go_ret
      refine ⟨fun _ => ⟨w.heap.size, rfl, fun k => k = w.heap.size, ⟨fun k hk => by rw [hk]; simp, rfl, .slice none 0 0, [], Blk.new w _ _, ⟨World.ownsRow_nil _ _ _ _, by simp [Value.ownBlock], by simp⟩, rfl⟩, (Below.refl _ _).alloc (Nat.le_refl _) _, fun k hk => Nat.le_of_eq hk.symm⟩, fun h => (by rw [E.out] at h; cases h)⟩

/-- A file at its place. -/
theorem IsRef.place {w : World} {d : Dr} {fp : Nat → Prop} {v : Value} {rs : List RF} (hf : HasRef w fp v rs) (hd : d.files = rs.map rPair) {N : Nat} (hok : d.Ok N) (hN : N ≤ 1000000000) {i : Nat} (hi : i < rs.length) :
    kget d.files rs[i].key = some rs[i].f ∧ rs[i].f.pieces.length ≤ 1000000000 ∧ (rs[i].f.all.length : Int) ≤ 16777216 ∧ StrsRow w fp rs[i].pv rs[i].f.pieces := by
  have hm : (rs[i].key, rs[i].f) ∈ d.files := by
    rw [hd]
    exact List.mem_map.2 ⟨rs[i], List.getElem_mem hi, rfl⟩
  have hk := kget_of_mem hok.rising hm
  have h1 := hok.few _ hm
  have h2 := used_all hk
  have h3 := hok.used
  exact ⟨hk, by simp only at h1; omega, by omega, hf.each _ (List.getElem_mem hi)⟩
theorem ref_Read {w : World} {g : Nat} {d : Dr} {fp : Nat → Prop} {N : Nat} (h : IsRef w g d fp) (hok : d.Ok N) (hN : N ≤ 1000000000) (name : Key) :
    Calls Try.prog 54 #[.pointer (some ⟨g, 0, none⟩), .string (S name)] w fun e w' => e = .returned (.tuple #[.string (S (d.read name)), .int .i64 (d.readE name)]) ∧ Below w.heap.size w w' := by
  have At := hid (ref_at h name (by have := hok.files; omega))
  obtain ⟨v, rs, hb, hf, hd⟩ := h.has
  have c0 := hb.cell 0
  have c3 := hb.cell 3
  simp [refCells] at c0 c3
  have hp := fun i (hi : i < rs.length) => IsRef.place hf hd hok hN hi
  cases hdn : d.down with
  | true =>
    have E1 := hid (show d.readE name = 13 by unfold Dr.readE; rw [hdn]; rfl)
    have E2 := hid (show d.read name = [] by unfold Dr.read; rw [E1.out]; rfl)
    rw [hdn] at c3
    clear hdn h hb hf hd hok hp
    go_enter Try.func54, Try.ntmps54
    go_wp2
    go_ret2
    exact ⟨by rw [E1.out, E2.out]; rfl, Below.refl _ _⟩
  | false =>
    rw [hdn] at c3
    rcases atN_spec name d.files 0 with ⟨q1, q2⟩ | ⟨i, hi, q1, q2, q3⟩
    · have E1 := hid (show d.readE name = 10 by unfold Dr.readE Dr.thereE; rw [hdn, q2]; rfl)
      have E2 := hid (show d.read name = [] by unfold Dr.read; rw [E1.out]; rfl)
      rw [q1] at At
      clear hdn h hb hf hd hok hp q1 q2
      go_enter Try.func54, Try.ntmps54
      go_wp2_with fail
      refine At.out.mono ?_
      rintro e w1 ⟨rfl, hw⟩
      have hw' := hw.symm
      subst hw'
      go_wp2
      go_ret2
      exact ⟨by rw [E1.out, E2.out]; rfl, Below.refl _ _⟩
    · have hi' : i < rs.length := by rw [hd] at hi; simpa using hi
      obtain ⟨p1, p2, p3, p4⟩ := hp i hi'
      have hkey : rs[i].key = name := by
        rw [← q2]
        simp [hd, rPair]
      have E1 := hid (show d.readE name = 0 by unfold Dr.readE Dr.thereE; rw [hdn, q3]; rfl)
      have E2 := hid (show d.read name = rs[i].f.all by
        unfold Dr.read fileOf
        rw [E1.out, ← hkey, p1]
        rfl)
      have All := hid (ref_All p4 p2 (by omega))
      obtain ⟨b, c, rfl, hbl, hn, e0, e1, e2⟩ := hf.elem hi'
      rw [q1, Nat.zero_add] at At
      have hi2 : (i : Int) < rs.length := by omega
      unfold rAgg at All
      obtain ⟨Ap, cp, hpv⟩ := row_form p4.row
      rw [hpv] at e2 All
      clear hdn h hb hf hd hok hp q1 q2 q3 p1 p2 p3 p4 hi hkey hpv
      generalize rs[i] = r at *
      go_enter Try.func54, Try.ntmps54
      go_wp2_with fail
      refine At.out.mono ?_
      rintro e w1 ⟨rfl, hw⟩
      have hw' := hw.symm
      subst hw'
      go_wp2_with fail
      refine All.out.mono ?_
      rintro e w2 ⟨rfl, hb2⟩
      have B2 := hid hb2
      clear hb2
      go_wp2
      go_ret2
      exact ⟨by rw [E1.out, E2.out]; rfl, B2.out⟩

theorem take_used (m : List (Key × File)) (k : Nat) : ksum (fun f : File => f.all.length) (m.take k) ≤ ksum (fun f : File => f.all.length) m := by
  unfold ksum
  conv => rhs; rw [← List.take_append_drop k m, List.map_append, List.sum_append]
  omega
theorem ref_Used {w : World} {g : Nat} {d : Dr} {fp : Nat → Prop} {N : Nat} (h : IsRef w g d fp) (hok : d.Ok N) (hN : N ≤ 1000000000) :
    Calls Try.prog 52 #[.pointer (some ⟨g, 0, none⟩)] w fun e w' => e = .returned (.int .i64 d.used) ∧ Below w.heap.size w w' := by
  obtain ⟨v, rs, hb, hf, hd⟩ := h.has
  have c0 := hb.cell 0
  simp [refCells] at c0
  have hglt := hb.lt
  have hp := hid (fun i (hi : i < rs.length) => IsRef.place hf hd hok hN hi)
  have hEl := hid (fun i (hi : i < rs.length) => hf.elem hi)
  obtain ⟨A, c, rfl⟩ := hf.form
  have hlr : rs.length ≤ 65536 := by have := hok.files; rw [hd] at this; simpa using this
  have hused := hok.used
  have hu : d.used = ((ksum (fun f : File => f.all.length) (rs.map rPair) : Nat) : Int) := by rw [Dr.used_eq, hd]
  rw [hu] at hused ⊢
  have HT := hid (fun k => take_used (rs.map rPair) k)
  have HSx := hid (fun k (h : k < rs.length) => show ksum (fun f : File => f.all.length) ((rs.map rPair).take (k + 1)) = ksum (fun f : File => f.all.length) ((rs.map rPair).take k) + rs[k].f.all.length from by
    have hk : k < (rs.map rPair).length := by simpa using h
    have h1 := take_snoc (rs.map rPair) hk
    rw [h1]
    unfold ksum
    rw [List.map_append, List.sum_append]
    simp [rPair])
  generalize htot : ksum (fun f : File => f.all.length) (rs.map rPair) = tot at *
  have HTot := hid htot
  clear h hb hf hd hok hu htot
  go_enter Try.func52, Try.ntmps52
  go_wp2
  go_loopw [3, 4] (fun s i wr => ∃ k : Nat, k ≤ rs.length ∧ i = .int .i64 k ∧ s = .int .i64 (ksum (fun f : File => f.all.length) ((rs.map rPair).take k)) ∧ Hid (Below w.heap.size w wr)) (fun _ i _ => rs.length - (intOf i).toNat)
  case atStart => exact ⟨0, Nat.zero_le _, rfl, by simp [ksum], Below.refl _ _⟩
  case round =>
    obtain ⟨k, hk, rfl, rfl, hB⟩ := hrel
    have c0' := (hB.out.cell (p := ⟨g, 0, none⟩) hglt).trans c0
    by_cases h : k < rs.length
    · obtain ⟨b, c', hv, hbl, hn, e0, e1, e2⟩ := hEl.out k h
      simp only [Value.slice.injEq] at hv
      obtain ⟨rfl, _, rfl⟩ := hv
      obtain ⟨p1, p2, p3, p4⟩ := hp.out k h
      have e0' := (hB.out.cell (p := ⟨b, k * 3, none⟩) hbl).trans e0
      have e1' := (hB.out.cell (p := ⟨b, k * 3 + 1, none⟩) hbl).trans e1
      have e2' := (hB.out.cell (p := ⟨b, k * 3 + 2, none⟩) hbl).trans e2
      have p5 : StrsRow wr (fun k => True) rs[k].pv rs[k].f.pieces := ⟨row_keep p4.row (fun q hq => hB.out.block q (by obtain ⟨cs, hcs⟩ := row_heap p4.row hq; exact (Array.getElem?_eq_some_iff.1 hcs).1)), fun _ _ => trivial⟩
      have All := hid (ref_All p5 p2 (by omega))
      have ht := HT.out (k + 1)
      have hs := HSx.out k h
      rw [hs] at ht
      have HS := hid hs
      unfold rAgg at All
      obtain ⟨Ap, cp, hpv⟩ := row_form p4.row
      rw [hpv] at e2' All
      clear p1 p2 p3 p4 p5 hpv e0 e1 e2 hs c0 hEl hp
      generalize rs[k] = r at *
      generalize ksum (fun f : File => f.all.length) ((rs.map rPair).take k) = sk at *
      go_wp2_with fail
      refine All.out.mono ?_
      rintro e w2 ⟨rfl, hb2⟩
      have B2 := hid (bt hB.out hb2)
      clear hb2
      go_wp2
      go_roundw
      case rel => exact ⟨k + 1, by omega, by go_num, by rw [HS.out]; go_num, B2⟩
      case measure => simp [intOf]; omega
    · have hk' : k = rs.length := by omega
      subst hk'
      have ht : (rs.map rPair).take rs.length = rs.map rPair := List.take_of_length_le (by simp)
      rw [ht, HTot.out]
      go_wp2
      go_ret
      exact ⟨rfl, hB.out⟩
end Go.Proofs.Ytioillenlgpcgaa

set_option linter.unusedVariables false
set_option linter.unusedSimpArgs false
set_option maxHeartbeats 3200000
set_option maxRecDepth 100000
namespace Go.Proofs.Ytioillenlgpcgaa
open Go.RowKit

theorem less_before : ∀ a b : List UInt8, Op.bytesLess a b = bytesBefore a b
  | [], [] => rfl
  | [], _ :: _ => rfl
  | _ :: _, [] => rfl
  | a :: x, b :: y => by
    unfold Op.bytesLess bytesBefore
    rw [less_before x y]
theorem S_list (l : List UInt8) : (S l).toList = l := by
  rw [Lib.toList_data]
  rfl
@[go_sem] theorem geq_S (t : TypeId) (a b : List UInt8) : binOp .geq t (.string (S a)) (.string (S b)) = pure (.bool (!bytesBefore a b)) := by
  rw [← less_before, ← S_list a, ← S_list b, S_list a, S_list b]
  show Op.stringOp .geq (S a) (S b) = _
  unfold Op.stringOp
  rw [S_list, S_list]
/-- What is put where it belongs, one after the other, with its pieces' slices. -/
def putR (x : RF) : List RF → Bool → List RF
  | [], done => if done then [] else [x]
  | y :: r, done => (if !done && !bytesBefore y.key x.key then [x] else []) ++ ((if y.key == x.key then [] else [y]) ++ putR x r (done || !bytesBefore y.key x.key))
theorem putR_cons (x y : RF) (r : List RF) (b : Bool) : putR x (y :: r) b = (if !b && !bytesBefore y.key x.key then [x] else []) ++ ((if y.key == x.key then [] else [y]) ++ putR x r (b || !bytesBefore y.key x.key)) := rfl
theorem putR_map (x : RF) : ∀ (rs : List RF) (b : Bool), (putR x rs b).map rPair = putL x.key x.f (rs.map rPair) b
  | [], b => by cases b <;> rfl
  | y :: r, b => by
    unfold putR
    rw [List.map_cons]
    unfold putL
    rw [List.map_append, List.map_append, putR_map x r]
    congr 1
    · show (if (!b && !bytesBefore y.key x.key) = true then [x] else []).map rPair = if (!b && !bytesBefore y.key x.key) = true then [(x.key, x.f)] else []
      split <;> rfl
    · congr 1
      show (if (y.key == x.key) = true then [] else [y]).map rPair = if (y.key == x.key) = true then [] else [rPair y]
      split <;> rfl
theorem putR_mem (x : RF) : ∀ (rs : List RF) (b : Bool) (r : RF), r ∈ putR x rs b → r = x ∨ r ∈ rs
  | [], b, r, h => by
    cases b with
    | true => simp [putR] at h
    | false => simp [putR] at h; exact .inl h
  | y :: rs, b, r, h => by
    rw [putR_cons] at h
    rcases List.mem_append.1 h with h | h
    · split at h
      · simp at h; exact .inl h
      · simp at h
    · rcases List.mem_append.1 h with h | h
      · split at h
        · simp at h
        · simp at h; exact .inr (by simp [h])
      · rcases putR_mem x rs _ r h with h | h
        · exact .inl h
        · exact .inr (by simp [h])
theorem info_file : ∃ i, (Try.prog).info? 78 = some i ∧ i.zero = some (.agg #[.string ByteArray.empty, .string ByteArray.empty, .slice none 0 0]) ∧ i.size = 3 ∧ i.bytes = 56 := by
  have h : ((Try.prog).info? 78).map (fun i => (i.zero, i.size, i.bytes)) = some (some (.agg #[.string ByteArray.empty, .string ByteArray.empty, .slice none 0 0]), 3, 56) := by kernel_rfl
  obtain ⟨i, hi, he⟩ := Option.map_eq_some_iff.1 h
  simp only [Prod.mk.injEq] at he
  exact ⟨i, hi, he.1, he.2.1, he.2.2⟩
/-- append(out, f). -/
theorem append_rf (W : World) (base : Nat) (A : Option Addr) (n c : Nat) (os : List RF) (hown : W.ownsRow base 78 3 (.slice A os.length c) os.length (os.flatMap rCells)) (x : RF) (hx : x.pv.oneCell' = true) (hl : os.length ≤ 1000000) (hbase : base ≤ W.heap.size) :
    ∃ A' c' w', (Builtin.append_ #[61, 61] 61 #[.slice A os.length c, .slice (some ⟨W.heap.size, 0, none⟩) 1 1]).run Try.prog (W.alloc (.cells #[.string (S x.key), .string (S x.f.safe), x.pv] 78)) = .ok (.slice A' (os ++ [x]).length c') w' ∧
      w'.ownsRow base 78 3 (.slice A' (os ++ [x]).length c') (os ++ [x]).length ((os ++ [x]).flatMap rCells) ∧ Below base W w' := by
  obtain ⟨i, hi, hz, hsz, hby⟩ := info_file
  have b0 : Below W.heap.size W (W.alloc (.cells #[.string (S x.key), .string (S x.f.safe), x.pv] 78)) := (Below.refl _ _).alloc (Nat.le_refl _) _
  have hown0 : (W.alloc (.cells #[.string (S x.key), .string (S x.f.safe), x.pv] 78)).ownsRow base 78 3 (.slice A os.length c) os.length (os.flatMap rCells) := row_keep hown fun k hk => by
    obtain ⟨cs, hcs⟩ := row_heap hown hk
    exact b0.block k (Array.getElem?_eq_some_iff.1 hcs).1
  have hB := Blk.new W 78 #[.string (S x.key), .string (S x.f.safe), x.pv]
  obtain ⟨v', w', hrun, hown1, hgrow, hat⟩ := run_append_row (P := Try.prog) _ base 61 61 78 i _ 3 56 (by kernel_rfl) hi hz hsz hby rfl (by decide) _ _ _ hown0 (some ⟨W.heap.size, 0, none⟩) 1 1 (rCells x) rfl (fun h => by cases h)
    (fun ad had j u hu => by
      injection had with had
      subst had
      have : (⟨W.heap.size, 0, none⟩ : Addr).add j = ⟨W.heap.size, j, none⟩ := by
        simp [Addr.add]
        exact fun h => h.symm
      rw [this, hB.cell j]
      rw [← hu]
      simp [rCells])
    (fun u hu => by
      simp only [rCells, List.mem_cons, List.not_mem_nil, or_false] at hu
      rcases hu with rfl | rfl | rfl
      · rfl
      · rfl
      · exact hx)
    (by unfold maxLen; omega) (by omega) (by simp; omega)
  have hlen : (os ++ [x]).length = os.length + 1 := by simp
  have hfl : (os ++ [x]).flatMap rCells = os.flatMap rCells ++ rCells x := by simp
  rw [hlen, hfl]
  obtain ⟨A', c', rfl⟩ := row_form hown1
  refine ⟨A', c', w', hrun, hown1, ((b0.mono hbase)).grown hgrow (by simp; omega) fun k hk => row_base_le hown hk⟩

/-- append(out, f), in a walk. -/
theorem wpList_append_rf {W : World} {ops : Array Oper} {rest : List Oper} {o : Oper} {a : Act} {Q : Exit → Act → World → Prop} (hgd : o.guard = none) (s x : Operand) {base : Nat} {A : Option Addr} {c : Nat} {os : List RF} {y : RF}
    (ho : o.op = .call { callee := .builtin .append, args := #[s, x], argTypes := #[61, 61] }) (hty : o.type = 61) (hs : a.eval s = .slice A os.length c) (hx : a.eval x = .slice (some ⟨W.heap.size, 0, none⟩) 1 1)
    (hown : W.ownsRow base 78 3 (.slice A os.length c) os.length (os.flatMap rCells)) (hy : y.pv.oneCell' = true) (hl : os.length ≤ 1000000) (hbase : base ≤ W.heap.size)
    (h : ∀ A' c' w', w'.ownsRow base 78 3 (.slice A' (os ++ [y]).length c') (os ++ [y]).length ((os ++ [y]).flatMap rCells) → Below base W w' → wpList Try.prog ops Q rest (a.put o.dst (.slice A' (os ++ [y]).length c')) w') :
    wpList Try.prog ops Q (o :: rest) a (W.alloc (.cells #[.string (S y.key), .string (S y.f.safe), y.pv] 78)) := by
  obtain ⟨A', c', w', hrun, h1, h2⟩ := append_rf W base A os.length c os hown y hy hl hbase
  exact wpList_append_run hgd s x _ ho _ _ _ _ hs hx (by rw [hty]; exact hrun) (h A' c' w' h1 h2)
/-- The draws ahead of an append. -/
theorem strs_one {w : World} {fp : Nat → Prop} {v : Value} {ls : List (List UInt8)} (h : StrsRow w fp v ls) : v.oneCell' = true := by
  obtain ⟨A, c, rfl⟩ := row_form h.row
  rfl
theorem ref_put {w : World} {g : Nat} {d : Dr} {fp : Nat → Prop} (h : IsRef w g d fp) (hr : Rising d.files) (hlen : d.files.length ≤ 65536) (x : RF) (hx : StrsRow w fp x.pv x.f.pieces) :
    Calls Try.prog 65 #[.pointer (some ⟨g, 0, none⟩), rAgg x] w fun e w' => e = .returned (.tuple #[]) ∧ ThenR w g { d with files := kput d.files x.key x.f } fp w' := by
  obtain ⟨v, rs, hb, hf, hd⟩ := h.has
  have c0 := hb.cell 0
  simp [refCells] at c0
  have f0 := hb.frozen 0
  have hglt := hb.lt
  have hEl := hid (fun i (hi : i < rs.length) => hf.elem hi)
  have hOne := hid (fun i (hi : i < rs.length) => strs_one (hf.each _ (List.getElem_mem hi)))
  have hxo := strs_one hx
  obtain ⟨A, c, rfl⟩ := hf.form
  have hlr : rs.length ≤ 65536 := by rw [hd] at hlen; simpa using hlen
  have W0 : Below w.heap.size w (w.alloc (.cells #[.string (S x.key), .string (S x.f.safe), x.pv] 78)) := (Below.refl _ _).alloc (Nat.le_refl _) _
  have hbx := Blk.new w 78 #[.string (S x.key), .string (S x.f.safe), x.pv]
  have H := hid h
  have HB := hid hb
  have HF := hid hf
  have HD := hid hd
  have HR := hid hr
  have HX := hid hx
  have HW0 := hid W0
  have HBX := hid hbx
  clear h hb hf hd hr hx hlen W0 hbx
  unfold rAgg
  go_enter Try.func65, Try.ntmps65
  go_wp2
  go_loopw [4, 5, 6] (fun o dn i wr => ∃ (k : Nat) (b : Bool) (os : List RF) (Ao : Option Addr) (co : Nat), k ≤ rs.length ∧ i = .int .i64 k ∧ dn = .bool b ∧ o = .slice Ao os.length co ∧ (b = false → os.length ≤ k) ∧ os.length ≤ k + 1 ∧ Hid (os ++ putR x (rs.drop k) b = putR x rs false) ∧
    Hid (wr.ownsRow (w.heap.size + 1) 78 3 (.slice Ao os.length co) os.length (os.flatMap rCells)) ∧ Hid (Below (w.heap.size + 1) (w.alloc (.cells #[.string (S x.key), .string (S x.f.safe), x.pv] 78)) wr)) (fun _ _ i _ => rs.length - (intOf i).toNat)
  case atStart => exact ⟨0, false, [], none, 0, Nat.zero_le _, rfl, rfl, rfl, by simp, by simp, rfl, World.ownsRow_nil _ _ _ _, Below.refl _ _⟩
  case round =>
    obtain ⟨k, b, os, Ao, co, hk, rfl, rfl, rfl, hol0, hol, hP, hO, hBw⟩ := hrel
    have hB0 := hBw.out
    have c0' : wr.cell? ⟨g, 0, none⟩ = some (.slice A rs.length c) := ((hB0.cell (p := ⟨g, 0, none⟩) (by simp; omega)).trans (HW0.out.cell (p := ⟨g, 0, none⟩) hglt)).trans c0
    have x0 : wr.cell? ⟨w.heap.size, 0, none⟩ = some (.string (S x.key)) := (hB0.cell (p := ⟨w.heap.size, 0, none⟩) (by simp)).trans (HBX.out.cell 0)
    have x1 : wr.cell? ⟨w.heap.size, 1, none⟩ = some (.string (S x.f.safe)) := (hB0.cell (p := ⟨w.heap.size, 1, none⟩) (by simp)).trans (HBX.out.cell 1)
    have x2 : wr.cell? ⟨w.heap.size, 2, none⟩ = some x.pv := (hB0.cell (p := ⟨w.heap.size, 2, none⟩) (by simp)).trans (HBX.out.cell 2)
    have f0' : wr.frozen? ⟨g, 0, none⟩ = false := ((hB0.frozen (p := ⟨g, 0, none⟩) (by simp; omega)).trans (HW0.out.frozen (p := ⟨g, 0, none⟩) hglt)).trans f0
    have hsz : w.heap.size + 1 ≤ wr.heap.size := by have := hB0.size; simp at this; omega
    by_cases h : k < rs.length
    · obtain ⟨bb, c', hv, hbl, hn, e0, e1, e2⟩ := hEl.out k h
      simp only [Value.slice.injEq] at hv
      obtain ⟨rfl, _, rfl⟩ := hv
      have hcell : ∀ j v, w.cell? ⟨bb, j, none⟩ = some v → wr.cell? ⟨bb, j, none⟩ = some v := fun j v hv => ((hB0.cell (p := ⟨bb, j, none⟩) (by simp; omega)).trans (HW0.out.cell (p := ⟨bb, j, none⟩) hbl)).trans hv
      have e0' := hcell _ _ e0
      have e1' := hcell _ _ e1
      have e2' := hcell _ _ e2
      have E0 := hid e0
      have E1 := hid e1
      have E2 := hid e2
      have ho := hOne.out k h
      have hdrop : rs.drop k = rs[k] :: rs.drop (k + 1) := List.drop_eq_getElem_cons h
      have hP2 := hP.out
      rw [hdrop] at hP2
      rw [putR_cons] at hP2
      have HP2 := hid hP2
      clear hEl hOne hP hP2 hdrop e0 e1 e2 hcell hB0
      generalize hy : rs[k] = y at *
      have FACTS := hid (fun W (hB : Below (w.heap.size + 1) (w.alloc (.cells #[.string (S x.key), .string (S x.f.safe), x.pv] 78)) W) => show W.cell? ⟨g, 0, none⟩ = some (.slice (some ⟨bb, 0, none⟩) rs.length c) ∧ W.cell? ⟨w.heap.size, 0, none⟩ = some (.string (S x.key)) ∧ W.cell? ⟨w.heap.size, 1, none⟩ = some (.string (S x.f.safe)) ∧ W.cell? ⟨w.heap.size, 2, none⟩ = some x.pv ∧
          W.cell? ⟨bb, k * 3, none⟩ = some (.string (S y.key)) ∧ W.cell? ⟨bb, k * 3 + 1, none⟩ = some (.string (S y.f.safe)) ∧ W.cell? ⟨bb, k * 3 + 2, none⟩ = some y.pv ∧ w.heap.size + 1 ≤ W.heap.size from
        ⟨((hB.cell (p := ⟨g, 0, none⟩) (by simp; omega)).trans (HW0.out.cell (p := ⟨g, 0, none⟩) hglt)).trans c0, (hB.cell (p := ⟨w.heap.size, 0, none⟩) (by simp)).trans (HBX.out.cell 0), (hB.cell (p := ⟨w.heap.size, 1, none⟩) (by simp)).trans (HBX.out.cell 1), (hB.cell (p := ⟨w.heap.size, 2, none⟩) (by simp)).trans (HBX.out.cell 2),
          ((hB.cell (p := ⟨bb, _, none⟩) (by simp; omega)).trans (HW0.out.cell (p := ⟨bb, _, none⟩) hbl)).trans E0.out, ((hB.cell (p := ⟨bb, _, none⟩) (by simp; omega)).trans (HW0.out.cell (p := ⟨bb, _, none⟩) hbl)).trans E1.out, ((hB.cell (p := ⟨bb, _, none⟩) (by simp; omega)).trans (HW0.out.cell (p := ⟨bb, _, none⟩) hbl)).trans E2.out, by have := hB.size; simp at this; omega⟩)
      clear c0 E0 E1 E2
      by_cases hq : y.key = x.key
      · have hqb : (y.key == x.key) = true := by simpa using hq
        have hbb : bytesBefore y.key x.key = false := by rw [hq]; exact Go.WideAt.bytes_irrefl _
        cases b with
        | true =>
          have HP3 := hid (show os ++ putR x (rs.drop (k + 1)) true = putR x rs false by
            rw [← HP2.out, hqb]
            simp)
          clear hq HP2
          go_wp2
          go_quiet (fail)
          go_wp2
          go_quiet (fail)
          go_wp2
          go_roundw
          case rel => exact ⟨k + 1, true, os, _, _, by omega, by go_num, rfl, by first | rfl | simp, (by first | (intro _; omega) | (intro _; simp; omega) | (intro hf; cases hf)), by first | omega | (simp; omega), HP3, row_keep hO.out (fun _ _ => rfl), by first | exact below_drewN hBw.out _ | exact hBw.out⟩
          case measure => simp [intOf]; omega
        | false =>
          have hol1 := hol0 rfl
          have HP3 := hid (show (os ++ [x]) ++ putR x (rs.drop (k + 1)) true = putR x rs false by
            rw [← HP2.out, hqb, hbb]
            simp)
          clear hq HP2
          go_wp2
          go_quiet (fail)
          go_wp2_with (at_builtin; refine wpList_append_rf rfl _ _ (y := x) (os := os) rfl rfl rfl rfl (row_keep hO.out (fun _ _ => rfl)) hxo (by first | omega | (simp; omega)) hsz ?_; intro A1 c1 w1 hown1 hbw1)
          obtain ⟨c0, x0, x1, x2, e0, e1, e2, hsz1⟩ := FACTS.out w1 (hBw.out.trans (below_from hbw1))
          have HO1 := hid hown1
          have HB1 := hid (show Below (w.heap.size + 1) (w.alloc (.cells #[.string (S x.key), .string (S x.f.safe), x.pv] 78)) w1 from hBw.out.trans (below_from hbw1))
          clear hown1 hbw1
          go_wp2
          go_quiet (fail)
          go_wp2
          go_roundw
          case rel => exact ⟨k + 1, true, os ++ [x], _, _, by omega, by go_num, rfl, by first | rfl | simp, (by first | (intro _; omega) | (intro _; simp; omega) | (intro hf; cases hf)), by first | omega | (simp; omega), HP3, row_keep HO1.out (fun _ _ => rfl), by first | exact below_drewN HB1.out _ | exact HB1.out⟩
          case measure => simp [intOf]; omega
      · have hqb : (y.key == x.key) = false := by simpa using hq
        cases b with
        | true =>
          have HP3 := hid (show (os ++ [y]) ++ putR x (rs.drop (k + 1)) true = putR x rs false by
            rw [← HP2.out, hqb]
            simp)
          clear hq HP2
          go_wp2
          go_quiet (fail)
          go_wp2
          go_quiet (fail)
          go_wp2_with (at_builtin; refine wpList_append_rf rfl _ _ (y := y) (os := os) rfl rfl rfl rfl (row_keep hO.out (fun _ _ => rfl)) ho (by first | omega | (simp; omega)) hsz ?_; intro A1 c1 w1 hown1 hbw1)
          obtain ⟨c0, x0, x1, x2, e0, e1, e2, hsz1⟩ := FACTS.out w1 (hBw.out.trans (below_from hbw1))
          have HO1 := hid hown1
          have HB1 := hid (show Below (w.heap.size + 1) (w.alloc (.cells #[.string (S x.key), .string (S x.f.safe), x.pv] 78)) w1 from hBw.out.trans (below_from hbw1))
          clear hown1 hbw1
          go_wp2
          go_roundw
          case rel => exact ⟨k + 1, true, os ++ [y], _, _, by omega, by go_num, rfl, by first | rfl | simp, (by first | (intro _; omega) | (intro _; simp; omega) | (intro hf; cases hf)), by first | omega | (simp; omega), HP3, row_keep HO1.out (fun _ _ => rfl), by first | exact below_drewN HB1.out _ | exact HB1.out⟩
          case measure => simp [intOf]; omega
        | false =>
          have hol1 := hol0 rfl
          cases hbb : bytesBefore y.key x.key with
          | true =>
            have HP3 := hid (show (os ++ [y]) ++ putR x (rs.drop (k + 1)) false = putR x rs false by
              rw [← HP2.out, hqb, hbb]
              simp)
            clear hq HP2
            go_wp2
            go_quiet (fail)
            go_wp2
            go_quiet (fail)
            go_wp2_with (at_builtin; refine wpList_append_rf rfl _ _ (y := y) (os := os) rfl rfl rfl rfl (row_keep hO.out (fun _ _ => rfl)) ho (by first | omega | (simp; omega)) hsz ?_; intro A1 c1 w1 hown1 hbw1)
            obtain ⟨c0, x0, x1, x2, e0, e1, e2, hsz1⟩ := FACTS.out w1 (hBw.out.trans (below_from hbw1))
            have HO1 := hid hown1
            have HB1 := hid (show Below (w.heap.size + 1) (w.alloc (.cells #[.string (S x.key), .string (S x.f.safe), x.pv] 78)) w1 from hBw.out.trans (below_from hbw1))
            clear hown1 hbw1
            go_wp2
            go_roundw
            case rel => exact ⟨k + 1, false, os ++ [y], _, _, by omega, by go_num, rfl, by first | rfl | simp, (by first | (intro _; omega) | (intro _; simp; omega) | (intro hf; cases hf)), by first | omega | (simp; omega), HP3, row_keep HO1.out (fun _ _ => rfl), by first | exact below_drewN HB1.out _ | exact HB1.out⟩
            case measure => simp [intOf]; omega
          | false =>
            have HL2 := hid (show (os ++ [x]).length = os.length + 1 by simp)
            have HP3 := hid (show (os ++ [x] ++ [y]) ++ putR x (rs.drop (k + 1)) true = putR x rs false by
              rw [← HP2.out, hqb, hbb]
              simp)
            clear hq HP2
            go_wp2
            go_quiet (fail)
            go_wp2_with (at_builtin; refine wpList_append_rf rfl _ _ (y := x) (os := os) rfl rfl rfl rfl (row_keep hO.out (fun _ _ => rfl)) hxo (by first | omega | (simp; omega)) hsz ?_; intro A1 c1 w1 hown1 hbw1)
            obtain ⟨c0, x0, x1, x2, e0, e1, e2, hsz1⟩ := FACTS.out w1 (hBw.out.trans (below_from hbw1))
            have HO1 := hid hown1
            have HB1 := hid (show Below (w.heap.size + 1) (w.alloc (.cells #[.string (S x.key), .string (S x.f.safe), x.pv] 78)) w1 from hBw.out.trans (below_from hbw1))
            clear hown1 hbw1
            go_wp2
            go_quiet (fail)
            go_wp2_with (at_builtin; refine wpList_append_rf rfl _ _ (y := y) (os := os ++ [x]) rfl rfl (by rw [HL2.out]; rfl) rfl (row_keep HO1.out (fun _ _ => rfl)) ho (by first | omega | (simp; omega)) hsz1 ?_; intro A2 c2 w2 hown2 hbw2)
            obtain ⟨c0, x0, x1, x2, e0, e1, e2, hsz2⟩ := FACTS.out w2 (HB1.out.trans (below_from hbw2))
            have HO2 := hid hown2
            have HB2 := hid (show Below (w.heap.size + 1) (w.alloc (.cells #[.string (S x.key), .string (S x.f.safe), x.pv] 78)) w2 from HB1.out.trans (below_from hbw2))
            clear hown2 hbw2
            go_wp2
            go_roundw
            case rel => exact ⟨k + 1, true, os ++ [x] ++ [y], _, _, by omega, by go_num, rfl, by first | rfl | simp, (by first | (intro _; omega) | (intro _; simp; omega) | (intro hf; cases hf)), by first | omega | (simp; omega), HP3, row_keep HO2.out (fun _ _ => rfl), by first | exact below_drewN HB2.out _ | exact HB2.out⟩
            case measure => simp [intOf]; omega
    · have hk' : k = rs.length := by omega
      subst hk'
      have hP2 := hP.out
      rw [List.drop_length] at hP2
      have hko : ∀ (w5 : World) (A5 : Option Addr) (c5 : Nat) (os5 : List RF), os5 = putR x rs false → w5.ownsRow (w.heap.size + 1) 78 3 (.slice A5 os5.length c5) os5.length (os5.flatMap rCells) →
          Below (w.heap.size + 1) (w.alloc (.cells #[.string (S x.key), .string (S x.f.safe), x.pv] 78)) w5 → ThenR w g { d with files := kput d.files x.key x.f } fp (w5.setCell ⟨g, 0, none⟩ (.slice A5 os5.length c5)) := by
        intro w5 A5 c5 os5 he hrow5 hb5
        have hblk : ∀ q, q < w.heap.size → w5.heap[q]? = w.heap[q]? := fun q hq => (hb5.block q (by omega)).trans (HW0.out.block q hq)
        have hs5 := hb5.size
        simp at hs5
        generalize hw6 : w5.setCell ⟨g, 0, none⟩ (.slice A5 os5.length c5) = w6
        have hs6 : w6.heap.size = w5.heap.size := by rw [← hw6]; exact set_size _ _ _
        have ho6 : ∀ q, q ≠ g → w6.heap[q]? = w5.heap[q]? := fun q hq => by rw [← hw6]; exact set_other _ _ _ _ q hq
        have hB5 : Blk w5 g 63 (refCells d (.slice A rs.length c)) := (hblk g hglt).trans HB.out
        have hB6 : Blk w6 g 63 (refCells { d with files := kput d.files x.key x.f } (.slice A5 os5.length c5)) := by
          have := hB5.set_ 0 (.slice A5 os5.length c5)
          rw [hw6] at this
          exact this
        have hgb : ∀ q, fp q → q < w.heap.size := H.out.lt
        refine ⟨fun q => fp q ∨ (w.heap.size ≤ q ∧ q < w6.heap.size), ⟨?_, .inl H.out.own, _, os5, hB6, ⟨?_, ?_, ?_⟩, ?_⟩, ⟨?_, ?_, ?_, by omega, ?_, ?_⟩⟩
        · rintro q (hq | ⟨_, hq⟩)
          · have := hgb q hq; omega
          · exact hq
        · refine row_base (row_keep hrow5 fun q hq => ho6 q ?_) (Nat.zero_le _)
          have := row_base_le hrow5 hq
          omega
        · intro q hq
          refine .inr ⟨by have := row_base_le hrow5 hq; omega, ?_⟩
          obtain ⟨cs, hcs⟩ := row_heap hrow5 hq
          have := (Array.getElem?_eq_some_iff.1 hcs).1
          omega
        · intro r hr
          have hmem : r = x ∨ r ∈ rs := by
            rw [he] at hr
            exact putR_mem x rs false r hr
          have hS : StrsRow w fp r.pv r.f.pieces := by
            rcases hmem with rfl | hm
            · exact HX.out
            · exact HF.out.each r hm
          refine hS.keep (fun q cs hq hc => ?_) (fun q hq => .inl hq)
          refine (ho6 q ?_).trans (hblk q (hgb q hq))
          rintro rfl
          have hbq : w.heap[q]? = some (.cells (refCells d (.slice A rs.length c)) 63 (0, 0)) := HB.out
          rw [hc] at hbq
          injection hbq with hbq
          injection hbq with _ hbq
          exact absurd hbq (by decide)
        · show kput d.files x.key x.f = os5.map rPair
          rw [he, putR_map, ← HD.out, putL_false _ _ _ HR.out]
        · rw [← hw6]; exact hb5.os
        · rw [← hw6]; exact hb5.tape
        · rw [← hw6]; exact hb5.output
        · intro q hq hn
          exact (ho6 q (by rintro rfl; exact hn H.out.own)).trans (hblk q hq)
        · rintro q (hq | hq)
          · exact .inl hq
          · exact .inr hq.1
      have HKO := hid hko
      cases b with
      | true =>
        have he : os = putR x rs false := by rw [← hP2]; simp [putR]
        have HT := hid (hko _ _ _ _ he hO.out hBw.out)
        clear hP2 he hP hO hko HKO hB0 hol0
        go_wp2
        go_end0
        exact ⟨rfl, HT.out⟩
      | false =>
        have he : os ++ [x] = putR x rs false := by rw [← hP2]; simp [putR]
        have hol1 := hol0 rfl
        have HE := hid he
        have CF := hid (fun W (hb : Below (w.heap.size + 1) wr W) => show W.cell? ⟨g, 0, none⟩ = some (.slice A rs.length c) ∧ W.frozen? ⟨g, 0, none⟩ = false from
          ⟨(hb.cell (p := ⟨g, 0, none⟩) (by simp; omega)).trans c0', (hb.frozen (p := ⟨g, 0, none⟩) (by simp; omega)).trans f0'⟩)
        clear hP2 he hP hko hol0
        go_wp2_with (at_builtin; refine wpList_append_rf rfl _ _ (y := x) (os := os) rfl rfl rfl rfl (row_keep hO.out (fun _ _ => rfl)) hxo (by omega) hsz ?_; intro A1 c1 w1 hown1 hbw1; obtain ⟨c1', f1'⟩ := CF.out w1 hbw1)
        have hb1 := hBw.out.trans hbw1
        have HT := hid (HKO.out _ _ _ _ HE.out hown1 hb1)
        have hl1 : (os ++ [x]).length = os.length + 1 := by simp
        rw [hl1] at HT
        go_end0
        exact ⟨rfl, HT.out⟩
end Go.Proofs.Ytioillenlgpcgaa

set_option linter.unusedVariables false
set_option linter.unusedSimpArgs false
set_option maxHeartbeats 3200000
set_option maxRecDepth 100000
namespace Go.Proofs.Ytioillenlgpcgaa
open Go.RowKit

/-- The drive's files are another, new row. -/
theorem IsRef.newRow {w w5 : World} {g : Nat} {d d' : Dr} {fp : Nat → Prop} {v : Value} {os : List RF} {A5 : Option Addr} {c5 : Nat} (h : IsRef w g d fp) (hB : Blk w g 63 (refCells d v)) (hb5 : Below w.heap.size w w5)
    (hrow5 : w5.ownsRow w.heap.size 78 3 (.slice A5 os.length c5) os.length (os.flatMap rCells)) (hmem : ∀ r ∈ os, StrsRow w fp r.pv r.f.pieces) (hd : d'.files = os.map rPair) (h1 : d'.quota = d.quota) (h2 : d'.deeds = d.deeds) (h3 : d'.down = d.down) (h4 : d'.left = d.left) :
    ThenR w g d' fp (w5.setCell ⟨g, 0, none⟩ (.slice A5 os.length c5)) ∧ ∀ q, q < w.heap.size → q ≠ g → (w5.setCell ⟨g, 0, none⟩ (.slice A5 os.length c5)).heap[q]? = w.heap[q]? := by
  have hglt := hB.lt
  have hblk : ∀ q, q < w.heap.size → w5.heap[q]? = w.heap[q]? := fun q hq => hb5.block q hq
  have hs5 := hb5.size
  generalize hw6 : w5.setCell ⟨g, 0, none⟩ (.slice A5 os.length c5) = w6
  have hs6 : w6.heap.size = w5.heap.size := by rw [← hw6]; exact set_size _ _ _
  have ho6 : ∀ q, q ≠ g → w6.heap[q]? = w5.heap[q]? := fun q hq => by rw [← hw6]; exact set_other _ _ _ _ q hq
  have hB5 : Blk w5 g 63 (refCells d v) := (hblk g hglt).trans hB
  have hB6 : Blk w6 g 63 (refCells d' (.slice A5 os.length c5)) := by
    have := hB5.set_ 0 (.slice A5 os.length c5)
    rw [hw6] at this
    have e : refCells d' (.slice A5 os.length c5) = (refCells d v).setIfInBounds 0 (.slice A5 os.length c5) := by
      unfold refCells
      rw [h1, h2, h3, h4]
      rfl
    rw [e]
    exact this
  have hgb : ∀ q, fp q → q < w.heap.size := h.lt
  refine ⟨⟨fun q => fp q ∨ (w.heap.size ≤ q ∧ q < w6.heap.size), ⟨?_, .inl h.own, _, os, hB6, ⟨?_, ?_, ?_⟩, hd⟩, ⟨?_, ?_, ?_, by omega, ?_, ?_⟩⟩, fun q hq hn => (ho6 q hn).trans (hblk q hq)⟩
  · rintro q (hq | ⟨_, hq⟩)
    · have := hgb q hq; omega
    · exact hq
  · refine row_base (row_keep hrow5 fun q hq => ho6 q ?_) (Nat.zero_le _)
    have := row_base_le hrow5 hq
    omega
  · intro q hq
    refine .inr ⟨row_base_le hrow5 hq, ?_⟩
    obtain ⟨cs, hcs⟩ := row_heap hrow5 hq
    have := (Array.getElem?_eq_some_iff.1 hcs).1
    omega
  · intro r hr
    refine (hmem r hr).keep (fun q cs hq hc => ?_) (fun q hq => .inl hq)
    refine (ho6 q ?_).trans (hblk q (hgb q hq))
    rintro rfl
    have hbq : w.heap[q]? = some (.cells (refCells d v) 63 (0, 0)) := hB
    rw [hc] at hbq
    injection hbq with hbq
    injection hbq with _ hbq
    exact absurd hbq (by decide)
  · rw [← hw6]; exact hb5.os
  · rw [← hw6]; exact hb5.tape
  · rw [← hw6]; exact hb5.output
  · intro q hq hn
    exact (ho6 q (by rintro rfl; exact hn h.own)).trans (hblk q hq)
  · rintro q (hq | hq)
    · exact .inl hq
    · exact .inr hq.1

theorem flat_set (rs : List RF) (x : RF) : ∀ i, i < rs.length → (((rs.flatMap rCells).set (i * 3) (.string (S x.key))).set (i * 3 + 1) (.string (S x.f.safe))).set (i * 3 + 2) x.pv = (rs.set i x).flatMap rCells := by
  induction rs with
  | nil => intro i hi; simp at hi
  | cons r rs ih =>
    intro i hi
    cases i with
    | zero => simp [rCells, List.flatMap_cons]
    | succ i =>
      have hi' : i < rs.length := by simpa using hi
      have e : (i + 1) * 3 = i * 3 + 3 := by omega
      rw [List.set_cons_succ, List.flatMap_cons, List.flatMap_cons, ← ih i hi', e]
      simp only [rCells, List.cons_append, List.nil_append]
      show (((_ :: _ :: _ :: rs.flatMap rCells).set (i * 3 + 2 + 1) _).set (i * 3 + 1 + 2 + 1) _).set (i * 3 + 2 + 2 + 1) _ = _
      simp only [List.set_cons_succ]
/-- A file's place is written. -/
def setRF (w : World) (b i : Nat) (x : RF) : World := ((w.setCell ⟨b, i * 3, none⟩ (.string (S x.key))).setCell ⟨b, i * 3 + 1, none⟩ (.string (S x.f.safe))).setCell ⟨b, i * 3 + 2, none⟩ x.pv
theorem setRF_other (w : World) (b i : Nat) (x : RF) (q : Nat) (hq : q ≠ b) : (setRF w b i x).heap[q]? = w.heap[q]? := (set_other _ _ _ _ q hq).trans ((set_other _ _ _ _ q hq).trans (set_other _ _ _ _ q hq))
theorem setRF_size (w : World) (b i : Nat) (x : RF) : (setRF w b i x).heap.size = w.heap.size := by
  unfold setRF
  rw [set_size, set_size, set_size]
/-- The drive with a file turned at its place; x's pieces lie in blocks of fp or beyond w. -/
theorem IsRef.setElem {w w1 : World} {g b c i : Nat} {d d' : Dr} {fp : Nat → Prop} {rs : List RF} {x : RF} (h : IsRef w g d fp) (hB : Blk w g 63 (refCells d (.slice (some ⟨b, 0, none⟩) rs.length c))) (hF : HasRef w fp (.slice (some ⟨b, 0, none⟩) rs.length c) rs)
    (hi : i < rs.length) (hb1 : Below w.heap.size w w1) (hx : StrsRow w1 (fun q => fp q ∨ w.heap.size ≤ q) x.pv x.f.pieces) (hd : d'.files = (rs.set i x).map rPair) (h1 : d'.quota = d.quota) (h2 : d'.deeds = d.deeds) (h3 : d'.down = d.down) (h4 : d'.left = d.left) :
    ThenR w g d' fp (setRF w1 b i x) := by
  have hs1 := hb1.size
  obtain ⟨cs, hcs⟩ := row_heap hF.row (k := b) rfl
  have hbf : fp b := hF.own b rfl
  have hblt := h.lt b hbf
  have hgb : g ≠ b := by
    rintro rfl
    have hB' : w.heap[g]? = _ := hB
    rw [hcs] at hB'
    injection hB' with e
    injection e with _ e
    exact absurd e (by decide)
  have ho := setRF_other w1 b i x
  have hsz := setRF_size w1 b i x
  have hcsw1 : w1.heap[b]? = some (.cells cs 78 (0, 0)) := (hb1.block b hblt).trans hcs
  have hrow1 : w1.ownsRow 0 78 3 (.slice (some ⟨b, 0, none⟩) rs.length c) rs.length (rs.flatMap rCells) := row_keep hF.row fun q hq => by
    have : b = q := by simpa [Value.ownBlock] using hq
    subst this
    exact hb1.block b hblt
  have hrow2 : (setRF w1 b i x).ownsRow 0 78 3 (.slice (some ⟨b, 0, none⟩) rs.length c) rs.length ((rs.set i x).flatMap rCells) := by
    rw [← flat_set rs x i hi]
    exact ((((hrow1.stored (i * 3) _).1.stored (i * 3 + 1) _).1.stored (i * 3 + 2) _)).1
  have hstr : ∀ (q : Nat) (cs' : Array Value), w1.heap[q]? = some (.cells cs' 9 (0, 0)) → (setRF w1 b i x).heap[q]? = w1.heap[q]? := fun q cs' hq => ho q (by
    rintro rfl
    rw [hcsw1] at hq
    injection hq with hq
    injection hq with _ hq
    exact absurd hq (by decide))
  have hlt1 : ∀ q, fp q → q < w.heap.size := h.lt
  refine ⟨fun q => fp q ∨ (w.heap.size ≤ q ∧ q < w1.heap.size), ⟨?_, .inl h.own, .slice (some ⟨b, 0, none⟩) rs.length c, rs.set i x, ?_, ⟨?_, ?_, ?_⟩, hd⟩, ⟨hb1.os, hb1.tape, hb1.output, by omega, ?_, ?_⟩⟩
  · rintro q (hq | ⟨_, hq⟩)
    · have := hlt1 q hq; omega
    · omega
  · have e : refCells d' (.slice (some ⟨b, 0, none⟩) rs.length c) = refCells d (.slice (some ⟨b, 0, none⟩) rs.length c) := by
      unfold refCells
      rw [h1, h2, h3, h4]
    rw [e]
    exact (ho g hgb).trans ((hb1.block g (hlt1 g h.own)).trans hB)
  · rw [List.length_set]
    exact hrow2
  · intro q hq
    exact .inl (hF.own q hq)
  · intro r hr
    rcases List.mem_or_eq_of_mem_set hr with hm | rfl
    · refine (hF.each r hm).keep (fun q cs' hq hc => ?_) (fun q hq => .inl hq)
      have hq1 := hb1.block q (hlt1 q hq)
      exact (hstr q cs' (hq1.trans hc)).trans hq1
    · refine ⟨row_keep hx.row fun q hq => ?_, fun q hq => ?_⟩
      · obtain ⟨cs', hc⟩ := row_heap hx.row hq
        exact hstr q cs' hc
      · rcases hx.own q hq with h5 | h5
        · exact .inl h5
        · obtain ⟨cs', hc⟩ := row_heap hx.row hq
          exact .inr ⟨h5, (Array.getElem?_eq_some_iff.1 hc).1⟩
  · intro q hq hn
    exact (ho q (by rintro rfl; exact hn hbf)).trans (hb1.block q hq)
  · rintro q (hq | hq)
    · exact .inl hq
    · exact .inr hq.1

/-- append(own, row...) of files: whatever row. -/
theorem wpList_append_rows {W : World} {ops : Array Oper} {rest : List Oper} {o : Oper} {a : Act} {Q : Exit → Act → World → Prop} (hgd : o.guard = none) (s x : Operand) {base : Nat} {A B : Option Addr} {c m cb : Nat} {os ns : List RF}
    (ho : o.op = .call { callee := .builtin .append, args := #[s, x], argTypes := #[61, 61] }) (hty : o.type = 61) (hs : a.eval s = .slice A os.length c) (hx : a.eval x = .slice B m cb)
    (hm : m = ns.length) (hown : W.ownsRow base 78 3 (.slice A os.length c) os.length (os.flatMap rCells)) (hnone : B = none → m = 0) (hcell : ∀ ad, B = some ad → ∀ j u, (ns.flatMap rCells)[j]? = some u → W.cell? (ad.add j) = some u)
    (hone : ∀ r ∈ ns, r.pv.oneCell' = true) (hl : os.length + ns.length ≤ 1000000) (hbase : base ≤ W.heap.size)
    (h : ∀ A' c' w', w'.ownsRow base 78 3 (.slice A' (os ++ ns).length c') (os ++ ns).length ((os ++ ns).flatMap rCells) → Below base W w' → wpList Try.prog ops Q rest (a.put o.dst (.slice A' (os ++ ns).length c')) w') :
    wpList Try.prog ops Q (o :: rest) a W := by
  subst hm
  obtain ⟨i, hi, hz, hsz, hby⟩ := info_file
  obtain ⟨v', w', hrun, hown1, hgrow, hat⟩ := run_append_row (P := Try.prog) W base 61 61 78 i _ 3 56 (by kernel_rfl) hi hz hsz hby rfl (by decide) _ _ _ hown B ns.length cb (ns.flatMap rCells) (flat_len ns) hnone hcell
    (fun u hu => by
      obtain ⟨r, hr, hur⟩ := List.mem_flatMap.1 hu
      simp only [rCells, List.mem_cons, List.not_mem_nil, or_false] at hur
      rcases hur with rfl | rfl | rfl
      · rfl
      · rfl
      · exact hone r hr)
    (by unfold maxLen; omega) (by omega) hbase
  have hlen : (os ++ ns).length = os.length + ns.length := by simp
  have hfl : (os ++ ns).flatMap rCells = os.flatMap rCells ++ ns.flatMap rCells := by simp
  rw [← hlen, ← hfl] at hown1
  obtain ⟨A', c', rfl⟩ := row_form hown1
  exact wpList_append_run hgd s x _ ho _ _ _ _ hs hx (by rw [hty]; exact hrun) (h A' c' w' hown1 ((Below.refl base W).grown hgrow hbase fun k hk => row_base_le hown hk))
theorem ref_cut {w : World} {g : Nat} {d : Dr} {fp : Nat → Prop} (h : IsRef w g d fp) (hlen : d.files.length ≤ 65536) (i : Nat) (hi : i < d.files.length) :
    Calls Try.prog 66 #[.pointer (some ⟨g, 0, none⟩), .int .i64 i] w fun e w' => e = .returned (.tuple #[]) ∧ ThenR w g { d with files := d.files.take i ++ d.files.drop (i + 1) } fp w' ∧ ∀ q, q < w.heap.size → q ≠ g → w'.heap[q]? = w.heap[q]? := by
  obtain ⟨v, rs, hb, hf, hd⟩ := h.has
  have hlr : rs.length ≤ 65536 := by rw [hd] at hlen; simpa using hlen
  have hir : i < rs.length := by rw [hd] at hi; simpa using hi
  obtain ⟨b, c, rfl, hbl, hn, -⟩ := hf.elem hir
  have c0 := hb.cell 0
  simp [refCells] at c0
  have f0 := hb.frozen 0
  have hglt := hb.lt
  have hone : ∀ r ∈ rs, r.pv.oneCell' = true := fun r hr => strs_one (hf.each _ hr)
  have hcell : ∀ j u, (rs.flatMap rCells)[j]? = some u → w.cell? ⟨b, j, none⟩ = some u := fun j u hu => by
    have hj : j < (rs.flatMap rCells).length := by
      rcases Nat.lt_or_ge j (rs.flatMap rCells).length with h' | h'
      · exact h'
      · rw [List.getElem?_eq_none h'] at hu; cases hu
    rw [flat_len] at hj
    rw [hf.row.cellAt j (by omega)]
    exact hu
  have hsplit : rs.flatMap rCells = (rs.take i).flatMap rCells ++ (rs.drop i).flatMap rCells := by rw [← List.flatMap_append, List.take_append_drop]
  have hsplit2 : rs.flatMap rCells = (rs.take (i + 1)).flatMap rCells ++ (rs.drop (i + 1)).flatMap rCells := by rw [← List.flatMap_append, List.take_append_drop]
  have hcell1 : ∀ j u, ((rs.take i).flatMap rCells)[j]? = some u → w.cell? ⟨b, j, none⟩ = some u := fun j u hu => hcell j u (by
    have hj : j < ((rs.take i).flatMap rCells).length := by
      rcases Nat.lt_or_ge j ((rs.take i).flatMap rCells).length with h' | h'
      · exact h'
      · rw [List.getElem?_eq_none h'] at hu; cases hu
    rw [hsplit, List.getElem?_append_left hj]
    exact hu)
  have hcell2 : ∀ j u, ((rs.drop (i + 1)).flatMap rCells)[j]? = some u → w.cell? ⟨b, (i + 1) * 3 + j, none⟩ = some u := fun j u hu => hcell _ u (by
    have hl1 : ((rs.take (i + 1)).flatMap rCells).length = (i + 1) * 3 := by rw [flat_len]; simp; omega
    rw [hsplit2, List.getElem?_append_right (by omega), hl1]
    have : (i + 1) * 3 + j - (i + 1) * 3 = j := by omega
    rw [this]
    exact hu)
  have H := hid h
  have HB := hid hb
  have hl1 : (rs.take i).length = i := by simp; omega
  have hl2 : (rs.drop (i + 1)).length = rs.length - (i + 1) := by simp
  have hS1 : ∀ r ∈ rs.take i, StrsRow w fp r.pv r.f.pieces := fun r hr => hf.each r (List.mem_of_mem_take hr)
  have hS2 : ∀ r ∈ rs.drop (i + 1), StrsRow w fp r.pv r.f.pieces := fun r hr => hf.each r (List.mem_of_mem_drop hr)
  have hfiles : d.files.take i ++ d.files.drop (i + 1) = (rs.take i ++ rs.drop (i + 1)).map rPair := by rw [hd, List.map_append, List.map_take, List.map_drop]
  have hi1 : i + 1 ≤ rs.length := by omega
  generalize rs.take i = ts at *
  generalize rs.drop (i + 1) = ds at *
  have hfin : ∀ (w5 : World) (A5 : Option Addr) (c5 : Nat), w5.ownsRow w.heap.size 78 3 (.slice A5 (ts ++ ds).length c5) (ts ++ ds).length ((ts ++ ds).flatMap rCells) → Below w.heap.size w w5 → ThenR w g { d with files := d.files.take i ++ d.files.drop (i + 1) } fp (w5.setCell ⟨g, 0, none⟩ (.slice A5 (ts ++ ds).length c5)) ∧ ∀ q, q < w.heap.size → q ≠ g → (w5.setCell ⟨g, 0, none⟩ (.slice A5 (ts ++ ds).length c5)).heap[q]? = w.heap[q]? := fun w5 A5 c5 hr hb5 =>
    h.newRow hb hb5 hr (fun r hr => by
      rcases List.mem_append.1 hr with hr | hr
      · exact hS1 r hr
      · exact hS2 r hr) hfiles rfl rfl rfl rfl
  have FIN := hid hfin
  have CF := hid (fun W (hW : Below w.heap.size w W) => show W.cell? ⟨g, 0, none⟩ = some (.slice (some ⟨b, 0, none⟩) rs.length c) ∧ W.frozen? ⟨g, 0, none⟩ = false ∧ ∀ j u, (ds.flatMap rCells)[j]? = some u → W.cell? ⟨b, (i + 1) * 3 + j, none⟩ = some u from
    ⟨(hW.cell (p := ⟨g, 0, none⟩) hglt).trans c0, (hW.frozen (p := ⟨g, 0, none⟩) hglt).trans f0, fun j u hu => (hW.cell (p := ⟨b, _, none⟩) hbl).trans (hcell2 j u hu)⟩)
  have O1 := hid (fun r hr => strs_one (hS1 r hr))
  have O2 := hid (fun r hr => strs_one (hS2 r hr))
  have AD1 := hid (fun (ad : Addr) (had : (some ⟨b, 0, none⟩ : Option Addr) = some ad) (j : Nat) (u : Value) (hu : (ts.flatMap rCells)[j]? = some u) => show w.cell? (ad.add j) = some u from by
    injection had with had
    subst had
    have : (⟨b, 0, none⟩ : Addr).add j = ⟨b, j, none⟩ := by
      simp [Addr.add]
      exact fun h => h.symm
    rw [this]
    exact hcell1 j u hu)
  have HL1 := hid hl1
  have HL2 := hid hl2
  have hic : i ≤ c := by omega
  clear h hb hf hd hone hcell hcell1 hcell2 hsplit hsplit2 hlen hi hl1 hl2 hS1 hS2 hfiles hfin
  have tok1 : True := trivial
  by_cases hce : c = i + 1
  · have hds := hid (show ds = [] from List.eq_nil_of_length_eq_zero (by rw [HL2.out]; omega))
    go_enter Try.func66, Try.ntmps66
    go_wp2_with (first | (have _t := tok1; at_builtin; refine wpList_append_rows rfl _ _ (os := []) (ns := ts) (base := w.heap.size) rfl rfl rfl rfl HL1.out.symm (World.ownsRow_nil _ _ _ _) (fun h => by cases h) AD1.out O1.out (by rw [HL1.out]; simp; omega) (Nat.le_refl _) ?_; intro A1 c1 w1 hown1 hb1; obtain ⟨c0', f0', hc2⟩ := CF.out w1 hb1; have HC2 := hid hc2; clear hc2 tok1) | (at_builtin; refine wpList_append_rows rfl _ _ (os := ts) (ns := ds) (base := w.heap.size) rfl rfl rfl rfl HL2.out.symm hown1 (fun h => by cases h) (fun ad _ j u hu => by rw [hds.out] at hu; simp at hu) O2.out (by rw [HL1.out, HL2.out]; omega) hb1.size ?_; intro A2 c2 w2 hown2 hb2; obtain ⟨c0'', f0'', hc2⟩ := CF.out w2 (hb1.trans hb2); clear hc2))
    have HT := hid (FIN.out w2 A2 c2 hown2 (hb1.trans hb2))
    have hl12 : (ts ++ ds).length = ts.length + ds.length := by simp
    rw [hl12] at HT
    go_end0
    exact ⟨rfl, HT.out⟩
  · have AD2 := hid (fun (W : World) (hc : ∀ j u, (ds.flatMap rCells)[j]? = some u → W.cell? ⟨b, (i + 1) * 3 + j, none⟩ = some u) (ad : Addr) (had : (some ⟨b, (i + 1) * 3, none⟩ : Option Addr) = some ad) (j : Nat) (u : Value) (hu : (ds.flatMap rCells)[j]? = some u) => show W.cell? (ad.add j) = some u from by
      injection had with had
      subst had
      have : (⟨b, (i + 1) * 3, none⟩ : Addr).add j = ⟨b, (i + 1) * 3 + j, none⟩ := by
        unfold Addr.add
        split <;> simp_all
      rw [this]
      exact hc j u hu)
    go_enter Try.func66, Try.ntmps66
    go_wp2_with (first | (have _t := tok1; at_builtin; refine wpList_append_rows rfl _ _ (os := []) (ns := ts) (base := w.heap.size) rfl rfl rfl rfl HL1.out.symm (World.ownsRow_nil _ _ _ _) (fun h => by cases h) AD1.out O1.out (by rw [HL1.out]; simp; omega) (Nat.le_refl _) ?_; intro A1 c1 w1 hown1 hb1; obtain ⟨c0', f0', hc2⟩ := CF.out w1 hb1; have HC2 := hid hc2; clear hc2 tok1) | (at_builtin; refine wpList_append_rows rfl _ _ (os := ts) (ns := ds) (base := w.heap.size) rfl rfl rfl rfl HL2.out.symm hown1 (fun h => by cases h) (AD2.out _ HC2.out) O2.out (by rw [HL1.out, HL2.out]; omega) hb1.size ?_; intro A2 c2 w2 hown2 hb2; obtain ⟨c0'', f0'', hc2⟩ := CF.out w2 (hb1.trans hb2); clear hc2))
    have HT := hid (FIN.out w2 A2 c2 hown2 (hb1.trans hb2))
    have hl12 : (ts ++ ds).length = ts.length + ds.length := by simp
    rw [hl12] at HT
    go_end0
    exact ⟨rfl, HT.out⟩
end Go.Proofs.Ytioillenlgpcgaa
