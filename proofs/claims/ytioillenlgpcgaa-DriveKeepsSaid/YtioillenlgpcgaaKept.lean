/- Lists of deeds of a journal that come in. Walk of drive.kept. -/
import Derived.Test.YtioillenlgpcgaaInts
import Derived.Test.YtioillenlgpcgaaUpMem
set_option linter.unusedVariables false
set_option linter.unusedSimpArgs false
set_option maxRecDepth 100000
namespace Go.Proofs.Ytioillenlgpcgaa
open Go.RowKit

structure SDeed where
  kind : Int
  n : Int
  A : Option Addr
  keep : List Int
  cap : Nat
def DeedsAt (w : World) (A : Option Addr) (l : List SDeed) : Prop :=
  0 < l.length → ∃ b off, A = some ⟨b, off, none⟩ ∧ b < w.heap.size ∧ ∀ i, (h : i < l.length) → w.cell? ⟨b, off + i * 3, none⟩ = some (.int .i64 l[i].kind) ∧ w.cell? ⟨b, off + i * 3 + 1, none⟩ = some (.int .i64 l[i].n) ∧ w.cell? ⟨b, off + i * 3 + 2, none⟩ = some (.slice l[i].A l[i].keep.length l[i].cap)
def DeedsIn (w : World) (l : List SDeed) : Prop := ∀ i, (h : i < l.length) → In64 l[i].n ∧ IntsAt w l[i].A l[i].keep ∧ IntsIn l[i].keep ∧ (l[i].keep.length : Int) ≤ 9223372036854775807
open Go.ChangeShapes Go.WideShapes Go.Deep in
theorem open_deeds {H : Type} {enc : TypeId × Value → H} {w : World} {base : Nat} {spare : Nat → Bool} {held : Bool} {A : Option Addr} {n cap : Nat} {d : DataW H} {ps : List MemPlace}
    (h : DataW.Trod enc Try.prog w base spare held 46 (.slice A n cap) d ps) : ∃ l : List SDeed, n = l.length ∧ l.length ≤ cap ∧ (cap : Int) ≤ 9223372036854775807 ∧ DeedsIn w l ∧ DeedsAt w A l := by
  have hC : (Try.prog).cellsOf 51 = 3 := by kernel_rfl
  obtain ⟨h1, h2, h3⟩ := open_slice_any Try.underlying46 (by rw [hC]; omega) h
  rw [hC] at h3
  rcases Nat.eq_zero_or_pos n with h0 | h0
  · exact ⟨[], by simpa using h0, by simp, h2, fun i h => absurd h (by simp), fun h => absurd h (by simp)⟩
  · obtain ⟨b, off, hA, hb, hi⟩ := h3 h0
    obtain ⟨l, hl, hp⟩ := choose_list n (fun i (q : SDeed) => (In64 q.n ∧ IntsAt w q.A q.keep ∧ IntsIn q.keep ∧ (q.keep.length : Int) ≤ 9223372036854775807) ∧
      (w.cell? ⟨b, off + i * 3, none⟩ = some (.int .i64 q.kind) ∧ w.cell? ⟨b, off + i * 3 + 1, none⟩ = some (.int .i64 q.n) ∧ w.cell? ⟨b, off + i * 3 + 2, none⟩ = some (.slice q.A q.keep.length q.cap))) ⟨0, 0, none, [], 0⟩ (fun i hin => by
      obtain ⟨cs, m, y, hlen, hcell, ht⟩ := hi i hin
      have hf := open_fields Try.underlying51 (by kernel_rfl) ht
      obtain ⟨v0, m0, z0, e0, t0⟩ := hf 0 _ rfl (by omega)
      obtain ⟨v1, m1, z1, e1, t1⟩ := hf 1 _ rfl (by omega)
      obtain ⟨v2, m2, z2, e2, t2⟩ := hf 2 _ rfl (by omega)
      obtain ⟨k0, c0, -, -⟩ := DataW.trod_int Try.underlying3 t0
      obtain ⟨k1, c1, -, wf1⟩ := DataW.trod_int Try.underlying3 t1
      simp only [List.cons.injEq, and_true] at c0 c1
      subst c0 c1
      have hv2 : ∃ A2 n2 c2, v2 = .slice A2 n2 c2 := by
        rcases open_slice Try.underlying24 t2 with ⟨hcs, _⟩ | ⟨a, len, cap', m', n', D, Pl, hcs, _⟩
        · simp only [List.cons.injEq, and_true] at hcs
          exact ⟨_, _, _, hcs⟩
        · simp only [List.cons.injEq, and_true] at hcs
          exact ⟨_, _, _, hcs⟩
      obtain ⟨A2, n2, c2, rfl⟩ := hv2
      obtain ⟨ks, rfl, q1, q2, q3, q4⟩ := open_intsL (w := w) (A := A2) (n := n2) (cap := c2) (show DataW.Trod enc Try.prog w base spare held 24 (.slice A2 n2 c2) z2.1 z2.2 from ⟨m2, t2⟩)
      refine ⟨⟨k0, k1, A2, ks, c2⟩, ⟨wf64 wf1, q4, q3, by show (ks.length : Int) ≤ _; omega⟩, ?_, ?_, ?_⟩
      · rw [← e0, ← hcell 0 (by omega), Nat.add_zero]
      · rw [← e1, ← hcell 1 (by omega), Nat.add_assoc]
      · rw [← e2, ← hcell 2 (by omega), Nat.add_assoc])
    exact ⟨l, hl.symm, by omega, h2, fun i hi => (hp i hi).1, fun _ => ⟨b, off, hA, hb, fun i hi => (hp i hi).2⟩⟩
end Go.Proofs.Ytioillenlgpcgaa

set_option linter.unusedVariables false
set_option linter.unusedSimpArgs false
set_option maxHeartbeats 1600000
set_option maxRecDepth 100000
namespace Go.Proofs.Ytioillenlgpcgaa
open Go.RowKit

theorem drive_kept (A : Option Addr) (keep : List Int) (cap : Nat) (w : World) (hA : IntsAt w A keep) (hin : IntsIn keep) (hl : (keep.length : Int) ≤ 9223372036854775807) (i many : Nat) (hi : i ≤ 1000000000) (hm : many ≤ 1000000000) :
    Calls Try.prog 47 #[.slice A keep.length cap, .int .i64 i, .int .i64 many] w fun e w' => e = .returned (.int .i64 (keptN keep i many)) ∧ w' = w := by
  by_cases h0 : keep.length = 0
  · have H := hid (show keptN keep i many = 0 by
      have : keep = [] := List.eq_nil_of_length_eq_zero h0
      subst this
      rfl)
    go_enter Try.func47, Try.ntmps47
    go_wp2
    go_ret
    exact ⟨by rw [H.out]; rfl, rfl⟩
  · obtain ⟨b, off, rfl, hbl, hc⟩ := hA (by omega)
    have hlt : i % keep.length < keep.length := Nat.mod_lt _ (by omega)
    have c1 := hc _ hlt
    have hn := hin _ hlt
    have hke : keptN keep i many = ((if keep[i % keep.length] < 0 then -(keep[i % keep.length] + 1) else keep[i % keep.length]) % ((many : Int) + 1)).toNat := by
      unfold keptN
      rw [List.getElem?_eq_getElem hlt]
    clear hc
    generalize hne : keep[i % keep.length] = n at *
    have hmod : ((i : Int).tmod keep.length) = ((i % keep.length : Nat) : Int) := by
      rw [Int.tmod_eq_emod_of_nonneg (by omega)]
      rfl
    have hlt' : ((i % keep.length : Nat) : Int) < keep.length := by omega
    obtain ⟨hn1, hn2⟩ := hn
    by_cases hneg : n < 0
    · rw [if_pos hneg] at hke
      have H := hid (show ((keptN keep i many : Nat) : Int) = -(n + 1).tmod ((many : Int) + 1) by
        rw [hke, ← Int.neg_tmod, Int.tmod_eq_emod_of_nonneg (by omega)]
        have := Int.emod_nonneg (-(n + 1)) (show (many : Int) + 1 ≠ 0 by omega)
        omega)
      clear hke hne
      generalize i % keep.length = r at *
      go_enter Try.func47, Try.ntmps47
      go_wp2
      go_ret
      exact ⟨by rw [H.out]; rfl, rfl⟩
    · rw [if_neg hneg] at hke
      have H := hid (show ((keptN keep i many : Nat) : Int) = n % ((many : Int) + 1) by
        rw [hke]
        have := Int.emod_nonneg n (show (many : Int) + 1 ≠ 0 by omega)
        omega)
      clear hke hne
      generalize i % keep.length = r at *
      go_enter Try.func47, Try.ntmps47
      go_wp2
      go_ret
      exact ⟨by rw [H.out]; rfl, rfl⟩
end Go.Proofs.Ytioillenlgpcgaa
