/- Walk of stages.nexts: a map whose keys are pairs. -/
import Derived.Test.YtjmcnhpffpcboaaMap2
import Derived.Test.YtjmcnhpffpcboaaLawApart
import Derived.Test.YtjmcnhpffpcboaaKeys
import Derived.DeepKeys4
import Derived.ChangeKeys
import Derived.Deep.DeepCutAuto
set_option linter.unusedVariables false
set_option linter.unusedSimpArgs false
set_option maxHeartbeats 1600000
set_option maxRecDepth 100000
namespace Go.Proofs.Ytjmcnhpffpcboaa
open Go.RowKit Go.WideMaps Go.ChangeMaps Go.Maps

theorem laidOut : laidOutB Try.prog = true := by kernel_rfl
theorem pairLaw : KeyLaw Try.prog 85 := deep_law_laid laidOut (m := 2) (by omega) (of_decide_eq_true (by kernel_rfl)) (by kernel_rfl) (by kernel_rfl)
def pr (a b : Int) : Value := .agg #[.int .i64 a, .int .i64 b]
def kb (a b : Int) : Key := keyBytes [.int .i64 a, .int .i64 b]
theorem wf_i64 {a : Int} (ha : In64 a) : (Lit.int .i64 a).wf = true := by
  unfold In64 at ha
  simp [Lit.wf, IntKind.min, IntKind.max, IntKind.bits, IntKind.signed]
  omega
theorem pr_lits (d : Nat) (a b : Int) (ha : In64 a) (hb : In64 b) : (Try.prog).keyLits (d + 2) 85 [.int .i64 a, .int .i64 b] = some [.int .i64 a, .int .i64 b] := by
  have h1 : (Try.prog).underlying 85 = some (.array 2 3) := by kernel_rfl
  have h2 : (Try.prog).underlying 3 = some (.int .i64) := by kernel_rfl
  have h3 : (Try.prog).cellsOf 85 = 2 := by kernel_rfl
  have h4 : (Try.prog).cellsOf 3 = 1 := by kernel_rfl
  have h5 : ∀ n : Int, In64 n → (Try.prog).keyLits (d + 1) 3 [.int .i64 n] = some [.int .i64 n] := fun n hn => by
    unfold Program.keyLits
    rw [h2]
    simp [wf_i64 hn]
  unfold Program.keyLits
  rw [h1]
  simp only [h3, h4]
  simp [List.range_succ, h5 a ha, h5 b hb]
theorem keyOf_pr (a b : Int) (ha : In64 a) (hb : In64 b) : keyOf Try.prog 85 (pr a b) = some (.string (kb a b)) := by
  have h1 : (Try.prog).underlying 85 = some (.array 2 3) := by kernel_rfl
  have h2 : (Try.prog).keyType 85 = true := by kernel_rfl
  have h3 : (Try.prog).cellsOf 85 = 2 := by kernel_rfl
  have h4 : (pr a b).formed Try.prog 85 = true := by simp [pr, Value.formed, h1, h3]
  obtain ⟨n, hn⟩ : ∃ n, (Try.prog).types.size + 1 = n + 2 := ⟨(Try.prog).types.size - 1, by
    have : (1 : Nat) ≤ (Try.prog).types.size := of_decide_eq_true (by kernel_rfl)
    omega⟩
  unfold keyOf
  rw [h1]
  simp only [h2, h4, hn, Bool.and_self, if_true]
  rw [show (pr a b).cells.toList = [.int .i64 a, .int .i64 b] from rfl, pr_lits n a b ha hb]
  rfl
theorem kb_inj {a b c d : Int} (ha : In64 a) (hb : In64 b) (hc : In64 c) (hd : In64 d) (h : kb a b = kb c d) : a = c ∧ b = d := by
  have := keyLits_inj (pr_lits 0 a b ha hb) (pr_lits 0 c d hc hd) h
  simp at this
  exact this

/-! ### maps from pairs to numbers -/
def Ri (v : Value) : Option (DataW Unit × List MemPlace) :=
  match v with
  | .int .i64 (.ofNat n) => some (.lit (.int .u64 n), [])
  | _ => none
theorem Ri_inv {v : Value} {n : Nat} {ps : List MemPlace} (h : Ri v = some (.lit (.int .u64 n), ps)) : v = .int .i64 n := by
  unfold Ri at h
  split at h
  · simp at h
    rename_i m
    obtain ⟨h, _⟩ := h
    have : m = n := by exact Int.ofNat.inj h
    subst this
    rfl
  · cases h
theorem mapD_atz (m : List (Key × Nat)) (k : Key) : (mapD m).atKey (.string k) (.lit (.int .u64 0)) = .lit (.int .u64 ((kget m k).getD 0 : Nat)) := by
  simp only [mapD, DataW.atKey, kget, List.find?_map, Function.comp_def, Lit.sameKey]
  cases h : m.find? fun p => p.1 == k <;> simp [h]

theorem length_sub {α : Type} : ∀ (U : List Key) (m : List (Key × α)), Rising m → (∀ p ∈ m, p.1 ∈ U) → m.length ≤ U.length
  | [], m, _, h => by
    cases m with
    | nil => exact Nat.le_refl _
    | cons p r => exact absurd (h p (by simp)) (by simp)
  | u :: U, m, hr, h => by
    have h1 := length_sub U (kdel m u) (hr.del u) (fun p hp => by
      have h2 := mem_kdel.1 hp
      rcases List.mem_cons.1 (h p h2.1) with h3 | h3
      · exact absurd h3 h2.2
      · exact h3)
    have h4 : m.length ≤ (kdel m u).length + 1 := by
      cases hg : kget m u with
      | none => rw [kdel_none hg]; omega
      | some v =>
        have := ksum_del (fun _ => 1) hr hg
        have e : ∀ l : List (Key × α), ksum (fun _ => 1) l = l.length := fun l => by
          unfold ksum
          induction l with
          | nil => rfl
          | cons y r ih => simp at ih ⊢; omega
        rw [e, e] at this
        omega
    simp only [List.length_cons]
    omega
def U5 : List Key := [kb 1 2, kb 2 3, kb 3 2, kb 3 4, kb 4 5]

/-- Block b of W is a map of these pairs to 1, and of no others. -/
structure Mp (w0 : World) (b : Nat) (S : List Key) (W : World) : Prop where
  below : Below w0.heap.size w0 W
  ge : w0.heap.size ≤ b
  sub : ∀ k ∈ S, k ∈ U5
  map : ∃ m : List (Key × Nat), W.ownsMap Try.prog 85 Ri b 5 (mapD m) ∧ Rising m ∧ ∀ k, kget m k = if k ∈ S then some 1 else none
theorem Mp.look {w0 W : World} {b : Nat} {S : List Key} (h : Mp w0 b S W) (x y : Int) (hx : In64 x) (hy : In64 y) :
    (Instr.lookup 83 (.map (some b)) (pr x y) false).run Try.prog W = .ok (.int .i64 (if kb x y ∈ S then 1 else 0)) W := by
  obtain ⟨m, hm, hr, hk⟩ := h.map
  obtain ⟨v, ps, hrun, hv⟩ := World.ownsMap.lookup hm (Keyed.of_law pairLaw) (t := 83) (e := 3) (by kernel_rfl) (z := .int .i64 0) (by kernel_rfl) (zd := .lit (.int .u64 0)) (zp := []) rfl (keyOf_pr x y hx hy)
  rw [mapD_atz] at hv
  rw [hrun, Ri_inv hv, hk]
  split <;> rfl
theorem Mp.ins {w0 W : World} {b : Nat} {S : List Key} (h : Mp w0 b S W) (x y : Int) (hx : In64 x) (hy : In64 y) (hU : kb x y ∈ U5) :
    ∃ W', (Instr.mapUpdate 83 (.map (some b)) (pr x y) (.int .i64 1)).run Try.prog W = .ok () W' ∧ Mp w0 b (kb x y :: S) W' := by
  obtain ⟨m, hm, hr, hk⟩ := h.map
  obtain ⟨W', hrun, hown, hT⟩ := World.ownsMap.store hm (Keyed.of_law pairLaw) (t := 83) (e := 3) (by kernel_rfl) (by unfold maxLen; omega) (keyOf_pr x y hx hy) (val := .int .i64 1) (d := .lit (.int .u64 (1 : Nat))) (ps := []) rfl
  rw [mapD_put] at hown
  have hkk : ∀ k, kget (kput m (kb x y) 1) k = if k ∈ kb x y :: S then some 1 else none := fun k => by
    by_cases he : k = kb x y
    · subst he
      rw [kget_put_self hr]
      simp
    · rw [kget_put_other hr _ he, hk]
      simp [he]
  have hsub : ∀ k ∈ kb x y :: S, k ∈ U5 := fun k hk => by
    rcases List.mem_cons.1 hk with rfl | hk
    · exact hU
    · exact h.sub k hk
  have hlen : (kput m (kb x y) 1).length ≤ 5 := length_sub U5 _ (hr.put _ _) fun p hp => by
    have h1 := kget_of_mem (hr.put (kb x y) 1) (k := p.1) (v := p.2) hp
    rw [hkk] at h1
    by_cases h2 : p.1 ∈ kb x y :: S
    · exact hsub _ h2
    · rw [if_neg h2] at h1; cases h1
  refine ⟨W', hrun, h.below.grown (turned_grown hT) h.below.size (fun k hk => by
    injection hk with hk
    have := h.ge
    omega), h.ge, hsub, kput m (kb x y) 1, ?_, hr.put _ _, hkk⟩
  obtain ⟨es, c, hb, F, hs, hD⟩ := hown
  refine ⟨es, c, hb, F, ?_, hD⟩
  have h1 := congrArg Maps.size hD
  rw [mapD_size, Maps.size_eq, length_read] at h1
  omega
theorem Mp.made (w : World) : Mp w w.heap.size [] (w.alloc (.map #[] 0)) := by
  obtain ⟨es, c, hb, F, hs, hD⟩ := World.ownsMap_made w Try.prog 85 Ri
  exact ⟨(Below.refl _ _).alloc (Nat.le_refl _) _, Nat.le_refl _, by simp, [], ⟨es, c, hb, F, Nat.le_trans hs (by omega), hD⟩, List.Pairwise.nil, fun k => rfl⟩
theorem Mp.drew {w0 W : World} {b : Nat} {S : List Key} (h : Mp w0 b S W) : Mp w0 b S W.drew := by
  obtain ⟨m, ⟨es, c, hb, r⟩, hm⟩ := h.map
  exact ⟨h.below.drew, h.ge, h.sub, m, ⟨es, c, hb, r⟩, hm⟩
theorem Mp.undrew {w0 W : World} {b : Nat} {S : List Key} (h : Mp w0 b S W.drew) : Mp w0 b S W := by
  obtain ⟨m, ⟨es, c, hb, r⟩, hm⟩ := h.map
  exact ⟨⟨h.below.os, h.below.tape, h.below.output, h.below.size, h.below.block⟩, h.ge, h.sub, m, ⟨es, c, hb, r⟩, hm⟩

/-! ### the world behind an insert, as a term -/
def Gd (w0 : World) (b : Nat) (W : World) : Prop := ∃ S : List Key, Mp w0 b S W
open Classical in
noncomputable def after (w0 : World) (b : Nat) (x y : Int) (W : World) : World :=
  if h : Gd w0 b W ∧ ∃ W', (Instr.mapUpdate 83 (.map (some b)) (pr x y) (.int .i64 1)).run Try.prog W = .ok () W' then h.2.choose else W
theorem after_run {w0 W : World} {b : Nat} {S : List Key} (h : Mp w0 b S W) (x y : Int) (hx : In64 x) (hy : In64 y) (hU : kb x y ∈ U5) : (Instr.mapUpdate 83 (.map (some b)) (pr x y) (.int .i64 1)).run Try.prog W = .ok () (after w0 b x y W) ∧ Mp w0 b (kb x y :: S) (after w0 b x y W) := by
  obtain ⟨W', h1, h2⟩ := h.ins x y hx hy hU
  have hex : ∃ W', (Instr.mapUpdate 83 (.map (some b)) (pr x y) (.int .i64 1)).run Try.prog W = .ok () W' := ⟨W', h1⟩
  have e : after w0 b x y W = W' := by
    unfold after
    rw [dif_pos ⟨⟨S, h⟩, hex⟩]
    have h3 := hex.choose_spec
    have h5 := h3.symm.trans h1
    injection h5
  rw [e]
  exact ⟨h1, h2⟩
theorem after_gd (w0 W : World) (b : Nat) (x y : Int) (hx : In64 x) (hy : In64 y) (hU : kb x y ∈ U5) : Gd w0 b (after w0 b x y W) = Gd w0 b W := by
  refine propext ⟨fun h => ?_, fun ⟨S, h⟩ => ⟨_, (after_run h x y hx hy hU).2⟩⟩
  by_cases hg : Gd w0 b W
  · exact hg
  · unfold after at h
    rw [dif_neg (fun hh => hg hh.1)] at h
    exact h
theorem drew_gd (w0 W : World) (b : Nat) : Gd w0 b W.drew = Gd w0 b W := propext ⟨fun ⟨S, h⟩ => ⟨S, h.undrew⟩, fun ⟨S, h⟩ => ⟨S, h.drew⟩⟩
theorem ins_run {w0 : World} (b : Nat) (x y : Int) (hx : In64 x) (hy : In64 y) (hU : kb x y ∈ U5) (W : World) (h : Gd w0 b W) : (Instr.mapUpdate 83 (.map (some b)) (.agg #[.int .i64 x, .int .i64 y]) (.int .i64 1)).run Try.prog W = .ok () (after w0 b x y W) := by
  obtain ⟨S, h⟩ := h
  exact (after_run h x y hx hy hU).1

def Nx (w : World) (e : Ending) (w' : World) : Prop := ∃ b, e = .returned (.map (some b)) ∧ ∃ S, Mp w b S w' ∧ ∀ k, k ∈ S ↔ k ∈ U5

theorem mp_ex {w W : World} {b : Nat} {S : List Key} (h : Mp w b S W) (hp : ∀ k, k ∈ S ↔ k ∈ U5) : ∃ S, Mp w b S W ∧ ∀ k, k ∈ S ↔ k ∈ U5 := ⟨S, h, hp⟩

attribute [irreducible] after kb

theorem nexts_walk (w : World) : Calls Try.prog 53 #[] w (Nx w) := by
  have hmm := @run_makeMap Try.prog
  have i64 : ∀ n : Int, 0 ≤ n → n ≤ 9 → In64 n := fun n h1 h2 => ⟨by omega, by omega⟩
  have g12 := fun W => after_gd w W w.heap.size 1 2 (i64 1 (by omega) (by omega)) (i64 2 (by omega) (by omega)) (by simp [U5])
  have g23 := fun W => after_gd w W w.heap.size 2 3 (i64 2 (by omega) (by omega)) (i64 3 (by omega) (by omega)) (by simp [U5])
  have g32 := fun W => after_gd w W w.heap.size 3 2 (i64 3 (by omega) (by omega)) (i64 2 (by omega) (by omega)) (by simp [U5])
  have g34 := fun W => after_gd w W w.heap.size 3 4 (i64 3 (by omega) (by omega)) (i64 4 (by omega) (by omega)) (by simp [U5])
  have g45 := fun W => after_gd w W w.heap.size 4 5 (i64 4 (by omega) (by omega)) (i64 5 (by omega) (by omega)) (by simp [U5])
  have gd := fun W => drew_gd w W w.heap.size
  have g0 : Gd w w.heap.size (w.alloc (.map #[] 0)) := ⟨[], Mp.made w⟩
  have g1 : Gd w w.heap.size (w.drew.alloc (.map #[] 0)) := ⟨[], Mp.drew (Mp.made w)⟩
  have r12 := ins_run (w0 := w) w.heap.size 1 2 (i64 1 (by omega) (by omega)) (i64 2 (by omega) (by omega)) (by simp [U5])
  have r23 := ins_run (w0 := w) w.heap.size 2 3 (i64 2 (by omega) (by omega)) (i64 3 (by omega) (by omega)) (by simp [U5])
  have r32 := ins_run (w0 := w) w.heap.size 3 2 (i64 3 (by omega) (by omega)) (i64 2 (by omega) (by omega)) (by simp [U5])
  have r34 := ins_run (w0 := w) w.heap.size 3 4 (i64 3 (by omega) (by omega)) (i64 4 (by omega) (by omega)) (by simp [U5])
  have r45 := ins_run (w0 := w) w.heap.size 4 5 (i64 4 (by omega) (by omega)) (i64 5 (by omega) (by omega)) (by simp [U5])
  have a12 : ∀ S W, Mp w w.heap.size S W → Mp w w.heap.size (kb 1 2 :: S) (after w w.heap.size 1 2 W) := fun S W h => (after_run h 1 2 (i64 1 (by omega) (by omega)) (i64 2 (by omega) (by omega)) (by simp [U5])).2
  have a23 : ∀ S W, Mp w w.heap.size S W → Mp w w.heap.size (kb 2 3 :: S) (after w w.heap.size 2 3 W) := fun S W h => (after_run h 2 3 (i64 2 (by omega) (by omega)) (i64 3 (by omega) (by omega)) (by simp [U5])).2
  have a32 : ∀ S W, Mp w w.heap.size S W → Mp w w.heap.size (kb 3 2 :: S) (after w w.heap.size 3 2 W) := fun S W h => (after_run h 3 2 (i64 3 (by omega) (by omega)) (i64 2 (by omega) (by omega)) (by simp [U5])).2
  have a34 : ∀ S W, Mp w w.heap.size S W → Mp w w.heap.size (kb 3 4 :: S) (after w w.heap.size 3 4 W) := fun S W h => (after_run h 3 4 (i64 3 (by omega) (by omega)) (i64 4 (by omega) (by omega)) (by simp [U5])).2
  have a45 : ∀ S W, Mp w w.heap.size S W → Mp w w.heap.size (kb 4 5 :: S) (after w w.heap.size 4 5 W) := fun S W h => (after_run h 4 5 (i64 4 (by omega) (by omega)) (i64 5 (by omega) (by omega)) (by simp [U5])).2
  have m0 : Mp w w.heap.size [] (w.alloc (.map #[] 0)).drew := (Mp.made w).drew
  have m1 : Mp w w.heap.size [] (w.drew.alloc (.map #[] 0)) := Mp.drew (Mp.made w)
  have A12 := hid a12
  have A23 := hid a23
  have A32 := hid a32
  have A34 := hid a34
  have A45 := hid a45
  have M0 := hid m0
  have M1 := hid m1
  clear i64 a12 a23 a32 a34 a45 m0 m1
  go_enter Try.func53, Try.ntmps53
  go_upto_region 1 with fail
  go_cut [0] (fun s0 wx => s0 = .map (some w.heap.size) ∧ ∃ S, Mp w w.heap.size S wx ∧ ∀ k, k ∈ S ↔ k ∈ U5)
  case first =>
    go_region
    all_goals clear r12 r23 r32 r34 r45 g12 g23 g32 g34 g45 gd g0 g1 hmm
    all_goals
      go_wp2_with fail
      go_meet
      refine ⟨rfl, ?_⟩
      apply mp_ex
      · repeat first | exact M0.out | exact M1.out | apply A12.out | apply A23.out | apply A32.out | apply A34.out | apply A45.out
      · intro k
        simp only [U5, List.mem_cons, List.not_mem_nil, or_false]
        try exact iff_of_eq (by ac_rfl)
  case rest =>
    obtain ⟨rfl, S, h1, h2⟩ := hcut
    clear r12 r23 r32 r34 r45 g12 g23 g32 g34 g45 gd g0 g1 hmm
    go_wp2
    go_ret
    exact ⟨_, rfl, S, h1, h2⟩
end Go.Proofs.Ytjmcnhpffpcboaa
