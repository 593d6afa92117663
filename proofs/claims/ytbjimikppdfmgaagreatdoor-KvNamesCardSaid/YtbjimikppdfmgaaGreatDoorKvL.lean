/- Walk of kv.load where there is a file of frames. -/
import Derived.Test.YtbjimikppdfmgaaGreatDoorKvI
import Derived.Test.YtbjimikppdfmgaaGreatDoorKv7
import Derived.Stop.RegionWithIn
import Derived.Maps.AppendAt
set_option linter.unusedVariables false
set_option linter.unusedSimpArgs false
set_option maxHeartbeats 6400000
set_option maxRecDepth 100000
namespace Go.Proofs.YtbjimikppdfmgaaGreatDoor
open Go Go.RowKit
attribute [local go_sem] Oper.semAt_some

/-- A row of bytes, as the iterator reads it. -/
theorem left_row {w : World} {base n c : Nat} {A : Option Addr} {l : List UInt8} (h : w.ownsRow base 5 1 (.slice A n c) l.length (l.map B8)) (hl : l.length ≤ 100000000) (x : Nat) {tx : TypeId} {cx : Array Value} (hx : Blk w x tx cx) :
    n = l.length ∧ ∃ dk, dk < w.heap.size ∧ (∃ t cs, Blk w dk t cs) ∧ Left w.heap.size dk (w.alloc (.cells #[.slice A n c] 60)) A c l := by
  have hB := bytesAt_row h
  obtain ⟨rfl, hat⟩ := hB
  refine ⟨rfl, ?_⟩
  have hb : Below w.heap.size w (w.alloc (.cells #[.slice A l.length c] 60)) := (Below.refl _ _).alloc (Nat.le_refl _) _
  rcases h.2 with ⟨h1, h2⟩ | ⟨g, cap, cur, hv, hbg, hh, hnc, hm, r⟩
  · simp only [Value.slice.injEq] at h1
    obtain ⟨rfl, h1, rfl⟩ := h1
    exact ⟨x, hx.lt, ⟨_, _, hx⟩, Blk.new _ _ _, hat.below hb, fun p hp => by simp at hp, by omega, hl⟩
  · simp only [Value.slice.injEq] at hv
    obtain ⟨rfl, -, rfl⟩ := hv
    exact ⟨g, (Array.getElem?_eq_some_iff.1 hh).1, ⟨_, _, hh⟩, Blk.new _ _ _, hat.below hb, fun p hp => by injection hp with hp; rw [← hp], by unfold maxLen at hm; omega, hl⟩
/-- A drive, blocks beside it and a map, the drive's blocks named. -/
structure LI (w0 : Fr) (g : Nat) (d : Dr) (fp : Nat → Prop) (X : List Xc) (mb : Nat) (m : KM) (A : World) : Prop where
  dr : IsDrive A g d fp
  ke : w0.kept A
  xs : ∀ x ∈ X, Blk A x.1 x.2.1 x.2.2
  mp : OwnS Tryz.prog 9 A mb m
section
variable {w0 : Fr} {g mb : Nat} {d : Dr} {fp : Nat → Prop} {X : List Xc} {m : KM} {A C : World}
theorem LI.low (h : LI w0 g d fp X mb m A) {Z : Nat} (hw : w0.w.heap.size ≤ Z) (hf : ∀ k, fp k → k < Z) (hX : ∀ x ∈ X, x.1 < Z) (hm : mb < Z) (ho : C.os = A.os) (ht : C.tape = A.tape) (hu : C.output = A.output) (hs : A.heap.size ≤ C.heap.size) (hk : ∀ k, k < Z → C.heap[k]? = A.heap[k]?) : LI w0 g d fp X mb m C :=
  ⟨h.dr.keep hs (fun k hk' => hk k (hf k hk')), ⟨ho.trans h.ke.os, ht.trans h.ke.tape, hu.trans h.ke.output, Nat.le_trans h.ke.size hs, fun k hk1 hp => (hk k (by omega)).trans (h.ke.block k hk1 hp)⟩, fun x hx => (hk x.1 (hX x hx)).trans (h.xs x hx), h.mp.kept (hk mb hm)⟩
theorem LI.did (h : LI w0 g d fp X mb m A) {m' : KM} (hm : OwnS Tryz.prog 9 C mb m') (ht : Touch A C (fun k => k = mb) (fun k => k = mb)) (hf : ¬ fp mb) (hfr : w0.free mb) : LI w0 g d fp X mb m' C :=
  ⟨h.dr.keep ht.size fun k hk => ht.block k (h.dr.lt k hk) (by rintro rfl; exact hf hk), h.ke.touch ht (fun k hk => by rw [hk]; exact hfr), fun x hx => (ht.block x.1 (h.xs x hx).lt (h.mp.not_blk (h.xs x hx))).trans (h.xs x hx), hm⟩
end
theorem kv_writes (A : Option Addr) (n c : Nat) (w : World) : Calls Tryz.prog 52 #[.slice A n c] w fun e w' => e = .returned (.func (.func 78) #[] #[.pointer (some ⟨w.heap.size, 0, none⟩)]) ∧ w' = w.alloc (.cells #[.slice A n c] 60) := by
  have hmf : ∀ (fn : Fn) (first cap : Array Value) (w : World), (Instr.makeFunc fn first cap).run Tryz.prog w = .ok (.func fn first cap) w := fun _ _ _ _ => rfl
  go_enter Tryz.func52, Tryz.ntmps52
  go_wp2
  go_ret
  exact ⟨rfl, rfl⟩
section
variable {w0 : Fr} {W : World} {g N mb sb : Nat} {d : Dr} {X : List Xc} {m : KM} {name : Key} {dead : Bool}
theorem kv_load_file (h : MW w0 g d N X mb m W) (hs : (sb, 52, storeCells g name mb dead) ∈ X) (en : List UInt8) (hN : N ≤ 1000000000) (hn : name.length ≤ 1000) (he : en.length ≤ 1000) (bs : List (List Wr)) (hE : d.readE (fileN name en) = 0) (hR : d.read (fileN name en) = framesB bs)
    (hk : ∀ x ∈ bs.flatten, 1 ≤ x.key.length ∧ x.key.length < 65536) (hbl : (framesB bs).length ≤ 100000000) (hcnt : m.length + bs.flatten.length ≤ 1000000) :
    Calls Tryz.prog 22 #[.pointer (some ⟨sb, 0, none⟩), .string (S en)] W fun e w' => e = .returned (.int .i64 0) ∧ MW w0 g d N X mb (doB m bs.flatten) w' := by
  have M1 := h.with_ 24 #[.pointer (some ⟨sb, 0, none⟩)]
  have M2a : MW w0 g d N ((W.heap.size + 1, 25, #[.int .i64 0]) :: (W.heap.size, 24, #[.pointer (some ⟨sb, 0, none⟩)]) :: X) mb m ((W.alloc (.cells #[.pointer (some ⟨sb, 0, none⟩)] 24)).alloc (.cells #[.int .i64 0] 25)) := by simpa using M1.with_ 25 #[.int .i64 0]
  have M2 := M2a.below (below_drew1 (Below.refl _ _))
  have RD := M2.read hN (fileN name en) (by unfold fileN; simp; omega)
  rw [hE, hR] at RD
  obtain ⟨s0, s1, s2, s3⟩ := store4 (M2.blk (x := (sb, 52, storeCells g name mb dead)) (by simp [hs]))
  have hbox := box1 (M2.blk (x := (W.heap.size, 24, #[.pointer (some ⟨sb, 0, none⟩)])) (by simp))
  have RDH := hid RD
  have HSB := hid (fun (W' : World) (h : MW w0 g d N ((W.heap.size + 1, 25, #[.int .i64 0]) :: (W.heap.size, 24, #[.pointer (some ⟨sb, 0, none⟩)]) :: X) mb m W') => And.intro (box1 (h.blk (x := (W.heap.size, 24, #[.pointer (some ⟨sb, 0, none⟩)])) (by simp))) (store4 (h.blk (x := (sb, 52, storeCells g name mb dead)) (by simp [hs]))))
  have HK := hid hk
  have HS := hid hs
  clear RD M2 M2a M1 h hE hR hk hs
  refine (callsIn_wide (n := 8)).1 ?_
  refine callsIn_of_wp_marks Tryz.func22 rfl trivial ?_ rfl
  simp only [Tryz.ntmps22, List.size_toArray, List.length_cons, List.length_nil, Nat.reduceAdd, Nat.reduceSub, Array.replicate_succ, Array.replicate_zero, List.push_toArray, List.append_toArray, List.nil_append, List.cons_append]
  refine wpIn_wide.2 ?_
  go_wp2
  go_region_held3 (fun w' => w'.cell? ⟨W.heap.size, 0, none⟩ = some (.pointer (some ⟨sb, 0, none⟩)) ∧ w'.cell? ⟨sb, 0, none⟩ = some (.pointer (some ⟨g, 0, none⟩))) (simp [*, go_sem, World.cell?_alloc_past]) (first
    | (go_at_call 26; refine (kv_file _ sb name en (by assumption) hn he).mono ?_; rintro e w' ⟨rfl, rfl⟩)
    | (go_at_call 51; refine RDH.out.mono ?_; rintro e w3 ⟨v, rfl, hr3, hb3, hM3⟩; obtain ⟨hq, s0', s1', s2', s3'⟩ := HSB.out _ hM3))
  obtain ⟨A, c, rfl⟩ := row_form hr3
  obtain ⟨-, dk, hdk, hdkB, hLf⟩ := left_row hr3 hbl sb (hM3.blk (x := (sb, 52, storeCells g name mb dead)) (by simp [HS.out]))
  have HLF := hid hLf
  have HM3 := hid hM3
  clear hr3 hLf hM3 hb3 RDH HSB hq s0' s1' s2' s3' hbox s0 s1 s2 s3
  go_wp2_with fail
  refine (kv_writes _ _ _ _).mono ?_
  rintro e w4 ⟨rfl, rfl⟩
  go_wp2
  obtain ⟨X', hX'⟩ : ∃ X' : List Xc, X' = ((W.heap.size + 1, 25, #[.int .i64 0]) :: (W.heap.size, 24, #[.pointer (some ⟨sb, 0, none⟩)]) :: X) := ⟨_, rfl⟩
  rw [← hX'] at HM3
  obtain ⟨fp, k1, k2, k3, k4, k5, k6, k7, k8⟩ := HM3.out
  have hb4 : Below w3.heap.size w3 (w3.alloc (.cells #[.slice A (framesB bs).length c] 60)) := (Below.refl _ _).alloc (Nat.le_refl _) _
  have L0 : LI w0 g d fp X' mb m (w3.alloc (.cells #[.slice A (framesB bs).length c] 60)) := ⟨k1.below hb4, k3.below hb4, fun x hx => (k5 x hx).2.below hb4 (k5 x hx).2.lt, k8.kept (hb4.block mb k8.lt)⟩
  have LOW := hid (fun (m' : KM) (B C : World) (hB : LI w0 g d fp X' mb m' B) (ho : C.os = B.os) (ht : C.tape = B.tape) (hu : C.output = B.output) (hs : B.heap.size ≤ C.heap.size) (hkk : ∀ k, k < w3.heap.size → C.heap[k]? = B.heap[k]?) => hB.low (Z := w3.heap.size) k3.size k1.lt (fun x hx => (k5 x hx).2.lt) k8.lt ho ht hu hs hkk)
  obtain ⟨tdk, cdk, hdkB⟩ := hdkB
  have hdm : dk ≠ mb := k8.not_blk hdkB
  have hbm : mb < w3.heap.size := k8.lt
  have hXm := hid (show (W.heap.size, 24, #[.pointer (some ⟨sb, 0, none⟩)]) ∈ X' ∧ (sb, 52, storeCells g name mb dead) ∈ X' by rw [hX']; simp [HS.out])
  have hne : dk ≠ w3.heap.size := by omega
  have LH0 := hid L0
  have HLD := hid (fun (m' : KM) (B C : World) (hB : LI w0 g d fp X' mb m' B) (m'' : KM) (hm : OwnS Tryz.prog 9 C mb m'') (ht : Touch B C (fun k => k = mb) (fun k => k = mb)) => hB.did hm ht k6 k7)
  have HKE := hid (And.intro k2 (And.intro k4 (And.intro (fun x hx => (k5 x hx).1) (And.intro k6 k7))))
  clear L0 k1 k2 k3 k4 k5 k6 k7 k8 hb4 hdkB HM3
  refine (wpIn_wide (n := 8)).1 ?_
  refine wpIn_rangeFunc_run (F := Fence.wide) rfl (by omega) (gf := 78) (lb := #[.pointer (some ⟨w3.heap.size, 0, none⟩)]) rfl trivial (enters_of Tryz.func78 (by kernel_rfl) rfl) (encs := wEnc) (bb := w3.heap.size) (Kp := WKp w3.heap.size dk) (S := fun xs => xs = bs.flatten) (Sp := fun _ => True) (Nx := fun pre x => bs.flatten[pre.length]? = some x) (by simp)
    (fun o => kv_writes1 w3.heap.size dk c A bs _ (HLF.out.keep (by simp) ((Below.heap_alloc _ _ _ (by simp; omega)).trans (Below.heap_alloc _ _ _ (by simp))) ((Below.heap_alloc _ _ _ (by simp; omega)).trans (Below.heap_alloc _ _ _ (by simp; omega)))) hne (by simp; omega) HK.out _)
    (fun h k => ⟨Nat.le_trans h.1 k.1, k.2.1.trans h.2.1, k.2.2.trans h.2.2⟩) (fun Wz l o' hl => ⟨by simp, World.putObj_heap_other (by simp at hl; omega), World.putObj_heap_other (by simp at hl; omega)⟩) (fun x => rfl)
    (fun pre Wz => LI w0 g d fp X' mb (doB m pre) Wz ∧ pre <+: bs.flatten) (fun _ _ _ => False)
    (fun p B C hB hs => ⟨LOW.out _ _ _ hB.1 hs.os hs.tape hs.output hs.size (fun k hk => hs.block k (by simp; omega) (by omega)), hB.2⟩) (fun _ _ _ _ h _ => h) ⟨LH0.out, List.nil_prefix⟩
    (fun x a' Wz => ∃ Bx, w3.heap.size + 2 < Bx ∧ Blk Wz Bx 31 #[.string (S x.key), .string (S x.val), .bool x.gone] ∧ a' = { tmps := #[.pointer (some ⟨sb, 0, none⟩), .string (S en), .pointer (some ⟨W.heap.size, 0, none⟩), undef, .pointer (some ⟨W.heap.size + 1, 0, none⟩), .slice A (framesB bs).length c, .int .i64 0, .pointer (some ⟨Bx, 0, none⟩), .bool true, .tuple #[.slice A (framesB bs).length c, .int .i64 0], .pointer (some ⟨sb, 0, none⟩), .pointer (some ⟨sb, 0, none⟩), .pointer (some ⟨sb, 0, none⟩), .pointer (some ⟨g, 0, none⟩), .pointer (some ⟨sb, 0, none⟩), .string (S en), .string (S (fileN name en)), .tuple #[.slice A (framesB bs).length c, .int .i64 0], .slice A (framesB bs).length c, .int .i64 0, .int .i64 0, .bool false, undef, undef, undef, .slice A (framesB bs).length c, .func (.func 78) #[] #[.pointer (some ⟨w3.heap.size, 0, none⟩)], .agg #[.string (S x.key), .string (S x.val), .bool x.gone], .bool true, undef, undef, undef, undef, undef, undef, undef, undef], defers := [] })
    ?hAx ?assign ?body ?done ?stop
  case hAx =>
    rintro x a' Bw r o' ⟨Bx, h1, h2, h3⟩ hl
    refine ⟨Bx, h1, ?_, h3⟩
    exact (World.putObj_heap_other (by simp at hl ⊢; omega)).trans h2
  case assign =>
    rintro l pre ⟨xk, xv, xg⟩ Wz K hsz hI hnx hK
    simp at hsz
    simp only [wEnc]
    gi_wp2
    have hbl : Below Wz.heap.size Wz (Wz.alloc (.cells #[.string (S xk), .string (S xv), .bool xg] 31)) := (Below.refl _ _).alloc (Nat.le_refl _) _
    refine hK _ _ ((KeepsOthers.alloc _ _).from _) ⟨by simp, hbl.block _ (by omega), hbl.block _ (by omega)⟩ ⟨LOW.out _ _ _ hI.1 rfl rfl rfl (by simp) (fun k hk => hbl.block k (by omega)), hI.2⟩ ⟨Wz.heap.size, by omega, Blk.new _ _ _, rfl⟩
  case body =>
    rintro l pre ⟨xk, xv, xg⟩ a' Wz hsz ⟨hLI, hpre⟩ ⟨Bx, hBx, hBk, rfl⟩ hnx
    simp at hsz
    have hc0 := box1 (hLI.xs _ hXm.out.1)
    obtain ⟨y0, y1, y2, y3⟩ := store4 (hLI.xs _ hXm.out.2)
    have z0 := hBk.cell 0
    have z1 := hBk.cell 1
    have z2 := hBk.cell 2
    simp at z0 z1 z2
    have hmem : (⟨xk, xv, xg⟩ : Wr) ∈ bs.flatten := List.mem_of_getElem? hnx
    have hkl := HK.out _ hmem
    simp only [] at hkl
    have hpl : pre.length ≤ bs.flatten.length := hpre.length_le
    have hdl := doB_len m pre
    have DO := hid (fun (Wy : World) (hy : OwnS Tryz.prog 9 Wy mb (doB m pre)) => kv_do Wy mb (doB m pre) ⟨xk, xv, xg⟩ hy (by omega) (by simp only []; omega))
    have HLI := hid hLI
    have HSN := hid (show doB m (pre ++ [⟨xk, xv, xg⟩]) = doW (doB m pre) ⟨xk, xv, xg⟩ from doB_snoc _ _ _)
    have HPN := hid (show pre ++ [(⟨xk, xv, xg⟩ : Wr)] <+: bs.flatten by
      obtain ⟨r, hr⟩ := hpre
      rw [← hr] at hnx ⊢
      rw [List.getElem?_append_right (Nat.le_refl _), Nat.sub_self] at hnx
      cases r with
      | nil => simp at hnx
      | cons y r =>
        simp at hnx
        subst hnx
        exact ⟨r, by simp⟩)
    clear hLI hpre hBk hmem hnx hdl hpl hkl y1 y3
    gi_wp2
    have hfw : Fence.wide.fn 38 := trivial
    have hfd : Fence.wide.depth.isSome = false := rfl
    have DOX := hid (CallsIn.inRound l ((callsIn_wide (n := 5)).2 (DO.out Wz.drew (HLI.out.mp.kept rfl))))
    gi_region_with (gi_at_call 38; refine DOX.out.mono ?_; rintro e w9 ⟨rfl, ho9, ht9⟩)
    all_goals
      have hsz9 := ht9.size
      have hz : Wz.drew.heap.size = Wz.heap.size := rfl
      have L9 := hid (HLD.out _ Wz.drew w9 (LOW.out _ Wz Wz.drew HLI.out rfl rfl rfl (Nat.le_refl _) (fun _ _ => rfl)) _ ho9 ht9)
      have K9 := hid (show KeepsFrom (w3.alloc (.cells #[.slice A (framesB bs).length c] 60)).heap.size Wz w9 ∧ WKp w3.heap.size dk Wz w9 from ⟨⟨hsz9, fun k o hk ho _ => (ht9.block k (Array.getElem?_eq_some_iff.1 ho).1 (by rintro rfl; simp at hk; omega)).trans ho⟩, hsz9, ht9.block _ (by omega) (by omega), ht9.block _ (by omega) (by omega)⟩)
      clear ho9 ht9
      gi_wp2
      exact ⟨K9.out.1, K9.out.2, by rw [HSN.out]; exact L9.out, HPN.out⟩
  case done =>
    rintro D ys Wz hD hys ⟨hLI, -⟩ hK
    have hbE : Blk Wz (W.heap.size + 1) 25 #[.int .i64 0] := hLI.xs (W.heap.size + 1, 25, #[.int .i64 0]) (by rw [hX']; simp)
    have r0 := hbE.cell 0
    have f0 := hbE.frozen 0
    simp at r0
    have hbS : Blk (Wz.setCell ⟨W.heap.size + 1, 0, none⟩ (.int .i64 0)) (W.heap.size + 1) 25 #[.int .i64 0] := by simpa using hbE.set_ 0 (.int .i64 0)
    have hall : ∀ k, (Wz.setCell ⟨W.heap.size + 1, 0, none⟩ (.int .i64 0)).heap[k]? = Wz.heap[k]? := fun k => by
      by_cases hk : k = W.heap.size + 1
      · rw [hk]; exact hbS.trans hbE.symm
      · exact Below.heap_setCell _ _ _ _ hk
    have hKf := (hall D).trans hK
    have hLf := hid (LOW.out _ Wz ((Wz.setCell ⟨W.heap.size + 1, 0, none⟩ (.int .i64 0)).putObj D (.deferred none)) hLI rfl rfl rfl (by simp [World.setCell]) (fun k hk => (World.putObj_heap_other (by simp at hD; omega)).trans (hall k)))
    have hrc : ((Wz.setCell ⟨W.heap.size + 1, 0, none⟩ (.int .i64 0)).putObj D (.deferred none)).cell? ⟨W.heap.size + 1, 0, none⟩ = some (.int .i64 0) := by
      have hne : D ≠ W.heap.size + 1 := by rintro rfl; rw [hbE] at hK; cases hK
      exact (World.cell?_of_block (a := ⟨W.heap.size + 1, 0, none⟩) (World.putObj_heap_other (Ne.symm hne))).trans (hbS.cell 0)
    have HHI := hid hLI
    have hrun := hid (run_takeDeferred (P := Tryz.prog) hKf)
    clear hLI hK hall hKf hbS hbE
    go_wp2
    refine ⟨by simp, .inl ⟨_, _, rfl, hrun.out, ?_⟩⟩
    obtain ⟨q2, q4, q5, q6, q7⟩ := HKE.out
    refine ⟨.int .i64 0, by simp [results, Tryz.results22, go_sem, hrc], rfl, fp, hLf.out.dr, q2, hLf.out.ke, q4, fun x hx => ?_, q6, q7, by rw [← hys]; exact hLf.out.mp⟩
    have hx' : x ∈ X' := by rw [hX']; simp [hx]
    exact ⟨q5 x hx', hLf.out.xs x hx'⟩
  case stop =>
    rintro D cc pre Wz _ _ hh _
    exact hh.elim
end
end Go.Proofs.YtbjimikppdfmgaaGreatDoor
