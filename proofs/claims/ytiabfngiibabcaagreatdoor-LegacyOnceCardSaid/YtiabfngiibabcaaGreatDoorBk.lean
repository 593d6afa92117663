/-
  Walks of slices.Backward at texts, and of legacy's root.
-/
import Derived.Test.YtiabfngiibabcaaGreatDoorM04
import Derived.Test.YtiabfngiibabcaaGreatDoorLgPl
import Derived.Test.YtiabfngiibabcaaGreatDoorCh1
import Derived.Stop.RegionWithIn
set_option linter.unusedVariables false
set_option linter.unusedSimpArgs false
set_option maxHeartbeats 6400000
set_option maxRecDepth 100000
namespace Go.Proofs.YtiabfngiibabcaaGreatDoor
open Go Go.RowKit
attribute [local go_sem] Oper.semAt_some

theorem slices_Backward (A : Option Addr) (n c : Nat) (w : World) : Calls Tryz.prog 170 #[.slice A n c] w fun e w' => e = .returned (.func (.func 208) #[] #[.pointer (some ⟨w.heap.size, 0, none⟩)]) ∧ w' = w.alloc (.cells #[.slice A n c] 39) := by
  have hmf : ∀ (fn : Fn) (first cap : Array Value) (w : World), (Instr.makeFunc fn first cap).run Tryz.prog w = .ok (.func fn first cap) w := fun _ _ _ _ => rfl
  go_enter Tryz.func170, Tryz.ntmps170
  go_wp2
  go_ret
  exact ⟨rfl, rfl⟩
def kEnc (ts : List (List UInt8)) (j : Nat) : Array Value := #[.int .i64 ((ts.length - 1 - j : Nat) : Int), .string (S (ts[ts.length - 1 - j]?.getD []))]
theorem slices_Backward1 (bb g c : Nat) (ts : List (List UInt8)) (A : Option Addr) (hA : 0 < ts.length → A = some ⟨g, 0, none⟩) (W : World) (hb : Blk W bb 39 #[.slice A ts.length c]) (hg : ∀ k, k < ts.length → W.cell? ⟨g, k, none⟩ = some (.string (S (ts[k]?.getD [])))) (hN : ts.length ≤ 1000000) (m : Nat) :
    SeqRun Fence.wide m Tryz.prog 208 #[.pointer (some ⟨bb, 0, none⟩)] (kEnc ts) bb (BKp bb g) (fun xs => xs = List.range ts.length) (fun _ => True) (fun pre x => x = pre.length ∧ pre.length < ts.length) W := by
  intro l J Jx hJ hJx hY h0
  have HA := hid hA
  have HB := hid hb
  have HG := hid hg
  have HYH := hid hY
  have HJ := hid hJ
  have HJ0 := hid h0
  have c0 : W.cell? ⟨bb, 0, none⟩ = some (.slice A ts.length c) := hb.cell 0
  clear hA hb hg hJ hJx hY h0
  obtain ⟨N, hNe⟩ : ∃ N, Hid (N = ts.length) := ⟨_, hid rfl⟩
  rw [← hNe.out] at hN c0 HA HB HG HYH ⊢
  have hw0 : IntKind.i64.wrap ((N : Int) - 1) = (N : Int) - 1 := IntWalk.i64_in _ (by omega)
  refine callsIn_of_wp Tryz.func208 rfl trivial ?_ rfl
  simp only [Tryz.ntmps208, List.size_toArray, List.length_cons, List.length_nil, Nat.reduceAdd, Nat.reduceSub, Array.replicate_succ, Array.replicate_zero, List.push_toArray, List.append_toArray, List.nil_append, List.cons_append]
  gi_wp2
  gi_loopw [3] (fun i wr => ∃ k : Nat, k ≤ N ∧ i = .int .i64 ((N : Int) - 1 - k) ∧ Hid (Blk wr bb 39 #[.slice A N c]) ∧ Hid (∀ k, k < N → wr.cell? ⟨g, k, none⟩ = some (.string (S (ts[k]?.getD [])))) ∧ Hid (J (List.range k) wr)) (fun i _ => (intOf i + 1).toNat)
  case atStart => exact ⟨0, by omega, by simp, HB, HG, HJ0⟩
  case round =>
    obtain ⟨k, hk, rfl, hB, hS, hj⟩ := hrel
    have hc0 : wr.cell? ⟨bb, 0, none⟩ = some (.slice A N c) := hB.out.cell 0
    by_cases hlt : k < N
    · obtain rfl := HA.out (by omega)
      have e1 : (N : Int) - 1 - k = ((N - 1 - k : Nat) : Int) := by omega
      rw [e1]
      have hc1 : wr.cell? ⟨g, N - 1 - k, none⟩ = some (.string (S (ts[N - 1 - k]?.getD []))) := hS.out _ (by omega)
      have HNX : k = (List.range k).length ∧ (List.range k).length < N := by simp; omega
      obtain ⟨fn, tmps, assign, body, hy, hR⟩ := HYH.out _ k _ hj.out HNX
      have HRR := hid hR
      have hfd : Fence.wide.depth.isSome = false := rfl
      have hkN : N - 1 - k < N := by omega
      clear hR HNX hj
      dsimp only [kEnc] at hy
      rw [← hNe.out] at hy
      have w24 : IntKind.i64.wrap (((N - 1 - k : Nat) : Int) - 1) = (((N - 1 - k : Nat) : Int) - 1) := IntWalk.i64_in _ (by omega)
      have E2 := hid (show (((N - 1 - k : Nat) : Int) - 1) = (N : Int) - 1 - ((k + 1 : Nat) : Int) by omega)
      generalize N - 1 - k = z at *
      generalize ts[z]?.getD [] = tz at *
      clear e1
      gi_wp2_with fail
      refine HRR.out.mono ?_
      rintro e W' (⟨rfl, hJ', hk'⟩ | ⟨rfl, hJx'⟩)
      · have hb2 : Blk W' bb 39 #[.slice (some ⟨g, 0, none⟩) N c] := hk'.2.1.trans hB.out
        have hs2 : ∀ k, k < N → W'.cell? ⟨g, k, none⟩ = some (.string (S (ts[k]?.getD []))) := fun k hk => (World.cell?_of_block (a := ⟨g, k, none⟩) hk'.2.2).trans (hS.out k hk)
        have HJ2 := hid hJ'
        have HB2 := hid hb2
        have HS2 := hid hs2
        have HRN := hid (show List.range (k + 1) = List.range k ++ [k] from List.range_succ)
        clear hk' hJ' hb2 hs2
        gi_wp2
        go_roundw
        case rel => exact ⟨k + 1, by omega, by rw [E2.out], HB2, HS2, by rw [HRN.out]; exact HJ2⟩
        case measure => simp only [intOf]; omega
      · have HJ6 := hid hJx'
        clear hJx'
        gi_wp2
        refine bodyPost_ret (results_none rfl _ _ _) rfl ?_
        exact ⟨⟨_, rfl⟩, .inr ⟨_, trivial, HJ6.out⟩⟩
    · have hke : k = N := by omega
      have e1 : (N : Int) - 1 - k = -1 := by omega
      rw [e1]
      gi_wp2
      go_end0
      refine ⟨⟨_, rfl⟩, .inl ⟨_, by rw [hke], hj.out⟩⟩
def hAt (last : List UInt8) (ts : List (List UInt8)) (j : Nat) : List UInt8 := (ts.drop (ts.length - j)).foldr nodeH last
theorem hAt_zero (last : List UInt8) (ts : List (List UInt8)) : hAt last ts 0 = last := by simp [hAt]
theorem hAt_all (last : List UInt8) (ts : List (List UInt8)) : hAt last ts ts.length = ts.foldr nodeH last := by simp [hAt]
theorem hAt_succ (last : List UInt8) (ts : List (List UInt8)) (j : Nat) (h : j < ts.length) : hAt last ts (j + 1) = nodeH (ts[ts.length - 1 - j]?.getD []) (hAt last ts j) := by
  unfold hAt
  rw [show ts.length - (j + 1) = ts.length - 1 - j by omega, List.drop_eq_getElem_cons (by omega : ts.length - 1 - j < ts.length), List.foldr_cons, show ts.length - 1 - j + 1 = ts.length - j by omega]
  congr 1
  simp [List.getElem?_eq_getElem (by omega : ts.length - 1 - j < ts.length)]
theorem hAt_len (last : List UInt8) (ts : List (List UInt8)) (hl : last.length ≤ 100) (j : Nat) : (hAt last ts j).length ≤ 100 := by
  unfold hAt
  cases ts.drop (ts.length - j) with
  | nil => exact hl
  | cons a r => rw [List.foldr_cons, nodeH_len]; omega
theorem legacy_root (W : World) (tops : List (List UInt8)) (g c : Nat) (hne : tops ≠ []) (hg : ∀ k, k < tops.length → W.cell? ⟨g, k, none⟩ = some (.string (S (tops[k]?.getD [])))) (hc : tops.length ≤ c) (hn : tops.length ≤ 100000) (hl : ∀ t ∈ tops, t.length ≤ 100) (hL : LibL W) :
    Calls Tryz.prog 111 #[.slice (some ⟨g, 0, none⟩) tops.length c] W fun e w' => e = .returned (.string (S (rootP tops))) ∧ Below W.heap.size W w' := by
  have hmf : ∀ (fn : Fn) (first cap : Array Value) (w : World), (Instr.makeFunc fn first cap).run Tryz.prog w = .ok (.func fn first cap) w := fun _ _ _ _ => rfl
  obtain ⟨N, hN⟩ : ∃ N, tops.length = N + 1 := ⟨tops.length - 1, by have := List.length_pos_iff.2 hne; omega⟩
  obtain ⟨ts, hts⟩ : ∃ ts, Hid (ts = tops.dropLast) := ⟨_, hid rfl⟩
  have htl : ts.length = N := by rw [hts.out, List.length_dropLast, hN]; rfl
  obtain ⟨la, hla⟩ : ∃ la, Hid (la = tops.getLastD []) := ⟨_, hid rfl⟩
  have hc0 : W.cell? ⟨g, N, none⟩ = some (.string (S la)) := by
    rw [hg N (by omega), hla.out, List.getLastD_eq_getLast?, List.getLast?_eq_getElem?, hN]
    rfl
  have hsl := fun W => slice_tx_h W g 0 (N + 1) c N (by omega)
  have hg2 : ∀ k, k < ts.length → W.cell? ⟨g, k, none⟩ = some (.string (S (ts[k]?.getD []))) := fun k hk => by
    rw [hg k (by omega), hts.out]
    congr 3
    have h1 : k < tops.length - 1 := by omega
    have h2 : k < tops.length := by omega
    simp [List.getElem?_dropLast, h1, h2]
  have hgl : g < W.heap.size := World.block_lt_of_cell? W _ hc0
  have hw1 : IntKind.i64.wrap (N : Int) = N := IntWalk.i64_in _ (by omega)
  have hN6 : N ≤ 100000 := by omega
  have hl2 : ∀ t ∈ ts, t.length ≤ 100 := fun t ht => hl t (List.dropLast_subset _ (hts.out ▸ ht))
  have hla1 : la.length ≤ 100 := by
    rw [hla.out, List.getLastD_eq_getLast?, List.getLast?_eq_some_getLast hne]
    exact hl _ (List.getLast_mem hne)
  have HRT := hid (show rootP tops = hAt la ts ts.length by rw [hAt_all, hts.out, hla.out]; rfl)
  rw [hN]
  clear hg hl hN
  refine (callsIn_wide (n := 8)).1 ?_
  refine callsIn_of_wp_marks Tryz.func111 rfl trivial ?_ rfl
  simp only [Tryz.ntmps111, List.size_toArray, List.length_cons, List.length_nil, Nat.reduceAdd, Nat.reduceSub, Array.replicate_succ, Array.replicate_zero, List.push_toArray, List.append_toArray, List.nil_append, List.cons_append]
  refine wpIn_wide.2 ?_
  go_wp2_with fail
  refine (slices_Backward _ _ _ _).mono ?_
  rintro e w' ⟨rfl, rfl⟩
  go_wp2
  have hz5 : ((W.alloc (.cells #[.string (S la)] 9)).alloc (.cells #[.slice (some ⟨g, 0, none⟩) N c] 39)).heap.size = W.heap.size + 2 := by simp
  have hb5 : Below W.heap.size W ((W.alloc (.cells #[.string (S la)] 9)).alloc (.cells #[.slice (some ⟨g, 0, none⟩) N c] 39)) := ((Below.refl _ _).alloc (Nat.le_refl _) _).alloc (by simp) _
  have HBB := hid (show Blk ((W.alloc (.cells #[.string (S la)] 9)).alloc (.cells #[.slice (some ⟨g, 0, none⟩) N c] 39)) (W.heap.size + 1) 39 #[.slice (some ⟨g, 0, none⟩) N c] by simpa using Blk.new (W.alloc (.cells #[.string (S la)] 9)) 39 #[.slice (some ⟨g, 0, none⟩) N c])
  have hBh : Blk ((W.alloc (.cells #[.string (S la)] 9)).alloc (.cells #[.slice (some ⟨g, 0, none⟩) N c] 39)) W.heap.size 9 #[.string (S la)] := (Blk.new _ _ _).alloc _
  have hg5 : ∀ (o o' : Obj) k, k < ts.length → (((((W.alloc (.cells #[.string (S la)] 9)).alloc (.cells #[.slice (some ⟨g, 0, none⟩) N c] 39)).alloc o).alloc o').cell? ⟨g, k, none⟩ = some (.string (S (ts[k]?.getD [])))) := fun o o' k hk => (((hb5.alloc (by rw [hz5]; omega) o).alloc (by simp; omega) o').cell hgl).trans (hg2 k hk)
  have HG5 := hid hg5
  obtain ⟨b0, hb0⟩ : ∃ b0, W.heap.size = b0 := ⟨_, rfl⟩
  obtain ⟨I, HI⟩ : ∃ I : List Nat → World → Prop, Hid (I = fun pre Wz => Blk Wz b0 9 #[.string (S (hAt la ts pre.length))] ∧ Below b0 W Wz ∧ b0 + 2 ≤ Wz.heap.size) := ⟨_, hid rfl⟩
  have HI5 := hid (show I [] ((W.alloc (.cells #[.string (S la)] 9)).alloc (.cells #[.slice (some ⟨g, 0, none⟩) N c] 39)) by
    rw [HI.out]
    exact ⟨by rw [← hb0]; simpa [hAt_zero] using hBh, by rw [← hb0]; exact hb5, by rw [← hb0]; simp⟩)
  have HL := hid hL
  rw [hb0] at hz5 HBB ⊢
  clear hb5 hBh hg5 hg2 hL hc0
  generalize (W.alloc (.cells #[.string (S la)] 9)).alloc (.cells #[.slice (some ⟨g, 0, none⟩) N c] 39) = w5 at *
  have HI0 := hid (show ∀ (p : List Nat) (B C : World), I p B → B.heap.size ≤ C.heap.size → C.os = B.os → C.tape = B.tape → C.output = B.output → (∀ k, k < B.heap.size → k ≠ b0 + 1 → k ≠ b0 + 3 → C.heap[k]? = B.heap[k]?) → I p C by
    intro p B C h hs ho ht hu hk
    rw [HI.out] at h ⊢
    obtain ⟨h1, h2, h3⟩ := h
    exact ⟨(hk _ h1.lt (by omega) (by omega)).trans h1, ⟨ho.trans h2.os, ht.trans h2.tape, hu.trans h2.output, Nat.le_trans h2.size hs, fun k hk' => (hk k (by omega) (by omega) (by omega)).trans (h2.block k hk')⟩, by omega⟩)
  refine (wpIn_wide (n := 8)).1 ?_
  refine wpIn_rangeFunc_runq (F := Fence.wide) rfl (by omega) (gf := 208) (lb := #[.pointer (some ⟨b0 + 1, 0, none⟩)]) rfl trivial (enters_of Tryz.func208 (by kernel_rfl) rfl) (encs := kEnc ts) (bb := b0 + 1) (Kp := BKp (b0 + 1) g) (S := fun xs => xs = List.range ts.length) (Sp := fun _ => True) (Nx := fun pre x => x = pre.length ∧ pre.length < ts.length) (by omega)
    (fun o => slices_Backward1 (b0 + 1) g c ts (some ⟨g, 0, none⟩) (fun _ => rfl) _ (by rw [htl]; exact (HBB.out.alloc _).alloc _) (HG5.out _ _) (by rw [htl]; omega) _)
    (fun h k => ⟨Nat.le_trans h.1 k.1, k.2.1.trans h.2.1, k.2.2.trans h.2.2⟩) (fun Wz l o' hl => ⟨by simp, World.putObj_heap_other (by omega), World.putObj_heap_other (by omega)⟩) (fun x => rfl)
    I (fun _ _ _ => False)
    (fun p B C hB hs => HI0.out p B C hB hs.size hs.os hs.tape hs.output (fun k hk h1 h2 => hs.block k hk h1 (by omega))) (fun _ _ _ _ h _ => h) HI5.out
    (fun x a' Wz => a' = { tmps := #[.slice (some ⟨g, 0, none⟩) (N + 1) c, undef, .string (S []), .pointer (some ⟨b0, 0, none⟩), undef, .string (S (ts[N - 1 - x]?.getD [])), .slice (some ⟨g, 0, none⟩) (N + 1) c, .int .i64 ((N : Int) + 1), .bool false, undef, .slice (some ⟨g, 0, none⟩) (N + 1) c, .slice (some ⟨g, 0, none⟩) (N + 1) c, .int .i64 ((N : Int) + 1), .int .i64 N, .pointer (some ⟨g, N, none⟩), .string (S la), .slice (some ⟨g, 0, none⟩) (N + 1) c, .slice (some ⟨g, 0, none⟩) (N + 1) c, .int .i64 ((N : Int) + 1), .int .i64 N, .slice (some ⟨g, 0, none⟩) N c, .func (.func 208) #[] #[.pointer (some ⟨b0 + 1, 0, none⟩)], .int .i64 ((N - 1 - x : Nat) : Int), .string (S (ts[N - 1 - x]?.getD [])), undef, undef, undef, undef], defers := [] })
    ?hAx ?assign ?body ?done ?stop
  case hAx => exact fun x a' Bw r o' h _ => h
  case assign =>
    rintro l' pre x Wz K hsz hI hnx hK
    clear hnx
    simp only [kEnc]
    gi_wp2
    exact hK _ _ (KeepsFrom.refl _ _) ⟨Nat.le_refl _, rfl, rfl⟩ hI rfl
  case body =>
    rintro l' pre x a' Wz hsz hI rfl ⟨hx1, hlx⟩
    subst hx1
    rw [HI.out] at hI
    obtain ⟨hB, hW, hLz⟩ := hI
    have c1 : Wz.cell? ⟨b0, 0, none⟩ = some (.string (S (hAt la ts pre.length))) := hB.cell 0
    have hsu := hAt_succ la ts pre.length hlx
    rw [htl] at hsu hlx
    have hpl : (ts[N - 1 - pre.length]?.getD []).length ≤ 100 := by
      rw [List.getElem?_eq_getElem (by omega : N - 1 - pre.length < ts.length)]
      exact hl2 _ (List.getElem_mem _)
    have hLW : LibL Wz := HL.out.below (by rw [hb0]; exact hW)
    have NH := hid (CallsIn.inRound l' ((callsIn_wide (n := 5)).2 (peaks_NodeHash Wz (ts[N - 1 - pre.length]?.getD []) (hAt la ts pre.length) (by have := hAt_len la ts hla1 pre.length; omega) hLW.k hLW.b)))
    rw [← hsu] at NH
    have FIN := hid (show ∀ w2, Below Wz.heap.size Wz w2 → w2.frozen? ⟨b0, 0, none⟩ = w2.frozen? ⟨b0, 0, none⟩ ∧ Blk w2 b0 9 #[.string (S (hAt la ts pre.length))] ∧ (KeepsFrom w5.heap.size Wz (w2.setCell ⟨b0, 0, none⟩ (.string (S (hAt la ts (pre.length + 1))))) ∧ BKp (b0 + 1) g Wz (w2.setCell ⟨b0, 0, none⟩ (.string (S (hAt la ts (pre.length + 1))))) ∧ I (pre ++ [pre.length]) (w2.setCell ⟨b0, 0, none⟩ (.string (S (hAt la ts (pre.length + 1)))))) by
      intro w2 hb2
      have hz : (w2.setCell ⟨b0, 0, none⟩ (.string (S (hAt la ts (pre.length + 1))))).heap.size = w2.heap.size := by simp [World.setCell]
      have hz3 := hb2.size
      have far : ∀ k, k ≠ b0 → (w2.setCell ⟨b0, 0, none⟩ (.string (S (hAt la ts (pre.length + 1))))).heap[k]? = w2.heap[k]? := fun k hk => Below.heap_setCell _ _ _ _ hk
      have hB2 : Blk w2 b0 9 #[.string (S (hAt la ts pre.length))] := hB.below hb2 hB.lt
      have hWz := hW.size
      refine ⟨rfl, hB2, ⟨by omega, fun k o hk ho hc => ?_⟩, ⟨by omega, (far _ (by omega)).trans (hb2.block _ (by omega)), (far _ (by omega)).trans (hb2.block _ (by omega))⟩, ?_⟩
      · exact (far k (by omega)).trans ((hb2.block k (Array.getElem?_eq_some_iff.1 ho).1).trans ho)
      · rw [HI.out]
        have hl3 : (pre ++ [pre.length]).length = pre.length + 1 := by simp
        refine ⟨by rw [hl3]; exact hB2.set_ 0 _, ?_, by omega⟩
        have hq := (Below.refl b0 w2).setCell (p := ⟨b0, 0, none⟩) (Nat.le_refl _) (.string (S (hAt la ts (pre.length + 1))))
        exact ⟨hq.os.trans (hb2.os.trans hW.os), hq.tape.trans (hb2.tape.trans hW.tape), hq.output.trans (hb2.output.trans hW.output), by omega, fun k hk => (far k (by omega)).trans ((hb2.block k (by omega)).trans (hW.block k hk))⟩)
    have hfw : Fence.wide.fn 54 := trivial
    have hfd : Fence.wide.depth.isSome = false := rfl
    generalize hAt la ts (pre.length + 1) = h1 at *
    generalize hAt la ts pre.length = h0 at *
    generalize ts[N - 1 - pre.length]?.getD [] = tz at *
    clear hB hW hsu hLW hl2
    gi_wp2_with fail
    refine NH.out.mono ?_
    rintro e w2 ⟨rfl, hb2⟩
    obtain ⟨-, hB2, f3⟩ := FIN.out w2 hb2
    have F3 := hid f3
    have cf := hB2.frozen 0
    have cc := hB2.cell 0
    simp only [List.getElem?_toArray, List.getElem?_cons_zero] at cc
    clear f3 hb2 hB2
    gi_wp2
    exact F3.out
  case done =>
    rintro D ys Wz hD hys hI hK
    rw [HI.out] at hI
    have hyl : ys.length = ts.length := by rw [hys, List.length_range]
    rw [hyl, ← HRT.out] at hI
    obtain ⟨hB, hW, hLz⟩ := hI
    have c1 : Wz.cell? ⟨b0, 0, none⟩ = some (.string (S (rootP tops))) := hB.cell 0
    have hrun := hid (run_takeDeferred (P := Tryz.prog) hK)
    have HFIN := hid (show Below b0 W (Wz.putObj D (.deferred none)) from ⟨hW.os, hW.tape, hW.output, by have := hW.size; rw [World.putObj_size]; omega, fun k hk => (World.putObj_heap_other (by omega)).trans (hW.block k hk)⟩)
    clear hB hW hK
    go_wp2
    refine ⟨by simp, .inl ⟨_, _, rfl, hrun.out, ?_⟩⟩
    exact ⟨.string (S (rootP tops)), by simp [results, Tryz.results111, go_sem], rfl, by rw [hb0]; exact HFIN.out⟩
  case stop =>
    rintro D cc pre Wz _ _ hh _
    exact hh.elim
end Go.Proofs.YtiabfngiibabcaaGreatDoor
