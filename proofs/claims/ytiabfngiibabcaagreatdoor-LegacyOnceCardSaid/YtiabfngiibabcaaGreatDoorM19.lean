/- Walk of (*digest.Hash).Sum. Walks: digest.Sum256, and the hashes of leaves and nodes. -/
import Derived.Test.YtiabfngiibabcaaGreatDoorM18
import Derived.Deep.RegionHeld3
set_option linter.unusedVariables false
set_option linter.unusedSimpArgs false
set_option maxHeartbeats 12800000
set_option maxRecDepth 100000
set_option allowUnsafeReducibility true
namespace Go.Proofs.YtiabfngiibabcaaGreatDoor
open Go Go.RowKit
attribute [local go_sem] Oper.semAt_some
attribute [local irreducible] mixP

theorem sum_append (wr : World) (base : Nat) {A : Option Addr} {c : Nat} {os : List UInt8} (hr : wr.ownsRow base 5 1 (.slice A os.length c) os.length (os.map B8)) (hl : os.length ≤ 1000) (hbase : base ≤ wr.heap.size) (x : Int) :
    ∃ A' c' w', (Builtin.append_ #[85, 85] 85 #[.slice A os.length c, .slice (some ⟨wr.heap.size, 0, none⟩) 4 4]).run Tryz.prog (wr.alloc (.cells #[.int .u8 (x / 16777216 % 256), .int .u8 (x / 65536 % 256), .int .u8 (x / 256 % 256), .int .u8 (x % 256)] 5)) = .ok (.slice A' (os ++ word4 x).length c') w' ∧
      w'.ownsRow base 5 1 (.slice A' (os ++ word4 x).length c') (os ++ word4 x).length ((os ++ word4 x).map B8) ∧ Below base wr w' := by
  have hB : BytesAt (wr.alloc (.cells #[.int .u8 (x / 16777216 % 256), .int .u8 (x / 65536 % 256), .int .u8 (x / 256 % 256), .int .u8 (x % 256)] 5)) (some ⟨wr.heap.size, 0, none⟩) (word4 x) := fun _ => by
    have hN := Blk.new wr 5 #[.int .u8 (x / 16777216 % 256), .int .u8 (x / 65536 % 256), .int .u8 (x / 256 % 256), .int .u8 (x % 256)]
    refine ⟨wr.heap.size, 0, rfl, hN.lt, fun i hi => ?_⟩
    have hi4 : i < 4 := hi
    rw [Nat.zero_add, hN.cell i]
    have hcase : i = 0 ∨ i = 1 ∨ i = 2 ∨ i = 3 := by omega
    rcases hcase with rfl | rfl | rfl | rfl <;> simp [word4, B8, byteI_val]
  have hb1 : Below base wr (wr.alloc (.cells #[.int .u8 (x / 16777216 % 256), .int .u8 (x / 65536 % 256), .int .u8 (x / 256 % 256), .int .u8 (x % 256)] 5)) := (Below.refl _ _).alloc hbase _
  have hr1 := row_alloc hr (.cells #[.int .u8 (x / 16777216 % 256), .int .u8 (x / 65536 % 256), .int .u8 (x / 256 % 256), .int .u8 (x % 256)] 5)
  obtain ⟨v3, w3, hrun3, h3, hg3, -⟩ := run_append_bytes _ base (.slice A os.length c) os (word4 x) hr1 (some ⟨wr.heap.size, 0, none⟩) 4 hB (by rw [show (word4 x).length = 4 from rfl]; omega) (Nat.le_trans hbase hb1.size) 85
  obtain ⟨A3, c3, rfl⟩ := row_form h3
  exact ⟨A3, c3, w3, hrun3, h3, Below.grown hb1 hg3 (Nat.le_trans hbase hb1.size) fun k hk => row_base_le hr1 hk⟩
theorem digest_Sum (W0 W : World) (hb : Nat) (s : St8) (rest : List UInt8) (A : Option Addr) (c many : Nat) (hk : Lib.TabIs Tryz.prog W0 "pantile/digest.k" .u64 kTab) (h0 : Below W0.heap.size W0 W) (hbb : W0.heap.size ≤ hb)
    (hh : Blk W hb 258 (hCells s (.slice A rest.length c) many)) (hr : W.ownsRow W0.heap.size 5 1 (.slice A rest.length c) rest.length (rest.map B8)) (hrl : rest.length ≤ 1000) (hm : many ≤ 1000000000) :
    Calls Tryz.prog 175 #[.pointer (some ⟨hb, 0, none⟩)] W fun e w' => ∃ A' c', e = .returned (.slice A' 32 c') ∧ w'.ownsRow W0.heap.size 5 1 (.slice A' 32 c') 32 ((outP (blocksF mixP s (tailP rest many) ((tailP rest many).length / 64))).map B8) ∧ Below W0.heap.size W0 w' := by
  obtain ⟨k0, k1, k2, k3, k4, k5, k6, k7, k8, k9⟩ := box10 hh
  have hlt := hh.lt
  obtain ⟨W1, HW1⟩ : ∃ W1, Hid (W1 = W.alloc (.cells #[.int .u32 s.a, .int .u32 s.b, .int .u32 s.c, .int .u32 s.d, .int .u32 s.e, .int .u32 s.f, .int .u32 s.g, .int .u32 s.h] 256)) := ⟨_, rfl⟩
  have b1 : Below W.heap.size W W1 := by rw [HW1.out]; exact (Below.refl _ _).alloc (Nat.le_refl _) _
  have hB1 : Blk W1 W.heap.size 256 (cells8 s) := by rw [HW1.out]; exact Blk.new _ _ _
  have hH1 := hh.below b1 hlt
  have hr1 := row_below hr b1
  have hW1 : Below W0.heap.size W0 W1 := h0.trans (b1.mono h0.size)
  obtain ⟨hn1, hn2, hn3⟩ := row_addr' hr
  have TL := digest_tail W1.drew A c many rest (bytesAt_row (row_drew1 hr1)).2 (hn3.elim (fun h => .inl h.1) (fun ⟨b, _, h⟩ => .inr ⟨b, 0, h⟩)) (fun h => by
    rcases hn3 with ⟨-, h1⟩ | ⟨b, -, h1⟩
    · exact List.eq_nil_of_length_eq_zero h1
    · rw [h] at h1; cases h1) hrl hm
  have TLH := hid TL
  have e8 : W1.cell? ⟨hb, 8, none⟩ = some (.slice A rest.length c) := (b1.cell (p := ⟨hb, 8, none⟩) hlt).trans k8
  have e9 : W1.cell? ⟨hb, 9, none⟩ = some (.int .i64 many) := (b1.cell (p := ⟨hb, 9, none⟩) hlt).trans k9
  have H1 := hid (And.intro hB1 hW1)
  have htl := tailP_len rest many
  have hpz : padZ rest.length ≤ 63 := by unfold padZ; omega
  have hh1 : hb < W1.drew.heap.size := hH1.lt
  have HH1 := hid hH1
  clear TL hr1 hH1 hB1 hW1 b1
  generalize tailP rest many = tp at *
  have htp : tp.length ≤ 2000 := by omega
  have HTP := hid htl
  clear htl
  refine (callsIn_wide (n := 8)).1 ?_
  refine callsIn_of_wp_marks Tryz.func175 rfl trivial ?_ rfl
  simp only [Tryz.ntmps175, List.size_toArray, List.length_cons, List.length_nil, Nat.reduceAdd, Nat.reduceSub, Array.replicate_succ, Array.replicate_zero, List.push_toArray, List.append_toArray, List.nil_append, List.cons_append]
  refine wpIn_wide.2 ?_
  go_wp2
  rw [← HW1.out]
  refine wp_then_false ?_
  go_region_held3 (fun w' => w'.cell? ⟨hb, 8, none⟩ = some (.slice A rest.length c) ∧ w'.cell? ⟨hb, 9, none⟩ = some (.int .i64 many)) (simp [*, go_sem, World.cell?_alloc_past]) (first
    | (go_at_call 218; refine TLH.out.mono ?_; rintro e w2 ⟨A2, c2, rfl, hr2, hb2⟩; have y8 := (hb2.cell (p := ⟨hb, 8, none⟩) hh1).trans e8; have y9 := (hb2.cell (p := ⟨hb, 9, none⟩) hh1).trans e9)
    | (go_at_call 215; refine (digest_blocks _ _ _ _).mono ?_; rintro e w3 ⟨rfl, rfl⟩; have bb8 : Below w2.heap.size w2 ((w2.alloc (.cells #[.slice A2 tp.length c2] 85)).alloc (.cells #[.int .i64 64] 3)) := ((Below.refl _ _).alloc (Nat.le_refl _) _).alloc (by simp) _; have hbw2 : hb < w2.heap.size := Nat.lt_of_lt_of_le hh1 hb2.size; have q8 : ((w2.alloc (.cells #[.slice A2 tp.length c2] 85)).alloc (.cells #[.int .i64 64] 3)).cell? ⟨hb, 8, none⟩ = some (.slice A rest.length c) := (bb8.cell (p := ⟨hb, 8, none⟩) hbw2).trans y8; have q9 : ((w2.alloc (.cells #[.slice A2 tp.length c2] 85)).alloc (.cells #[.int .i64 64] 3)).cell? ⟨hb, 9, none⟩ = some (.int .i64 many) := (bb8.cell (p := ⟨hb, 9, none⟩) hbw2).trans y9))
  have hz2 := hb2.size
  have hW2 := hid (show Below W0.heap.size W0 w2 from (below_drewN H1.out.2 1).trans (hb2.mono (show W0.heap.size ≤ W1.heap.size from H1.out.2.size)))
  have hB2 := hid (show Blk w2 W.heap.size 256 (cells8 s) from H1.out.1.drew.below hb2 H1.out.1.lt)
  have hr2' := hid (row_base hr2 (show W0.heap.size ≤ W1.heap.size from H1.out.2.size))
  obtain ⟨hm1, hm2, hm3⟩ := row_addr' hr2
  obtain ⟨dk, hdk⟩ : ∃ dk, 64 ≤ tp.length → A2 = some ⟨dk, 0, none⟩ := by
    rcases hm3 with ⟨h1, h2⟩ | ⟨b, h1, h2⟩
    · exact ⟨0, fun h => by omega⟩
    · exact ⟨b, fun _ => h2⟩
  have hdk2 : ∀ k, OwnBy (.slice A2 tp.length c2) k → k < w2.heap.size := fun k hk => by
    obtain ⟨cs, hcs⟩ := row_heap hr2 hk
    exact (Array.getElem?_eq_some_iff.1 hcs).1
  have hWb2 : W.heap.size < w2.heap.size := hB2.out.lt
  have hbase2 := hW2.out.size
  obtain ⟨I, HI⟩ : ∃ I : List Nat → World → Prop, Hid (I = fun pre Wz => Blk Wz W.heap.size 256 (cells8 (blocksF mixP s tp pre.length)) ∧ Wz.ownsRow W0.heap.size 5 1 (.slice A2 tp.length c2) tp.length (tp.map B8) ∧ Below W0.heap.size W0 Wz) := ⟨_, rfl⟩
  have hI0 : ∀ (p : List Nat) (B C : World), I p B → B.heap.size ≤ C.heap.size → C.os = B.os → C.tape = B.tape → C.output = B.output → (∀ k, k < w2.heap.size → C.heap[k]? = B.heap[k]?) → I p C := by
    intro p B C h hs ho ht hu hk
    rw [HI.out] at h ⊢
    exact ⟨(hk _ hWb2).trans h.1, row_keep h.2.1 fun k hkk => hk k (hdk2 k hkk), ⟨ho.trans h.2.2.os, ht.trans h.2.2.tape, hu.trans h.2.2.output, Nat.le_trans h.2.2.size hs, fun k hk' => (hk k (by omega)).trans (h.2.2.block k hk')⟩⟩
  have HI0 := hid hI0
  have hb5 : Below w2.heap.size w2 ((w2.alloc (.cells #[.slice A2 tp.length c2] 85)).alloc (.cells #[.int .i64 64] 3)) := ((Below.refl _ _).alloc (Nat.le_refl _) _).alloc (by simp) _
  have hI5 : I [] ((w2.alloc (.cells #[.slice A2 tp.length c2] 85)).alloc (.cells #[.int .i64 64] 3)) := by
    refine hI0 [] w2 _ ?_ hb5.size hb5.os hb5.tape hb5.output hb5.block
    rw [HI.out]
    exact ⟨hB2.out, hr2'.out, hW2.out⟩
  have HI5 := hid hI5
  have HBD := hid (show Blk ((w2.alloc (.cells #[.slice A2 tp.length c2] 85)).alloc (.cells #[.int .i64 64] 3)) w2.heap.size 85 #[.slice A2 tp.length c2] from (Blk.new _ _ _).alloc _)
  have HBS := hid (show Blk ((w2.alloc (.cells #[.slice A2 tp.length c2] 85)).alloc (.cells #[.int .i64 64] 3)) (w2.heap.size + 1) 3 #[.int .i64 64] by simpa using Blk.new (w2.alloc (.cells #[.slice A2 tp.length c2] 85)) 3 #[.int .i64 64])
  have hz5 : ((w2.alloc (.cells #[.slice A2 tp.length c2] 85)).alloc (.cells #[.int .i64 64] 3)).heap.size = w2.heap.size + 1 + 1 := by simp
  clear bb8 hbw2 hI0 hI5 hb5 H1 e8 e9 y8 y9 q8 q9 hr2 hb2 hB2 hr2' hW2 hh hr k0 k1 k2 k3 k4 k5 k6 k7 k8 k9 HH1 hh1
  generalize (w2.alloc (.cells #[.slice A2 tp.length c2] 85)).alloc (.cells #[.int .i64 64] 3) = w5 at *
  go_wp2
  refine (wpIn_wide (n := 8)).1 ?_
  refine wpIn_rangeFunc_run (F := Fence.wide) rfl (by omega) (gf := 251) (lb := #[.pointer (some ⟨w2.heap.size, 0, none⟩), .pointer (some ⟨w2.heap.size + 1, 0, none⟩)]) rfl trivial (enters_of Tryz.func251 (by kernel_rfl) rfl) (encs := bEnc dk 0 c2) (bb := w2.heap.size) (Kp := BKp w2.heap.size (w2.heap.size + 1)) (S := fun xs => xs = List.range (tp.length / 64)) (Sp := fun _ => True) (Nx := fun pre x => x = pre.length ∧ pre.length < tp.length / 64) (by omega)
    (fun o => digest_blocks1 w2.heap.size (w2.heap.size + 1) dk 0 c2 tp.length A2 hdk _ ((HBD.out.alloc _).alloc _) ((HBS.out.alloc _).alloc _) (by omega) hm1 hm2 _)
    (fun h k => ⟨Nat.le_trans h.1 k.1, k.2.1.trans h.2.1, k.2.2.trans h.2.2⟩) (fun Wz l o' hl => ⟨by simp, World.putObj_heap_other (by omega), World.putObj_heap_other (by omega)⟩) (fun x => rfl)
    I (fun _ _ _ => False)
    (fun p B C hB hs => HI0.out p B C hB hs.size hs.os hs.tape hs.output (fun k hk => hs.block k (by omega) (by omega))) (fun _ _ _ _ h _ => h) HI5.out
    (fun x a' Wz => a' = { tmps := #[.pointer (some ⟨hb, 0, none⟩), undef, .slice none 0 0, .pointer (some ⟨W.heap.size, 0, none⟩), .slice (some ⟨dk, 64 * x, none⟩) 64 (c2 - 64 * x), undef, undef, undef, .pointer (some ⟨hb, 0, none⟩), .pointer (some ⟨hb, 0, none⟩), .pointer (some ⟨hb, 0, none⟩), .agg #[.int .u32 s.a, .int .u32 s.b, .int .u32 s.c, .int .u32 s.d, .int .u32 s.e, .int .u32 s.f, .int .u32 s.g, .int .u32 s.h], .pointer (some ⟨hb, 0, none⟩), .pointer (some ⟨hb, 0, none⟩), .pointer (some ⟨hb, 8, none⟩), .slice A rest.length c, .pointer (some ⟨hb, 0, none⟩), .pointer (some ⟨hb, 0, none⟩), .pointer (some ⟨hb, 9, none⟩), .int .i64 many, .slice A2 tp.length c2, .func (.func 251) #[] #[.pointer (some ⟨w2.heap.size, 0, none⟩), .pointer (some ⟨w2.heap.size + 1, 0, none⟩)], .slice (some ⟨dk, 64 * x, none⟩) 64 (c2 - 64 * x), undef, undef, undef, undef, undef, undef, undef, undef, undef, undef, undef, undef, undef, undef, undef, undef, undef, undef, undef, undef, undef, undef, undef], defers := [] })
    ?hAx ?assign ?body ?done ?stop
  case hAx => exact fun x a' Bw r o' h _ => h
  case assign =>
    rintro l' pre x Wz K hsz hI hnx hK
    clear hnx
    simp only [bEnc, Nat.zero_add]
    gi_wp2
    exact hK _ _ (KeepsFrom.refl _ _) ⟨Nat.le_refl _, rfl, rfl⟩ hI rfl
  case body =>
    rintro l' pre x a' Wz hsz hI rfl ⟨hx, hlx⟩
    rw [HI.out] at hI
    obtain ⟨hB, hr, hW⟩ := hI
    have hxn : 64 * x + 64 ≤ tp.length := by omega
    obtain rfl := hdk (by omega)
    have hbk : BytesAt Wz (some ⟨dk, 0 + 64 * x, none⟩) ((tp.drop (64 * x)).take 64) := ((bytesAt_row hr).2).part rfl
    rw [Nat.zero_add] at hbk
    have hk9 : Lib.TabIs Tryz.prog Wz "pantile/digest.k" .u64 kTab := Go.Joins.var_stays (g := 4) (by kernel_rfl) hk hW (Nat.le_refl _)
    have MX := digest_mix32 Wz (blocksF mixP s tp pre.length) (some ⟨dk, 64 * x, none⟩) ((tp.drop (64 * x)).take 64) (c2 - 64 * x) hbk (by rw [List.length_take, List.length_drop]; omega) (by omega) (by omega) hk9
    have hst : mixP (blocksF mixP s tp pre.length) ((tp.drop (64 * x)).take 64) = blocksF mixP s tp (pre ++ [x]).length := by
      rw [List.length_append, List.length_singleton, blocksF_snoc, ← hx]
    rw [hst] at MX
    have MXX := hid (CallsIn.inRound l' ((callsIn_wide (n := 5)).2 MX))
    have HX := hid (And.intro hB (And.intro hr hW))
    clear MX hst hbk hk9 hr hW hx
    obtain ⟨st, HST⟩ : ∃ st, Hid (blocksF mixP s tp pre.length = st) := ⟨_, rfl⟩
    obtain ⟨st2, HST2⟩ : ∃ st2, Hid (blocksF mixP s tp (pre ++ [x]).length = st2) := ⟨_, rfl⟩
    rw [HST.out] at MXX hB HX
    rw [HST2.out] at MXX
    have hlz := hB.lt
    obtain ⟨e0, e1, e2, e3, e4, e5, e6, e7⟩ := box8 hB
    have HBz := hid hB
    clear hB
    unfold cells8 at MXX
    have hfw : Fence.wide.fn 216 := trivial
    have hfd : Fence.wide.depth.isSome = false := rfl
    gi_wp2_with (gi_at_call 216; refine MXX.out.mono ?_; rintro e w9 ⟨rfl, hb9⟩; have HB9 := hid (And.intro hb9 (HBz.out.below hb9 hlz)); obtain ⟨g0, g1, g2, g3, g4, g5, g6, g7⟩ := box8 HB9.out.2; obtain ⟨f0, f1, f2, f3, f4, f5, f6, f7⟩ := frozen8 HB9.out.2; clear hb9)
    have hb9 := HB9.out.1
    have hz9 : Wz.heap.size ≤ w9.heap.size := hb9.size
    have h8 := HB9.out.2.set8 (.int .u32 st2.a) (.int .u32 st2.b) (.int .u32 st2.c) (.int .u32 st2.d) (.int .u32 st2.e) (.int .u32 st2.f) (.int .u32 st2.g) (.int .u32 st2.h)
    have hq := below_set8 (Below.refl W.heap.size w9) (Nat.le_refl W.heap.size) (.int .u32 st2.a) (.int .u32 st2.b) (.int .u32 st2.c) (.int .u32 st2.d) (.int .u32 st2.e) (.int .u32 st2.f) (.int .u32 st2.g) (.int .u32 st2.h)
    have hfar := fun k hk => far8_heap w9 W.heap.size k hk (.int .u32 st2.a) (.int .u32 st2.b) (.int .u32 st2.c) (.int .u32 st2.d) (.int .u32 st2.e) (.int .u32 st2.f) (.int .u32 st2.g) (.int .u32 st2.h)
    generalize ((((((((w9.setCell ⟨W.heap.size, 0, none⟩ (.int .u32 st2.a)).setCell ⟨W.heap.size, 1, none⟩ (.int .u32 st2.b)).setCell ⟨W.heap.size, 2, none⟩ (.int .u32 st2.c)).setCell ⟨W.heap.size, 3, none⟩ (.int .u32 st2.d)).setCell ⟨W.heap.size, 4, none⟩ (.int .u32 st2.e)).setCell ⟨W.heap.size, 5, none⟩ (.int .u32 st2.f)).setCell ⟨W.heap.size, 6, none⟩ (.int .u32 st2.g)).setCell ⟨W.heap.size, 7, none⟩ (.int .u32 st2.h)) = W' at *
    have hqs := hq.size
    have blk : ∀ k, k < Wz.heap.size → k ≠ W.heap.size → W'.heap[k]? = Wz.heap[k]? := fun k hk1 hk2 => (hfar k hk2).trans (hb9.block k hk1)
    have hrz := HX.out.2.1
    have hWz := HX.out.2.2
    refine ⟨⟨by omega, fun k o hk1 ho2 _ => (blk k (Array.getElem?_eq_some_iff.1 ho2).1 (by omega)).trans ho2⟩, ⟨by omega, blk _ (by omega) (by omega), blk _ (by omega) (by omega)⟩, ?_⟩
    rw [HI.out]
    refine ⟨by rw [HST2.out]; exact h8, row_keep hrz fun k hk1 => blk k ?_ (fun e => row_ne hrz HBz.out (by decide) (e ▸ hk1)), ⟨hq.os.trans (hb9.os.trans hWz.os), hq.tape.trans (hb9.tape.trans hWz.tape), hq.output.trans (hb9.output.trans hWz.output), by have := hWz.size; omega, fun k hk1 => (blk k (by have := hWz.size; omega) (by omega)).trans (hWz.block k hk1)⟩⟩
    obtain ⟨cs, hcs⟩ := row_heap hrz hk1
    exact (Array.getElem?_eq_some_iff.1 hcs).1
  case done =>
    rintro D' ys Wz hD hys hI hK
    rw [HI.out] at hI
    obtain ⟨hB, -, hW⟩ := hI
    have hyl : ys.length = tp.length / 64 := by rw [hys, List.length_range]
    rw [hyl] at hB
    obtain ⟨st, HST⟩ : ∃ st, Hid (blocksF mixP s tp (tp.length / 64) = st) := ⟨_, rfl⟩
    rw [HST.out] at hB
    have hKlt : D' < Wz.heap.size := (Array.getElem?_eq_some_iff.1 hK).1
    obtain ⟨e0, e1, e2, e3, e4, e5, e6, e7⟩ := box8 hB
    have HKD := hid hK
    have HWZ := hid hW
    clear hB hys hyl hK hW
    go_wp2
    go_loopw [5, 7, 27] (fun o _ i wr => ∃ (k : Nat) (A' : Option Addr) (c' : Nat) (os : List UInt8), k ≤ 8 ∧ i = .int .i64 k ∧ o = .slice A' os.length c' ∧ Hid (os.length = 4 * k) ∧ Hid (os = (st.toL.take k).flatMap word4) ∧ Hid (wr.ownsRow Wz.heap.size 5 1 (.slice A' os.length c') os.length (os.map B8)) ∧ Hid (Below Wz.heap.size Wz wr)) (fun _ _ i _ => 8 - (intOf i).toNat)
    case atStart => exact ⟨0, none, 0, [], by omega, rfl, rfl, rfl, rfl, World.ownsRow_nil _ _ _ _, Below.refl _ _⟩
    case round =>
      obtain ⟨k, A', c', os, hk8, rfl, rfl, hol, ho, hr, hbr⟩ := hrel
      have hcase : k = 0 ∨ k = 1 ∨ k = 2 ∨ k = 3 ∨ k = 4 ∨ k = 5 ∨ k = 6 ∨ k = 7 ∨ k = 8 := by omega
      rcases hcase with rfl | rfl | rfl | rfl | rfl | rfl | rfl | rfl | rfl
      case inr.inr.inr.inr.inr.inr.inr.inr =>
        have hl32 : os.length = 32 := hol.out
        have hosE : os = outP st := ho.out
        have hrr := hr.out
        rw [hl32] at hrr ⊢
        have HRR := hid hrr
        have hq1 : wr.heap[D']? = some (.deferred (some [])) := (hbr.out.block D' hKlt).trans HKD.out
        have hrun := hid (run_takeDeferred (P := Tryz.prog) hq1)
        have hzr := hbr.out.size
        have HFIN := hid (show (wr.putObj D' (.deferred none)).ownsRow W0.heap.size 5 1 (.slice A' 32 c') 32 ((outP (blocksF mixP s tp (tp.length / 64))).map B8) ∧ Below W0.heap.size W0 (wr.putObj D' (.deferred none)) from by
          rw [HST.out]
          refine ⟨row_base (row_keep (by rw [← hosE]; exact hrr) fun k hk => World.putObj_heap_other (by have := row_base_le hrr hk; omega)) HWZ.out.size, ?_⟩
          have hw := HWZ.out
          exact ⟨hbr.out.os.trans hw.os, hbr.out.tape.trans hw.tape, hbr.out.output.trans hw.output, by have := hw.size; simp; omega, fun k hk => (World.putObj_heap_other (by have := hw.size; omega)).trans ((hbr.out.block k (by have := hw.size; omega)).trans (hw.block k hk))⟩)
        clear hrr hr hbr ho hol hq1 hl32 hosE
        go_wp2
        refine ⟨by simp, .inl ⟨_, _, rfl, hrun.out, ?_⟩⟩
        exact ⟨.slice A' 32 c', by simp [results, Tryz.results175, go_sem], A', c', rfl, HFIN.out.1, HFIN.out.2⟩
      case inl =>
        have hix : ∀ W, (Instr.index 256 (.agg #[.int .u32 st.a, .int .u32 st.b, .int .u32 st.c, .int .u32 st.d, .int .u32 st.e, .int .u32 st.f, .int .u32 st.g, .int .u32 st.h]) (.int .i64 0)).run Tryz.prog W = .ok (.int .u32 st.a) W := fun W => by kernel_rfl
        obtain ⟨A6, c6, w6, hrun6, hr6, hb6⟩ := sum_append wr Wz.heap.size hr.out (by have := hol.out; omega) hbr.out.size st.a
        have HR6 := hid hr6
        have HB6 := hid (hbr.out.trans hb6)
        have HO6 := hid (show os ++ word4 st.a = (st.toL.take 1).flatMap word4 by rw [ho.out]; rfl)
        have HL6 := hid (show (os ++ word4 st.a).length = 4 * 1 by rw [List.length_append, hol.out]; rfl)
        clear hr6 hb6 hr hbr ho
        go_wp2_with (first | (at_builtin; refine wpList_append_run rfl _ _ _ (by rfl) _ _ _ _ (by rfl) (by rfl) hrun6 ?_))
        go_roundw
        case rel => exact ⟨1, A6, c6, os ++ word4 st.a, by omega, rfl, by rw [List.length_append], HL6, HO6, HR6, HB6⟩
        case measure => simp [intOf]
      case inr.inl =>
        have hix : ∀ W, (Instr.index 256 (.agg #[.int .u32 st.a, .int .u32 st.b, .int .u32 st.c, .int .u32 st.d, .int .u32 st.e, .int .u32 st.f, .int .u32 st.g, .int .u32 st.h]) (.int .i64 1)).run Tryz.prog W = .ok (.int .u32 st.b) W := fun W => by kernel_rfl
        obtain ⟨A6, c6, w6, hrun6, hr6, hb6⟩ := sum_append wr Wz.heap.size hr.out (by have := hol.out; omega) hbr.out.size st.b
        have HR6 := hid hr6
        have HB6 := hid (hbr.out.trans hb6)
        have HO6 := hid (show os ++ word4 st.b = (st.toL.take 2).flatMap word4 by rw [ho.out]; rfl)
        have HL6 := hid (show (os ++ word4 st.b).length = 4 * 2 by rw [List.length_append, hol.out]; rfl)
        clear hr6 hb6 hr hbr ho
        go_wp2_with (first | (at_builtin; refine wpList_append_run rfl _ _ _ (by rfl) _ _ _ _ (by rfl) (by rfl) hrun6 ?_))
        go_roundw
        case rel => exact ⟨2, A6, c6, os ++ word4 st.b, by omega, rfl, by rw [List.length_append], HL6, HO6, HR6, HB6⟩
        case measure => simp [intOf]
      case inr.inr.inl =>
        have hix : ∀ W, (Instr.index 256 (.agg #[.int .u32 st.a, .int .u32 st.b, .int .u32 st.c, .int .u32 st.d, .int .u32 st.e, .int .u32 st.f, .int .u32 st.g, .int .u32 st.h]) (.int .i64 2)).run Tryz.prog W = .ok (.int .u32 st.c) W := fun W => by kernel_rfl
        obtain ⟨A6, c6, w6, hrun6, hr6, hb6⟩ := sum_append wr Wz.heap.size hr.out (by have := hol.out; omega) hbr.out.size st.c
        have HR6 := hid hr6
        have HB6 := hid (hbr.out.trans hb6)
        have HO6 := hid (show os ++ word4 st.c = (st.toL.take 3).flatMap word4 by rw [ho.out]; rfl)
        have HL6 := hid (show (os ++ word4 st.c).length = 4 * 3 by rw [List.length_append, hol.out]; rfl)
        clear hr6 hb6 hr hbr ho
        go_wp2_with (first | (at_builtin; refine wpList_append_run rfl _ _ _ (by rfl) _ _ _ _ (by rfl) (by rfl) hrun6 ?_))
        go_roundw
        case rel => exact ⟨3, A6, c6, os ++ word4 st.c, by omega, rfl, by rw [List.length_append], HL6, HO6, HR6, HB6⟩
        case measure => simp [intOf]
      case inr.inr.inr.inl =>
        have hix : ∀ W, (Instr.index 256 (.agg #[.int .u32 st.a, .int .u32 st.b, .int .u32 st.c, .int .u32 st.d, .int .u32 st.e, .int .u32 st.f, .int .u32 st.g, .int .u32 st.h]) (.int .i64 3)).run Tryz.prog W = .ok (.int .u32 st.d) W := fun W => by kernel_rfl
        obtain ⟨A6, c6, w6, hrun6, hr6, hb6⟩ := sum_append wr Wz.heap.size hr.out (by have := hol.out; omega) hbr.out.size st.d
        have HR6 := hid hr6
        have HB6 := hid (hbr.out.trans hb6)
        have HO6 := hid (show os ++ word4 st.d = (st.toL.take 4).flatMap word4 by rw [ho.out]; rfl)
        have HL6 := hid (show (os ++ word4 st.d).length = 4 * 4 by rw [List.length_append, hol.out]; rfl)
        clear hr6 hb6 hr hbr ho
        go_wp2_with (first | (at_builtin; refine wpList_append_run rfl _ _ _ (by rfl) _ _ _ _ (by rfl) (by rfl) hrun6 ?_))
        go_roundw
        case rel => exact ⟨4, A6, c6, os ++ word4 st.d, by omega, rfl, by rw [List.length_append], HL6, HO6, HR6, HB6⟩
        case measure => simp [intOf]
      case inr.inr.inr.inr.inl =>
        have hix : ∀ W, (Instr.index 256 (.agg #[.int .u32 st.a, .int .u32 st.b, .int .u32 st.c, .int .u32 st.d, .int .u32 st.e, .int .u32 st.f, .int .u32 st.g, .int .u32 st.h]) (.int .i64 4)).run Tryz.prog W = .ok (.int .u32 st.e) W := fun W => by kernel_rfl
        obtain ⟨A6, c6, w6, hrun6, hr6, hb6⟩ := sum_append wr Wz.heap.size hr.out (by have := hol.out; omega) hbr.out.size st.e
        have HR6 := hid hr6
        have HB6 := hid (hbr.out.trans hb6)
        have HO6 := hid (show os ++ word4 st.e = (st.toL.take 5).flatMap word4 by rw [ho.out]; rfl)
        have HL6 := hid (show (os ++ word4 st.e).length = 4 * 5 by rw [List.length_append, hol.out]; rfl)
        clear hr6 hb6 hr hbr ho
        go_wp2_with (first | (at_builtin; refine wpList_append_run rfl _ _ _ (by rfl) _ _ _ _ (by rfl) (by rfl) hrun6 ?_))
        go_roundw
        case rel => exact ⟨5, A6, c6, os ++ word4 st.e, by omega, rfl, by rw [List.length_append], HL6, HO6, HR6, HB6⟩
        case measure => simp [intOf]
      case inr.inr.inr.inr.inr.inl =>
        have hix : ∀ W, (Instr.index 256 (.agg #[.int .u32 st.a, .int .u32 st.b, .int .u32 st.c, .int .u32 st.d, .int .u32 st.e, .int .u32 st.f, .int .u32 st.g, .int .u32 st.h]) (.int .i64 5)).run Tryz.prog W = .ok (.int .u32 st.f) W := fun W => by kernel_rfl
        obtain ⟨A6, c6, w6, hrun6, hr6, hb6⟩ := sum_append wr Wz.heap.size hr.out (by have := hol.out; omega) hbr.out.size st.f
        have HR6 := hid hr6
        have HB6 := hid (hbr.out.trans hb6)
        have HO6 := hid (show os ++ word4 st.f = (st.toL.take 6).flatMap word4 by rw [ho.out]; rfl)
        have HL6 := hid (show (os ++ word4 st.f).length = 4 * 6 by rw [List.length_append, hol.out]; rfl)
        clear hr6 hb6 hr hbr ho
        go_wp2_with (first | (at_builtin; refine wpList_append_run rfl _ _ _ (by rfl) _ _ _ _ (by rfl) (by rfl) hrun6 ?_))
        go_roundw
        case rel => exact ⟨6, A6, c6, os ++ word4 st.f, by omega, rfl, by rw [List.length_append], HL6, HO6, HR6, HB6⟩
        case measure => simp [intOf]
      case inr.inr.inr.inr.inr.inr.inl =>
        have hix : ∀ W, (Instr.index 256 (.agg #[.int .u32 st.a, .int .u32 st.b, .int .u32 st.c, .int .u32 st.d, .int .u32 st.e, .int .u32 st.f, .int .u32 st.g, .int .u32 st.h]) (.int .i64 6)).run Tryz.prog W = .ok (.int .u32 st.g) W := fun W => by kernel_rfl
        obtain ⟨A6, c6, w6, hrun6, hr6, hb6⟩ := sum_append wr Wz.heap.size hr.out (by have := hol.out; omega) hbr.out.size st.g
        have HR6 := hid hr6
        have HB6 := hid (hbr.out.trans hb6)
        have HO6 := hid (show os ++ word4 st.g = (st.toL.take 7).flatMap word4 by rw [ho.out]; rfl)
        have HL6 := hid (show (os ++ word4 st.g).length = 4 * 7 by rw [List.length_append, hol.out]; rfl)
        clear hr6 hb6 hr hbr ho
        go_wp2_with (first | (at_builtin; refine wpList_append_run rfl _ _ _ (by rfl) _ _ _ _ (by rfl) (by rfl) hrun6 ?_))
        go_roundw
        case rel => exact ⟨7, A6, c6, os ++ word4 st.g, by omega, rfl, by rw [List.length_append], HL6, HO6, HR6, HB6⟩
        case measure => simp [intOf]
      case inr.inr.inr.inr.inr.inr.inr.inl =>
        have hix : ∀ W, (Instr.index 256 (.agg #[.int .u32 st.a, .int .u32 st.b, .int .u32 st.c, .int .u32 st.d, .int .u32 st.e, .int .u32 st.f, .int .u32 st.g, .int .u32 st.h]) (.int .i64 7)).run Tryz.prog W = .ok (.int .u32 st.h) W := fun W => by kernel_rfl
        obtain ⟨A6, c6, w6, hrun6, hr6, hb6⟩ := sum_append wr Wz.heap.size hr.out (by have := hol.out; omega) hbr.out.size st.h
        have HR6 := hid hr6
        have HB6 := hid (hbr.out.trans hb6)
        have HO6 := hid (show os ++ word4 st.h = (st.toL.take 8).flatMap word4 by rw [ho.out]; rfl)
        have HL6 := hid (show (os ++ word4 st.h).length = 4 * 8 by rw [List.length_append, hol.out]; rfl)
        clear hr6 hb6 hr hbr ho
        go_wp2_with (first | (at_builtin; refine wpList_append_run rfl _ _ _ (by rfl) _ _ _ _ (by rfl) (by rfl) hrun6 ?_))
        go_roundw
        case rel => exact ⟨8, A6, c6, os ++ word4 st.h, by omega, rfl, by rw [List.length_append], HL6, HO6, HR6, HB6⟩
        case measure => simp [intOf]
  case stop =>
    rintro D cc pre Wz _ _ hh _
    exact hh.elim
end Go.Proofs.YtiabfngiibabcaaGreatDoor

set_option linter.unusedVariables false
set_option linter.unusedSimpArgs false
set_option maxHeartbeats 6400000
set_option maxRecDepth 100000
set_option allowUnsafeReducibility true
namespace Go.Proofs.YtiabfngiibabcaaGreatDoor
open Go Go.RowKit
attribute [local irreducible] mixP

theorem restP_len (a : List UInt8) : (restP a).length = a.length - a.length / 64 * 64 := by simp [restP]
theorem drop_behind {α : Type} (x y : List α) (m : Nat) : (x ++ y).drop (x.length + m) = y.drop m := by rw [← List.drop_drop, List.drop_left]
theorem restP_app (a d : List UInt8) : restP (restP a ++ d) = restP (a ++ d) := by
  have e : a = a.take (a.length / 64 * 64) ++ restP a := (List.take_append_drop _ _).symm
  have hl := restP_len a
  have hlt : (a.take (a.length / 64 * 64)).length = a.length / 64 * 64 := by rw [List.length_take]; omega
  have h2 : (a ++ d).length / 64 * 64 = a.length / 64 * 64 + (restP a ++ d).length / 64 * 64 := by
    rw [List.length_append, List.length_append, hl]; omega
  have e2 : a ++ d = a.take (a.length / 64 * 64) ++ (restP a ++ d) := by rw [← List.append_assoc, ← e]
  have h3 : (a ++ d).drop ((a ++ d).length / 64 * 64) = (restP a ++ d).drop ((restP a ++ d).length / 64 * 64) := by
    have hd := drop_behind (a.take (a.length / 64 * 64)) (restP a ++ d) ((restP a ++ d).length / 64 * 64)
    rw [hlt] at hd
    rw [h2]
    conv => lhs; rw [e2]
    exact hd
  exact h3.symm
theorem state_app {σ : Type} (f : σ → List UInt8 → σ) (s : σ) (a d : List UInt8) : blocksF f (blocksF f s a (a.length / 64)) (restP a ++ d) ((restP a ++ d).length / 64) = blocksF f s (a ++ d) ((a ++ d).length / 64) := by
  have e2 : a ++ d = a.take (64 * (a.length / 64)) ++ (restP a ++ d) := by
    rw [← List.append_assoc]
    congr 1
    unfold restP
    rw [Nat.mul_comm, List.take_append_drop]
  have h2 : (a ++ d).length / 64 = a.length / 64 + (restP a ++ d).length / 64 := by
    rw [List.length_append, List.length_append, restP_len]; omega
  rw [h2]
  conv => rhs; rw [e2]
  rw [blocksF_app f _ _ _ _ _ (by rw [List.length_take]; omega), blocksF_take f _ _ _ (by omega)]
structure Pt where
  A : Option Addr
  l : List UInt8
  c : Nat
/-- Parts that are there. -/
def PartsAt (W : World) (bp : Nat) (ps : List Pt) : Prop := ∀ i, (h : i < ps.length) → W.cell? ⟨bp, i, none⟩ = some (.slice ps[i].A ps[i].l.length ps[i].c) ∧ BytesAt W ps[i].A ps[i].l
def allP (ps : List Pt) : List UInt8 := ps.flatMap (·.l)
theorem allP_take (ps : List Pt) (k : Nat) (h : k < ps.length) : allP (ps.take (k + 1)) = allP (ps.take k) ++ ps[k].l := by
  unfold allP
  rw [List.take_succ_eq_append_getElem h, List.flatMap_append]
  simp
theorem allP_le (ps : List Pt) (k : Nat) (h : k < ps.length) : (allP (ps.take k)).length + ps[k].l.length ≤ (allP ps).length := by
  have e : allP ps = allP (ps.take (k + 1)) ++ allP (ps.drop (k + 1)) := by
    unfold allP
    rw [← List.flatMap_append, List.take_append_drop]
  rw [e, allP_take ps k h, List.length_append, List.length_append]
  omega
theorem digest_Sum256 (W : World) (bp n cp : Nat) (ps : List Pt) (hn : n = ps.length) (hpl : ps.length ≤ 1000) (hP : PartsAt W bp ps) (hbp : 0 < ps.length → bp < W.heap.size) (hl : (allP ps).length ≤ 100000) (hk : Lib.TabIs Tryz.prog W "pantile/digest.k" .u64 kTab) (hb : Lib.TabIs Tryz.prog W "pantile/digest.begins" .u64 beginTab) :
    Calls Tryz.prog 116 #[.slice (some ⟨bp, 0, none⟩) n cp] W fun e w' => ∃ A' c', e = .returned (.slice A' 32 c') ∧ w'.ownsRow W.heap.size 5 1 (.slice A' 32 c') 32 ((shaP (allP ps)).map B8) ∧ Below W.heap.size W w' := by
  subst hn
  have NW := hid (digest_New W hb)
  have HP := hid hP
  have HK := hid hk
  clear hP hk hb
  have hnl : ps.length ≤ ps.length := Nat.le_refl _
  go_enter Tryz.func116, Tryz.ntmps116
  go_wp2_with fail
  refine NW.out.mono ?_
  rintro e w1 ⟨rfl, hB1, hW1⟩
  have HB1 := hid hB1
  have HW1 := hid hW1
  clear hB1 hW1 NW
  go_wp2
  go_loopw [5, 9] (fun _ i wr => ∃ (k : Nat) (A' : Option Addr) (c' : Nat), k ≤ ps.length ∧ i = .int .i64 k ∧ Hid (Blk wr W.heap.size 258 (hCells (blocksF mixP beginP (allP (ps.take k)) ((allP (ps.take k)).length / 64)) (.slice A' (restP (allP (ps.take k))).length c') ((allP (ps.take k)).length : Nat))) ∧ Hid (wr.ownsRow W.heap.size 5 1 (.slice A' (restP (allP (ps.take k))).length c') (restP (allP (ps.take k))).length ((restP (allP (ps.take k))).map B8)) ∧ Hid (Below W.heap.size W wr)) (fun _ i _ => ps.length - (intOf i).toNat)
  case atStart =>
    have h00 : allP (ps.take 0) = [] := rfl
    exact ⟨0, none, 0, Nat.zero_le _, rfl, by rw [h00]; exact HB1, by rw [h00]; exact World.ownsRow_nil _ _ _ _, HW1⟩
  case round =>
    obtain ⟨k, A', c', hk, rfl, hB, hr, hb⟩ := hrel
    by_cases h : k < ps.length
    · obtain ⟨c0, hbt⟩ := HP.out k h
      have hlt := hbp (by omega)
      have c1 := (hb.out.cell (p := ⟨bp, k, none⟩) hlt).trans c0
      have hle := allP_le ps k h
      have hrl := restP_len (allP (ps.take k))
      have WR := digest_Write W wr W.heap.size _ (restP (allP (ps.take k))) ps[k].l A' ps[k].A c' ps[k].c (allP (ps.take k)).length HK.out hb.out (Nat.le_refl _) hB.out hr.out hbt (by omega) (by omega) (by omega)
      rw [state_app, restP_app, ← allP_take ps k h, ← List.length_append, ← allP_take ps k h] at WR
      have WRH := hid WR
      clear WR hbt c0 hle hrl hB hr hb
      generalize ps[k].l = pl at *
      generalize ps[k].A = pA at *
      generalize ps[k].c = pc at *
      go_wp2_with fail
      refine WRH.out.mono ?_
      rintro e w2 ⟨rfl, A2, c2, hB2, hr2, hb2⟩
      have HB2 := hid hB2
      have HR2 := hid hr2
      have HW2 := hid hb2
      clear hB2 hr2 hb2 WRH
      go_wp2
      go_roundw
      case rel => exact ⟨k + 1, A2, c2, by omega, by go_num, HB2, HR2, HW2⟩
      case measure => simp [intOf]; omega
    · have hk' : k = ps.length := by omega
      subst hk'
      rw [List.take_length] at hB hr
      have hrl := restP_len (allP ps)
      have SM := hid (digest_Sum W wr W.heap.size _ (restP (allP ps)) A' c' (allP ps).length HK.out hb.out (Nat.le_refl _) hB.out hr.out (by omega) (by omega))
      clear hB hr hb hrl
      go_wp2_with fail
      refine SM.out.mono ?_
      rintro e w2 ⟨A2, c2, rfl, hr2, hb2⟩
      have HR2 := hid hr2
      have HW2 := hid hb2
      clear hr2 hb2 SM
      go_wp2
      go_ret
      exact ⟨A2, c2, rfl, HR2.out, HW2.out⟩
/-- A byte ahead of bytes: the hash of a leaf. -/
def leafH (l : List UInt8) : List UInt8 := shaP ([0] ++ l)
def nodeH (a b : List UInt8) : List UInt8 := shaP ([1] ++ (a ++ b))
theorem leafH_len (l : List UInt8) : (leafH l).length = 32 := shaP_len _
theorem nodeH_len (a b : List UInt8) : (nodeH a b).length = 32 := shaP_len _
theorem conv_argB (w : World) (A : Option Addr) (l : List UInt8) (c : Nat) (h : BytesAt w A l) : (convert 85 9 (.slice A l.length c)).run Tryz.prog w = .ok (.string (S l)) w := by
  have h1 : (Tryz.prog).underlying 85 = some (.slice 5) := by kernel_rfl
  have h2 : (Tryz.prog).underlying 9 = some .string := by kernel_rfl
  have h3 : (Tryz.prog).underlying 5 = some (.int .u8) := by kernel_rfl
  by_cases h0 : 0 < l.length
  · obtain ⟨b, off, rfl, hb, hc⟩ := h h0
    exact run_string_of w 85 5 h1 h3 b off _ c l rfl hc 9 h2
  · have hl : l = [] := List.eq_nil_of_length_eq_zero (by omega)
    subst hl
    cases A with
    | none => exact run_convert_bytes_nil w 85 5 h1 h3 0 c 9 h2
    | some p =>
      rw [run_convert_bytes_string w _ _ _ _ _ c h1 h3 h2]
      exact run_bytesToString w p 0 c [] (run_loadCells_list (P := Tryz.prog) w p [] (fun j v hj => by simp at hj))
theorem conv_row {w : World} {base n c : Nat} {A : Option Addr} {l : List UInt8} (h : w.ownsRow base 5 1 (.slice A n c) n (l.map B8)) : (convert 85 9 (.slice A n c)).run Tryz.prog w = .ok (.string (S l)) w := by
  have hn : n = l.length := by have := h.1; simp at this; omega
  subst hn
  exact conv_argB w A l c (bytesAt_row h).2
theorem peaks_LeafHash (W : World) (A : Option Addr) (l : List UInt8) (c : Nat) (hB : BytesAt W A l) (hl : l.length ≤ 10000) (hk : Lib.TabIs Tryz.prog W "pantile/digest.k" .u64 kTab) (hb : Lib.TabIs Tryz.prog W "pantile/digest.begins" .u64 beginTab) :
    Calls Tryz.prog 106 #[.slice A l.length c] W fun e w' => e = .returned (.string (S (leafH l))) ∧ Below W.heap.size W w' := by
  obtain ⟨W1, HW1⟩ : ∃ W1, Hid (W1 = W.alloc (.cells #[.int .u8 0] 5)) := ⟨_, rfl⟩
  obtain ⟨W2, HW2⟩ : ∃ W2, Hid (W2 = W1.alloc (.cells #[.slice (some ⟨W.heap.size, 0, none⟩) 1 1, .slice A l.length c] 85)) := ⟨_, rfl⟩
  have b1 : Below W.heap.size W W1 := by rw [HW1.out]; exact (Below.refl _ _).alloc (Nat.le_refl _) _
  have b2 : Below W.heap.size W W2 := by rw [HW2.out]; exact b1.alloc b1.size _
  have hz1 : W1.heap.size = W.heap.size + 1 := by rw [HW1.out]; simp
  have hz2 : W2.heap.size = W.heap.size + 2 := by rw [HW2.out]; simp [hz1]
  have k1 : Blk W2 W.heap.size 5 #[.int .u8 0] := by rw [HW2.out, HW1.out]; exact (Blk.new _ _ _).alloc _
  have k2 : Blk W2 (W.heap.size + 1) 85 #[.slice (some ⟨W.heap.size, 0, none⟩) 1 1, .slice A l.length c] := by rw [HW2.out, ← hz1]; exact Blk.new _ _ _
  have hP : PartsAt W2 (W.heap.size + 1) [⟨some ⟨W.heap.size, 0, none⟩, [0], 1⟩, ⟨A, l, c⟩] := fun i hi => by
    have h2 : i < 2 := hi
    have hc : i = 0 ∨ i = 1 := by omega
    rcases hc with rfl | rfl
    · refine ⟨k2.cell 0, fun _ => ⟨W.heap.size, 0, rfl, by omega, fun j hj => ?_⟩⟩
      have hj0 : j = 0 := by simp at hj; exact hj
      subst hj0
      exact k1.cell 0
    · exact ⟨k2.cell 1, hB.below b2⟩
  have SM := digest_Sum256 W2 (W.heap.size + 1) 2 2 [⟨some ⟨W.heap.size, 0, none⟩, [0], 1⟩, ⟨A, l, c⟩] rfl (by simp) hP (fun _ => by omega) (by simp [allP]; omega) (Go.Joins.var_stays (g := 4) (by kernel_rfl) hk b2 (Nat.le_refl _)) (Go.Joins.var_stays (g := 3) (by kernel_rfl) hb b2 (Nat.le_refl _))
  have e : allP [⟨some ⟨W.heap.size, 0, none⟩, [0], 1⟩, ⟨A, l, c⟩] = [0] ++ l := by simp [allP]
  rw [e] at SM
  have SMH := hid (show Calls Tryz.prog 116 #[.slice (some ⟨W.heap.size + 1, 0, none⟩) 2 2] W2 fun e w' => ∃ A' c', e = .returned (.slice A' 32 c') ∧ (∀ W', W' = w' → (convert 85 9 (.slice A' 32 c')).run Tryz.prog W' = .ok (.string (S (leafH l))) W') ∧ Below W.heap.size W w' from SM.mono fun e w' ⟨A', c', h1, h2, h3⟩ => ⟨A', c', h1, fun W' hW => by rw [hW]; exact conv_row h2, b2.trans (h3.mono b2.size)⟩)
  clear SM k1 k2 hP b1 b2 hB e
  go_enter Tryz.func106, Tryz.ntmps106
  go_wp2_with fail
  rw [← HW1.out, ← HW2.out]
  try rw [hz1]
  refine SMH.out.mono ?_
  rintro e w3 ⟨A3, c3, rfl, hc3, hb3⟩
  have h3 := hc3 w3 rfl
  have HB3 := hid hb3
  clear hc3 hb3 SMH
  go_wp2
  go_ret
  exact ⟨rfl, HB3.out⟩
theorem peaks_NodeHash (W : World) (a b : List UInt8) (hl : a.length + b.length ≤ 10000) (hk : Lib.TabIs Tryz.prog W "pantile/digest.k" .u64 kTab) (hb : Lib.TabIs Tryz.prog W "pantile/digest.begins" .u64 beginTab) :
    Calls Tryz.prog 54 #[.string (S a), .string (S b)] W fun e w' => e = .returned (.string (S (nodeH a b))) ∧ Below W.heap.size W w' := by
  obtain ⟨W1, HW1⟩ : ∃ W1, Hid (W1 = W.alloc (.cells #[.int .u8 1] 5)) := ⟨_, rfl⟩
  obtain ⟨W2, HW2⟩ : ∃ W2, Hid (W2 = Lib.bytesWorld W1 5 (S a)) := ⟨_, rfl⟩
  obtain ⟨W3, HW3⟩ : ∃ W3, Hid (W3 = Lib.bytesWorld W2 5 (S b)) := ⟨_, rfl⟩
  obtain ⟨W4, HW4⟩ : ∃ W4, Hid (W4 = W3.alloc (.cells #[.slice (some ⟨W.heap.size, 0, none⟩) 1 1, .slice (some ⟨W1.heap.size, 0, none⟩) a.length (grownCap W1 a.length 0 5), .slice (some ⟨W2.heap.size, 0, none⟩) b.length (grownCap W2 b.length 0 5)] 85)) := ⟨_, rfl⟩
  have b1 : Below W.heap.size W W1 := by rw [HW1.out]; exact (Below.refl _ _).alloc (Nat.le_refl _) _
  have b2 : Below W1.heap.size W1 W2 := by rw [HW2.out]; exact conv_below _ _
  have b3 : Below W2.heap.size W2 W3 := by rw [HW3.out]; exact conv_below _ _
  have b4 : Below W3.heap.size W3 W4 := by rw [HW4.out]; exact (Below.refl _ _).alloc (Nat.le_refl _) _
  have hz1 : W1.heap.size = W.heap.size + 1 := by rw [HW1.out]; simp
  have hz2 := b2.size
  have hz3 := b3.size
  have k1 : Blk W1 W.heap.size 5 #[.int .u8 1] := by rw [HW1.out]; exact Blk.new _ _ _
  have k2 : BytesAt W2 (some ⟨W1.heap.size, 0, none⟩) a := by rw [HW2.out]; exact conv_at _ _
  have k3 : BytesAt W3 (some ⟨W2.heap.size, 0, none⟩) b := by rw [HW3.out]; exact conv_at _ _
  have k4 : Blk W4 W3.heap.size 85 #[.slice (some ⟨W.heap.size, 0, none⟩) 1 1, .slice (some ⟨W1.heap.size, 0, none⟩) a.length (grownCap W1 a.length 0 5), .slice (some ⟨W2.heap.size, 0, none⟩) b.length (grownCap W2 b.length 0 5)] := by rw [HW4.out]; exact Blk.new _ _ _
  have bA := bt (bt b1 b2) (bt b3 b4)
  have k1' := ((k1.below b2 (by omega)).below b3 (by omega)).below b4 (by omega)
  have q1 := conv_run W1 a
  have q2 := conv_run W2 b
  rw [← HW2.out] at q1
  rw [← HW3.out] at q2
  generalize grownCap W1 a.length 0 5 = ca at *
  generalize grownCap W2 b.length 0 5 = cb at *
  have hP : PartsAt W4 W3.heap.size [⟨some ⟨W.heap.size, 0, none⟩, [1], 1⟩, ⟨some ⟨W1.heap.size, 0, none⟩, a, ca⟩, ⟨some ⟨W2.heap.size, 0, none⟩, b, cb⟩] := fun i hi => by
    have h2 : i < 3 := hi
    have hc : i = 0 ∨ i = 1 ∨ i = 2 := by omega
    rcases hc with rfl | rfl | rfl
    · refine ⟨k4.cell 0, fun _ => ⟨W.heap.size, 0, rfl, by have := b4.size; omega, fun j hj => ?_⟩⟩
      have hj0 : j = 0 := by simp at hj; exact hj
      subst hj0
      exact k1'.cell 0
    · exact ⟨k4.cell 1, (k2.below b3).below b4⟩
    · exact ⟨k4.cell 2, k3.below b4⟩
  have SM := digest_Sum256 W4 W3.heap.size 3 3 [⟨some ⟨W.heap.size, 0, none⟩, [1], 1⟩, ⟨some ⟨W1.heap.size, 0, none⟩, a, ca⟩, ⟨some ⟨W2.heap.size, 0, none⟩, b, cb⟩] rfl (by simp) hP (fun _ => k4.lt) (by simp [allP]; omega) (Go.Joins.var_stays (g := 4) (by kernel_rfl) hk bA (Nat.le_refl _)) (Go.Joins.var_stays (g := 3) (by kernel_rfl) hb bA (Nat.le_refl _))
  have e : allP [⟨some ⟨W.heap.size, 0, none⟩, [1], 1⟩, ⟨some ⟨W1.heap.size, 0, none⟩, a, ca⟩, ⟨some ⟨W2.heap.size, 0, none⟩, b, cb⟩] = [1] ++ (a ++ b) := by simp [allP]
  rw [e] at SM
  have SMH := hid (show Calls Tryz.prog 116 #[.slice (some ⟨W3.heap.size, 0, none⟩) 3 3] W4 fun e w' => ∃ A' c', e = .returned (.slice A' 32 c') ∧ (∀ W', W' = w' → (convert 85 9 (.slice A' 32 c')).run Tryz.prog W' = .ok (.string (S (nodeH a b))) W') ∧ Below W.heap.size W w' from SM.mono fun e w' ⟨A', c', h1, h2, h3⟩ => ⟨A', c', h1, fun W' hW => by rw [hW]; exact conv_row h2, bt bA h3⟩)
  clear SM k1 k2 k3 k4 k1' hP b1 b2 b3 b4 bA e hz2 hz3
  rw [hz1] at q1 HW4
  rw [HW1.out] at q1
  go_enter Tryz.func54, Tryz.ntmps54
  go_wp2_with fail
  rw [← HW4.out]
  refine SMH.out.mono ?_
  rintro e w5 ⟨A5, c5, rfl, hc5, hb5⟩
  have h5 := hc5 w5 rfl
  have HB5 := hid hb5
  clear hc5 hb5 SMH
  go_wp2
  go_ret
  exact ⟨rfl, HB5.out⟩
end Go.Proofs.YtiabfngiibabcaaGreatDoor
