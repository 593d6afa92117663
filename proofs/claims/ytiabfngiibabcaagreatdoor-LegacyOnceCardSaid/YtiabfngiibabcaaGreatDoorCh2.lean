/-
  Walk of b64.Unhex at the digits of bytes.
-/
import Derived.Test.YtiabfngiibabcaaGreatDoorCh1
import Derived.Test.YtiabfngiibabcaaGreatDoorM04
import Derived.Test.YtiabfngiibabcaaGreatDoorM15
import Derived.Test.YtiabfngiibabcaaGreatDoorM14
import Derived.Stop.RegionWithIn
set_option linter.unusedVariables false
set_option linter.unusedSimpArgs false
set_option maxHeartbeats 6400000
set_option maxRecDepth 100000
namespace Go.Proofs.YtiabfngiibabcaaGreatDoor
open Go Go.RowKit
attribute [local go_sem] Oper.semAt_some

theorem wpListIn_append_run {F : Fence} {n : Nat} {P : Program} {w : World} {ops : Array Oper} {rest : List Oper} {o : Oper} {a : Act} {Q : Exit → Act → World → Prop} (hgd : o.guard = none) (s x : Operand) (t : TypeId)
    (ho : o.op = .call { callee := .builtin .append, args := #[s, x], argTypes := #[t, t] }) (v1 v2 v' : Value) (w' : World) (hs : a.eval s = v1) (hx : a.eval x = v2)
    (hrun : (Builtin.append_ #[t, t] o.type #[v1, v2]).run P w = .ok v' w') (h : wpListIn F n P ops Q rest (a.put o.dst v') w') : wpListIn F n P ops Q (o :: rest) a w := by
  refine wpListIn_plain hgd fun K hK' => ?_
  unfold Oper.wpIn
  refine ⟨?_, ?_⟩
  · simp [Oper.about, ho, resolve, Target.leads, Sem.run_pure]
  · rw [Oper.semAt_plain F _ _ (by rw [ho]; intro c hc'; cases hc')]
    simp [execOp, ho, resolve, invoke, builtin, hs, hx, hrun, Result.andThen]
    exact hK' _ _ h
theorem hexB_at : ∀ (r : List UInt8) (k : Nat) (h : k < r.length), (hexB r)[2 * k]? = some (hxd (r[k].toNat / 16)) ∧ (hexB r)[2 * k + 1]? = some (hxd (r[k].toNat % 16))
  | c :: r, 0, _ => ⟨rfl, rfl⟩
  | c :: r, k + 1, h => by
    have ih := hexB_at r k (by simpa using h)
    rw [hexB_cons]
    exact ⟨by rw [show 2 * (k + 1) = 2 * k + 1 + 1 by omega]; simpa using ih.1, by rw [show 2 * (k + 1) + 1 = 2 * k + 1 + 1 + 1 by omega]; simpa using ih.2⟩
theorem idx_hex : ∀ k, k < 16 → Lib.indexByte [48, 49, 50, 51, 52, 53, 54, 55, 56, 57, 97, 98, 99, 100, 101, 102] (hxd k) = k := by decide
theorem or_all : (List.range 256).all (fun n => decide (bits BinOp.or IntKind.i64 0 ((n : Int) / 16) = ((n / 16 : Nat) : Int) ∧ bits BinOp.or IntKind.i64 ((n : Int) / 16 * 16) ((n : Int) % 16) = (n : Int))) = true := by kernel_rfl
theorem or_hex {n : Nat} (h : n < 256) : bits BinOp.or IntKind.i64 0 ((n : Int) / 16) = ((n / 16 : Nat) : Int) ∧ bits BinOp.or IntKind.i64 ((n : Int) / 16 * 16) ((n : Int) % 16) = (n : Int) := by
  have := List.all_eq_true.1 or_all n (List.mem_range.2 h)
  exact of_decide_eq_true this
theorem b64_Unhex (w : World) (r : List UInt8) (hl : r.length ≤ 10000) :
    Calls Tryz.prog 38 #[.string (S (hexB r))] w fun e w' => ∃ A c, e = .returned (.tuple #[.slice A r.length c, .int .i64 0]) ∧ w'.ownsRow w.heap.size 5 1 (.slice A r.length c) r.length (r.map B8) ∧ Below w.heap.size w w' := by
  have hmf : ∀ (fn : Fn) (first cap : Array Value) (w : World), (Instr.makeFunc fn first cap).run Tryz.prog w = .ok (.func fn first cap) w := fun _ _ _ _ => rfl
  obtain ⟨W0, HW0⟩ : ∃ W0, Hid (W0 = ((w.alloc (.cells #[.slice none 0 0] 85)).alloc (.cells #[.int .i64 0] 26)).alloc (.cells #[.slice none 0 0] 85)) := ⟨_, rfl⟩
  obtain ⟨W1, HW1⟩ : ∃ W1, Hid (W1 = Lib.bytesWorld W0 5 (S (hexB r))) := ⟨_, rfl⟩
  have q1 := conv_run W0 (hexB r)
  rw [← HW1.out] at q1
  have hz0 : W0.heap.size = w.heap.size + 3 := by rw [HW0.out]; simp
  generalize hcp : grownCap W0 (hexB r).length 0 5 = cp at *
  have hlen := hexB_len r
  generalize hxe : hexB r = hx at *
  have HXE := hid hxe
  clear hxe
  have HL := hid hlen
  have hz0' : W0.heap.size = w.heap.size + 1 + 1 + 1 := hz0
  rw [hz0', HW0.out] at q1
  clear hlen
  refine (callsIn_wide (n := 8)).1 ?_
  refine callsIn_of_wp_marks Tryz.func38 rfl trivial ?_ rfl
  simp only [Tryz.ntmps38, List.size_toArray, List.length_cons, List.length_nil, Nat.reduceAdd, Nat.reduceSub, Array.replicate_succ, Array.replicate_zero, List.push_toArray, List.append_toArray, List.nil_append, List.cons_append]
  refine wpIn_wide.2 ?_
  go_wp2_with fail
  rw [HL.out]
  refine (slices_Chunk _ _ _ _).mono ?_
  rintro e w' ⟨rfl, rfl⟩
  go_wp2
  have hw1 : W0.heap.size < W1.heap.size := by rw [HW1.out, Lib.bytesWorld_size]; omega
  have hBb : Blk W1 w.heap.size 85 #[.slice none 0 0] := by
    rw [HW1.out]
    refine Blk.below ?_ (conv_below W0 hx) (by omega)
    rw [HW0.out]
    exact ((Blk.new _ _ _).alloc _).alloc _
  have hBe : Blk W1 (w.heap.size + 1) 26 #[.int .i64 0] := by
    rw [HW1.out]
    refine Blk.below ?_ (conv_below W0 hx) (by omega)
    rw [HW0.out]
    have := Blk.new (w.alloc (.cells #[.slice none 0 0] 85)) 26 #[.int .i64 0]
    rw [World.size_alloc] at this
    exact this.alloc _
  have hBo : Blk W1 (w.heap.size + 1 + 1) 85 #[.slice none 0 0] := by
    rw [HW1.out]
    refine Blk.below ?_ (conv_below W0 hx) (by omega)
    rw [HW0.out]
    have := Blk.new ((w.alloc (.cells #[.slice none 0 0] 85)).alloc (.cells #[.int .i64 0] 26)) 85 #[.slice none 0 0]
    rw [World.size_alloc, World.size_alloc] at this
    exact this
  have hAt : BytesAt W1 (some ⟨w.heap.size + 1 + 1 + 1, 0, none⟩) hx := by
    rw [HW1.out, ← hz0']
    exact conv_at _ _
  have hbl : Below w.heap.size w W1 := by
    rw [HW1.out]
    refine Below.trans ?_ ((conv_below W0 hx).mono (by omega))
    rw [HW0.out]
    exact (((Below.refl _ _).alloc (Nat.le_refl _) _).alloc (by simp) _).alloc (by simp; omega) _
  generalize hbw : w.heap.size = b0 at *
  have hz1 : W1.heap.size = W1.heap.size := rfl
  generalize hL1 : W1.heap.size = L1 at *
  have hz5 : ((W1.alloc (.cells #[.slice (some ⟨b0 + 1 + 1 + 1, 0, none⟩) (2 * r.length) cp] 85)).alloc (.cells #[.int .i64 2] 3)).heap.size = L1 + 2 := by simp [hL1]
  have HBD := hid (show Blk ((W1.alloc (.cells #[.slice (some ⟨b0 + 1 + 1 + 1, 0, none⟩) (2 * r.length) cp] 85)).alloc (.cells #[.int .i64 2] 3)) L1 85 #[.slice (some ⟨b0 + 1 + 1 + 1, 0, none⟩) (2 * r.length) cp] by rw [← hL1]; exact (Blk.new _ _ _).alloc _)
  have HBS := hid (show Blk ((W1.alloc (.cells #[.slice (some ⟨b0 + 1 + 1 + 1, 0, none⟩) (2 * r.length) cp] 85)).alloc (.cells #[.int .i64 2] 3)) (L1 + 1) 3 #[.int .i64 2] by simpa [hL1] using Blk.new (W1.alloc (.cells #[.slice (some ⟨b0 + 1 + 1 + 1, 0, none⟩) (2 * r.length) cp] 85)) 3 #[.int .i64 2])
  obtain ⟨I, HI⟩ : ∃ I : List Nat → World → Prop, Hid (I = fun pre Wz => (∃ A c, Blk Wz (b0 + 1 + 1) 85 #[.slice A pre.length c] ∧ Wz.ownsRow b0 5 1 (.slice A pre.length c) pre.length ((r.take pre.length).map B8) ∧ ∀ k, OwnBy (.slice A pre.length c) k → k ≠ L1 ∧ k ≠ L1 + 1 ∧ k ≠ L1 + 2 ∧ k ≠ L1 + 3 ∧ k ≠ b0 + 1 + 1 + 1) ∧ Blk Wz b0 85 #[.slice none 0 0] ∧ Blk Wz (b0 + 1) 26 #[.int .i64 0] ∧ BytesAt Wz (some ⟨b0 + 1 + 1 + 1, 0, none⟩) hx ∧ Below b0 w Wz ∧ L1 + 2 ≤ Wz.heap.size) := ⟨_, rfl⟩
  have hbL : b0 + 1 + 1 + 1 < L1 := by omega
  have HI0 := hid (show ∀ (p : List Nat) (B C : World), I p B → B.heap.size ≤ C.heap.size → C.os = B.os → C.tape = B.tape → C.output = B.output → (∀ k, k < B.heap.size → k ≠ L1 → k ≠ L1 + 3 → C.heap[k]? = B.heap[k]?) → I p C by
    intro p B C h hs ho ht hu hk
    rw [HI.out] at h ⊢
    obtain ⟨⟨A, c, h1, h2, h3⟩, h4, h5, h6, h7, h8⟩ := h
    refine ⟨⟨A, c, (hk _ h1.lt (by omega) (by omega)).trans h1, row_keep h2 fun k hkk => ?_, h3⟩, (hk _ h4.lt (by omega) (by omega)).trans h4, (hk _ h5.lt (by omega) (by omega)).trans h5, h6.of_heap (dk := b0 + 1 + 1 + 1) (fun p hp => by injection hp with hp; rw [← hp]) ?_ hs, ⟨ho.trans h7.os, ht.trans h7.tape, hu.trans h7.output, Nat.le_trans h7.size hs, fun k hk' => ?_⟩, by omega⟩
    · obtain ⟨cs, hcs⟩ := row_heap h2 hkk
      exact hk k (Array.getElem?_eq_some_iff.1 hcs).1 (h3 k hkk).1 (h3 k hkk).2.2.2.1
    · exact hk _ (by omega) (by omega) (by omega)
    · have := h7.size
      exact (hk k (by omega) (by omega) (by omega)).trans (h7.block k hk'))
  have HI5 := hid (show I [] ((W1.alloc (.cells #[.slice (some ⟨b0 + 1 + 1 + 1, 0, none⟩) (2 * r.length) cp] 85)).alloc (.cells #[.int .i64 2] 3)) by
    have hb5 : Below W1.heap.size W1 ((W1.alloc (.cells #[.slice (some ⟨b0 + 1 + 1 + 1, 0, none⟩) (2 * r.length) cp] 85)).alloc (.cells #[.int .i64 2] 3)) := ((Below.refl _ _).alloc (Nat.le_refl _) _).alloc (by simp) _
    rw [HI.out]
    exact ⟨⟨none, 0, hBo.below hb5 (by omega), World.ownsRow_nil _ _ _ _, fun k hk => by simp [OwnBy, Value.ownBlock] at hk⟩, hBb.below hb5 (by omega), hBe.below hb5 (by omega), hAt.below hb5, hbl.trans (hb5.mono (by omega)), by simp; omega⟩)
  have hcpc : 2 * r.length ≤ cp ∧ (cp : Int) ≤ 9223372036854775807 := by
    rw [← HL.out, ← hcp]
    refine ⟨grownCap_ge _ _ _ _, ?_⟩
    have := grownCap_le_maxLen W0 hx.length 0 5 (by rw [HL.out]; unfold maxLen; omega)
    unfold maxLen at this
    omega
  clear hBb hBe hBo hAt hbl hw1 q1 hcp
  generalize (W1.alloc (.cells #[.slice (some ⟨b0 + 1 + 1 + 1, 0, none⟩) (2 * r.length) cp] 85)).alloc (.cells #[.int .i64 2] 3) = w5 at *
  refine (wpIn_wide (n := 8)).1 ?_
  refine wpIn_rangeFunc_runq (F := Fence.wide) rfl (by omega) (gf := 158) (lb := #[.pointer (some ⟨L1, 0, none⟩), .pointer (some ⟨L1 + 1, 0, none⟩)]) rfl trivial (enters_of Tryz.func158 (by kernel_rfl) rfl) (encs := cEnc (b0 + 1 + 1 + 1) 0) (bb := L1) (Kp := BKp L1 (L1 + 1)) (S := fun xs => xs = List.range r.length) (Sp := fun _ => True) (Nx := fun pre x => x = pre.length ∧ pre.length < r.length) (by omega)
    (fun o => slices_Chunk1 L1 (L1 + 1) (b0 + 1 + 1 + 1) 0 cp r.length (some ⟨b0 + 1 + 1 + 1, 0, none⟩) (fun _ => rfl) _ ((HBD.out.alloc _).alloc _) ((HBS.out.alloc _).alloc _) (by omega) hcpc.1 hcpc.2 (by omega) _)
    (fun h k => ⟨Nat.le_trans h.1 k.1, k.2.1.trans h.2.1, k.2.2.trans h.2.2⟩) (fun Wz l o' hl => ⟨by simp, World.putObj_heap_other (by omega), World.putObj_heap_other (by omega)⟩) (fun x => rfl)
    I (fun _ _ _ => False)
    (fun p B C hB hs => HI0.out p B C hB hs.size hs.os hs.tape hs.output (fun k hk h1 h2 => hs.block k hk h1 (by omega))) (fun _ _ _ _ h _ => h) HI5.out
    (fun x a' Wz => a' = { tmps := #[.string (S hx), undef, .pointer (some ⟨b0, 0, none⟩), .pointer (some ⟨b0 + 1, 0, none⟩), .pointer (some ⟨b0 + 1 + 1, 0, none⟩), .slice (some ⟨b0 + 1 + 1 + 1, 2 * x, none⟩) 2 2, undef, undef, undef, undef, .string (S hx), .slice (some ⟨b0 + 1 + 1 + 1, 0, none⟩) (2 * r.length) cp, .func (.func 158) #[] #[.pointer (some ⟨L1, 0, none⟩), .pointer (some ⟨L1 + 1, 0, none⟩)], .slice (some ⟨b0 + 1 + 1 + 1, 2 * x, none⟩) 2 2, undef, undef, undef, undef, undef, undef, undef, undef, undef, undef, undef, undef, undef, undef, undef, undef, undef, undef, undef, undef, undef, undef, undef, undef, undef], defers := [] })
    ?hAx ?assign ?body ?done ?stop
  case hAx => exact fun x a' Bw r o' h _ => h
  case assign =>
    rintro l' pre x Wz K hsz hI hnx hK
    clear hnx
    simp only [cEnc, Nat.zero_add]
    gi_wp2
    exact hK _ _ (KeepsFrom.refl _ _) ⟨Nat.le_refl _, rfl, rfl⟩ hI rfl
  case body =>
    rintro l' pre x a' Wz hsz hI rfl ⟨hx1, hlx⟩
    subst hx1
    have hI' := hI
    rw [HI.out] at hI'
    obtain ⟨⟨A, c, hO, hR, hN⟩, hB, hE, hat, hW, hLz⟩ := hI'
    obtain ⟨g1, g2⟩ := hexB_at r pre.length hlx
    rw [HXE.out] at g1 g2
    obtain ⟨X, HX⟩ : ∃ X, Hid (X = r[pre.length]) := ⟨_, hid rfl⟩
    rw [← HX.out] at g1 g2
    obtain ⟨hi, hhi⟩ : ∃ hi, hi = X.toNat / 16 := ⟨_, rfl⟩
    obtain ⟨lo, hlo⟩ : ∃ lo, lo = X.toNat % 16 := ⟨_, rfl⟩
    have hXl := X.toNat_lt
    rw [← hhi] at g1
    rw [← hlo] at g2
    have hi16 : hi < 16 := by omega
    have lo16 : lo < 16 := by omega
    obtain ⟨gl1, ge1⟩ := List.getElem?_eq_some_iff.1 g1
    obtain ⟨gl2, ge2⟩ := List.getElem?_eq_some_iff.1 g2
    have cc : ∀ i (h : i < hx.length), Wz.cell? ⟨b0 + 1 + 1 + 1, i, none⟩ = some (.int .u8 hx[i].toNat) := fun i h => by
      obtain ⟨b', o', hA', -, hc'⟩ := hat (by omega)
      injection hA' with hA'
      injection hA' with e1 e2
      subst e1 e2
      have := hc' i h
      rwa [Nat.zero_add] at this
    have c1 := cc _ gl1
    have c2 := cc _ gl2
    rw [ge1] at c1
    rw [ge2] at c2
    clear cc
    have IB1 := hid (fun W => CallsIn.inRound l' ((callsIn_wide (n := 5)).2 (lg_IndexByte [48, 49, 50, 51, 52, 53, 54, 55, 56, 57, 97, 98, 99, 100, 101, 102] (hxd hi) W)))
    have IB2 := hid (fun W => CallsIn.inRound l' ((callsIn_wide (n := 5)).2 (lg_IndexByte [48, 49, 50, 51, 52, 53, 54, 55, 56, 57, 97, 98, 99, 100, 101, 102] (hxd lo) W)))
    rw [idx_hex hi hi16] at IB1
    rw [idx_hex lo lo16] at IB2
    have hbn : hxd hi = hxd hi := rfl
    generalize (hxd hi) = y1 at *
    generalize (hxd lo) = y2 at *
    have hfw : Fence.wide.fn 94 := trivial
    have hfd : Fence.wide.depth.isSome = false := rfl
    have HAT := hid hat
    have HALL := hid (And.intro hO (And.intro hR (And.intro hN (And.intro hB (And.intro hE hW)))))
    clear hO hR hN hB hE hW hat g1 g2 ge1 ge2 gl1 gl2 hI hbn
    gi_wp2
    gi_loopw [6, 8, 9, 16] (fun n _ _ i wr => wr = Wz ∧ ∃ j : Nat, j ≤ 2 ∧ i = .int .i64 j ∧ n = .int .i64 (match j with | 0 => 0 | 1 => (hi : Int) | _ => (X.toNat : Int))) (fun _ _ _ i _ => 2 - (intOf i).toNat)
    case atStart => exact ⟨rfl, 0, by omega, rfl, rfl⟩
    case round =>
      obtain ⟨rfl, j, hj, rfl, rfl⟩ := hrel
      have HOR := hid (or_hex (show X.toNat < 256 by omega))
      have hhn : decide ((hi : Int) < 0) = false := by simp
      have hln : decide ((lo : Int) < 0) = false := by simp
      match j with
      | 0 =>
        gi_wp2_with fail
        refine (IB1.out _).mono ?_
        rintro e w2 ⟨rfl, rfl⟩
        gi_wp2
        go_roundw
        case rel => exact ⟨trivial, 1, by omega, rfl, by rw [HOR.out.1, hhi]; rfl⟩
        case measure => simp only [intOf]; omega
      | 1 =>
        gi_wp2_with fail
        refine (IB2.out _).mono ?_
        rintro e w2 ⟨rfl, rfl⟩
        gi_wp2
        go_roundw
        case rel => exact ⟨trivial, 2, by omega, rfl, by rw [HOR.out.2]; rfl⟩
        case measure => simp only [intOf]; omega
      | 2 =>
        clear IB1 IB2 hhn hln c1 c2 hhi hlo hi16 lo16 HOR
        obtain ⟨hO, hR, hN, hB, hE, hW⟩ := HALL.out
        have hat := HAT.out
        have hlen2 : (r.take pre.length).length = pre.length := by rw [List.length_take]; omega
        have AP := append_byteT wr X (by rw [hlen2]; exact hR) (by rw [hlen2]; omega) (show b0 ≤ wr.heap.size by rw [← hbw]; exact hW.size)
        rw [hlen2] at AP
        obtain ⟨A3, c3, w3, hrun3, hr3, ht3⟩ := AP
        have c4 := hO.cell 0
        simp only [List.getElem?_toArray, List.getElem?_cons_zero] at c4
        have hOk : ∀ k, OwnBy (.slice A pre.length c) k → k ≠ b0 + 1 + 1 ∧ k ≠ b0 + 1 ∧ k ≠ b0 ∧ k < wr.heap.size := fun k hk => by
          obtain ⟨cs, hcs⟩ := row_heap hR hk
          exact ⟨Blk.ne_ (w := wr) (t := 5) (cs := cs) hcs hO (by decide), Blk.ne_ (w := wr) (t := 5) (cs := cs) hcs hE (by decide), Blk.ne_ (w := wr) (t := 5) (cs := cs) hcs hB (by decide), (Array.getElem?_eq_some_iff.1 hcs).1⟩
        have hO3 : Blk w3 (b0 + 1 + 1) 85 #[.slice A pre.length c] := (ht3.block _ hO.lt (fun h => (hOk _ h).1 rfl)).trans hO
        have cf4 := hO3.frozen 0
        have cc4 := hO3.cell 0
        simp only [List.getElem?_toArray, List.getElem?_cons_zero] at cc4
        have hsn : (r.take (pre.length + 1)) = r.take pre.length ++ [X] := by rw [List.take_succ_eq_append_getElem hlx, HX.out]
        have HFIN := hid (show KeepsFrom w5.heap.size wr (w3.setCell ⟨b0 + 1 + 1, 0, none⟩ (.slice A3 (pre.length + 1) c3)) ∧ BKp L1 (L1 + 1) wr (w3.setCell ⟨b0 + 1 + 1, 0, none⟩ (.slice A3 (pre.length + 1) c3)) ∧ I (pre ++ [pre.length]) (w3.setCell ⟨b0 + 1 + 1, 0, none⟩ (.slice A3 (pre.length + 1) c3)) by
          have hl2 : (r.take pre.length ++ [X]).length = pre.length + 1 := by rw [List.length_append, hlen2]; rfl
          have hl3 : (pre ++ [pre.length]).length = pre.length + 1 := by simp
          rw [hl2] at hr3
          have hz : (w3.setCell ⟨b0 + 1 + 1, 0, none⟩ (.slice A3 (pre.length + 1) c3)).heap.size = w3.heap.size := by simp [World.setCell]
          have hz3 := ht3.size
          have far : ∀ k, k ≠ b0 + 1 + 1 → (w3.setCell ⟨b0 + 1 + 1, 0, none⟩ (.slice A3 (pre.length + 1) c3)).heap[k]? = w3.heap[k]? := fun k hk => Below.heap_setCell _ _ _ _ hk
          have blk : ∀ k, k < wr.heap.size → k ≠ b0 + 1 + 1 → ¬ OwnBy (.slice A pre.length c) k → (w3.setCell ⟨b0 + 1 + 1, 0, none⟩ (.slice A3 (pre.length + 1) c3)).heap[k]? = wr.heap[k]? := fun k hk h1 h2 => (far k h1).trans (ht3.block k hk h2)
          refine ⟨⟨by omega, fun k o hk ho hc => ?_⟩, ⟨by omega, blk _ (by omega) (by omega) fun h => (hN _ h).1 rfl, blk _ (by omega) (by omega) fun h => (hN _ h).2.1 rfl⟩, ?_⟩
          · refine (blk k (Array.getElem?_eq_some_iff.1 ho).1 (by omega) fun h => ?_).trans ho
            obtain ⟨cs, hcs⟩ := row_heap hR h
            rw [hcs] at ho
            injection ho with ho
            rw [← ho] at hc
            cases hc
          · rw [HI.out]
            have hdk : b0 + 1 + 1 + 1 < wr.heap.size := by omega
            refine ⟨⟨A3, c3, ?_, ?_, fun k hk => ?_⟩, (blk _ hB.lt (by omega) fun h => (hOk _ h).2.2.1 rfl).trans hB, (blk _ hE.lt (by omega) fun h => (hOk _ h).2.1 rfl).trans hE, hat.of_heap (dk := b0 + 1 + 1 + 1) (fun p hp => by injection hp with hp; rw [← hp]) (blk _ hdk (by omega) fun h => ?_) (by omega), ?_, by omega⟩
            · rw [hl3]
              exact hO3.set_ 0 _
            · rw [hl3, hsn]
              refine row_keep hr3 fun k hk => far k ?_
              rintro rfl
              rcases ht3.new _ hk with h1 | h1
              · exact (hOk _ h1).1 rfl
              · have := hO.lt; omega
            · rw [hl3] at hk
              rcases ht3.new _ hk with h1 | h1
              · exact hN _ h1
              · exact ⟨by omega, by omega, by omega, by omega, by omega⟩
            · exact (hN _ h).2.2.2.2 rfl
            · have hq := (Below.refl b0 w3).setCell (p := ⟨b0 + 1 + 1, 0, none⟩) (by simp; omega) (.slice A3 (pre.length + 1) c3)
              refine ⟨hq.os.trans (ht3.os.trans hW.os), hq.tape.trans (ht3.tape.trans hW.tape), hq.output.trans (ht3.output.trans hW.output), by have := hW.size; omega, fun k hk => ?_⟩
              have hk2 := hW.size
              refine (blk k (by omega) (by omega) fun h => ?_).trans (hW.block k hk)
              have := row_base_le hR h
              omega)
        have w8 : IntKind.u8.wrap (X.toNat : Int) = (X.toNat : Int) := IntWalk.u8_in _ (by omega)
        clear hO hR hN hB hE hW hr3 ht3 hO3 HALL hOk hat
        gi_wp2_with (gi_at_builtin; refine wpListIn_append_run rfl _ _ _ (by rfl) _ _ _ _ (by rfl) (by rfl) hrun3 ?_)
        exact HFIN.out
  case done =>
    rintro D ys Wz hD hys hI hK
    rw [HI.out] at hI
    have hyl : ys.length = r.length := by rw [hys, List.length_range]
    rw [hyl, List.take_length] at hI
    obtain ⟨⟨A, c, hO, hR, hN⟩, hB, hE, hat, hW, hLz⟩ := hI
    have o0 := hO.cell 0
    have r0 := hB.cell 0
    have f0 := hB.frozen 0
    have e0 := hE.cell 0
    have g0 := hE.frozen 0
    simp only [List.getElem?_toArray, List.getElem?_cons_zero] at o0 r0 e0
    have hls : (hx.length : Int) % 2 = 0 := by rw [HL.out]; omega
    have hB2 : Blk (Wz.setCell ⟨b0, 0, none⟩ (.slice A r.length c)) b0 85 #[.slice A r.length c] := by simpa using hB.set_ 0 (.slice A r.length c)
    have hE2 : Blk (Wz.setCell ⟨b0, 0, none⟩ (.slice A r.length c)) (b0 + 1) 26 #[.int .i64 0] := hE.far (p := ⟨b0, 0, none⟩) (by simp) _
    have hB3 : Blk ((Wz.setCell ⟨b0, 0, none⟩ (.slice A r.length c)).setCell ⟨b0 + 1, 0, none⟩ (.int .i64 0)) b0 85 #[.slice A r.length c] := hB2.far (p := ⟨b0 + 1, 0, none⟩) (by simp) _
    have hE3 : Blk ((Wz.setCell ⟨b0, 0, none⟩ (.slice A r.length c)).setCell ⟨b0 + 1, 0, none⟩ (.int .i64 0)) (b0 + 1) 26 #[.int .i64 0] := by simpa using hE2.set_ 0 (.int .i64 0)
    have hall : ∀ k, k ≠ b0 → k ≠ b0 + 1 → ((Wz.setCell ⟨b0, 0, none⟩ (.slice A r.length c)).setCell ⟨b0 + 1, 0, none⟩ (.int .i64 0)).heap[k]? = Wz.heap[k]? := fun k h1 h2 => (Below.heap_setCell _ _ _ _ h2).trans (Below.heap_setCell _ _ _ _ h1)
    have hKf := (hall D (by omega) (by omega)).trans hK
    have hrun := hid (run_takeDeferred (P := Tryz.prog) hKf)
    have hr0 : (((Wz.setCell ⟨b0, 0, none⟩ (.slice A r.length c)).setCell ⟨b0 + 1, 0, none⟩ (.int .i64 0)).putObj D (.deferred none)).cell? ⟨b0, 0, none⟩ = some (.slice A r.length c) := (World.cell?_of_block (a := ⟨b0, 0, none⟩) (World.putObj_heap_other (show b0 ≠ D by omega))).trans (hB3.cell 0)
    have hr1 : (((Wz.setCell ⟨b0, 0, none⟩ (.slice A r.length c)).setCell ⟨b0 + 1, 0, none⟩ (.int .i64 0)).putObj D (.deferred none)).cell? ⟨b0 + 1, 0, none⟩ = some (.int .i64 0) := (World.cell?_of_block (a := ⟨b0 + 1, 0, none⟩) (World.putObj_heap_other (show b0 + 1 ≠ D by omega))).trans (hE3.cell 0)
    have HFIN := hid (show (((Wz.setCell ⟨b0, 0, none⟩ (.slice A r.length c)).setCell ⟨b0 + 1, 0, none⟩ (.int .i64 0)).putObj D (.deferred none)).ownsRow b0 5 1 (.slice A r.length c) r.length (r.map B8) ∧ Below b0 w (((Wz.setCell ⟨b0, 0, none⟩ (.slice A r.length c)).setCell ⟨b0 + 1, 0, none⟩ (.int .i64 0)).putObj D (.deferred none)) by
      refine ⟨row_keep hR fun k hk => ?_, ?_⟩
      · obtain ⟨cs, hcs⟩ := row_heap hR hk
        refine (World.putObj_heap_other ?_).trans (hall k (Blk.ne_ (w := Wz) (t := 5) (cs := cs) hcs hB (by decide)) (Blk.ne_ (w := Wz) (t := 5) (cs := cs) hcs hE (by decide)))
        rintro rfl
        rw [hcs] at hK
        cases hK
      · have hq := ((Below.refl b0 Wz).setCell (p := ⟨b0, 0, none⟩) (Nat.le_refl _) (.slice A r.length c)).setCell (p := ⟨b0 + 1, 0, none⟩) (by simp) (.int .i64 0)
        refine ⟨hq.os.trans hW.os, hq.tape.trans hW.tape, hq.output.trans hW.output, by have := hW.size; have := hq.size; rw [World.putObj_size]; omega, fun k hk => ?_⟩
        exact (World.putObj_heap_other (by omega)).trans ((hall k (by omega) (by omega)).trans (hW.block k hk)))
    clear hO hR hN hB hE hat hB2 hE2 hB3 hE3 hall hKf hK
    go_wp2
    refine ⟨by simp, .inl ⟨_, _, rfl, hrun.out, ?_⟩⟩
    exact ⟨.tuple #[.slice A r.length c, .int .i64 0], by simp [results, Tryz.results38, go_sem, hr0, hr1], A, c, rfl, HFIN.out.1, HFIN.out.2⟩
  case stop =>
    rintro D cc pre Wz _ _ hh _
    exact hh.elim
end Go.Proofs.YtiabfngiibabcaaGreatDoor
