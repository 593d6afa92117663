/-
  A log that takes one certificate in: Add, Sequence, and opened anew.
-/
import Derived.Test.YtiabfngiibabcaaGreatDoorLgOn
set_option linter.unusedVariables false
set_option linter.unusedSimpArgs false
set_option maxHeartbeats 3200000
set_option maxRecDepth 100000
namespace Go.Proofs.YtiabfngiibabcaaGreatDoor
open Go.RowKit

def bL (x : Lf) (t : Nat) : List Wr := seqB (mS x) 0 [x] t
theorem hexB_le (l : List UInt8) (h : l.length ≤ 32) : (hexB l).length ≤ 64 := by rw [hexB_len]; omega
theorem bS_facts (x : Lf) (hx : x.cert.length ≤ 10) : (∀ y ∈ bS x, 1 ≤ y.key.length ∧ y.key.length ≤ 100 ∧ y.val.length ≤ 100) ∧ (frameB (bS x)).length ≤ 1000 := by
  have h1 : ∀ y ∈ bS x, 1 ≤ y.key.length ∧ y.key.length ≤ 100 ∧ y.val.length ≤ 100 := by
    intro y hy
    obtain rfl := List.mem_singleton.1 hy
    simp only []
    rw [pK0, leafB_len]
    simp
    omega
  refine ⟨h1, ?_⟩
  have h2 := bodyB_le (b := bS x) (k := 100) (v := 100) fun y hy => (h1 y hy).2
  rw [frameB_len]
  have : (bS x).length = 1 := rfl
  rw [this] at h2
  omega
theorem bL_facts (x : Lf) (hx : x.cert.length ≤ 10) (t : Nat) (ht : t ≤ 1125899906842624) : (∀ y ∈ bL x t, 1 ≤ y.key.length ∧ y.key.length ≤ 100 ∧ y.val.length ≤ 300) ∧ (bodyB (bL x t)).length ≤ 10000 ∧ mayB (bL x t) = true := by
  have hh := leafH_len (leafB x)
  have hv := headV_len ⟨1, t, leafH (leafB x)⟩ ht (by simp only []; omega)
  have hx2 := hexB_le (leafH (leafB x)) (by omega)
  have h1 : ∀ y ∈ bL x t, 1 ≤ y.key.length ∧ y.key.length ≤ 100 ∧ y.val.length ≤ 300 := by
    intro y hy
    unfold bL at hy
    rw [seqB_1] at hy
    simp only [List.mem_cons, List.not_mem_nil, or_false] at hy
    rcases hy with rfl | rfl | rfl | rfl | rfl
    · simp only []; rw [lK0, leafB_len]; simp; omega
    · simp only []; rw [iKc, num0]; simp; omega
    · simp only []; rw [nK0]; simp; omega
    · simp only []; rw [pK0]; simp
    · simp only []; rw [hK1]; simp; omega
  refine ⟨h1, ?_, ?_⟩
  · have h2 := bodyB_le (b := bL x t) (k := 100) (v := 300) fun y hy => (h1 y hy).2
    have : (bL x t).length = 5 := by unfold bL; rw [seqB_1]; rfl
    rw [this] at h2
    omega
  · unfold mayB
    rw [List.all_eq_true]
    intro y hy
    obtain ⟨k1, k2, k3⟩ := h1 y hy
    unfold bL at hy
    rw [seqB_1] at hy
    unfold okW
    have hne : (y.key == []) = false := by
      cases hk : y.key with
      | nil => rw [hk] at k1; simp at k1
      | cons a r => rfl
    rw [hne, decide_eq_true (show y.key.length ≤ 200 by omega), decide_eq_true (show y.val.length ≤ 1048576 by omega)]
    simp only [List.mem_cons, List.not_mem_nil, or_false] at hy
    rcases hy with rfl | rfl | rfl | rfl | rfl <;> simp
section
variable {w0 W : World} {g lb : Nat} {q : Int} {F : Nat → Prop}
theorem on_Add_new (x : Lf) (h : LF w0 W g q [] lb [] 0 [] [] [] F) (hok : okL x = true) (hx : x.cert.length ≤ 10) (hq : 5000 ≤ q) (hL : LibL w0) :
    Calls Tryz.prog 9 #[.pointer (some ⟨lb, 0, none⟩), .string (S x.cert), .int .i64 x.time] W fun e w' => e = .returned (.tuple #[leafV x, .int .i64 0]) ∧ ∃ F', LF w0 w' g q (frameB (bS x)) lb (mS x) 0 [x] [] (noteM [] x) F' ∧ Turn F W w' ∧ ∀ j, F' j → F j ∨ W.heap.size ≤ j := by
  obtain ⟨N, k, sb, mb, cm, base, A, c, Ah, ch, Z, hN, hS, hw, hf, hbs⟩ := h
  simp only [List.length_nil, List.length_singleton] at hN
  obtain ⟨f1, f2⟩ := bS_facts x hx
  obtain ⟨p1, p2, k1, p3⟩ := fsL_apply (q := q) (k := k) (l := []) (x := frameB (bS x)) (by simp; omega)
  have ha := legacy_Add_new (P := []) hS.st rfl hS.blk hS.pr hS.bl.2.2 hS.cr (fun k hk => hS.fr k (by
    rcases hk with h | h | h
    · exact .inl h
    · exact .inr (.inl h)
    · exact .inr (.inr (.inl h)))) x hok rfl (by simp) (by omega) (by simp) (by simp) (by omega) (hL.below hw) p1 p2
  refine ha.mono ?_
  rintro e w' ⟨rfl, mb', Z', A', c', s1, s2, s3, s4, t1, t2, t3, t4⟩
  have hnH : ∀ k, OwnBy (.slice Ah 0 ch) k → k < W.heap.size ∧ ¬ (foot Z sb mb k ∨ k = lb ∨ k = cm ∨ OwnBy (.slice A ([] : List Lf).length c) k) := fun k hk => by
    obtain ⟨cs, hcs⟩ := row_heap hS.hr hk
    refine ⟨row_lt hS.hr hk, fun h => ?_⟩
    rcases h with h | h | h | h
    · exact hS.fr k (.inr (.inr (.inr hk))) h
    · exact Blk.ne_ (w := W) (t := 97) (cs := cs) hcs hS.blk (by decide) h
    · exact hS.cr.not_blk (x := k) (tx := 97) (cs := cs) hcs h
    · exact row_apart hS.hr hS.pr (by decide) hk h
  have hT : ∀ j, (foot Z sb mb j ∨ j = lb ∨ j = cm ∨ OwnBy (.slice A ([] : List Lf).length c) j) → F j := fun j hj => hf.1 j (by
    rcases hj with h | h | h | h
    · exact .inl h
    · exact .inr (.inl h)
    · exact .inr (.inr (.inl h))
    · exact .inr (.inr (.inr (.inl h))))
  have hsW := t1.size
  have hwW := hw.size
  rw [show (((U (fsL []) q k).append (fileN lgN logN) (frameB [⟨pK (0 + ([] : List Lf).length), leafB x, false⟩])).1.sync (fileN lgN logN)).1 = U (fsL ([] ++ frameB (bS x))) q k1 from p3] at s1
  have hrH := t1.row hS.hr fun k hk => (hnH k hk).2
  refine ⟨rfl, fun j => (F j ∨ W.heap.size ≤ j) ∧ j < w'.heap.size, ⟨N + 1, k1, sb, mb', cm, base, A', c', Ah, ch, Z', by simp; omega, ⟨s1, s2, s3, hrH, s4, fun k hk => ?_, hS.bl.1, hS.bl.2.1, by have := hS.bl.2.2; omega⟩, t1.below hw fun j hj => (hf.2 j (hT j hj)).1, ⟨fun j hj => ?_, fun j hj => ⟨?_, hj.2⟩⟩, hbs⟩, t1.more hT, fun j hj => hj.1⟩
  · rcases hk with h | h | h | h
    · exact t4 k (.inl h)
    · exact t4 k (.inr (.inl h))
    · exact t4 k (.inr (.inr h))
    · intro hh
      rcases t2 k hh with h2 | h2
      · exact (hnH k h).2 (.inl h2)
      · have := (hnH k h).1; omega
  · rcases hj with h | rfl | rfl | h | h
    · exact ⟨(t2 j h).imp (fun h => hf.1 j (.inl h)) id, s1.lt h⟩
    · exact ⟨.inl (hf.1 _ (.inr (.inl rfl))), s2.lt⟩
    · exact ⟨.inl (hf.1 _ (.inr (.inr (.inl rfl)))), s4.lt⟩
    · exact ⟨(t3 j h).imp (hT j) id, row_lt s3 h⟩
    · exact ⟨.inl (hf.1 _ (.inr (.inr (.inr (.inr h))))), row_lt hrH h⟩
  · rcases hj.1 with h | h
    · exact (hf.2 j h).1
    · omega
theorem on_Add_seen {log : List UInt8} {m : KM} {size : Nat} {P : List Lf} {C : KMapI} (h : LW w0 W g q log lb m size P C F) (ce : List UInt8) (t t0 : Int) (hok : okL ⟨t, ce⟩ = true) (hseen : kget C ce = some t0) :
    Calls Tryz.prog 9 #[.pointer (some ⟨lb, 0, none⟩), .string (S ce), .int .i64 t] W fun e w' => e = .returned (.tuple #[leafV ⟨t0, ce⟩, .int .i64 0]) ∧ Below W.heap.size W w' := by
  obtain ⟨N, k, sb, mb, cm, A, c, hd, Z, hN, h1, h2, h3, hw, hf, hA⟩ := h
  exact legacy_Add_seen h1 rfl h2 h3 ce t t0 hok hseen
theorem on_Seq (x : Lf) (t : Nat) (h : LF w0 W g q (frameB (bS x)) lb (mS x) 0 [x] [] (noteM [] x) F) (hok : okL x = true) (hx : x.cert.length ≤ 10) (ht : t ≤ 1125899906842624) (hq : 50000 ≤ q) (hL : LibL w0) :
    Calls Tryz.prog 10 #[.pointer (some ⟨lb, 0, none⟩), .int .i64 t, .int .i64 64] W fun e w' => e = .returned (.int .i64 0) ∧ ∃ F', LW w0 w' g q (frameB (bS x) ++ frameB (bL x t)) lb (mL x t) 1 [] (noteM [] x) F' ∧ Turn F W w' ∧ ∀ j, F' j → F j ∨ W.heap.size ≤ j := by
  obtain ⟨N, k, sb, mb, cm, base, A, c, Ah, ch, Z, hN, hS, hw, hf, hbs⟩ := h
  simp only [List.length_nil, List.length_singleton] at hN
  obtain ⟨f1, f2⟩ := bS_facts x hx
  obtain ⟨g1, g2, g3⟩ := bL_facts x hx t ht
  obtain ⟨p1, p2, k1, p3⟩ := fsL_apply (q := q) (k := k) (l := frameB (bS x)) (x := frameB (bL x t)) (by rw [frameB_len (bL x t)]; omega)
  have hpk : peaksP (mS x) 0 (Lib.bitLen 0 + 1) = [] := by
    rw [show Lib.bitLen 0 = 0 by rfl]
    rfl
  have hgl := growL_1 x
  have hs := legacy_Sequence_first (P := [x]) hS.st rfl hS.blk hS.pr hS.hr hS.bl.2.2 hS.cr hS.fr (by simp) (by simpa using hok) t 64 ht (by omega) (by omega) (by simp) (by simp) (by rw [hpk]; rfl) (by rw [hpk]; simp) (fun y hy => by
    obtain rfl := List.mem_singleton.1 hy
    refine ⟨none, ?_, by simp⟩
    unfold mS kget
    rw [pK0, iKc]
    simp) (by rw [hgl]; simp only []; rw [leafH_len]; omega) (by rw [hgl]; simp) g3 (by have : bodyB (seqB (mS x) 0 [x] t) = bodyB (bL x t) := rfl; rw [this]; omega) (by simp [mS]) (by omega) (hL.below hw) p1 p2
  refine hs.mono ?_
  rintro e w' ⟨rfl, mb', Z', A', c', Ah', ch', s1, s2, s3, s4, t1, t2, t3, hA'⟩
  have hT : ∀ j, (foot Z sb mb j ∨ j = lb ∨ OwnBy (.slice Ah 0 ch) j) → F j := fun j hj => hf.1 j (by
    rcases hj with h | h | h
    · exact .inl h
    · exact .inr (.inl h)
    · exact .inr (.inr (.inr (.inr h))))
  have hwW := hw.size
  rw [doB_L] at s1
  rw [show (((U (fsL (frameB (bS x))) q k).append (fileN lgN logN) (frameB (seqB (mS x) 0 [x] t))).1.sync (fileN lgN logN)).1 = U (fsL (frameB (bS x) ++ frameB (bL x t))) q k1 from p3] at s1
  refine ⟨rfl, fun j => (F j ∨ W.heap.size ≤ j) ∧ j < w'.heap.size, ⟨N + 1, k1, sb, mb', cm, A', c', _, Z', by omega, s1, s2, s4, t1.below hw fun j hj => (hf.2 j (hT j hj)).1, ⟨fun j hj => ?_, fun j hj => ⟨?_, hj.2⟩⟩, ?_⟩, t1.more hT, fun j hj => hj.1⟩
  · rcases hj with h | rfl | rfl
    · exact ⟨(t2 j h).imp (fun h => hf.1 j (.inl h)) id, s1.lt h⟩
    · exact ⟨.inl (hf.1 _ (.inr (.inl rfl))), s2.lt⟩
    · exact ⟨.inl (hf.1 _ (.inr (.inr (.inl rfl)))), s4.lt⟩
  · rcases hj.1 with h | h
    · exact (hf.2 j h).1
    · omega
  · rcases hA' with rfl | ⟨b, off, rfl⟩
    · exact .inl ⟨rfl, rfl⟩
    · exact .inr ⟨b, off, rfl, fun h => absurd rfl h, fun j u hu => by simp at hu⟩
theorem on_Open_old (x : Lf) (t : Nat) (h : LW w0 W g q (frameB (bS x) ++ frameB (bL x t)) lb (mL x t) 1 [] (noteM [] x) F) (hok : okL x = true) (hx : x.cert.length ≤ 10) (ht : t ≤ 1125899906842624) (hL : LibL w0) :
    Calls Tryz.prog 8 #[.pointer (some ⟨g, 0, none⟩)] W fun e w' => ∃ lb', e = .returned (.tuple #[.pointer (some ⟨lb', 0, none⟩), .int .i64 0]) ∧ ∃ F', LW w0 w' g q (frameB (bS x) ++ frameB (bL x t)) lb' (mL x t) 1 [] (noteM [] x) F' ∧ Turn F W w' ∧ ∀ j, F' j → F j ∨ W.heap.size ≤ j := by
  obtain ⟨N, k, sb, mb, cm, A, c, hd, Z, hN, h1, h2, h3, hw, hf, hA⟩ := h
  obtain ⟨f1, f2⟩ := bS_facts x hx
  obtain ⟨g1, g2, g3⟩ := bL_facts x hx t ht
  obtain ⟨n1, n2, n3⟩ := lgN_ok
  have hfr : framesB [bS x, bL x t] = frameB (bS x) ++ frameB (bL x t) := by simp [framesB]
  obtain ⟨l1, l2⟩ := fsL_loads (q := q) (k := k) (bs := [bS x, bL x t]) (fun y hy => by
    simp only [List.flatten_cons, List.flatten_nil, List.append_nil, List.mem_append] at hy
    rcases hy with hy | hy
    · exact ⟨(f1 y hy).1, by have := (f1 y hy).2.1; omega⟩
    · exact ⟨(g1 y hy).1, by have := (g1 y hy).2.1; omega⟩) (by rw [hfr, List.length_append, frameB_len (bL x t)]; omega)
  rw [hfr] at l1 l2
  obtain ⟨a1, a2, k1, a3⟩ := fsL_again (q := q) (k := k) (frameB (bS x) ++ frameB (bL x t))
  have hop := st_Open_old h1.dr h1.ok (by omega) n1 n2 n3 rfl [] [bS x, bL x t] l1 l2 (by unfold bL; rw [seqB_1]; simp [bS]) a1 a2
  have hdo : doB (doB [] ([] : List (List Wr)).flatten) [bS x, bL x t].flatten = mL x t := by
    have e : [bS x, bL x t].flatten = bS x ++ bL x t := by simp
    rw [e, doB_app]
    show doB (doB [] (bS x)) (bL x t) = _
    rw [doB_S]
    exact doB_L x t
  rw [hdo, a3] at hop
  obtain ⟨q1, q2, q3⟩ := preL x t
  obtain ⟨r1, r2⟩ := getL x t
  refine (legacy_Open_at hop (mL_rising x t) (by simp [mL]) (fun w' ht' => hL.below (ht'.below hw fun j hj => (hf.2 j (hf.1 j (.inl (.inl hj)))).1)) [(0, x)] [] [⟨1, t, leafH (leafB x)⟩] (by simp) (by simp) (by simp) q1 (by
    intro p hp
    obtain rfl := List.mem_singleton.1 hp
    exact ⟨by omega, hok, r1⟩) q2 (by simp) q3 (by
    intro p hp
    obtain rfl := List.mem_singleton.1 hp
    exact ⟨by simp, by simp only []; omega, by simp only []; rw [leafH_len]; omega, r2⟩)).mono ?_
  rintro e w' ⟨lb', sb', mb', cm', A', c', Ah', ch', Z', base, rfl, hS, hbs, ht', hf'⟩
  have hlow := ht'.below hw fun j hj => (hf.2 j (hf.1 j (.inl (.inl hj)))).1
  refine ⟨lb', rfl, fun j => (F j ∨ W.heap.size ≤ j) ∧ j < w'.heap.size, ⟨N, k1, sb', mb', cm', A', c', _, Z', hN, hS.st, hS.blk, hS.cr, hlow, ⟨fun j hj => ?_, fun j hj => ⟨?_, hj.2⟩⟩, ?_⟩, ht'.more fun j hj => hf.1 j (.inl (.inl hj)), fun j hj => hj.1⟩
  · rcases hj with h | rfl | rfl
    · exact ⟨(hf' j h).imp (fun h => hf.1 j (.inl (.inl h))) id, hS.st.lt h⟩
    · exact ⟨.inr (Nat.le_trans hbs hS.bl.1), hS.blk.lt⟩
    · exact ⟨.inr (Nat.le_trans hbs hS.bl.2.1), hS.cr.lt⟩
  · rcases hj.1 with h | h
    · exact (hf.2 j h).1
    · exact Nat.le_trans hw.size h
  · rcases hS.pr.2 with ⟨e1, e2⟩ | ⟨b, cap, cur, hv, hb, hh, r⟩
    · simp only [Value.slice.injEq] at e1
      exact .inl ⟨e1.1, rfl⟩
    · simp only [Value.slice.injEq] at hv
      exact .inr ⟨b, 0, hv.1, fun h => absurd rfl h, fun j u hu => by simp at hu⟩
end
end Go.Proofs.YtiabfngiibabcaaGreatDoor
