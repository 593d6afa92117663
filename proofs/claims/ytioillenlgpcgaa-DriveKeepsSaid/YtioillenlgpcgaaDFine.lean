/- Both drives, the program's and the document's, beside one another. Lists of deeds of a drive that come in; both drives made. What a deed leaves: the quota; never more than full; no deed, no change. Plain. -/
import Derived.Test.YtioillenlgpcgaaRef8
import Derived.Test.YtioillenlgpcgaaLives13
import Derived.Test.YtioillenlgpcgaaInts
set_option linter.unusedVariables false
set_option linter.unusedSimpArgs false
set_option maxHeartbeats 3200000
set_option maxRecDepth 100000
attribute [local go_sem ↓] Go.wp_at_zero Go.wp_at_succ
namespace Go.Proofs.Ytioillenlgpcgaa
open Go.RowKit

/-- The drive, and the document's, made behind w0; X: blocks that are neither's. -/
def DB (w0 : World) (g r : Nat) (d e : Dr) (N : Nat) (X : List Xc) (W : World) : Prop :=
  ∃ fp fq, IsDrive W g d fp ∧ IsRef W r e fq ∧ (∀ k, fp k → ¬ fq k) ∧ d.Ok N ∧ e.Ok N ∧ Below w0.heap.size w0 W ∧ (∀ k, fp k → w0.heap.size ≤ k) ∧ (∀ k, fq k → w0.heap.size ≤ k) ∧ ∀ x ∈ X, ¬ fp x.1 ∧ ¬ fq x.1 ∧ Blk W x.1 x.2.1 x.2.2
section
variable {w0 W : World} {g r N : Nat} {d e : Dr} {X : List Xc}
theorem DB.bel (h : DB w0 g r d e N X W) : Below w0.heap.size w0 W := by
  obtain ⟨fp, fq, h1, h2, h3, h4, h5, h6, h7, h8, h9⟩ := h
  exact h6
theorem DB.okD (h : DB w0 g r d e N X W) : d.Ok N := by
  obtain ⟨fp, fq, h1, h2, h3, h4, h5, h6, h7, h8, h9⟩ := h
  exact h4
theorem DB.blk (h : DB w0 g r d e N X W) {x : Xc} (hx : x ∈ X) : Blk W x.1 x.2.1 x.2.2 := by
  obtain ⟨fp, fq, h1, h2, h3, h4, h5, h6, h7, h8, h9⟩ := h
  exact (h9 x hx).2.2
theorem DB.drop (h : DB w0 g r d e N X W) : DB w0 g r d e N [] W := by
  obtain ⟨fp, fq, h1, h2, h3, h4, h5, h6, h7, h8, h9⟩ := h
  exact ⟨fp, fq, h1, h2, h3, h4, h5, h6, h7, h8, by simp⟩
theorem DB.tail {x : Xc} (h : DB w0 g r d e N (x :: X) W) : DB w0 g r d e N X W := by
  obtain ⟨fp, fq, h1, h2, h3, h4, h5, h6, h7, h8, h9⟩ := h
  exact ⟨fp, fq, h1, h2, h3, h4, h5, h6, h7, h8, fun y hy => h9 y (List.mem_cons_of_mem _ hy)⟩
theorem DB.more (h : DB w0 g r d e N X W) {M : Nat} (hM : N ≤ M) : DB w0 g r d e M X W := by
  obtain ⟨fp, fq, h1, h2, h3, h4, h5, h6⟩ := h
  exact ⟨fp, fq, h1, h2, h3, h4.more hM, h5.more hM, h6⟩
theorem DB.below (h : DB w0 g r d e N X W) {W' : World} (hb : Below W.heap.size W W') : DB w0 g r d e N X W' := by
  obtain ⟨fp, fq, h1, h2, h3, h4, h5, h6, h7, h8, h9⟩ := h
  exact ⟨fp, fq, h1.below hb, h2.below hb, h3, h4, h5, bt h6 hb, h7, h8, fun x hx => ⟨(h9 x hx).1, (h9 x hx).2.1, (h9 x hx).2.2.below hb (h9 x hx).2.2.lt⟩⟩
theorem DB.drew (h : DB w0 g r d e N X W) : DB w0 g r d e N X W.drew := h.below (Below.refl _ _).drew
theorem DB.with_ (h : DB w0 g r d e N X W) (t : TypeId) (cs : Array Value) : DB w0 g r d e N ((W.heap.size, t, cs) :: X) (W.alloc (.cells cs t)) := by
  have hb : Below W.heap.size W (W.alloc (.cells cs t)) := (Below.refl _ _).alloc (Nat.le_refl _) _
  obtain ⟨fp, fq, h1, h2, h3, h4, h5, h6, h7, h8, h9⟩ := h
  refine ⟨fp, fq, h1.below hb, h2.below hb, h3, h4, h5, bt h6 hb, h7, h8, fun x hx => ?_⟩
  rcases List.mem_cons.1 hx with rfl | hx
  · refine ⟨fun hk => ?_, fun hk => ?_, Blk.new W t cs⟩
    · have := h1.lt _ hk; simp at this
    · have := h2.lt _ hk; simp at this
  · exact ⟨(h9 x hx).1, (h9 x hx).2.1, (h9 x hx).2.2.below hb (h9 x hx).2.2.lt⟩
/-- The drive was turned. -/
theorem DB.turnD {fp fq : Nat → Prop} {d' : Dr} {M : Nat} {W' : World} (h1 : IsDrive W g d fp) (h2 : IsRef W r e fq) (h3 : ∀ k, fp k → ¬ fq k) (h5 : e.Ok M) (h6 : Below w0.heap.size w0 W) (h7 : ∀ k, fp k → w0.heap.size ≤ k) (h8 : ∀ k, fq k → w0.heap.size ≤ k)
    (h9 : ∀ x ∈ X, ¬ fp x.1 ∧ ¬ fq x.1 ∧ Blk W x.1 x.2.1 x.2.2) (ht : Then W g d' fp W') (ho : d'.Ok M) : DB w0 g r d' e M X W' := by
  obtain ⟨fp', k1, k2⟩ := ht
  have hnew : ∀ q, q < W.heap.size → ¬ fp q → ¬ fp' q := fun q hq hn hk => by
    rcases k2.new q hk with hk | hk
    · exact hn hk
    · omega
  refine ⟨fp', fq, k1, h2.keep k2.size (fun k hk => k2.block k (h2.lt k hk) (fun hf => h3 k hf hk)), fun k hk hq => hnew k (h2.lt k hq) (fun hf => h3 k hf hq) hk, ho, h5, h6.trans (k2.below h7 h6.size), fun k hk => ?_, h8, fun x hx => ?_⟩
  · rcases k2.new k hk with hk | hk
    · exact h7 k hk
    · exact Nat.le_trans h6.size hk
  · obtain ⟨q1, q2, q3⟩ := h9 x hx
    exact ⟨hnew _ q3.lt q1, q2, (k2.block _ q3.lt q1).trans q3⟩
/-- The document's drive was turned. -/
theorem DB.turnR {fp fq : Nat → Prop} {e' : Dr} {M : Nat} {W' : World} (h1 : IsDrive W g d fp) (h2 : IsRef W r e fq) (h3 : ∀ k, fp k → ¬ fq k) (h4 : d.Ok M) (h6 : Below w0.heap.size w0 W) (h7 : ∀ k, fp k → w0.heap.size ≤ k) (h8 : ∀ k, fq k → w0.heap.size ≤ k)
    (h9 : ∀ x ∈ X, ¬ fp x.1 ∧ ¬ fq x.1 ∧ Blk W x.1 x.2.1 x.2.2) (ht : ThenR W r e' fq W') (ho : e'.Ok M) : DB w0 g r d e' M X W' := by
  obtain ⟨fq', k1, k2⟩ := ht
  have hnew : ∀ q, q < W.heap.size → ¬ fq q → ¬ fq' q := fun q hq hn hk => by
    rcases k2.new q hk with hk | hk
    · exact hn hk
    · omega
  refine ⟨fp, fq', h1.keep k2.size (fun k hk => k2.block k (h1.lt k hk) (fun hf => h3 k hk hf)), k1, fun k hk hq => hnew k (h1.lt k hk) (h3 k hk) hq, h4, ho, h6.trans (k2.below h8 h6.size), h7, fun k hk => ?_, fun x hx => ?_⟩
  · rcases k2.new k hk with hk | hk
    · exact h8 k hk
    · exact Nat.le_trans h6.size hk
  · obtain ⟨q1, q2, q3⟩ := h9 x hx
    exact ⟨q1, hnew _ q3.lt q2, (k2.block _ q3.lt q2).trans q3⟩
theorem DB.createD (h : DB w0 g r d e N X W) (a : Key) (hl : a.length ≤ 1000000) : Calls Try.prog 10 #[.pointer (some ⟨g, 0, none⟩), .string (S a)] W fun x w' => x = .returned (.int .i64 (d.create a).2) ∧ DB w0 g r (d.create a).1 e N X w' := by
  obtain ⟨fp, fq, h1, h2, h3, h4, h5, h6, h7, h8, h9⟩ := h
  refine (drive_Create h1 h4 a hl).mono ?_
  rintro x w' ⟨rfl, ht⟩
  exact ⟨rfl, DB.turnD h1 h2 h3 h5 h6 h7 h8 h9 ht (h4.create a)⟩
theorem DB.createR (h : DB w0 g r d e N X W) (a : Key) (hl : a.length ≤ 1000000) : Calls Try.prog 36 #[.pointer (some ⟨r, 0, none⟩), .string (S a)] W fun x w' => x = .returned (.int .i64 (e.create a).2) ∧ DB w0 g r d (e.create a).1 N X w' := by
  obtain ⟨fp, fq, h1, h2, h3, h4, h5, h6, h7, h8, h9⟩ := h
  refine (ref_Create h2 h5 a hl).mono ?_
  rintro x w' ⟨rfl, ht⟩
  exact ⟨rfl, DB.turnR h1 h2 h3 h4 h6 h7 h8 h9 ht (h5.create a)⟩
theorem DB.appendD (h : DB w0 g r d e N X W) (hN : N < 1000000000) (a : Key) (hl : a.length ≤ 1000000) (b : List UInt8) (hbl : b.length ≤ 1000000000) :
    Calls Try.prog 11 #[.pointer (some ⟨g, 0, none⟩), .string (S a), .slice (some ⟨W.heap.size, 0, none⟩) b.length (grownCap W b.length 0 5)] (Lib.bytesWorld W 5 (S b)) fun x w' => x = .returned (.int .i64 (d.append a b).2) ∧ DB w0 g r (d.append a b).1 e (N + 1) X w' := by
  have hc := conv_below W b
  obtain ⟨fp0, fq0, k1, k2, k3, k4, k5, k6, k7, k8, k9⟩ := h
  refine (drive_Append (k1.below hc) k4 hN a hl (some ⟨W.heap.size, 0, none⟩) b _ (conv_at W b) (fun p hp hk => ?_) hbl).mono ?_
  · injection hp with hp
    subst hp
    have := k1.lt _ hk
    simp at this
  · rintro x w' ⟨rfl, ht⟩
    exact ⟨rfl, DB.turnD (k1.below hc) (k2.below hc) k3 (k5.more (by omega)) (bt k6 hc) k7 k8 (fun x hx => ⟨(k9 x hx).1, (k9 x hx).2.1, (k9 x hx).2.2.below hc (k9 x hx).2.2.lt⟩) ht (k4.append a b)⟩
theorem DB.appendR (h : DB w0 g r d e N X W) (hN : N ≤ 1000000000) (a : Key) (b : List UInt8) (hbl : b.length ≤ 1000000000) :
    Calls Try.prog 37 #[.pointer (some ⟨r, 0, none⟩), .string (S a), .string (S b)] W fun x w' => x = .returned (.int .i64 (e.append a b).2) ∧ DB w0 g r d (e.append a b).1 (N + 1) X w' := by
  obtain ⟨fp, fq, h1, h2, h3, h4, h5, h6, h7, h8, h9⟩ := h
  refine (ref_Append h2 h5 hN a b hbl).mono ?_
  rintro x w' ⟨rfl, ht⟩
  exact ⟨rfl, DB.turnR h1 h2 h3 (h4.more (by omega)) h6 h7 h8 h9 ht (h5.append a b)⟩
theorem DB.syncD (h : DB w0 g r d e N X W) (hN : N ≤ 1000000000) (a : Key) (hl : a.length ≤ 1000000) : Calls Try.prog 12 #[.pointer (some ⟨g, 0, none⟩), .string (S a)] W fun x w' => x = .returned (.int .i64 (d.sync a).2) ∧ DB w0 g r (d.sync a).1 e N X w' := by
  obtain ⟨fp, fq, h1, h2, h3, h4, h5, h6, h7, h8, h9⟩ := h
  refine (drive_Sync h1 h4 hN a hl).mono ?_
  rintro x w' ⟨rfl, ht⟩
  exact ⟨rfl, DB.turnD h1 h2 h3 h5 h6 h7 h8 h9 ht (h4.sync a)⟩
theorem DB.removeD (h : DB w0 g r d e N X W) (hN : N ≤ 1000000000) (a : Key) (hl : a.length ≤ 1000000) : Calls Try.prog 41 #[.pointer (some ⟨g, 0, none⟩), .string (S a)] W fun x w' => x = .returned (.int .i64 (d.remove a).2) ∧ DB w0 g r (d.remove a).1 e N X w' := by
  obtain ⟨fp, fq, h1, h2, h3, h4, h5, h6, h7, h8, h9⟩ := h
  refine (drive_Remove h1 h4 hN a hl).mono ?_
  rintro x w' ⟨rfl, ht⟩
  exact ⟨rfl, DB.turnD h1 h2 h3 h5 h6 h7 h8 h9 ht (h4.remove a)⟩
theorem DB.endsR (h : DB w0 g r d e N X W) (hN : N ≤ 1000000000) (a : Key) (rem : Bool) : Calls Try.prog 38 #[.pointer (some ⟨r, 0, none⟩), .string (S a), .bool rem] W fun x w' => x = .returned (.int .i64 (if rem then e.remove a else e.sync a).2) ∧ DB w0 g r d (if rem then e.remove a else e.sync a).1 N X w' := by
  obtain ⟨fp, fq, h1, h2, h3, h4, h5, h6, h7, h8, h9⟩ := h
  refine (ref_Ends h2 h5 hN a rem).mono ?_
  rintro x w' ⟨rfl, ht⟩
  refine ⟨rfl, DB.turnR h1 h2 h3 h4 h6 h7 h8 h9 ht ?_⟩
  cases rem
  · exact h5.sync a
  · exact h5.remove a
theorem DB.renameD (h : DB w0 g r d e N X W) (hN : N ≤ 1000000000) (a b : Key) (hl : a.length ≤ 1000000) (hl2 : b.length ≤ 1000000) : Calls Try.prog 39 #[.pointer (some ⟨g, 0, none⟩), .string (S a), .string (S b)] W fun x w' => x = .returned (.int .i64 (d.rename a b).2) ∧ DB w0 g r (d.rename a b).1 e N X w' := by
  obtain ⟨fp, fq, h1, h2, h3, h4, h5, h6, h7, h8, h9⟩ := h
  refine (drive_Rename h1 h4 hN a b hl hl2).mono ?_
  rintro x w' ⟨rfl, ht⟩
  exact ⟨rfl, DB.turnD h1 h2 h3 h5 h6 h7 h8 h9 ht (h4.rename a b)⟩
theorem DB.renameR (h : DB w0 g r d e N X W) (hN : N ≤ 1000000000) (a b : Key) (hl2 : b.length ≤ 1000000) : Calls Try.prog 40 #[.pointer (some ⟨r, 0, none⟩), .string (S a), .string (S b)] W fun x w' => x = .returned (.int .i64 (e.rename a b).2) ∧ DB w0 g r d (e.rename a b).1 N X w' := by
  obtain ⟨fp, fq, h1, h2, h3, h4, h5, h6, h7, h8, h9⟩ := h
  refine (ref_Rename h2 h5 hN a b hl2).mono ?_
  rintro x w' ⟨rfl, ht⟩
  exact ⟨rfl, DB.turnR h1 h2 h3 h4 h6 h7 h8 h9 ht (h5.rename a b)⟩
theorem DB.armD (h : DB w0 g r d e N X W) (n : Int) (hn : n ≤ 9223372036854775807) : Calls Try.prog 22 #[.pointer (some ⟨g, 0, none⟩), .int .i64 n] W fun x w' => x = .returned (.tuple #[]) ∧ DB w0 g r (d.arm n) e N X w' := by
  obtain ⟨fp, fq, h1, h2, h3, h4, h5, h6, h7, h8, h9⟩ := h
  refine (drive_Arm h1 n).mono ?_
  rintro x w' ⟨rfl, ht1, ht2⟩
  exact ⟨rfl, DB.turnD h1 h2 h3 h5 h6 h7 h8 h9 ⟨fp, ht1, ht2⟩ (h4.arm n hn)⟩
theorem DB.armR (h : DB w0 g r d e N X W) (n : Int) (hn : n ≤ 9223372036854775807) : Calls Try.prog 42 #[.pointer (some ⟨r, 0, none⟩), .int .i64 n] W fun x w' => x = .returned (.tuple #[]) ∧ DB w0 g r d (e.arm n) N X w' := by
  obtain ⟨fp, fq, h1, h2, h3, h4, h5, h6, h7, h8, h9⟩ := h
  refine (ref_Arm h2 n).mono ?_
  rintro x w' ⟨rfl, ht1, ht2⟩
  exact ⟨rfl, DB.turnR h1 h2 h3 h4 h6 h7 h8 h9 ⟨fq, ht1, ht2⟩ (h5.arm n hn)⟩
theorem DB.quotaD (h : DB w0 g r d e N X W) (n : Int) : Calls Try.prog 44 #[.pointer (some ⟨g, 0, none⟩), .int .i64 n] W fun x w' => x = .returned (.int .i64 (d.quotaE n)) ∧ DB w0 g r (d.setQuota n) e N X w' := by
  obtain ⟨fp, fq, h1, h2, h3, h4, h5, h6, h7, h8, h9⟩ := h
  refine (drive_Quota h1 n).mono ?_
  rintro x w' ⟨rfl, ht1, ht2⟩
  exact ⟨rfl, DB.turnD h1 h2 h3 h5 h6 h7 h8 h9 ⟨fp, ht1, ht2⟩ (h4.setQuota n)⟩
theorem DB.quotaR (h : DB w0 g r d e N X W) (n : Int) : Calls Try.prog 45 #[.pointer (some ⟨r, 0, none⟩), .int .i64 n] W fun x w' => x = .returned (.int .i64 (e.quotaE n)) ∧ DB w0 g r d (e.setQuota n) N X w' := by
  obtain ⟨fp, fq, h1, h2, h3, h4, h5, h6, h7, h8, h9⟩ := h
  refine (ref_Quota h2 n).mono ?_
  rintro x w' ⟨rfl, ht1, ht2⟩
  exact ⟨rfl, DB.turnR h1 h2 h3 h4 h6 h7 h8 h9 ⟨fq, ht1, ht2⟩ (h5.setQuota n)⟩
theorem DB.upD_ (h : DB w0 g r d e N X W) (hN : N ≤ 1000000) (A : Option Addr) (keep : List Int) (cap : Nat) (hA : IntsAt w0 A keep) (hin : IntsIn keep) (hl : (keep.length : Int) ≤ 9223372036854775807) :
    Calls Try.prog 15 #[.pointer (some ⟨g, 0, none⟩), .slice A keep.length cap] W fun x w' => x = .returned (.tuple #[]) ∧ DB w0 g r (d.up keep) e N X w' := by
  obtain ⟨fp, fq, h1, h2, h3, h4, h5, h6, h7, h8, h9⟩ := h
  refine (drive_Up h1 h4 hN A keep cap (hA.below h6) hin hl (fun h0 p hp hk => ?_)).mono ?_
  · obtain ⟨b, off, hb', hlt, -⟩ := hA h0
    rw [hp] at hb'
    injection hb' with hb'
    subst hb'
    have := h7 _ hk
    simp at this
    omega
  · rintro x w' ⟨rfl, ht⟩
    exact ⟨rfl, DB.turnD h1 h2 h3 h5 h6 h7 h8 h9 ht (h4.up keep)⟩
theorem DB.upR_ (h : DB w0 g r d e N X W) (hN : N ≤ 1000000) (A : Option Addr) (keep : List Int) (cap : Nat) (hA : IntsAt w0 A keep) (hin : IntsIn keep) (hl : (keep.length : Int) ≤ 9223372036854775807) :
    Calls Try.prog 43 #[.pointer (some ⟨r, 0, none⟩), .slice A keep.length cap] W fun x w' => x = .returned (.tuple #[]) ∧ DB w0 g r d (e.up keep) N X w' := by
  obtain ⟨fp, fq, h1, h2, h3, h4, h5, h6, h7, h8, h9⟩ := h
  refine (ref_Up h2 h5 hN A keep cap (hA.below h6) hin hl (fun h0 p hp hk => ?_)).mono ?_
  · obtain ⟨b, off, hb', hlt, -⟩ := hA h0
    rw [hp] at hb'
    injection hb' with hb'
    subst hb'
    have := h8 _ hk
    simp at this
    omega
  · rintro x w' ⟨rfl, ht⟩
    exact ⟨rfl, DB.turnR h1 h2 h3 h4 h6 h7 h8 h9 ht (h5.up keep)⟩
theorem DB.used (h : DB w0 g r d e N X W) : Calls Try.prog 51 #[.pointer (some ⟨g, 0, none⟩)] W fun x w' => x = .returned (.int .i64 d.used) ∧ w' = W := by
  obtain ⟨fp, fq, h1, h2, h3, h4, h5, h6, h7, h8, h9⟩ := h
  exact drive_Used h1
theorem DB.deeds (h : DB w0 g r d e N X W) : Calls Try.prog 53 #[.pointer (some ⟨g, 0, none⟩)] W fun x w' => x = .returned (.int .i64 d.deeds) ∧ w' = W := by
  obtain ⟨fp, fq, h1, h2, h3, h4, h5, h6, h7, h8, h9⟩ := h
  exact drive_Deeds h1
end

/-- Something that is asked of a drive. -/
structure VDeed where
  kind : Int
  n : Int
  a : List UInt8
  b : List UInt8
  A : Option Addr
  keep : List Int
  cap : Nat
def vAgg (x : VDeed) : Value := .agg #[.int .i64 x.kind, .int .i64 x.n, .string (S x.a), .string (S x.b), .slice x.A x.keep.length x.cap]
def vCells (x : VDeed) : Array Value := #[.int .i64 x.kind, .int .i64 x.n, .string (S x.a), .string (S x.b), .slice x.A x.keep.length x.cap]
/-- What a deed makes of a drive. -/
def doD (d : Dr) (x : VDeed) : Dr :=
  if x.kind = 0 then (d.create (x.a.take 70)).1 else if x.kind = 1 then (d.append (x.a.take 70) (x.b.take 70)).1 else if x.kind = 2 then (d.sync (x.a.take 70)).1 else if x.kind = 3 then (d.rename (x.a.take 70) (x.b.take 70)).1 else
  if x.kind = 4 then (d.remove (x.a.take 70)).1 else if x.kind = 5 then d.arm x.n else if x.kind = 6 then d.up x.keep else if x.kind = 7 then d.setQuota x.n else d
def DoesPost (w0 : World) (g r : Nat) (d e : Dr) (N : Nat) (X : List Xc) (x : VDeed) (o : Ending) (w' : World) : Prop := ∃ b, o = .returned (.bool b) ∧ (d = e → b = true) ∧ DB w0 g r (doD d x) (doD e x) (N + 2) X w'
structure VIn (w0 : World) (x : VDeed) : Prop where
  n : In64 x.n
  keep : IntsAt w0 x.A x.keep
  ins : IntsIn x.keep
  len : (x.keep.length : Int) ≤ 9223372036854775807
end Go.Proofs.Ytioillenlgpcgaa

set_option linter.unusedVariables false
set_option linter.unusedSimpArgs false
set_option maxRecDepth 100000
namespace Go.Proofs.Ytioillenlgpcgaa
open Go.RowKit

def VDeedsAt (w : World) (A : Option Addr) (l : List VDeed) : Prop :=
  0 < l.length → ∃ b off, A = some ⟨b, off, none⟩ ∧ b < w.heap.size ∧ ∀ i, (h : i < l.length) → w.cell? ⟨b, off + i * 5, none⟩ = some (.int .i64 l[i].kind) ∧ w.cell? ⟨b, off + i * 5 + 1, none⟩ = some (.int .i64 l[i].n) ∧ w.cell? ⟨b, off + i * 5 + 2, none⟩ = some (.string (S l[i].a)) ∧
    w.cell? ⟨b, off + i * 5 + 3, none⟩ = some (.string (S l[i].b)) ∧ w.cell? ⟨b, off + i * 5 + 4, none⟩ = some (.slice l[i].A l[i].keep.length l[i].cap)
def VDeedsIn (w : World) (l : List VDeed) : Prop := ∀ i, (h : i < l.length) → VIn w l[i]
open Go.ChangeShapes Go.WideShapes Go.Deep in
theorem open_vdeeds {H : Type} {enc : TypeId × Value → H} {w : World} {base : Nat} {spare : Nat → Bool} {held : Bool} {A : Option Addr} {n cap : Nat} {d : DataW H} {ps : List MemPlace}
    (h : DataW.Trod enc Try.prog w base spare held 23 (.slice A n cap) d ps) : ∃ l : List VDeed, n = l.length ∧ l.length ≤ cap ∧ (cap : Int) ≤ 9223372036854775807 ∧ VDeedsIn w l ∧ VDeedsAt w A l := by
  have hC : (Try.prog).cellsOf 35 = 5 := by kernel_rfl
  obtain ⟨h1, h2, h3⟩ := open_slice_any Try.underlying23 (by rw [hC]; omega) h
  rw [hC] at h3
  rcases Nat.eq_zero_or_pos n with h0 | h0
  · exact ⟨[], by simpa using h0, by simp, h2, fun i h => absurd h (by simp), fun h => absurd h (by simp)⟩
  · obtain ⟨b, off, hA, hb, hi⟩ := h3 h0
    obtain ⟨l, hl, hp⟩ := choose_list n (fun i (q : VDeed) => VIn w q ∧
      (w.cell? ⟨b, off + i * 5, none⟩ = some (.int .i64 q.kind) ∧ w.cell? ⟨b, off + i * 5 + 1, none⟩ = some (.int .i64 q.n) ∧ w.cell? ⟨b, off + i * 5 + 2, none⟩ = some (.string (S q.a)) ∧ w.cell? ⟨b, off + i * 5 + 3, none⟩ = some (.string (S q.b)) ∧
        w.cell? ⟨b, off + i * 5 + 4, none⟩ = some (.slice q.A q.keep.length q.cap))) ⟨0, 0, [], [], none, [], 0⟩ (fun i hin => by
      obtain ⟨cs, m, y, hlen, hcell, ht⟩ := hi i hin
      have hf := open_fields Try.underlying35 (by kernel_rfl) ht
      obtain ⟨v0, m0, z0, e0, t0⟩ := hf 0 _ rfl (by omega)
      obtain ⟨v1, m1, z1, e1, t1⟩ := hf 1 _ rfl (by omega)
      obtain ⟨v2, m2, z2, e2, t2⟩ := hf 2 _ rfl (by omega)
      obtain ⟨v3, m3, z3, e3, t3⟩ := hf 3 _ rfl (by omega)
      obtain ⟨v4, m4, z4, e4, t4⟩ := hf 4 _ rfl (by omega)
      obtain ⟨k0, c0, -, -⟩ := DataW.trod_int Try.underlying3 t0
      obtain ⟨k1, c1, -, wf1⟩ := DataW.trod_int Try.underlying3 t1
      obtain ⟨s2, c2, -, -⟩ := DataW.trod_string Try.underlying9 t2
      obtain ⟨s3, c3, -, -⟩ := DataW.trod_string Try.underlying9 t3
      simp only [List.cons.injEq, and_true] at c0 c1 c2 c3
      subst c0 c1 c2 c3
      have hv4 : ∃ A2 n2 c2, v4 = .slice A2 n2 c2 := by
        rcases open_slice Try.underlying24 t4 with ⟨hcs, _⟩ | ⟨a, len, cap', m', n', D, Pl, hcs, _⟩
        · simp only [List.cons.injEq, and_true] at hcs
          exact ⟨_, _, _, hcs⟩
        · simp only [List.cons.injEq, and_true] at hcs
          exact ⟨_, _, _, hcs⟩
      obtain ⟨A2, n2, c2, rfl⟩ := hv4
      obtain ⟨ks, rfl, q1, q2, q3, q4⟩ := open_intsL (w := w) (A := A2) (n := n2) (cap := c2) (show DataW.Trod enc Try.prog w base spare held 24 (.slice A2 n2 c2) z4.1 z4.2 from ⟨m4, t4⟩)
      refine ⟨⟨k0, k1, s2.data.toList, s3.data.toList, A2, ks, c2⟩, ⟨wf64 wf1, q4, q3, by show (ks.length : Int) ≤ _; omega⟩, ?_, ?_, ?_, ?_, ?_⟩
      · rw [← e0, ← hcell 0 (by omega), Nat.add_zero]
      · rw [← e1, ← hcell 1 (by omega), Nat.add_assoc]
      · rw [S_of, ← e2, ← hcell 2 (by omega), Nat.add_assoc]
      · rw [S_of, ← e3, ← hcell 3 (by omega), Nat.add_assoc]
      · rw [← e4, ← hcell 4 (by omega), Nat.add_assoc])
    exact ⟨l, hl.symm, by omega, h2, fun i hi => (hp i hi).1, fun _ => ⟨b, off, hA, hb, fun i hi => (hp i hi).2⟩⟩

theorem DB.newR {w0 W : World} {g N : Nat} {d : Dr} (h : DW w0 g d N [] W) (q : Int) (hq : quotableB q = true) : Calls Try.prog 8 #[.int .i64 q] W fun e w' => ∃ r, e = .returned (.pointer (some ⟨r, 0, none⟩)) ∧ DB w0 g r d (Dr.new q) N [] w' := by
  obtain ⟨fp, h1, h2, h3, h4, h5⟩ := h
  refine (ref_New q W).mono ?_
  rintro e w' ⟨k1, -⟩
  obtain ⟨r, rfl, fq, k2, k3, k4⟩ := k1 hq
  exact ⟨r, rfl, fp, fq, h1.below k3, k2, fun k hk hq => by have := h1.lt k hk; have := k4 k hq; omega, h2, (Dr.Ok.new q hq).more (Nat.zero_le _), bt h3 k3, h4, fun k hk => Nat.le_trans h3.size (k4 k hk), by simp⟩
end Go.Proofs.Ytioillenlgpcgaa

set_option linter.unusedVariables false
set_option linter.unusedSimpArgs false
namespace Go.Proofs.Ytioillenlgpcgaa
open Go.RowKit

theorem wrap64_ne (n : Int) : wrap1 n ≠ n := by
  unfold wrap1 wrap64
  omega
theorem deed_cases (d : Dr) (e : Int) (f : Dr → Dr) : (e = 0 ∧ ∃ d1, (d.deed e f) = (f d1, 0) ∧ d1.files = d.files ∧ d1.quota = d.quota ∧ d1.deeds = wrap1 d.deeds ∧ d1.down = d.down ∧ d.down = false) ∨
    ((d.deed e f).1.files = d.files ∧ (d.deed e f).1.quota = d.quota ∧ (d.deed e f).1.deeds = d.deeds) := by
  unfold Dr.deed
  split
  · rename_i h0
    unfold Dr.may at h0 ⊢
    split
    · rename_i hd; simp [hd] at h0
    · rename_i hd
      split
      · rename_i he; simp [hd, he] at h0
      · rename_i he
        split
        · rename_i hl
          exfalso
          rw [if_neg hd, if_neg he, if_pos hl] at h0
          simp at h0
        · exact .inl ⟨by simpa using he, _, rfl, rfl, rfl, rfl, rfl, by simpa using hd⟩
  · refine .inr ⟨(may_files d e).1, (may_files d e).2, ?_⟩
    rename_i h0
    unfold Dr.may at h0 ⊢
    split
    · rfl
    · rename_i hd
      split
      · rfl
      · rename_i he
        split
        · rfl
        · rename_i hl
          rw [if_neg hd, if_neg he, if_neg hl] at h0
          exact absurd rfl h0
theorem used_of_files {d d' : Dr} (h : d.files = d'.files) : d.used = d'.used := by unfold Dr.used; rw [h]
def Fine (d d' : Dr) : Prop := d'.quota = d.quota ∧ (d.used ≤ d.quota → d'.used ≤ d.quota) ∧ (d'.deeds = d.deeds → d'.used = d.used)
theorem Fine.same {d d' : Dr} (h1 : d'.files = d.files) (h2 : d'.quota = d.quota) : Fine d d' := by
  have := used_of_files h1
  exact ⟨h2, fun h => by omega, fun _ => this⟩
theorem fine_deed {d : Dr} {e : Int} {f : Dr → Dr} (hf : e = 0 → ∀ d1, d1.files = d.files → d1.quota = d.quota → (f d1).quota = d1.quota ∧ (f d1).deeds = d1.deeds ∧ (d.used ≤ d.quota → (f d1).used ≤ d.quota)) : Fine d (d.deed e f).1 := by
  rcases deed_cases d e f with ⟨he, d1, h1, h2, h3, h4, -, -⟩ | ⟨h1, h2, h3⟩
  · rw [h1]
    obtain ⟨k1, k2, k3⟩ := hf he d1 h2 h3
    refine ⟨k1.trans h3, k3, fun h => ?_⟩
    have h' : (f d1).deeds = d.deeds := h
    rw [k2, h4] at h'
    exact absurd h' (wrap64_ne _)
  · exact Fine.same h1 h2
theorem fine_create {d : Dr} (name : Key) : Fine d (d.create name).1 := fine_deed fun he d1 h1 h2 => ⟨rfl, rfl, fun hu => by
  have hc : kget d.files name = none := by
    unfold Dr.createE at he
    split at he
    · cases he
    · split at he
      · cases he
      · rename_i a b
        simpa using b
  rw [← h1] at hc
  have hx : ({ d1 with files := kput d1.files name ⟨[], []⟩ } : Dr).used = d1.used := used_kput_new hc
  have := used_of_files h1
  show ({ d1 with files := kput d1.files name ⟨[], []⟩ } : Dr).used ≤ _
  omega⟩
theorem fine_append {d : Dr} {N : Nat} (h : d.Ok N) (name : Key) (data : List UInt8) : Fine d (d.append name data).1 := fine_deed fun he d1 h1 h2 => ⟨rfl, rfl, fun hu => by
  have hc : d.thereE name = 0 ∧ ¬ d.quota - d.used < data.length := by
    unfold Dr.appendE at he
    split at he
    · cases he
    · rename_i hx
      exact ⟨he, fun hy => hx ⟨he, hy⟩⟩
  obtain ⟨f, hk⟩ := there_some hc.1
  have hr : Rising d1.files := by rw [h1]; exact h.rising
  rw [← h1] at hk
  have hfo : fileOf d1 name = f := by simp [fileOf, hk]
  show ({ d1 with files := kset d1.files name ⟨(fileOf d1 name).safe, (fileOf d1 name).pieces ++ [data]⟩ } : Dr).used ≤ _
  rw [hfo, used_append hr hk data, used_of_files h1]
  omega⟩
theorem fine_sync {d : Dr} {N : Nat} (h : d.Ok N) (name : Key) : Fine d (d.sync name).1 := fine_deed fun he d1 h1 h2 => ⟨rfl, rfl, fun hu => by
  obtain ⟨f, hk⟩ := there_some he
  have hr : Rising d1.files := by rw [h1]; exact h.rising
  rw [← h1] at hk
  have hfo : fileOf d1 name = f := by simp [fileOf, hk]
  show ({ d1 with files := kput d1.files name ⟨(fileOf d1 name).all, []⟩ } : Dr).used ≤ _
  rw [hfo, used_sync hr hk, used_of_files h1]
  exact hu⟩
theorem fine_remove {d : Dr} {N : Nat} (h : d.Ok N) (name : Key) : Fine d (d.remove name).1 := fine_deed fun he d1 h1 h2 => ⟨rfl, rfl, fun hu => by
  obtain ⟨f, hk⟩ := there_some he
  have hr : Rising d1.files := by rw [h1]; exact h.rising
  rw [← h1] at hk
  show ({ d1 with files := kdel d1.files name } : Dr).used ≤ _
  rw [used_del hr hk, used_of_files h1]
  omega⟩
theorem fine_rename {d : Dr} {N : Nat} (h : d.Ok N) (a b : Key) : Fine d (d.rename a b).1 := fine_deed fun he d1 h1 h2 => ⟨rfl, rfl, fun hu => by
  have hc : d.thereE a = 0 := by
    unfold Dr.renameE at he
    split at he
    · cases he
    · exact he
  obtain ⟨f, hk⟩ := there_some hc
  have hr : Rising d1.files := by rw [h1]; exact h.rising
  rw [← h1] at hk
  have hfo : fileOf d1 a = f := by simp [fileOf, hk]
  have hl0 : 0 ≤ lenOf (kget (kdel d1.files a) b) := by
    cases kget (kdel d1.files a) b <;> simp [lenOf]
  show ({ d1 with files := kput (kdel d1.files a) b (fileOf d1 a) } : Dr).used ≤ _
  rw [hfo, used_rename hr hk _ rfl, used_of_files h1]
  omega⟩
theorem up_less (d : Dr) (keep : List Int) : (d.up keep).quota = d.quota ∧ (d.up keep).used ≤ d.used := by
  unfold Dr.up
  split
  · refine ⟨rfl, ?_⟩
    rw [Dr.used_eq, Dr.used_eq]
    have := sum_upF keep d.files 0
    show ((ksum _ (upF keep 0 d.files) : Nat) : Int) ≤ _
    omega
  · exact ⟨rfl, Int.le_refl _⟩
theorem doD_full {d : Dr} {N : Nat} (h : d.Ok N) (x : VDeed) (h7 : x.kind ≠ 7) : (doD d x).quota = d.quota ∧ (d.used ≤ d.quota → (doD d x).used ≤ d.quota) := by
  unfold doD
  split
  · exact ⟨(fine_create _).1, (fine_create _).2.1⟩
  · split
    · exact ⟨(fine_append h _ _).1, (fine_append h _ _).2.1⟩
    · split
      · exact ⟨(fine_sync h _).1, (fine_sync h _).2.1⟩
      · split
        · exact ⟨(fine_rename h _ _).1, (fine_rename h _ _).2.1⟩
        · split
          · exact ⟨(fine_remove h _).1, (fine_remove h _).2.1⟩
          · split
            · exact ⟨rfl, fun hu => hu⟩
            · split
              · have := up_less d x.keep
                exact ⟨this.1, fun hu => by omega⟩
              · exact ⟨rfl, fun hu => hu⟩
theorem doD_still {d : Dr} {N : Nat} (h : d.Ok N) (x : VDeed) (h6 : x.kind ≠ 6) : (doD d x).deeds = d.deeds → (doD d x).used = d.used := by
  unfold doD
  split
  · exact (fine_create _).2.2
  · split
    · exact (fine_append h _ _).2.2
    · split
      · exact (fine_sync h _).2.2
      · split
        · exact (fine_rename h _ _).2.2
        · split
          · exact (fine_remove h _).2.2
          · split
            · exact fun _ => rfl
            · split
              · intro _
                unfold Dr.setQuota
                split <;> rfl
              · exact fun _ => rfl
end Go.Proofs.Ytioillenlgpcgaa
