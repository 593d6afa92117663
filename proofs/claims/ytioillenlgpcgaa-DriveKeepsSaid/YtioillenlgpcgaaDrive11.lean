/- Walks of package drive: what an append leaves in memory. -/
import Derived.Test.YtioillenlgpcgaaDrive9
set_option linter.unusedVariables false
set_option linter.unusedSimpArgs false
set_option maxHeartbeats 800000
set_option maxRecDepth 100000
namespace Go.Proofs.Ytioillenlgpcgaa
open Go.RowKit

section
variable {α β : Type}
theorem kset_same {m : List (Key × α)} (h : Rising m) {k : Key} {v : α} (hg : kget m k = some v) : kset m k v = m := by
  unfold kset
  refine Eq.trans (List.map_congr_left (g := id) ?_) (List.map_id _)
  intro p hp
  by_cases he : p.1 = k
  · have h1 : (k, p.2) ∈ m := by rw [← he]; exact hp
    have h2 := kget_of_mem h h1
    rw [hg] at h2
    injection h2 with h2
    simp [he, h2]
    rw [← he]
  · simp [he]
theorem Rising.of_kmap {f : α → β} {m : List (Key × α)} (h : Rising (kmap f m)) : Rising m := by
  unfold Rising kmap at h
  rw [List.pairwise_map] at h
  exact h
theorem pairwise_kset {R : Key × α → Key × α → Prop} (hs : ∀ a b, R a b → R b a) {k : Key} {v : α} {m : List (Key × α)} (hr : Rising m) (h : m.Pairwise R) (hn : ∀ p ∈ m, p.1 ≠ k → R (k, v) p) : (kset m k v).Pairwise R := by
  induction m with
  | nil => simp [kset]
  | cons y r ih =>
    have h1 := List.pairwise_cons.1 h
    have hr1 := List.pairwise_cons.1 hr.ne
    have i2 := ih (List.pairwise_cons.1 hr).2 h1.2 (fun p hp => hn p (by simp [hp]))
    have e : kset (y :: r) k v = (if y.1 == k then (y.1, v) else y) :: kset r k v := rfl
    rw [e]
    refine List.pairwise_cons.2 ⟨fun p hp => ?_, i2⟩
    by_cases he : y.1 = k
    · simp only [he, beq_self_eq_true, if_true]
      rcases mem_kset.1 hp with ⟨q, hq, hqk, _⟩ | ⟨hp, hpk⟩
      · exact absurd (he.trans hqk.symm) (hr1.1 q hq)
      · exact hn p (by simp [hp]) hpk
    · have hb : (y.1 == k) = false := by simpa using he
      rw [hb]
      show R y p
      rcases mem_kset.1 hp with ⟨q, hq, hqk, rfl⟩ | ⟨hp, hpk⟩
      · exact hs _ _ (hn y (by simp) he)
      · exact h1.1 p hp
end
theorem all_append (f : File) (data : List UInt8) : (File.mk f.safe (f.pieces ++ [data])).all = f.all ++ data := by simp [File.all]
theorem used_append {d : Dr} {name : Key} {f : File} (hr : Rising d.files) (hk : kget d.files name = some f) (data : List UInt8) : ({ d with files := kset d.files name ⟨f.safe, f.pieces ++ [data]⟩ } : Dr).used = d.used + data.length := by
  have h1 : d.used = ((ksum (fun f : File => f.all.length) d.files : Nat) : Int) := d.used_eq
  have h2 : ({ d with files := kset d.files name ⟨f.safe, f.pieces ++ [data]⟩ } : Dr).used = ((ksum (fun f : File => f.all.length) (kset d.files name ⟨f.safe, f.pieces ++ [data]⟩) : Nat) : Int) := Dr.used_eq _
  rw [h1, h2, ksum_del _ hr hk, ksum_set _ hr hk]
  simp only [all_append, List.length_append]
  omega

theorem append_mem {w w1 w2 : World} {g mb : Nat} {d : Dr} {fp : Nat → Prop} {aft : Int} {rs : List (Key × FileR)} {name : Key} {r : FileR} {v1 v2 : Value} {vs : List Value} {data : List UInt8} (h : IsDrive w g d fp) (hb : Blk w g 60 (driveCells d mb aft))
    (ha : 0 ≤ d.left → aft = d.left) (hf : HasFiles w fp mb rs) (hd : d.files = kmap FileR.f rs) (hr : Rising rs) (hk2 : kget rs name = some r) (hpv : PiecesRow w fp r.pv r.f.pieces vs) (b1 : Below w.heap.size w w1)
    (hrow : w1.ownsRow w.heap.size 5 1 v1 data.length (data.map B8)) (hown2 : w2.ownsRow 0 33 1 v2 (r.f.pieces.length + 1) (vs ++ [v1])) (hgrow : (w1.alloc (.cells #[v1] 33)).grownBy w2 r.pv.ownBlock)
    (hat : v2.ownBlock = r.pv.ownBlock ∨ v2.ownBlock = some (w1.alloc (.cells #[v1] 33)).heap.size) :
    Then w g { d with files := kset d.files name ⟨r.f.safe, r.f.pieces ++ [data]⟩ } fp ((w2.setCell ⟨r.blk, 1, none⟩ v2).drew.setCell ⟨g, 2, none⟩ (.int .i64 (d.used + data.length))) ∧
    Blk w2 r.blk 68 #[r.sv, r.pv] ∧ Blk w2 g 60 (driveCells d mb aft) ∧ (∀ k, k < w.heap.size → r.pv.ownBlock ≠ some k → w2.heap[k]? = w.heap[k]?) := by
  have hmem := kget_some hk2
  have hF := hf.each _ hmem
  simp only at hF
  have hs1 := b1.size
  have hs2 := hgrow.size
  simp at hs2
  have hglt := hb.lt
  have hmlt : mb < w.heap.size := h.lt mb hf.own
  have hfblt : r.blk < w.heap.size := h.lt _ hF.own
  obtain ⟨es0, cl0, hmb⟩ := hf.map.isMap
  have hpvh : ∀ k, r.pv.ownBlock = some k → ∃ cs, w.heap[k]? = some (.cells cs 33 (0, 0)) := fun k hk => row_heap hpv.row hk
  have hb' : w.heap[g]? = some (.cells (driveCells d mb aft) 60 (0, 0)) := hb
  have hfb' : w.heap[r.blk]? = some (.cells #[r.sv, r.pv] 68 (0, 0)) := hF.blk
  have hty : ∀ {k : Nat} {c1 c2 : Array Value} {t1 t2 : TypeId}, w.heap[k]? = some (.cells c1 t1 (0, 0)) → w.heap[k]? = some (.cells c2 t2 (0, 0)) → t1 = t2 := by
    intro k c1 c2 t1 t2 h1 h2
    rw [h1] at h2
    injection h2 with h2
    injection h2
  have hgp : r.pv.ownBlock ≠ some g := fun hk => by
    obtain ⟨cs, hc⟩ := hpvh _ hk
    exact absurd (hty hc hb') (by decide)
  have hfp' : r.pv.ownBlock ≠ some r.blk := fun hk => by
    obtain ⟨cs, hc⟩ := hpvh _ hk
    exact absurd (hty hc hfb') (by decide)
  have hgf : g ≠ r.blk := fun e => by
    rw [← e] at hfb'
    exact absurd (hty hb' hfb') (by decide)
  have hmp : r.pv.ownBlock ≠ some mb := fun hk => by
    obtain ⟨cs, hc⟩ := hpvh _ hk
    rw [hmb] at hc; cases hc
  have hmg : mb ≠ g := by rintro rfl; rw [hmb] at hb'; cases hb'
  have hmf : mb ≠ r.blk := by rintro e; rw [← e, hmb] at hfb'; cases hfb'
  have b1a : Below w.heap.size w (w1.alloc (.cells #[v1] 33)) := b1.alloc hs1 _
  have hk2' : ∀ k, k < w.heap.size → r.pv.ownBlock ≠ some k → w2.heap[k]? = w.heap[k]? := fun k hk hne => (hgrow.block k (by simp; omega) (fun e => hne e.symm)).trans (b1a.block k hk)
  have hB2 : Blk w2 g 60 (driveCells d mb aft) := (hk2' g hglt hgp).trans hb
  have hF2 : Blk w2 r.blk 68 #[r.sv, r.pv] := (hk2' _ hfblt hfp').trans hF.blk
  refine ⟨?_, hF2, hB2, hk2'⟩
  have hF3 := hF2.set_ 1 v2
  have hB3 : Blk (w2.setCell ⟨r.blk, 1, none⟩ v2).drew g 60 (driveCells d mb aft) := (set_other _ _ _ _ g hgf).trans hB2
  have hB4 := hB3.set_ 2 (.int .i64 (d.used + data.length))
  have hF4 : Blk ((w2.setCell ⟨r.blk, 1, none⟩ v2).drew.setCell ⟨g, 2, none⟩ (.int .i64 (d.used + data.length))) r.blk 68 #[r.sv, v2] := (set_other _ _ _ _ r.blk (Ne.symm hgf)).trans hF3
  generalize hw4 : (w2.setCell ⟨r.blk, 1, none⟩ v2).drew.setCell ⟨g, 2, none⟩ (.int .i64 (d.used + data.length)) = w4 at hB4 hF4 ⊢
  have hsz4 : w4.heap.size = w2.heap.size := by
    rw [← hw4, set_size]
    exact set_size _ _ _
  have h4 : ∀ k, k ≠ g → k ≠ r.blk → w4.heap[k]? = w2.heap[k]? := fun k h1 h2 => by
    rw [← hw4]
    exact (set_other _ _ _ _ k h1).trans (set_other _ _ _ _ k h2)
  have hos4 : w4.os = w2.os ∧ w4.tape = w2.tape ∧ w4.output = w2.output := by
    rw [← hw4]; exact ⟨rfl, rfl, rfl⟩
  clear hw4
  have hkk : ∀ k, k < w.heap.size → k ≠ g → k ≠ r.blk → r.pv.ownBlock ≠ some k → w4.heap[k]? = w.heap[k]? := fun k hk h1 h2 h3 => (h4 k h1 h2).trans (hk2' k hk h3)
  have hu8 : ∀ k cs, fp k → w.heap[k]? = some (.cells cs 5 (0, 0)) → w4.heap[k]? = w.heap[k]? := fun k cs hk hc => hkk k (h.lt k hk)
    (by rintro rfl; exact absurd (hty hc hb') (by decide)) (by rintro rfl; exact absurd (hty hc hfb') (by decide)) (fun hp => by
      obtain ⟨cs', hc'⟩ := hpvh _ hp
      exact absurd (hty hc hc') (by decide))
  have hfpn : ∀ k, w.heap.size ≤ k → k ≠ g ∧ k ≠ r.blk ∧ r.pv.ownBlock ≠ some k := fun k hk => ⟨by omega, by omega, fun e => by
    obtain ⟨cs, hc⟩ := hpvh _ e
    have := (Array.getElem?_eq_some_iff.1 hc).1
    omega⟩
  have hu : ({ d with files := kset d.files name ⟨r.f.safe, r.f.pieces ++ [data]⟩ } : Dr).used = d.used + data.length := by
    have hkd : kget d.files name = some r.f := by rw [hd, kget_map, hk2]; rfl
    have hrd : Rising d.files := by
      rw [hd]
      unfold Rising kmap
      rw [List.pairwise_map]
      exact hr
    exact used_append hrd hkd data
  have hv1b : ∀ k, v1.ownBlock = some k → w.heap.size ≤ k ∧ k < w1.heap.size := fun k hk => by
    obtain ⟨cs, hcs⟩ := row_heap hrow hk
    refine ⟨?_, (Array.getElem?_eq_some_iff.1 hcs).1⟩
    rcases hrow.2 with ⟨rfl, _⟩ | ⟨g', cap, cur, rfl, hb', _⟩
    · simp [Value.ownBlock] at hk
    · have : g' = k := by simpa [Value.ownBlock] using hk
      omega
  have hrow4 : w4.ownsRow w.heap.size 5 1 v1 data.length (data.map B8) := row_keep hrow fun k hk => by
    have h5 := hv1b k hk
    have h6 := hfpn k h5.1
    exact (h4 k h6.1 h6.2.1).trans ((hgrow.block k (by simp; omega) (fun e => h6.2.2 e.symm)).trans (heap_alloc_old w1 _ h5.2))
  have hown4 : w4.ownsRow 0 33 1 v2 (r.f.pieces.length + 1) (vs ++ [v1]) := row_keep hown2 fun k hk => by
    refine h4 k ?_ ?_
    · rintro rfl
      rcases hat with e | e
      · rw [e] at hk; exact hgp hk
      · rw [e] at hk; simp at hk; omega
    · rintro rfl
      rcases hat with e | e
      · rw [e] at hk; exact hfp' hk
      · rw [e] at hk; simp at hk; omega
  refine ⟨fun k => fp k ∨ (w.heap.size ≤ k ∧ k < w4.heap.size), ⟨?_, .inl h.own, mb, aft, kset rs name ⟨r.blk, r.sv, v2, ⟨r.f.safe, r.f.pieces ++ [data]⟩⟩, ?_, ha, ⟨?_, .inl hf.own, ?_, ?_⟩, ?_⟩, ⟨?_, ?_, ?_, by omega, ?_, ?_⟩⟩
  · rintro k (hk | ⟨_, hk⟩)
    · have := h.lt k hk; omega
    · exact hk
  · unfold driveCells
    rw [hu]
    exact hB4
  · rw [kmap_set]
    have e1 : kset (kmap FileR.blk rs) name r.blk = kmap FileR.blk rs := by
      refine kset_same ?_ (by rw [kget_map, hk2]; rfl)
      unfold Rising kmap
      rw [List.pairwise_map]
      exact hr
    rw [e1]
    exact hf.map.kept (hkk mb hmlt hmg hmf hmp)
  · intro p hp
    rcases mem_kset.1 hp with ⟨q, hq, hqk, rfl⟩ | ⟨hp, hpk⟩
    · refine ⟨hF4, .inl hF.own, hF.safe.keep hu8 (fun _ h => .inl h), vs ++ [v1], ⟨by simpa using hown4, fun k hk => ?_, by simp [hpv.len], fun i hi => ?_⟩⟩
      · rcases hat with e | e
        · exact .inl (hpv.own k (by rw [← e]; exact hk))
        · obtain ⟨cs, hcs⟩ := row_heap hown4 hk
          have h9 : k < w4.heap.size := (Array.getElem?_eq_some_iff.1 hcs).1
          have hk' : v2.ownBlock = some k := hk
          rw [e] at hk'
          simp at hk'
          exact .inr ⟨by omega, h9⟩
      · have hi' : i < r.f.pieces.length + 1 := by simpa using hi
        by_cases h7 : i < r.f.pieces.length
        · obtain ⟨u, hu1, hu2⟩ := hpv.each i h7
          refine ⟨u, ?_, ?_⟩
          · rw [List.getElem?_append_left (by rw [hpv.len]; exact h7)]; exact hu1
          · have e3 : (r.f.pieces ++ [data])[i]'hi = r.f.pieces[i] := List.getElem_append_left h7
            show BytesRow w4 _ u ((r.f.pieces ++ [data])[i]'hi)
            rw [e3]
            exact hu2.keep hu8 (fun _ h => .inl h)
        · have h8 : i = r.f.pieces.length := by omega
          subst h8
          refine ⟨v1, ?_, ?_⟩
          · rw [List.getElem?_append_right (by rw [hpv.len]; exact Nat.le_refl _)]; simp [hpv.len]
          · have e3 : (r.f.pieces ++ [data])[r.f.pieces.length]'hi = data := by simp
            show BytesRow w4 _ v1 ((r.f.pieces ++ [data])[r.f.pieces.length]'hi)
            rw [e3]
            exact ⟨row_base hrow4 (Nat.zero_le _), fun k hk => .inr ⟨(hv1b k hk).1, by have := (hv1b k hk).2; omega⟩⟩
    · have hFp := hf.each p hp
      have hne : (name, r) ≠ p := by rintro rfl; exact hpk rfl
      have hA := pairwise_two (fun a b h => FApart.symm h) hf.apart hmem hp hne
      refine hFp.keep hu8 (fun k hk => ?_) ?_ (fun _ h => .inl h)
      · obtain ⟨vs', hv'⟩ := hFp.pieces
        obtain ⟨cs, hc⟩ := row_heap hv'.row hk
        exact hkk k (h.lt k (hv'.own k hk)) (by rintro rfl; exact absurd (hty hc hb') (by decide)) (by rintro rfl; exact absurd (hty hc hfb') (by decide)) (fun hp' => hA.2 k hp' hk)
      · have hc : w.heap[p.2.blk]? = some (.cells #[p.2.sv, p.2.pv] 68 (0, 0)) := hFp.blk
        exact hkk _ (h.lt _ hFp.own) (by rintro e; rw [e] at hc; exact absurd (hty hc hb') (by decide)) (Ne.symm hA.1) (fun hp' => by
          obtain ⟨cs', hc'⟩ := hpvh _ hp'
          exact absurd (hty hc hc') (by decide))
  · refine pairwise_kset (fun a b hab => hab.symm) hr hf.apart (fun p hp hpk => ?_)
    have hne : (name, r) ≠ p := by rintro rfl; exact hpk rfl
    have hA := pairwise_two (fun a b h => FApart.symm h) hf.apart hmem hp hne
    refine ⟨hA.1, fun k hk => ?_⟩
    have hk' : v2.ownBlock = some k := hk
    rcases hat with e | e
    · exact hA.2 k (by rw [← e]; exact hk')
    · rw [e] at hk'
      simp at hk'
      intro hpp
      obtain ⟨vs', hv'⟩ := (hf.each p hp).pieces
      have := h.lt k (hv'.own k hpp)
      omega
  · rw [kmap_set, ← hd]
  · exact hos4.1.trans (hgrow.os.trans b1a.os)
  · exact hos4.2.1.trans (hgrow.tape.trans b1a.tape)
  · exact hos4.2.2.trans (hgrow.output.trans b1a.output)
  · intro k hk hnf
    exact hkk k hk (by rintro rfl; exact hnf h.own) (by rintro rfl; exact hnf hF.own) (fun hp => hnf (hpv.own k hp))
  · rintro k (hk | hk)
    · exact .inl hk
    · exact .inr hk.1
end Go.Proofs.Ytioillenlgpcgaa
