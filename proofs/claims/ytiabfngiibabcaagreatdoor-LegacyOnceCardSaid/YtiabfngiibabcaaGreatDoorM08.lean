/- Walks of package drive: what an append leaves in memory. Walks of package drive: Append, whole. Walks of package drive: Append, whole. Walks of package drive: the closure of Rename. Walks of package drive: the closure of Rename, whole. Walks of package drive: Rename, whole. What holds of every drive is kept by every deed. -/
import Derived.Test.YtiabfngiibabcaaGreatDoorM07
import Derived.Deep.QuietTactic
import Derived.BigQuiet
set_option linter.unusedVariables false
set_option linter.unusedSimpArgs false
set_option maxHeartbeats 800000
set_option maxRecDepth 100000
namespace Go.Proofs.YtiabfngiibabcaaGreatDoor
open Go.RowKit

section
variable {α β : Type}
theorem kset_same {m : List (Key × α)} (h : Rising m) {k : Key} {v : α} (hg : kget m k = some v) : kset m k v = m := by
  unfold kset
  refine Eq.trans (List.map_congr_left (g := id) ?_) (List.map_id _)
  intro p hp
  by_cases he : p.1 = k
  · have h1 : (k, p.2) ∈ m := by rw [← he]; exact hp
    have h2 := kget_of_mem h h1
    rw [hg] at h2
    injection h2 with h2
    simp [he, h2]
    rw [← he]
  · simp [he]
theorem Rising.of_kmap {f : α → β} {m : List (Key × α)} (h : Rising (kmap f m)) : Rising m := by
  unfold Rising kmap at h
  rw [List.pairwise_map] at h
  exact h
theorem pairwise_kset {R : Key × α → Key × α → Prop} (hs : ∀ a b, R a b → R b a) {k : Key} {v : α} {m : List (Key × α)} (hr : Rising m) (h : m.Pairwise R) (hn : ∀ p ∈ m, p.1 ≠ k → R (k, v) p) : (kset m k v).Pairwise R := by
  induction m with
  | nil => simp [kset]
  | cons y r ih =>
    have h1 := List.pairwise_cons.1 h
    have hr1 := List.pairwise_cons.1 hr.ne
    have i2 := ih (List.pairwise_cons.1 hr).2 h1.2 (fun p hp => hn p (by simp [hp]))
    have e : kset (y :: r) k v = (if y.1 == k then (y.1, v) else y) :: kset r k v := rfl
    rw [e]
    refine List.pairwise_cons.2 ⟨fun p hp => ?_, i2⟩
    by_cases he : y.1 = k
    · simp only [he, beq_self_eq_true, if_true]
      rcases mem_kset.1 hp with ⟨q, hq, hqk, _⟩ | ⟨hp, hpk⟩
      · exact absurd (he.trans hqk.symm) (hr1.1 q hq)
      · exact hn p (by simp [hp]) hpk
    · have hb : (y.1 == k) = false := by simpa using he
      rw [hb]
      show R y p
      rcases mem_kset.1 hp with ⟨q, hq, hqk, rfl⟩ | ⟨hp, hpk⟩
      · exact hs _ _ (hn y (by simp) he)
      · exact h1.1 p hp
end
theorem all_append (f : File) (data : List UInt8) : (File.mk f.safe (f.pieces ++ [data])).all = f.all ++ data := by simp [File.all]
theorem used_append {d : Dr} {name : Key} {f : File} (hr : Rising d.files) (hk : kget d.files name = some f) (data : List UInt8) : ({ d with files := kset d.files name ⟨f.safe, f.pieces ++ [data]⟩ } : Dr).used = d.used + data.length := by
  have h1 : d.used = ((ksum (fun f : File => f.all.length) d.files : Nat) : Int) := d.used_eq
  have h2 : ({ d with files := kset d.files name ⟨f.safe, f.pieces ++ [data]⟩ } : Dr).used = ((ksum (fun f : File => f.all.length) (kset d.files name ⟨f.safe, f.pieces ++ [data]⟩) : Nat) : Int) := Dr.used_eq _
  rw [h1, h2, ksum_del _ hr hk, ksum_set _ hr hk]
  simp only [all_append, List.length_append]
  omega

theorem append_mem {w w1 w2 : World} {g mb : Nat} {d : Dr} {fp : Nat → Prop} {aft : Int} {rs : List (Key × FileR)} {name : Key} {r : FileR} {v1 v2 : Value} {vs : List Value} {data : List UInt8} (h : IsDrive w g d fp) (hb : Blk w g 78 (driveCells d mb aft))
    (ha : 0 ≤ d.left → aft = d.left) (hf : HasFiles w fp mb rs) (hd : d.files = kmap FileR.f rs) (hr : Rising rs) (hk2 : kget rs name = some r) (hpv : PiecesRow w fp r.pv r.f.pieces vs) (b1 : Below w.heap.size w w1)
    (hrow : w1.ownsRow w.heap.size 5 1 v1 data.length (data.map B8)) (hown2 : w2.ownsRow 0 85 1 v2 (r.f.pieces.length + 1) (vs ++ [v1])) (hgrow : (w1.alloc (.cells #[v1] 85)).grownBy w2 r.pv.ownBlock)
    (hat : v2.ownBlock = r.pv.ownBlock ∨ v2.ownBlock = some (w1.alloc (.cells #[v1] 85)).heap.size) :
    Then w g { d with files := kset d.files name ⟨r.f.safe, r.f.pieces ++ [data]⟩ } fp ((w2.setCell ⟨r.blk, 1, none⟩ v2).drew.setCell ⟨g, 2, none⟩ (.int .i64 (d.used + data.length))) ∧
    Blk w2 r.blk 178 #[r.sv, r.pv] ∧ Blk w2 g 78 (driveCells d mb aft) ∧ (∀ k, k < w.heap.size → r.pv.ownBlock ≠ some k → w2.heap[k]? = w.heap[k]?) := by
  have hmem := kget_some hk2
  have hF := hf.each _ hmem
  simp only at hF
  have hs1 := b1.size
  have hs2 := hgrow.size
  simp at hs2
  have hglt := hb.lt
  have hmlt : mb < w.heap.size := h.lt mb hf.own
  have hfblt : r.blk < w.heap.size := h.lt _ hF.own
  obtain ⟨es0, cl0, hmb⟩ := hf.map.isMap
  have hpvh : ∀ k, r.pv.ownBlock = some k → ∃ cs, w.heap[k]? = some (.cells cs 85 (0, 0)) := fun k hk => row_heap hpv.row hk
  have hb' : w.heap[g]? = some (.cells (driveCells d mb aft) 78 (0, 0)) := hb
  have hfb' : w.heap[r.blk]? = some (.cells #[r.sv, r.pv] 178 (0, 0)) := hF.blk
  have hty : ∀ {k : Nat} {c1 c2 : Array Value} {t1 t2 : TypeId}, w.heap[k]? = some (.cells c1 t1 (0, 0)) → w.heap[k]? = some (.cells c2 t2 (0, 0)) → t1 = t2 := by
    intro k c1 c2 t1 t2 h1 h2
    rw [h1] at h2
    injection h2 with h2
    injection h2
  have hgp : r.pv.ownBlock ≠ some g := fun hk => by
    obtain ⟨cs, hc⟩ := hpvh _ hk
    exact absurd (hty hc hb') (by decide)
  have hfp' : r.pv.ownBlock ≠ some r.blk := fun hk => by
    obtain ⟨cs, hc⟩ := hpvh _ hk
    exact absurd (hty hc hfb') (by decide)
  have hgf : g ≠ r.blk := fun e => by
    rw [← e] at hfb'
    exact absurd (hty hb' hfb') (by decide)
  have hmp : r.pv.ownBlock ≠ some mb := fun hk => by
    obtain ⟨cs, hc⟩ := hpvh _ hk
    rw [hmb] at hc; cases hc
  have hmg : mb ≠ g := by rintro rfl; rw [hmb] at hb'; cases hb'
  have hmf : mb ≠ r.blk := by rintro e; rw [← e, hmb] at hfb'; cases hfb'
  have b1a : Below w.heap.size w (w1.alloc (.cells #[v1] 85)) := b1.alloc hs1 _
  have hk2' : ∀ k, k < w.heap.size → r.pv.ownBlock ≠ some k → w2.heap[k]? = w.heap[k]? := fun k hk hne => (hgrow.block k (by simp; omega) (fun e => hne e.symm)).trans (b1a.block k hk)
  have hB2 : Blk w2 g 78 (driveCells d mb aft) := (hk2' g hglt hgp).trans hb
  have hF2 : Blk w2 r.blk 178 #[r.sv, r.pv] := (hk2' _ hfblt hfp').trans hF.blk
  refine ⟨?_, hF2, hB2, hk2'⟩
  have hF3 := hF2.set_ 1 v2
  have hB3 : Blk (w2.setCell ⟨r.blk, 1, none⟩ v2).drew g 78 (driveCells d mb aft) := (set_other _ _ _ _ g hgf).trans hB2
  have hB4 := hB3.set_ 2 (.int .i64 (d.used + data.length))
  have hF4 : Blk ((w2.setCell ⟨r.blk, 1, none⟩ v2).drew.setCell ⟨g, 2, none⟩ (.int .i64 (d.used + data.length))) r.blk 178 #[r.sv, v2] := (set_other _ _ _ _ r.blk (Ne.symm hgf)).trans hF3
  generalize hw4 : (w2.setCell ⟨r.blk, 1, none⟩ v2).drew.setCell ⟨g, 2, none⟩ (.int .i64 (d.used + data.length)) = w4 at hB4 hF4 ⊢
  have hsz4 : w4.heap.size = w2.heap.size := by
    rw [← hw4, set_size]
    exact set_size _ _ _
  have h4 : ∀ k, k ≠ g → k ≠ r.blk → w4.heap[k]? = w2.heap[k]? := fun k h1 h2 => by
    rw [← hw4]
    exact (set_other _ _ _ _ k h1).trans (set_other _ _ _ _ k h2)
  have hos4 : w4.os = w2.os ∧ w4.tape = w2.tape ∧ w4.output = w2.output := by
    rw [← hw4]; exact ⟨rfl, rfl, rfl⟩
  clear hw4
  have hkk : ∀ k, k < w.heap.size → k ≠ g → k ≠ r.blk → r.pv.ownBlock ≠ some k → w4.heap[k]? = w.heap[k]? := fun k hk h1 h2 h3 => (h4 k h1 h2).trans (hk2' k hk h3)
  have hu8 : ∀ k cs, fp k → w.heap[k]? = some (.cells cs 5 (0, 0)) → w4.heap[k]? = w.heap[k]? := fun k cs hk hc => hkk k (h.lt k hk)
    (by rintro rfl; exact absurd (hty hc hb') (by decide)) (by rintro rfl; exact absurd (hty hc hfb') (by decide)) (fun hp => by
      obtain ⟨cs', hc'⟩ := hpvh _ hp
      exact absurd (hty hc hc') (by decide))
  have hfpn : ∀ k, w.heap.size ≤ k → k ≠ g ∧ k ≠ r.blk ∧ r.pv.ownBlock ≠ some k := fun k hk => ⟨by omega, by omega, fun e => by
    obtain ⟨cs, hc⟩ := hpvh _ e
    have := (Array.getElem?_eq_some_iff.1 hc).1
    omega⟩
  have hu : ({ d with files := kset d.files name ⟨r.f.safe, r.f.pieces ++ [data]⟩ } : Dr).used = d.used + data.length := by
    have hkd : kget d.files name = some r.f := by rw [hd, kget_map, hk2]; rfl
    have hrd : Rising d.files := by
      rw [hd]
      unfold Rising kmap
      rw [List.pairwise_map]
      exact hr
    exact used_append hrd hkd data
  have hv1b : ∀ k, v1.ownBlock = some k → w.heap.size ≤ k ∧ k < w1.heap.size := fun k hk => by
    obtain ⟨cs, hcs⟩ := row_heap hrow hk
    refine ⟨?_, (Array.getElem?_eq_some_iff.1 hcs).1⟩
    rcases hrow.2 with ⟨rfl, _⟩ | ⟨g', cap, cur, rfl, hb', _⟩
    · simp [Value.ownBlock] at hk
    · have : g' = k := by simpa [Value.ownBlock] using hk
      omega
  have hrow4 : w4.ownsRow w.heap.size 5 1 v1 data.length (data.map B8) := row_keep hrow fun k hk => by
    have h5 := hv1b k hk
    have h6 := hfpn k h5.1
    exact (h4 k h6.1 h6.2.1).trans ((hgrow.block k (by simp; omega) (fun e => h6.2.2 e.symm)).trans (heap_alloc_old w1 _ h5.2))
  have hown4 : w4.ownsRow 0 85 1 v2 (r.f.pieces.length + 1) (vs ++ [v1]) := row_keep hown2 fun k hk => by
    refine h4 k ?_ ?_
    · rintro rfl
      rcases hat with e | e
      · rw [e] at hk; exact hgp hk
      · rw [e] at hk; simp at hk; omega
    · rintro rfl
      rcases hat with e | e
      · rw [e] at hk; exact hfp' hk
      · rw [e] at hk; simp at hk; omega
  refine ⟨fun k => fp k ∨ (w.heap.size ≤ k ∧ k < w4.heap.size), ⟨?_, .inl h.own, mb, aft, kset rs name ⟨r.blk, r.sv, v2, ⟨r.f.safe, r.f.pieces ++ [data]⟩⟩, ?_, ha, ⟨?_, .inl hf.own, ?_, ?_⟩, ?_⟩, ⟨?_, ?_, ?_, by omega, ?_, ?_⟩⟩
  · rintro k (hk | ⟨_, hk⟩)
    · have := h.lt k hk; omega
    · exact hk
  · unfold driveCells
    rw [hu]
    exact hB4
  · rw [kmap_set]
    have e1 : kset (kmap FileR.blk rs) name r.blk = kmap FileR.blk rs := by
      refine kset_same ?_ (by rw [kget_map, hk2]; rfl)
      unfold Rising kmap
      rw [List.pairwise_map]
      exact hr
    rw [e1]
    exact hf.map.kept (hkk mb hmlt hmg hmf hmp)
  · intro p hp
    rcases mem_kset.1 hp with ⟨q, hq, hqk, rfl⟩ | ⟨hp, hpk⟩
    · refine ⟨hF4, .inl hF.own, hF.safe.keep hu8 (fun _ h => .inl h), vs ++ [v1], ⟨by simpa using hown4, fun k hk => ?_, by simp [hpv.len], fun i hi => ?_⟩⟩
      · rcases hat with e | e
        · exact .inl (hpv.own k (by rw [← e]; exact hk))
        · obtain ⟨cs, hcs⟩ := row_heap hown4 hk
          have h9 : k < w4.heap.size := (Array.getElem?_eq_some_iff.1 hcs).1
          have hk' : v2.ownBlock = some k := hk
          rw [e] at hk'
          simp at hk'
          exact .inr ⟨by omega, h9⟩
      · have hi' : i < r.f.pieces.length + 1 := by simpa using hi
        by_cases h7 : i < r.f.pieces.length
        · obtain ⟨u, hu1, hu2⟩ := hpv.each i h7
          refine ⟨u, ?_, ?_⟩
          · rw [List.getElem?_append_left (by rw [hpv.len]; exact h7)]; exact hu1
          · have e3 : (r.f.pieces ++ [data])[i]'hi = r.f.pieces[i] := List.getElem_append_left h7
            show BytesRow w4 _ u ((r.f.pieces ++ [data])[i]'hi)
            rw [e3]
            exact hu2.keep hu8 (fun _ h => .inl h)
        · have h8 : i = r.f.pieces.length := by omega
          subst h8
          refine ⟨v1, ?_, ?_⟩
          · rw [List.getElem?_append_right (by rw [hpv.len]; exact Nat.le_refl _)]; simp [hpv.len]
          · have e3 : (r.f.pieces ++ [data])[r.f.pieces.length]'hi = data := by simp
            show BytesRow w4 _ v1 ((r.f.pieces ++ [data])[r.f.pieces.length]'hi)
            rw [e3]
            exact ⟨row_base hrow4 (Nat.zero_le _), fun k hk => .inr ⟨(hv1b k hk).1, by have := (hv1b k hk).2; omega⟩⟩
    · have hFp := hf.each p hp
      have hne : (name, r) ≠ p := by rintro rfl; exact hpk rfl
      have hA := pairwise_two (fun a b h => FApart.symm h) hf.apart hmem hp hne
      refine hFp.keep hu8 (fun k hk => ?_) ?_ (fun _ h => .inl h)
      · obtain ⟨vs', hv'⟩ := hFp.pieces
        obtain ⟨cs, hc⟩ := row_heap hv'.row hk
        exact hkk k (h.lt k (hv'.own k hk)) (by rintro rfl; exact absurd (hty hc hb') (by decide)) (by rintro rfl; exact absurd (hty hc hfb') (by decide)) (fun hp' => hA.2 k hp' hk)
      · have hc : w.heap[p.2.blk]? = some (.cells #[p.2.sv, p.2.pv] 178 (0, 0)) := hFp.blk
        exact hkk _ (h.lt _ hFp.own) (by rintro e; rw [e] at hc; exact absurd (hty hc hb') (by decide)) (Ne.symm hA.1) (fun hp' => by
          obtain ⟨cs', hc'⟩ := hpvh _ hp'
          exact absurd (hty hc hc') (by decide))
  · refine pairwise_kset (fun a b hab => hab.symm) hr hf.apart (fun p hp hpk => ?_)
    have hne : (name, r) ≠ p := by rintro rfl; exact hpk rfl
    have hA := pairwise_two (fun a b h => FApart.symm h) hf.apart hmem hp hne
    refine ⟨hA.1, fun k hk => ?_⟩
    have hk' : v2.ownBlock = some k := hk
    rcases hat with e | e
    · exact hA.2 k (by rw [← e]; exact hk')
    · rw [e] at hk'
      simp at hk'
      intro hpp
      obtain ⟨vs', hv'⟩ := (hf.each p hp).pieces
      have := h.lt k (hv'.own k hpp)
      omega
  · rw [kmap_set, ← hd]
  · exact hos4.1.trans (hgrow.os.trans b1a.os)
  · exact hos4.2.1.trans (hgrow.tape.trans b1a.tape)
  · exact hos4.2.2.trans (hgrow.output.trans b1a.output)
  · intro k hk hnf
    exact hkk k hk (by rintro rfl; exact hnf h.own) (by rintro rfl; exact hnf hF.own) (fun hp => hnf (hpv.own k hp))
  · rintro k (hk | hk)
    · exact .inl hk
    · exact .inr hk.1
end Go.Proofs.YtiabfngiibabcaaGreatDoor

set_option linter.unusedVariables false
set_option linter.unusedSimpArgs false
set_option maxHeartbeats 1600000
set_option maxRecDepth 100000
attribute [local go_sem ↓] Go.wp_at_zero Go.wp_at_succ
namespace Go.Proofs.YtiabfngiibabcaaGreatDoor
open Go.RowKit

theorem four_of {w W : World} {g mb pb nb db : Nat} {d : Dr} {fp : Nat → Prop} {aft : Int} {rs : List (Key × FileR)} {name : Key} {r : FileR} {A : Option Addr} {n c : Nat} {cs : Array Value} {u : Int} {v : Value} (h : IsDrive w g d fp) (hb : Blk w g 78 (driveCells d mb aft))
    (hf : HasFiles w fp mb rs) (hk2 : kget rs name = some r) (hl : name.length ≤ 1000000) (hC : Caps w g pb nb name fp) (cd : w.cell? ⟨db, 0, none⟩ = some (.slice A n c)) (hdl : db < w.heap.size) (hdn : ¬ fp db)
    (hkk : ∀ k, k < w.heap.size → k ≠ g → k ≠ r.blk → r.pv.ownBlock ≠ some k → W.heap[k]? = w.heap[k]?) (hBg : Blk W g 78 cs) (h0 : cs[0]? = some (.map (some mb))) (h2 : cs[2]? = some (.int .i64 u)) (hBf : Blk W r.blk 178 #[r.sv, v]) :
    Four W g mb pb nb db r.blk name u A n c v := by
  have hF := hf.each _ (kget_some hk2)
  simp only at hF
  obtain ⟨vs, hpv⟩ := hF.pieces
  obtain ⟨es0, cl0, hmb⟩ := hf.map.isMap
  have hb' : w.heap[g]? = some (.cells (driveCells d mb aft) 78 (0, 0)) := hb
  have hfb' : w.heap[r.blk]? = some (.cells #[r.sv, r.pv] 178 (0, 0)) := hF.blk
  have hkeep : ∀ (k : Nat) x, k < w.heap.size → ¬ fp k → w.cell? ⟨k, 0, none⟩ = some x → W.cell? ⟨k, 0, none⟩ = some x := fun k x hk hn hc =>
    (World.cell?_of_block (a := ⟨k, 0, none⟩) (hkk k hk (by rintro rfl; exact hn h.own) (by rintro rfl; exact hn hF.own) (fun e => hn (hpv.own k e)))).trans hc
  have hmm : W.heap[mb]? = w.heap[mb]? := hkk mb (h.lt mb hf.own) (by rintro rfl; rw [hmb] at hb'; cases hb') (by rintro e; rw [← e, hmb] at hfb'; cases hfb') (fun e => by
    obtain ⟨cs', hc⟩ := row_heap hpv.row e
    rw [hmb] at hc; cases hc)
  have hm1 : OwnM Tryz.prog 9 W mb (kmap FileR.blk rs) := hf.map.kept hmm
  have hz : (zeroValue 175).run Tryz.prog W = .ok (.pointer none) W := by kernel_rfl
  have L := hm1.look (t := 76) (e := 175) (by kernel_rfl) (by kernel_rfl) hz name hl
  rw [kget_map, hk2] at L
  exact ⟨hkeep _ _ hC.hp hC.np hC.cp, hkeep _ _ hC.hn hC.nn hC.cn, hkeep _ _ hdl hdn cd, (hBg.cell 0).trans h0, (hBg.cell 2).trans h2, hBf.cell 1, hBg.frozen 2, hBf.frozen 1, L⟩

theorem append_closure {w : World} {g pb nb db : Nat} {d : Dr} {fp : Nat → Prop} {name : Key} {N : Nat} {A : Option Addr} {c : Nat} {data : List UInt8} (h : IsDrive w g d fp) (hok : d.Ok N) (hN : N < 1000000000) (hC : Caps w g pb nb name fp)
    (cd : w.cell? ⟨db, 0, none⟩ = some (.slice A data.length c)) (hdl : db < w.heap.size) (hdn : ¬ fp db) (hB : BytesAt w A data) (hl : name.length ≤ 1000000) {f : File} (hk : kget d.files name = some f) (hfit : d.used + data.length ≤ 16777216) :
    Calls Tryz.prog 162 #[.pointer (some ⟨pb, 0, none⟩), .pointer (some ⟨nb, 0, none⟩), .pointer (some ⟨db, 0, none⟩)] w fun e w' => e = .returned (.tuple #[]) ∧ Then w g { d with files := kset d.files name ⟨f.safe, f.pieces ++ [data]⟩ } fp w' := by
  have hu0 := used_nonneg d
  obtain ⟨mb, aft, rs, hb, ha, hf, hd⟩ := h.has
  cases hk2 : kget rs name with
  | none =>
    rw [hd, kget_map, hk2] at hk
    cases hk
  | some r =>
    have hfr : r.f = f := by rw [hd, kget_map, hk2] at hk; exact Option.some.inj hk
    subst hfr
    have hr : Rising rs := by
      have h1 := hok.rising
      rw [hd] at h1
      exact Rising.of_kmap h1
    have hF := hf.each _ (kget_some hk2)
    simp only at hF
    obtain ⟨vs, hpv⟩ := hF.pieces
    obtain ⟨pA, pc, hpf⟩ := row_form hpv.row
    have hrow := hpv.row
    rw [hpf] at hrow
    have hpl : r.f.pieces.length ≤ N := hok.few _ (kget_some hk)
    have e0 : (driveCells d mb aft)[0]? = some (.map (some mb)) := rfl
    have e2 : (driveCells d mb aft)[2]? = some (.int .i64 d.used) := rfl
    have F0 : Four w.drew g mb pb nb db r.blk name d.used A data.length c (.slice pA r.f.pieces.length pc) := by
      rw [← hpf]; exact four_of h hb hf hk2 hl hC cd hdl hdn (fun _ _ _ _ _ => rfl) hb e0 e2 hF.blk
    refine append_walk F0 (fun w' => Then w g { d with files := kset d.files name ⟨r.f.safe, r.f.pieces ++ [data]⟩ } fp w') ((bytes_Clone A data c w.drew (hB.below (Below.refl w.heap.size w).drew) (by omega)).mono ?_)
    rintro e w1 ⟨v1, rfl, hrow1, hb1⟩
    have b1 : Below w.heap.size w w1 := bt (Below.refl w.heap.size w).drew hb1
    have hs1 := b1.size
    have b1a : Below w.heap.size w (w1.alloc (.cells #[v1] 85)) := b1.alloc hs1 _
    obtain ⟨A1, c1, hv1⟩ := row_form hrow1
    have hlt : ∀ k, fp k → k < w.heap.size := h.lt
    have hpvl : ∀ k, r.pv.ownBlock = some k → k < w.heap.size := fun k hk => h.lt k (hpv.own k hk)
    have hownA : (w1.alloc (.cells #[v1] 85)).ownsRow 0 85 1 (.slice pA r.f.pieces.length pc) r.f.pieces.length vs := by
      rw [← hpf]; exact row_keep hpv.row fun k hk => b1a.block k (hpvl k hk)
    obtain ⟨i, hi, hz, hsz, hby⟩ := info_bytes
    obtain ⟨v2, w2, hrun, hown2, hgrow, hat⟩ := run_append_row (P := Tryz.prog) (w1.alloc (.cells #[v1] 85)) 0 176 176 85 i (.slice none 0 0) 1 24 (by kernel_rfl) hi hz hsz hby rfl (by decide) _ _ _ hownA (some ⟨w1.heap.size, 0, none⟩) 1 1 [v1] rfl (by simp)
      (fun ad hA j u hu => by
        injection hA with hA
        subst hA
        cases j with
        | zero =>
          simp at hu
          subst hu
          rw [add_plain']
          exact (Blk.new w1 85 #[v1]).cell 0
        | succ j => simp at hu)
      (fun u hu => by simp at hu; rw [hu, hv1]; rfl) (by unfold maxLen; omega) (by omega) (Nat.zero_le _)
    rw [← hpf] at hgrow hat
    obtain ⟨hT, hF2, hB2, hkk2⟩ := append_mem h hb ha hf hd hr hk2 hpv b1 hrow1 hown2 hgrow hat
    obtain ⟨A2, c2, hv2⟩ := row_form hown2
    have hw : IntKind.i64.wrap (d.used + data.length) = d.used + data.length := wrap_small (by omega) (by omega)
    have hgf : g ≠ r.blk := Blk.ne_ hb hF.blk (by decide)
    have F1 : Four w1 g mb pb nb db r.blk name d.used A data.length c r.pv := four_of h hb hf hk2 hl hC cd hdl hdn (fun k hk _ _ _ => b1.block k hk) (hb.below b1 hb.lt) e0 e2 (hF.blk.below b1 hF.blk.lt)
    have F1a : Four (w1.alloc (.cells #[v1] 85)) g mb pb nb db r.blk name d.used A data.length c r.pv := four_of h hb hf hk2 hl hC cd hdl hdn (fun k hk _ _ _ => b1a.block k hk) (hb.below b1a hb.lt) e0 e2 (hF.blk.below b1a hF.blk.lt)
    have F2 : Four w2 g mb pb nb db r.blk name d.used A data.length c r.pv := four_of h hb hf hk2 hl hC cd hdl hdn (fun k hk _ _ hp => hkk2 k hk hp) hB2 e0 e2 hF2
    have hF3 := hF2.set_ 1 v2
    have hB3 : Blk (w2.setCell ⟨r.blk, 1, none⟩ v2) g 78 (driveCells d mb aft) := (set_other _ _ _ _ g hgf).trans hB2
    have F3 : Four (w2.setCell ⟨r.blk, 1, none⟩ v2) g mb pb nb db r.blk name d.used A data.length c v2 := four_of h hb hf hk2 hl hC cd hdl hdn (fun k hk h1 h2 hp => (set_other _ _ _ _ k h2).trans (hkk2 k hk hp)) hB3 e0 e2 hF3
    have hB4 := (show Blk (w2.setCell ⟨r.blk, 1, none⟩ v2).drew g 78 (driveCells d mb aft) from hB3).set_ 2 (.int .i64 (d.used + data.length))
    have hF4 : Blk ((w2.setCell ⟨r.blk, 1, none⟩ v2).drew.setCell ⟨g, 2, none⟩ (.int .i64 (d.used + data.length))) r.blk 178 #[r.sv, v2] := (set_other _ _ _ _ r.blk (Ne.symm hgf)).trans hF3
    have F4 : Four ((w2.setCell ⟨r.blk, 1, none⟩ v2).drew.setCell ⟨g, 2, none⟩ (.int .i64 (d.used + data.length))) g mb pb nb db r.blk name (d.used + data.length) A data.length c v2 :=
      four_of h hb hf hk2 hl hC cd hdl hdn (fun k hk h1 h2 hp => (set_other _ _ _ _ k h1).trans ((set_other _ _ _ _ k h2).trans (hkk2 k hk hp))) hB4 rfl rfl hF4
    rw [hv2] at hrun F3 F4 hT
    rw [hv1] at hrun F1a
    rw [hpf] at F1 F1a F2
    refine ⟨A1, _, c1, by rw [hv1], F1, F1a, A2, _, c2, w2, hrun, F2, F3, ?_⟩
    rw [hw]
    exact ⟨F4, hT⟩
end Go.Proofs.YtiabfngiibabcaaGreatDoor

set_option linter.unusedVariables false
set_option linter.unusedSimpArgs false
set_option maxHeartbeats 1600000
set_option maxRecDepth 100000
attribute [local go_sem ↓] Go.wp_at_zero Go.wp_at_succ
namespace Go.Proofs.YtiabfngiibabcaaGreatDoor
open Go.RowKit

theorem BytesAt.touch {w w' : World} {A : Option Addr} {l : List UInt8} {fp fp' : Nat → Prop} (h : BytesAt w A l) (ht : Touch w w' fp fp') (hn : ∀ p, A = some p → ¬ fp p.block) : BytesAt w' A l := fun h0 => by
  obtain ⟨b, off, hA, hlt, hc⟩ := h h0
  exact ⟨b, off, hA, Nat.lt_of_lt_of_le hlt ht.size, fun i hi => (World.cell?_of_block (a := ⟨b, off + i, none⟩) (ht.block b hlt (hn _ hA))).trans (hc i hi)⟩

theorem Caps.drewM {w : World} {g pb nb : Nat} {name : Key} {fp : Nat → Prop} (h : Caps w g pb nb name fp) (n : Nat) : Caps (w.drewN n) g pb nb name fp := ⟨h.cp, h.cn, h.hp, h.hn, h.np, h.nn⟩

theorem drive_Append {w : World} {g : Nat} {d : Dr} {fp : Nat → Prop} {N : Nat} (h : IsDrive w g d fp) (hok : d.Ok N) (hN : N < 1000000000) (name : Key) (hl : name.length ≤ 1000000) (A : Option Addr) (data : List UInt8) (c : Nat) (hB : BytesAt w A data) (hn : ∀ p, A = some p → ¬ fp p.block) (hdl : data.length ≤ 1000000000) :
    Calls Tryz.prog 100 #[.pointer (some ⟨g, 0, none⟩), .string (S name), .slice A data.length c] w fun x w' => x = .returned (.int .i64 (d.append name data).2) ∧ Then w g (d.append name data).1 fp w' := by
  have hlt := h.lt
  generalize hW : (((w.alloc (.cells #[.pointer (some ⟨g, 0, none⟩)] 23)).alloc (.cells #[.string (S name)] 9)).alloc (.cells #[.slice A data.length c] 85)) = W
  have b0 : Below w.heap.size w W := by rw [← hW]; exact (((Below.refl _ _).alloc (Nat.le_refl _) _).alloc (by simp) _).alloc (by simp; omega) _
  have hC : Caps W g w.heap.size (w.heap.size + 1) name fp := by
    rw [← hW]
    exact ⟨by simp [World.cell?_alloc_past, go_sem], by simp [World.cell?_alloc_past, go_sem], by simp; omega, by simp, fun hk => by have := hlt _ hk; omega, fun hk => by have := hlt _ hk; omega⟩
  have hdc : W.cell? ⟨w.heap.size + 1 + 1, 0, none⟩ = some (.slice A data.length c) := by
    rw [← hW]
    simp [World.cell?_alloc_past, go_sem]
  have hdlt : w.heap.size + 1 + 1 < W.heap.size := by rw [← hW]; simp
  have hdn : ¬ fp (w.heap.size + 1 + 1) := fun hk => by have := hlt _ hk; omega
  have hD : ∀ (W : World) (hW : Below w.heap.size w W) (hC : Caps W g w.heap.size (w.heap.size + 1) name fp) (hdc : W.cell? ⟨w.heap.size + 1 + 1, 0, none⟩ = some (.slice A data.length c)) (hdlt : w.heap.size + 1 + 1 < W.heap.size) (e : Int) (hE : d.appendE name data.length = e),
      Calls Tryz.prog 142 #[.pointer (some ⟨g, 0, none⟩), .int .i64 e, .func (.func 162) #[] #[.pointer (some ⟨w.heap.size, 0, none⟩), .pointer (some ⟨w.heap.size + 1, 0, none⟩), .pointer (some ⟨w.heap.size + 1 + 1, 0, none⟩)]] W fun x w' => x = .returned (.int .i64 (d.append name data).2) ∧ Then w g (d.append name data).1 fp w' := by
    intro W hW hC hdc hdlt e hE
    unfold Dr.append
    rw [hE]
    refine (deed_with (h.below hW) hok e 162 #[.pointer (some ⟨w.heap.size, 0, none⟩), .pointer (some ⟨w.heap.size + 1, 0, none⟩), .pointer (some ⟨w.heap.size + 1 + 1, 0, none⟩)]
      (fun W => Go.MuLone.run_callFunc_enter Tryz.func162 (by kernel_rfl) rfl _ W) (fun d => { d with files := kset d.files name ⟨(fileOf d name).safe, (fileOf d name).pieces ++ [data]⟩ })
      (fun h0 d1 w1 e1 e2 ok1 h1 h2 => ?_)).mono ?_
    · rw [h0] at hE
      have hth : d.thereE name = 0 ∧ ¬ d.quota - d.used < data.length := by
        unfold Dr.appendE at hE
        split at hE
        · cases hE
        · rename_i hx
          exact ⟨hE, fun hy => hx ⟨hE, hy⟩⟩
      cases hk : kget d.files name with
      | none =>
        have := hth.1
        simp [Dr.thereE, hk] at this
      | some f =>
        have hk1 : kget d1.files name = some f := by rw [e1]; exact hk
        have hfo : fileOf d1 name = f := by simp [fileOf, hk1]
        simp only [hfo]
        have hu1 : d1.used = d.used := by rw [Dr.used, Dr.used, e1]
        have hq := hok.q1
        exact append_closure h1 ok1 hN (hC.touch h2) ((World.cell?_of_block (a := ⟨w.heap.size + 1 + 1, 0, none⟩) (h2.block _ hdlt hdn)).trans hdc) (Nat.lt_of_lt_of_le hdlt h2.size) hdn ((hB.below hW).touch h2 hn) hl hk1 (by rw [hu1]; omega)
    · rintro x w2 ⟨hx, ht⟩
      exact ⟨hx, ht.of_below hW hlt⟩
  have h0 := h.below b0
  have T := hid (drive_there h0 name hl)
  have hcp := hC.cp
  have hcn := hC.cn
  obtain ⟨mb, aft, rs, hb, ha, hf, hd⟩ := h0.has
  have c1 := hb.cell 1
  have c2 := hb.cell 2
  simp [driveCells] at c1 c2
  have hq0 := hok.q0
  have hq1 := hok.q1
  have hu0 := used_nonneg d
  have hu1 := hok.used
  have hw : IntKind.i64.wrap (d.quota - d.used) = d.quota - d.used := wrap_small (by omega) (by omega)
  have hCd : Caps W.drew g w.heap.size (w.heap.size + 1) name fp := hC.drewN
  by_cases he : d.thereE name = 0
  · rw [he] at T
    by_cases hx : d.quota - d.used < data.length
    · have D := hid (hD W.drew b0.drew hCd hdc hdlt 12 (by unfold Dr.appendE; rw [if_pos ⟨he, hx⟩]))
      clear hD hCd hq0 hq1 hu0 hu1 hd hf ha hb h0 hdn hdlt hC b0 hlt h hok hB hn he
      generalize d.quota = q at *
      generalize d.used = us at *
      go_enter Tryz.func100, Tryz.ntmps100
      go_wp2_with fail
      refine T.out.mono ?_
      rintro x w1 ⟨rfl, rfl⟩
      go_wp2
      go_region_held3 (fun w' => w'.cell? ⟨w.heap.size, 0, none⟩ = some (.pointer (some ⟨g, 0, none⟩)) ∧ w'.cell? ⟨w.heap.size + 1 + 1, 0, none⟩ = some (.slice A data.length c) ∧ w'.cell? ⟨g, 1, none⟩ = some (.int .i64 q) ∧ w'.cell? ⟨g, 2, none⟩ = some (.int .i64 us)) (simp [*, go_sem, World.cell?_alloc_past])
        (first | fail)
      all_goals go_wp2_with fail
      all_goals (refine D.out.mono ?_; rintro x w2 ⟨rfl, ht⟩; go_wp2; go_ret; exact ⟨rfl, ht⟩)
    · have D := hid (hD W.drew b0.drew hCd hdc hdlt 0 (by unfold Dr.appendE; rw [if_neg (fun hy => hx hy.2), he]))
      have hx2 : (data.length : Int) ≤ d.quota - d.used := by omega
      clear hx
      clear hD hCd hq0 hq1 hu0 hu1 hd hf ha hb h0 hdn hdlt hC b0 hlt h hok hB hn he
      generalize d.quota = q at *
      generalize d.used = us at *
      go_enter Tryz.func100, Tryz.ntmps100
      go_wp2_with fail
      refine T.out.mono ?_
      rintro x w1 ⟨rfl, rfl⟩
      go_wp2
      go_region_held3 (fun w' => w'.cell? ⟨w.heap.size, 0, none⟩ = some (.pointer (some ⟨g, 0, none⟩)) ∧ w'.cell? ⟨w.heap.size + 1 + 1, 0, none⟩ = some (.slice A data.length c) ∧ w'.cell? ⟨g, 1, none⟩ = some (.int .i64 q) ∧ w'.cell? ⟨g, 2, none⟩ = some (.int .i64 us)) (simp [*, go_sem, World.cell?_alloc_past])
        (first | fail)
      all_goals go_wp2_with fail
      all_goals (refine D.out.mono ?_; rintro x w2 ⟨rfl, ht⟩; go_wp2; go_ret; exact ⟨rfl, ht⟩)
  · have D := hid (fun nq => hD (W.drewN nq) (below_drewN b0 nq) (hC.drewM nq) hdc hdlt (d.thereE name) (by unfold Dr.appendE; rw [if_neg (fun hy => he hy.1)]))
    have he3 : d.thereE name = 10 := by
      unfold Dr.thereE at he ⊢
      by_cases hs : (kget d.files name).isSome = true
      · rw [if_pos hs] at he
        exact absurd rfl he
      · rw [if_neg hs]
    rw [he3] at D T
    clear he3
    clear hD hCd hq0 hq1 hu0 hu1 hd hf ha hb h0 hdn hdlt hC b0 hlt h hok hB hn he
    generalize d.quota = q at *
    generalize d.used = us at *
    go_enter Tryz.func100, Tryz.ntmps100
    go_wp2_with fail
    refine T.out.mono ?_
    rintro x w1 ⟨rfl, rfl⟩
    go_wp2
    go_quiet (fail)
    all_goals go_wp2_with fail
    all_goals (refine (D.out _).mono ?_; rintro x w2 ⟨rfl, ht⟩; go_wp2; go_ret; exact ⟨rfl, ht⟩)
end Go.Proofs.YtiabfngiibabcaaGreatDoor

set_option linter.unusedVariables false
set_option linter.unusedSimpArgs false
set_option maxHeartbeats 3200000
set_option maxRecDepth 100000
attribute [local go_sem ↓] Go.wp_at_zero Go.wp_at_succ
namespace Go.Proofs.YtiabfngiibabcaaGreatDoor
open Go.RowKit

/-- The cells that the closure of Rename reads. -/
structure Ren (w : World) (g mb pb ab bb : Nat) (a b : Key) (u : Int) : Prop where
  c0 : w.cell? ⟨pb, 0, none⟩ = some (.pointer (some ⟨g, 0, none⟩))
  c1 : w.cell? ⟨ab, 0, none⟩ = some (.string (S a))
  c2 : w.cell? ⟨bb, 0, none⟩ = some (.string (S b))
  c3 : w.cell? ⟨g, 0, none⟩ = some (.map (some mb))
  c4 : w.cell? ⟨g, 2, none⟩ = some (.int .i64 u)
  f2 : w.frozen? ⟨g, 2, none⟩ = false

end Go.Proofs.YtiabfngiibabcaaGreatDoor

set_option linter.unusedVariables false
set_option linter.unusedSimpArgs false
set_option maxHeartbeats 1600000
set_option maxRecDepth 100000
namespace Go.Proofs.YtiabfngiibabcaaGreatDoor
open Go.RowKit

theorem ren_of {w W : World} {g mb pb ab bb : Nat} {d : Dr} {fp : Nat → Prop} {a b : Key} {cs : Array Value} {u : Int} (h : IsDrive w g d fp) (hmb : fp mb) (hC : Caps w g pb ab a fp) (cb : w.cell? ⟨bb, 0, none⟩ = some (.string (S b))) (hbl : bb < w.heap.size) (hbn : ¬ fp bb)
    (hkk : ∀ k, k < w.heap.size → k ≠ mb → k ≠ g → W.heap[k]? = w.heap[k]?) (hBg : Blk W g 78 cs) (h0 : cs[0]? = some (.map (some mb))) (h2 : cs[2]? = some (.int .i64 u)) : Ren W g mb pb ab bb a b u := by
  have hkeep : ∀ (k : Nat) x, k < w.heap.size → ¬ fp k → w.cell? ⟨k, 0, none⟩ = some x → W.cell? ⟨k, 0, none⟩ = some x := fun k x hk hn hc =>
    (World.cell?_of_block (a := ⟨k, 0, none⟩) (hkk k hk (by rintro rfl; exact hn hmb) (by rintro rfl; exact hn h.own))).trans hc
  exact ⟨hkeep _ _ hC.hp hC.np hC.cp, hkeep _ _ hC.hn hC.nn hC.cn, hkeep _ _ hbl hbn cb, (hBg.cell 0).trans h0, (hBg.cell 2).trans h2, hBg.frozen 2⟩

def lenOf : Option File → Int
  | some o => o.all.length
  | none => 0
theorem used_rename {d : Dr} {a b : Key} {f : File} (hr : Rising d.files) (hk : kget d.files a = some f) (o : Option File) (ho : kget (kdel d.files a) b = o) :
    ({ d with files := kput (kdel d.files a) b f } : Dr).used = d.used - lenOf o := by
  have h1 : d.used = ((ksum (fun f : File => f.all.length) d.files : Nat) : Int) := d.used_eq
  have h2 : ({ d with files := kput (kdel d.files a) b f } : Dr).used = ((ksum (fun f : File => f.all.length) (kput (kdel d.files a) b f) : Nat) : Int) := Dr.used_eq _
  rw [h1, h2, ksum_del _ hr hk, ksum_put]
  cases o with
  | none =>
    rw [kdel_none ho]
    simp [lenOf]
  | some o =>
    rw [ksum_del _ (hr.del a) ho]
    simp only [lenOf]
    omega

end Go.Proofs.YtiabfngiibabcaaGreatDoor

set_option linter.unusedVariables false
set_option linter.unusedSimpArgs false
set_option maxHeartbeats 1600000
set_option maxRecDepth 100000
attribute [local go_sem ↓] Go.wp_at_zero Go.wp_at_succ
namespace Go.Proofs.YtiabfngiibabcaaGreatDoor
open Go.RowKit

end Go.Proofs.YtiabfngiibabcaaGreatDoor

set_option linter.unusedVariables false
set_option linter.unusedSimpArgs false
namespace Go.Proofs.YtiabfngiibabcaaGreatDoor
open Go.RowKit

theorem ksum_one {α : Type} (m : List (Key × α)) : ksum (fun _ => 1) m = m.length := by
  unfold ksum
  induction m with
  | nil => rfl
  | cons y r ih => simp at ih ⊢; omega
theorem length_del {α : Type} {m : List (Key × α)} (h : Rising m) {k : Key} {v : α} (hg : kget m k = some v) : m.length = 1 + (kdel m k).length := by
  have := ksum_del (fun _ => 1) h hg
  rwa [ksum_one, ksum_one] at this
theorem length_kdel_le {α : Type} (m : List (Key × α)) (k : Key) : (kdel m k).length ≤ m.length := List.length_filter_le _ _

theorem Dr.Ok.more {N M : Nat} {d : Dr} (h : d.Ok N) (hM : N ≤ M) : d.Ok M := ⟨h.q0, h.q1, h.used, h.files, h.keys, h.rising, fun p hp => Nat.le_trans (h.few p hp) hM, h.left⟩
theorem Dr.Ok.deed {N M : Nat} {d : Dr} {e : Int} {f : Dr → Dr} (h : d.Ok N) (hM : N ≤ M) (hf : e = 0 → ∀ d1, d1.files = d.files → d1.quota = d.quota → d1.Ok N → (f d1).Ok M) : (d.deed e f).1.Ok M := by
  unfold Dr.deed
  split
  · rename_i h0
    refine hf ?_ (d.may e).1 (may_files d e).1 (may_files d e).2 (h.may e)
    by_cases he : e = 0
    · exact he
    · exfalso
      unfold Dr.may at h0
      split at h0
      · simp at h0
      · simp only [if_pos he] at h0
        exact he h0
  · exact (h.may e).more hM
theorem Dr.Ok.arm {N : Nat} {d : Dr} (h : d.Ok N) (n : Int) (hn : n ≤ 9223372036854775807) : (d.arm n).Ok N := by
  refine ⟨h.q0, h.q1, h.used, h.files, h.keys, h.rising, h.few, ?_⟩
  unfold Dr.arm
  dsimp only
  split <;> omega
theorem Dr.Ok.setQuota {N : Nat} {d : Dr} (h : d.Ok N) (n : Int) : (d.setQuota n).Ok N := by
  unfold Dr.setQuota
  split
  · rename_i h0
    have hq : quotableB n = true := by
      unfold Dr.quotaE at h0
      split at h0
      · cases h0
      · split at h0
        · assumption
        · cases h0
    unfold quotableB at hq
    rw [Bool.and_eq_true, decide_eq_true_eq, decide_eq_true_eq] at hq
    exact ⟨hq.1, hq.2, h.used, h.files, h.keys, h.rising, h.few, h.left⟩
  · exact h
theorem Dr.Ok.new (q : Int) (hq : quotableB q = true) : (Dr.new q).Ok 0 := by
  unfold quotableB at hq
  rw [Bool.and_eq_true, decide_eq_true_eq, decide_eq_true_eq] at hq
  exact ⟨hq.1, hq.2, by simp [Dr.new, Dr.used], by simp [Dr.new], by simp [Dr.new], by simp [Dr.new], by simp [Dr.new], by simp [Dr.new]⟩

theorem there_some {d : Dr} {name : Key} (h : d.thereE name = 0) : ∃ f, kget d.files name = some f := by
  cases hk : kget d.files name with
  | none => simp [Dr.thereE, hk] at h
  | some f => exact ⟨f, rfl⟩
theorem Dr.Ok.create {N : Nat} {d : Dr} (h : d.Ok N) (name : Key) : (d.create name).1.Ok N := by
  refine h.deed (Nat.le_refl _) fun he d1 e1 e2 h1 => ?_
  have hc : namedB name = true ∧ kget d.files name = none ∧ d.files.length < 65536 := by
    unfold Dr.createE at he
    split at he
    · cases he
    · split at he
      · cases he
      · split at he
        · cases he
        · rename_i a b c
          refine ⟨by simpa using a, by simpa using b, by omega⟩
  rw [← e1] at hc
  have hu : ({ d1 with files := kput d1.files name ⟨[], []⟩ } : Dr).used = d1.used := used_kput_new hc.2.1
  refine ⟨h1.q0, h1.q1, by rw [hu]; exact h1.used, ?_, fun p hp => ?_, Rising.put h1.rising _ _, fun p hp => ?_, h1.left⟩
  · have := length_kput_le name (File.mk [] []) d1.files
    show (kput _ _ _).length ≤ _
    omega
  · rcases mem_kput.1 hp with rfl | ⟨hp, _⟩
    · exact hc.1
    · exact h1.keys p hp
  · rcases mem_kput.1 hp with rfl | ⟨hp, _⟩
    · simp
    · exact h1.few p hp
theorem Dr.Ok.append {N : Nat} {d : Dr} (h : d.Ok N) (name : Key) (data : List UInt8) : (d.append name data).1.Ok (N + 1) := by
  refine h.deed (by omega) fun he d1 e1 e2 h1 => ?_
  have hc : d.thereE name = 0 ∧ ¬ d.quota - d.used < data.length := by
    unfold Dr.appendE at he
    split at he
    · cases he
    · rename_i hx
      exact ⟨he, fun hy => hx ⟨he, hy⟩⟩
  obtain ⟨f, hk⟩ := there_some hc.1
  rw [← e1] at hk
  have hfo : fileOf d1 name = f := by simp [fileOf, hk]
  have hu : ({ d1 with files := kset d1.files name ⟨f.safe, f.pieces ++ [data]⟩ } : Dr).used = d1.used + data.length := used_append h1.rising hk data
  have hu1 : d1.used = d.used := by rw [Dr.used, Dr.used, e1]
  have hq := h.q1
  show ({ d1 with files := kset d1.files name ⟨(fileOf d1 name).safe, (fileOf d1 name).pieces ++ [data]⟩ } : Dr).Ok (N + 1)
  rw [hfo]
  have hmem := kget_some hk
  refine ⟨h1.q0, h1.q1, by rw [hu, hu1]; omega, ?_, fun p hp => ?_, Rising.set h1.rising _ _, fun p hp => ?_, h1.left⟩
  · show (kset _ _ _).length ≤ _
    rw [length_kset]; exact h1.files
  · rcases mem_kset.1 hp with ⟨q, hq, hqk, rfl⟩ | ⟨hp, _⟩
    · have := h1.keys q hq
      rw [hqk] at this
      exact this
    · exact h1.keys p hp
  · rcases mem_kset.1 hp with ⟨q, hq, hqk, rfl⟩ | ⟨hp, _⟩
    · have := h1.few _ hmem
      simp at this ⊢
      exact this
    · exact Nat.le_trans (h1.few p hp) (by omega)
theorem Dr.Ok.sync {N : Nat} {d : Dr} (h : d.Ok N) (name : Key) : (d.sync name).1.Ok N := by
  refine h.deed (Nat.le_refl _) fun he d1 e1 e2 h1 => ?_
  obtain ⟨f, hk⟩ := there_some he
  rw [← e1] at hk
  have hfo : fileOf d1 name = f := by simp [fileOf, hk]
  show ({ d1 with files := kput d1.files name ⟨(fileOf d1 name).all, []⟩ } : Dr).Ok N
  rw [hfo]
  have hu : ({ d1 with files := kput d1.files name ⟨f.all, []⟩ } : Dr).used = d1.used := used_sync h1.rising hk
  have hmem := kget_some hk
  refine ⟨h1.q0, h1.q1, by rw [hu]; exact h1.used, ?_, fun p hp => ?_, Rising.put h1.rising _ _, fun p hp => ?_, h1.left⟩
  · show (kput _ _ _).length ≤ _
    have := length_del h1.rising hk
    rw [kput, length_kins]
    have := h1.files
    omega
  · rcases mem_kput.1 hp with rfl | ⟨hp, _⟩
    · exact (h1.keys _ hmem :)
    · exact h1.keys p hp
  · rcases mem_kput.1 hp with rfl | ⟨hp, _⟩
    · simp
    · exact h1.few p hp
theorem Dr.Ok.remove {N : Nat} {d : Dr} (h : d.Ok N) (name : Key) : (d.remove name).1.Ok N := by
  refine h.deed (Nat.le_refl _) fun he d1 e1 e2 h1 => ?_
  obtain ⟨f, hk⟩ := there_some he
  rw [← e1] at hk
  have hu : ({ d1 with files := kdel d1.files name } : Dr).used = d1.used - f.all.length := used_del h1.rising hk
  refine ⟨h1.q0, h1.q1, by rw [hu]; have := h1.used; omega, ?_, fun p hp => h1.keys p (mem_kdel.1 hp).1, Rising.del h1.rising _, fun p hp => h1.few p (mem_kdel.1 hp).1, h1.left⟩
  show (kdel _ _).length ≤ _
  exact Nat.le_trans (length_kdel_le _ _) h1.files
theorem Dr.Ok.rename {N : Nat} {d : Dr} (h : d.Ok N) (a b : Key) : (d.rename a b).1.Ok N := by
  refine h.deed (Nat.le_refl _) fun he d1 e1 e2 h1 => ?_
  have hc : d.thereE a = 0 ∧ namedB b = true := by
    unfold Dr.renameE at he
    split at he
    · cases he
    · rename_i hx
      refine ⟨he, ?_⟩
      cases hb : namedB b with
      | true => rfl
      | false => exact absurd ⟨he, by rw [hb]; rfl⟩ hx
  obtain ⟨f, hk⟩ := there_some hc.1
  rw [← e1] at hk
  have hfo : fileOf d1 a = f := by simp [fileOf, hk]
  show ({ d1 with files := kput (kdel d1.files a) b (fileOf d1 a) } : Dr).Ok N
  rw [hfo]
  have hu : ({ d1 with files := kput (kdel d1.files a) b f } : Dr).used = d1.used - lenOf (kget (kdel d1.files a) b) := used_rename h1.rising hk _ rfl
  have hl0 : 0 ≤ lenOf (kget (kdel d1.files a) b) := by
    cases kget (kdel d1.files a) b <;> simp [lenOf]
  have hmem := kget_some hk
  refine ⟨h1.q0, h1.q1, by rw [hu]; have := h1.used; omega, ?_, fun p hp => ?_, Rising.put (Rising.del h1.rising _) _ _, fun p hp => ?_, h1.left⟩
  · show (kput _ _ _).length ≤ _
    have h2 := length_del h1.rising hk
    have h3 := length_kput_le b f (kdel d1.files a)
    have := h1.files
    omega
  · rcases mem_kput.1 hp with rfl | ⟨hp, _⟩
    · exact hc.2
    · exact h1.keys p (mem_kdel.1 hp).1
  · rcases mem_kput.1 hp with rfl | ⟨hp, _⟩
    · exact (h1.few _ hmem :)
    · exact h1.few p (mem_kdel.1 hp).1
end Go.Proofs.YtiabfngiibabcaaGreatDoor
