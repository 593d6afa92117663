/- Walks of package drive: Append, whole. -/
import Derived.Test.YtioillenlgpcgaaDrive10
import Derived.Test.YtioillenlgpcgaaDrive11
set_option linter.unusedVariables false
set_option linter.unusedSimpArgs false
set_option maxHeartbeats 1600000
set_option maxRecDepth 100000
attribute [local go_sem ↓] Go.wp_at_zero Go.wp_at_succ
namespace Go.Proofs.Ytioillenlgpcgaa
open Go.RowKit

theorem four_of {w W : World} {g mb pb nb db : Nat} {d : Dr} {fp : Nat → Prop} {aft : Int} {rs : List (Key × FileR)} {name : Key} {r : FileR} {A : Option Addr} {n c : Nat} {cs : Array Value} {u : Int} {v : Value} (h : IsDrive w g d fp) (hb : Blk w g 60 (driveCells d mb aft))
    (hf : HasFiles w fp mb rs) (hk2 : kget rs name = some r) (hl : name.length ≤ 1000000) (hC : Caps w g pb nb name fp) (cd : w.cell? ⟨db, 0, none⟩ = some (.slice A n c)) (hdl : db < w.heap.size) (hdn : ¬ fp db)
    (hkk : ∀ k, k < w.heap.size → k ≠ g → k ≠ r.blk → r.pv.ownBlock ≠ some k → W.heap[k]? = w.heap[k]?) (hBg : Blk W g 60 cs) (h0 : cs[0]? = some (.map (some mb))) (h2 : cs[2]? = some (.int .i64 u)) (hBf : Blk W r.blk 68 #[r.sv, v]) :
    Four W g mb pb nb db r.blk name u A n c v := by
  have hF := hf.each _ (kget_some hk2)
  simp only at hF
  obtain ⟨vs, hpv⟩ := hF.pieces
  obtain ⟨es0, cl0, hmb⟩ := hf.map.isMap
  have hb' : w.heap[g]? = some (.cells (driveCells d mb aft) 60 (0, 0)) := hb
  have hfb' : w.heap[r.blk]? = some (.cells #[r.sv, r.pv] 68 (0, 0)) := hF.blk
  have hkeep : ∀ (k : Nat) x, k < w.heap.size → ¬ fp k → w.cell? ⟨k, 0, none⟩ = some x → W.cell? ⟨k, 0, none⟩ = some x := fun k x hk hn hc =>
    (World.cell?_of_block (a := ⟨k, 0, none⟩) (hkk k hk (by rintro rfl; exact hn h.own) (by rintro rfl; exact hn hF.own) (fun e => hn (hpv.own k e)))).trans hc
  have hmm : W.heap[mb]? = w.heap[mb]? := hkk mb (h.lt mb hf.own) (by rintro rfl; rw [hmb] at hb'; cases hb') (by rintro e; rw [← e, hmb] at hfb'; cases hfb') (fun e => by
    obtain ⟨cs', hc⟩ := row_heap hpv.row e
    rw [hmb] at hc; cases hc)
  have hm1 : OwnM Try.prog 9 W mb (kmap FileR.blk rs) := hf.map.kept hmm
  have hz : (zeroValue 64).run Try.prog W = .ok (.pointer none) W := by kernel_rfl
  have L := hm1.look (t := 58) (e := 64) (by kernel_rfl) (by kernel_rfl) hz name hl
  rw [kget_map, hk2] at L
  exact ⟨hkeep _ _ hC.hp hC.np hC.cp, hkeep _ _ hC.hn hC.nn hC.cn, hkeep _ _ hdl hdn cd, (hBg.cell 0).trans h0, (hBg.cell 2).trans h2, hBf.cell 1, hBg.frozen 2, hBf.frozen 1, L⟩

theorem append_closure {w : World} {g pb nb db : Nat} {d : Dr} {fp : Nat → Prop} {name : Key} {N : Nat} {A : Option Addr} {c : Nat} {data : List UInt8} (h : IsDrive w g d fp) (hok : d.Ok N) (hN : N < 1000000000) (hC : Caps w g pb nb name fp)
    (cd : w.cell? ⟨db, 0, none⟩ = some (.slice A data.length c)) (hdl : db < w.heap.size) (hdn : ¬ fp db) (hB : BytesAt w A data) (hl : name.length ≤ 1000000) {f : File} (hk : kget d.files name = some f) (hfit : d.used + data.length ≤ 16777216) :
    Calls Try.prog 32 #[.pointer (some ⟨pb, 0, none⟩), .pointer (some ⟨nb, 0, none⟩), .pointer (some ⟨db, 0, none⟩)] w fun e w' => e = .returned (.tuple #[]) ∧ Then w g { d with files := kset d.files name ⟨f.safe, f.pieces ++ [data]⟩ } fp w' := by
  have hu0 := used_nonneg d
  obtain ⟨mb, aft, rs, hb, ha, hf, hd⟩ := h.has
  cases hk2 : kget rs name with
  | none =>
    rw [hd, kget_map, hk2] at hk
    cases hk
  | some r =>
    have hfr : r.f = f := by rw [hd, kget_map, hk2] at hk; exact Option.some.inj hk
    subst hfr
    have hr : Rising rs := by
      have h1 := hok.rising
      rw [hd] at h1
      exact Rising.of_kmap h1
    have hF := hf.each _ (kget_some hk2)
    simp only at hF
    obtain ⟨vs, hpv⟩ := hF.pieces
    obtain ⟨pA, pc, hpf⟩ := row_form hpv.row
    have hrow := hpv.row
    rw [hpf] at hrow
    have hpl : r.f.pieces.length ≤ N := hok.few _ (kget_some hk)
    have e0 : (driveCells d mb aft)[0]? = some (.map (some mb)) := rfl
    have e2 : (driveCells d mb aft)[2]? = some (.int .i64 d.used) := rfl
    have F0 : Four w.drew g mb pb nb db r.blk name d.used A data.length c (.slice pA r.f.pieces.length pc) := by
      rw [← hpf]; exact four_of h hb hf hk2 hl hC cd hdl hdn (fun _ _ _ _ _ => rfl) hb e0 e2 hF.blk
    refine append_walk F0 (fun w' => Then w g { d with files := kset d.files name ⟨r.f.safe, r.f.pieces ++ [data]⟩ } fp w') ((bytes_Clone A data c w.drew (hB.below (Below.refl w.heap.size w).drew) (by omega)).mono ?_)
    rintro e w1 ⟨v1, rfl, hrow1, hb1⟩
    have b1 : Below w.heap.size w w1 := bt (Below.refl w.heap.size w).drew hb1
    have hs1 := b1.size
    have b1a : Below w.heap.size w (w1.alloc (.cells #[v1] 33)) := b1.alloc hs1 _
    obtain ⟨A1, c1, hv1⟩ := row_form hrow1
    have hlt : ∀ k, fp k → k < w.heap.size := h.lt
    have hpvl : ∀ k, r.pv.ownBlock = some k → k < w.heap.size := fun k hk => h.lt k (hpv.own k hk)
    have hownA : (w1.alloc (.cells #[v1] 33)).ownsRow 0 33 1 (.slice pA r.f.pieces.length pc) r.f.pieces.length vs := by
      rw [← hpf]; exact row_keep hpv.row fun k hk => b1a.block k (hpvl k hk)
    obtain ⟨i, hi, hz, hsz, hby⟩ := info_bytes
    obtain ⟨v2, w2, hrun, hown2, hgrow, hat⟩ := run_append_row (P := Try.prog) (w1.alloc (.cells #[v1] 33)) 0 66 66 33 i (.slice none 0 0) 1 24 (by kernel_rfl) hi hz hsz hby rfl (by decide) _ _ _ hownA (some ⟨w1.heap.size, 0, none⟩) 1 1 [v1] rfl (by simp)
      (fun ad hA j u hu => by
        injection hA with hA
        subst hA
        cases j with
        | zero =>
          simp at hu
          subst hu
          rw [add_plain']
          exact (Blk.new w1 33 #[v1]).cell 0
        | succ j => simp at hu)
      (fun u hu => by simp at hu; rw [hu, hv1]; rfl) (by unfold maxLen; omega) (by omega) (Nat.zero_le _)
    rw [← hpf] at hgrow hat
    obtain ⟨hT, hF2, hB2, hkk2⟩ := append_mem h hb ha hf hd hr hk2 hpv b1 hrow1 hown2 hgrow hat
    obtain ⟨A2, c2, hv2⟩ := row_form hown2
    have hw : IntKind.i64.wrap (d.used + data.length) = d.used + data.length := wrap_small (by omega) (by omega)
    have hgf : g ≠ r.blk := Blk.ne_ hb hF.blk (by decide)
    have F1 : Four w1 g mb pb nb db r.blk name d.used A data.length c r.pv := four_of h hb hf hk2 hl hC cd hdl hdn (fun k hk _ _ _ => b1.block k hk) (hb.below b1 hb.lt) e0 e2 (hF.blk.below b1 hF.blk.lt)
    have F1a : Four (w1.alloc (.cells #[v1] 33)) g mb pb nb db r.blk name d.used A data.length c r.pv := four_of h hb hf hk2 hl hC cd hdl hdn (fun k hk _ _ _ => b1a.block k hk) (hb.below b1a hb.lt) e0 e2 (hF.blk.below b1a hF.blk.lt)
    have F2 : Four w2 g mb pb nb db r.blk name d.used A data.length c r.pv := four_of h hb hf hk2 hl hC cd hdl hdn (fun k hk _ _ hp => hkk2 k hk hp) hB2 e0 e2 hF2
    have hF3 := hF2.set_ 1 v2
    have hB3 : Blk (w2.setCell ⟨r.blk, 1, none⟩ v2) g 60 (driveCells d mb aft) := (set_other _ _ _ _ g hgf).trans hB2
    have F3 : Four (w2.setCell ⟨r.blk, 1, none⟩ v2) g mb pb nb db r.blk name d.used A data.length c v2 := four_of h hb hf hk2 hl hC cd hdl hdn (fun k hk h1 h2 hp => (set_other _ _ _ _ k h2).trans (hkk2 k hk hp)) hB3 e0 e2 hF3
    have hB4 := (show Blk (w2.setCell ⟨r.blk, 1, none⟩ v2).drew g 60 (driveCells d mb aft) from hB3).set_ 2 (.int .i64 (d.used + data.length))
    have hF4 : Blk ((w2.setCell ⟨r.blk, 1, none⟩ v2).drew.setCell ⟨g, 2, none⟩ (.int .i64 (d.used + data.length))) r.blk 68 #[r.sv, v2] := (set_other _ _ _ _ r.blk (Ne.symm hgf)).trans hF3
    have F4 : Four ((w2.setCell ⟨r.blk, 1, none⟩ v2).drew.setCell ⟨g, 2, none⟩ (.int .i64 (d.used + data.length))) g mb pb nb db r.blk name (d.used + data.length) A data.length c v2 :=
      four_of h hb hf hk2 hl hC cd hdl hdn (fun k hk h1 h2 hp => (set_other _ _ _ _ k h1).trans ((set_other _ _ _ _ k h2).trans (hkk2 k hk hp))) hB4 rfl rfl hF4
    rw [hv2] at hrun F3 F4 hT
    rw [hv1] at hrun F1a
    rw [hpf] at F1 F1a F2
    refine ⟨A1, _, c1, by rw [hv1], F1, F1a, A2, _, c2, w2, hrun, F2, F3, ?_⟩
    rw [hw]
    exact ⟨F4, hT⟩
end Go.Proofs.Ytioillenlgpcgaa
