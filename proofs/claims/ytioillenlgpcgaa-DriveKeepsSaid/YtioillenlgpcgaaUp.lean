/- Walk of (*drive.Drive).Up. -/
import Derived.Test.YtioillenlgpcgaaUpMem
import Derived.Test.YtioillenlgpcgaaNames
import Derived.Test.YtioillenlgpcgaaKept
import Derived.Test.YtioillenlgpcgaaLawK
import Derived.Test.YtioillenlgpcgaaDrive13
import Derived.Deep.RegionHeld3
import Derived.Deep.DrawnRows
set_option linter.unusedVariables false
set_option linter.unusedSimpArgs false
set_option maxHeartbeats 3200000
set_option maxRecDepth 100000
attribute [local go_sem ↓] Go.wp_at_zero Go.wp_at_succ
namespace Go.Proofs.Ytioillenlgpcgaa
open Go.RowKit Go.WideMaps Go.ChangeMaps Go.WideAt Go.WideShapes

theorem w64_small {n : Int} (h0 : -9223372036854775808 ≤ n) (h1 : n ≤ 9223372036854775807) : wrap64 n = n := by
  unfold wrap64
  omega

theorem IntsAt.touch {w w' : World} {A : Option Addr} {l : List Int} {fp fp' : Nat → Prop} (h : IntsAt w A l) (ht : Touch w w' fp fp') (hn : 0 < l.length → ∀ p, A = some p → ¬ fp p.block) : IntsAt w' A l := fun h0 => by
  obtain ⟨b, off, rfl, hb, hc⟩ := h h0
  exact ⟨b, off, rfl, Nat.lt_of_lt_of_le hb ht.size, fun i hi => (World.cell?_of_block (a := ⟨b, off + i, none⟩) (ht.block b hb (hn h0 _ rfl))).trans (hc i hi)⟩

/-- Up's drive: its files are what they will be, up to the k-th. -/
def upD (d : Dr) (fs : List (Key × File)) : Dr := { d with down := false, left := -1, files := fs }
structure UpSt (w : World) (g : Nat) (d : Dr) (fp : Nat → Prop) (keep : List Int) (N B b : Nat) (k ii : Nat) (wr : World) (done rest : List (Key × File)) (fpk : Nat → Prop) : Prop where
  len : done.length = k
  tot : k + rest.length = d.files.length
  less : ii ≤ k
  keys : (done ++ rest).map (·.1) = d.files.map (·.1)
  up : upF keep 0 d.files = done ++ upF keep ii rest
  dr : IsDrive wr g (upD d (done ++ rest)) fpk
  ok : (upD d (done ++ rest)).Ok N
  tch : Touch w wr fp fpk
  names : ∀ i, (h : i < d.files.length) → wr.cell? ⟨b, i, none⟩ = some (.string (S d.files[i].1))
  bn : d.files ≠ [] → ¬ fpk b ∧ b < wr.heap.size
theorem UpSt.name {w : World} {g : Nat} {d : Dr} {fp : Nat → Prop} {keep : List Int} {N B b k ii : Nat} {wr : World} {done r2 : List (Key × File)} {fpk : Nat → Prop} {nm : Key} {f : File} (h : UpSt w g d fp keep N B b k ii wr done ((nm, f) :: r2) fpk) :
    wr.cell? ⟨b, k, none⟩ = some (.string (S nm)) := by
  have ht := h.tot
  simp at ht
  have hk : k < d.files.length := by omega
  rw [h.names k hk]
  have h1 := congrArg (fun l => l[k]?) h.keys
  simp only [List.map_append, List.map_cons, List.getElem?_map, List.getElem?_eq_getElem hk, Option.map_some] at h1
  rw [List.getElem?_append_right (by simp [h.len])] at h1
  simp [h.len] at h1
  rw [h1]
theorem UpSt.skip {w : World} {g : Nat} {d : Dr} {fp : Nat → Prop} {keep : List Int} {N B b k ii : Nat} {wr : World} {done r2 : List (Key × File)} {fpk : Nat → Prop} {nm : Key} {f : File} (h : UpSt w g d fp keep N B b k ii wr done ((nm, f) :: r2) fpk) (hp : f.pieces = []) :
    UpSt w g d fp keep N B b (k + 1) ii wr (done ++ [(nm, f)]) r2 fpk := by
  have ht := h.tot
  have hl := h.less
  have hln := h.len
  simp at ht
  have e : done ++ [(nm, f)] ++ r2 = done ++ (nm, f) :: r2 := by simp
  refine ⟨by simp; omega, by omega, by omega, by rw [e]; exact h.keys, ?_, by rw [e]; exact h.dr, by rw [e]; exact h.ok, h.tch, h.names, h.bn⟩
  rw [h.up]
  show done ++ (if f.pieces = [] then _ else _) = _
  rw [if_pos hp]
  simp
/-- What a round makes of the drive. -/
theorem up_used {d : Dr} {done r2 : List (Key × File)} {nm : Key} {f f' : File} (h : f'.all.length ≤ f.all.length) : (upD d (done ++ (nm, f') :: r2)).used = (upD d (done ++ (nm, f) :: r2)).used - ((f.all.length : Int) - f'.all.length) := by
  unfold Dr.used upD
  simp only [List.map_append, List.map_cons, List.sum_append, List.sum_cons]
  omega
theorem UpSt.step {w : World} {g : Nat} {d : Dr} {fp : Nat → Prop} {keep : List Int} {N B b k ii : Nat} {wr w' : World} {done r2 : List (Key × File)} {fpk : Nat → Prop} {nm : Key} {f : File} (h : UpSt w g d fp keep N B b k ii wr done ((nm, f) :: r2) fpk) (hp : f.pieces ≠ [])
    (ht : Then wr g (upD d (done ++ (nm, cutF keep ii f) :: r2)) fpk w') : ∃ fp', UpSt w g d fp keep N B b (k + 1) (ii + 1) w' (done ++ [(nm, cutF keep ii f)]) r2 fp' := by
  obtain ⟨fp', h1, h2⟩ := ht
  have htt := h.tot
  have hl := h.less
  have hln := h.len
  simp at htt
  have hne : d.files ≠ [] := by
    intro h0
    rw [h0] at htt
    simp at htt
  have e : done ++ [(nm, cutF keep ii f)] ++ r2 = done ++ (nm, cutF keep ii f) :: r2 := by simp
  have hok := h.ok
  have hus := up_used (d := d) (done := done) (r2 := r2) (nm := nm) (cutF_le keep ii f)
  have hcl := cutF_le keep ii f
  obtain ⟨hbn, hbl⟩ := h.bn hne
  refine ⟨fp', by simp; omega, by omega, by omega, ?_, ?_, by rw [e]; exact h1, ?_, h.tch.trans h2, fun i hi => ?_, fun _ => ⟨fun hk => ?_, Nat.lt_of_lt_of_le hbl h2.size⟩⟩
  · rw [e]
    have := h.keys
    simp only [List.map_append, List.map_cons] at this ⊢
    exact this
  · rw [h.up]
    show done ++ (if f.pieces = [] then _ else _) = _
    rw [if_neg hp]
    simp
  · rw [e]
    have hu := hok.used
    have hfi := hok.files
    refine ⟨hok.q0, hok.q1, by rw [hus]; omega, ?_, ?_, ?_, ?_, hok.left⟩
    · have := hfi
      simp [upD] at this ⊢
      exact this
    · intro p hp'
      have hq := hok.keys
      simp only [upD, List.mem_append, List.mem_cons] at hp' hq
      rcases hp' with hp' | rfl | hp'
      · exact hq p (.inl hp')
      · exact hq (nm, f) (.inr (.inl rfl))
      · exact hq p (.inr (.inr hp'))
    · refine rising_keys (m := done ++ (nm, f) :: r2) ?_ hok.rising
      show (done ++ (nm, cutF keep ii f) :: r2).map (·.1) = _
      simp
    · intro p hp'
      have hq := hok.few
      simp only [upD, List.mem_append, List.mem_cons] at hp' hq
      rcases hp' with hp' | rfl | hp'
      · exact hq p (.inl hp')
      · simp [cutF]
      · exact hq p (.inr (.inr hp'))
  · exact (World.cell?_of_block (a := ⟨b, i, none⟩) (h2.block b hbl hbn)).trans (h.names i hi)
  · rcases h2.new b hk with h3 | h3
    · exact hbn h3
    · omega
theorem UpSt.zero {w : World} {g : Nat} {d : Dr} {fp : Nat → Prop} {keep : List Int} {N B b k ii : Nat} {wr : World} {done rest : List (Key × File)} {fpk : Nat → Prop} (h : UpSt w g d fp keep N B b k ii wr done rest fpk) (hk : ¬ k < d.files.length) (hd : d.down = true) : Then w g (d.up keep) fp wr := by
  have ht := h.tot
  have hr : rest = [] := List.eq_nil_of_length_eq_zero (by omega)
  subst hr
  have hu := h.up
  have e1 : upF keep ii [] = [] := by cases ii <;> rfl
  rw [e1, List.append_nil] at hu
  have hD : d.up keep = upD d done := by
    unfold Dr.up upD
    rw [if_pos hd, hu]
  rw [hD]
  have := h.dr
  rw [List.append_nil] at this
  exact ⟨fpk, this, h.tch⟩

theorem up_not {w : World} {g : Nat} {d : Dr} {fp : Nat → Prop} (h : IsDrive w g d fp) (hdn : d.down = false) (keep : List Int) (V : Value) :
    Calls Try.prog 15 #[.pointer (some ⟨g, 0, none⟩), V] w fun e w' => e = .returned (.tuple #[]) ∧ Then w g (d.up keep) fp w' := by
  have E := hid (show d.up keep = { d with left := -1 } by unfold Dr.up; rw [hdn]; rfl)
  obtain ⟨mb, aft, rs, hb, ha, hf, hd⟩ := h.has
  have c4 := hb.cell 4
  have c5 := hb.cell 5
  simp [driveCells, hdn] at c4 c5
  have f5 := hb.frozen 5
  have H := hid h
  have HB := hid hb
  have HD := hid hd
  have HF := hid hf
  clear h hb ha hd hf hdn
  go_enter Try.func15, Try.ntmps15
  go_wp2
  refine bodyPost_ret (results_none rfl _ _ _) rfl ?_
  refine ⟨rfl, ?_⟩
  rw [E.out]
  refine ⟨fp, IsDrive.mk' (aft := aft) H.out HB.out HF.out (by simp [set_size]) (fun k hk => set_other _ _ _ _ k hk) ?_ (fun h => ?_) HD.out, Touch.setCell _ _ H.out.own _⟩
  · have := HB.out.set_ 5 (.bool false)
    exact this
  · simp at h

theorem up_down {w : World} {g : Nat} {d : Dr} {fp : Nat → Prop} {N : Nat} (h : IsDrive w g d fp) (hok : d.Ok N) (hN : N ≤ 1000000) (hdn : d.down = true) (A : Option Addr) (keep : List Int) (cap : Nat) (hA : IntsAt w A keep) (hin : IntsIn keep) (hl : (keep.length : Int) ≤ 9223372036854775807) (hfar : 0 < keep.length → ∀ p, A = some p → ¬ fp p.block) :
    Calls Try.prog 15 #[.pointer (some ⟨g, 0, none⟩), .slice A keep.length cap] w fun e w' => e = .returned (.tuple #[]) ∧ Then w g (d.up keep) fp w' := by
  have start : IsDrive ((w.setCell ⟨g, 5, none⟩ (.bool false)).setCell ⟨g, 4, none⟩ (.bool false)) g (upD d d.files) fp ∧ Touch w ((w.setCell ⟨g, 5, none⟩ (.bool false)).setCell ⟨g, 4, none⟩ (.bool false)) fp fp := by
    obtain ⟨mb, aft, rs, hb, ha, hf, hd⟩ := h.has
    refine ⟨IsDrive.mk' (aft := aft) h hb hf (by simp [set_size]) (fun k hk => (set_other _ _ _ _ k hk).trans (set_other _ _ _ _ k hk)) ?_ (fun h => ?_) hd, (Touch.setCell _ _ h.own _).trans (Touch.setCell _ _ h.own _)⟩
    · have := (hb.set_ 5 (.bool false)).set_ 4 (.bool false)
      exact this
    · simp [upD] at h
  have hok0 : (upD d d.files).Ok N := ⟨hok.q0, hok.q1, hok.used, hok.files, hok.keys, hok.rising, hok.few, ⟨by simp [upD], by simp [upD]⟩⟩
  have Nm := hid (drive_names start.1 hok0)
  have ST := hid start
  have HAI := hid hA
  have HFAR := hid hfar
  have HOK := hid hok0
  have fin := hid (fun (B b k ii : Nat) wr done rest fpk (hS : UpSt w g d fp keep N B b k ii wr done rest fpk) (hk : ¬ k < d.files.length) => hS.zero hk hdn)
  obtain ⟨mb0, aft0, rs0, hb0, ha0, hf0, hd0⟩ := h.has
  have c4 := hb0.cell 4
  have c5 := hb0.cell 5
  simp [driveCells, hdn] at c4 c5
  have f5 := hb0.frozen 5
  have f4 := hb0.frozen 4
  have hflen : d.files.length ≤ 65536 := hok.files
  clear start hok0 hok h hb0 ha0 hf0 hd0 hdn hA hfar
  go_enter Try.func15, Try.ntmps15
  go_wp2_with fail
  refine Nm.out.mono ?_
  rintro e w1 ⟨v, rfl, hrow, hnil, hb1⟩
  obtain ⟨A1, c1, rfl⟩ := row_form hrow
  have hlen0 : (upD d d.files).files.length = d.files.length := rfl
  rw [hlen0] at hrow ⊢
  have hS0 : ∃ b, UpSt w g d fp keep N 0 b 0 0 w1 [] d.files fp ∧ (d.files ≠ [] → A1 = some ⟨b, 0, none⟩) := by
    have hT : Touch w w1 fp fp := ST.out.2.trans (Touch.of_below hb1 fp)
    have hdr : IsDrive w1 g (upD d d.files) fp := ST.out.1.below hb1
    rcases hrow.2 with ⟨h1, h2⟩ | ⟨gg, cp, cur, h1, h2, h3, h4⟩
    · have h0 : d.files = [] := List.eq_nil_of_length_eq_zero h2
      exact ⟨0, ⟨rfl, by simp, Nat.le_refl _, rfl, rfl, hdr, HOK.out, hT, fun i hi => by rw [h0] at hi; simp at hi, fun hne => absurd h0 hne⟩, fun hne => absurd h0 hne⟩
    · simp only [Value.slice.injEq] at h1
      obtain ⟨rfl, _, rfl⟩ := h1
      refine ⟨gg, ⟨rfl, by simp, Nat.le_refl _, rfl, rfl, hdr, HOK.out, hT, fun i hi => ?_, fun _ => ⟨fun hk => ?_, (Array.getElem?_eq_some_iff.1 h3).1⟩⟩, fun _ => rfl⟩
      · rw [hrow.cellAt i (by omega)]
        simp [upD, List.getElem?_map, List.getElem?_eq_getElem hi]
      · have := ST.out.1.lt _ hk
        omega
  obtain ⟨b, hS0, hA1⟩ := hS0
  have HS0 := hid hS0
  have HA1 := hid hA1
  clear hrow hnil hb1 hS0 hA1 Nm ST HOK c4 c5 f4 f5
  go_wp2
  go_loopw [4, 23] (fun i t wr => ∃ k ii : Nat, t = .int .i64 k ∧ i = .int .i64 ii ∧ k ≤ d.files.length ∧ ii ≤ k ∧ Hid (∃ done rest fpk, UpSt w g d fp keep N 0 b k ii wr done rest fpk)) (fun _ t _ => d.files.length - (intOf t).toNat)
  case atStart => exact ⟨0, 0, rfl, rfl, Nat.zero_le _, Nat.le_refl _, _, _, _, HS0.out⟩
  case round =>
    obtain ⟨k, ii, rfl, rfl, hkl, hii, hS⟩ := hrel
    by_cases hk : k < d.files.length
    · obtain ⟨done, rest, fpk, hU⟩ := hS.out
      have hne : d.files ≠ [] := by rintro h0; rw [h0] at hk; simp at hk
      obtain rfl := HA1.out hne
      cases rest with
      | nil => have := hU.tot; simp at this; omega
      | cons p r2 =>
        obtain ⟨nm, f⟩ := p
        have cn := hU.name
        have hg : kget (upD d (done ++ (nm, f) :: r2)).files nm = some f := kget_mid _ _ _ _ hU.ok.rising
        obtain ⟨mb, aft, rs, r, F⟩ := face_of hU.dr hU.ok (by omega) hg
        have c0 := F.hb.cell 0
        simp [driveCells] at c0
        have L := F.look wr rfl
        have cp := F.file.blk.cell 1
        simp at cp
        have fpz := F.file.blk.frozen 1
        obtain ⟨vs, hv⟩ := F.file.pieces
        have hrowp := hv.row
        obtain ⟨A2, c2, hpv⟩ := row_form hrowp
        rw [hpv] at cp hrowp
        have HU := hid hU
        have HF := hid F
        have hpl : r.f.pieces.length ≤ 1000000000 := F.np
        have hrf := F.fr
        have A9 := hid (file_all F.file F.np F.nl)
        generalize hfb : r.blk = fb at *
        by_cases hp : f.pieces = []
        · have hS' := hid (show ∃ done rest fpk, UpSt w g d fp keep N 0 b (k + 1) ii wr done rest fpk from ⟨_, _, _, hU.skip hp⟩)
          have hn0 : r.f.pieces.length = 0 := by rw [hrf, hp]; rfl
          rw [hn0] at cp
          clear hU F hg hv hrowp hpv hpl hrf hS HU HF hn0 fpz
          go_wp2
          go_roundw
          case rel => exact ⟨k + 1, ii, by go_num, rfl, by omega, by omega, hS'⟩
          case measure => simp [intOf]; omega
        · obtain ⟨kk, hkk⟩ : ∃ kk, keptN keep ii f.pieces.length = kk := ⟨_, rfl⟩
          have hkl2 : kk ≤ f.pieces.length := by rw [← hkk]; exact keptN_le _ _ _
          have hn1 : 0 < r.f.pieces.length := by rw [hrf]; exact List.length_pos_iff.2 hp
          obtain ⟨pb, rfl, hnc⟩ : ∃ pb, A2 = some ⟨pb, 0, none⟩ ∧ r.f.pieces.length ≤ c2 := by
            rcases hrowp.2 with ⟨h1, h2⟩ | ⟨gg, cp', cur, h1, h2, h3, h4, _⟩
            · omega
            · simp only [Value.slice.injEq] at h1
              obtain ⟨h1, _, rfl⟩ := h1
              exact ⟨gg, h1, h4⟩
          have hcf : cutF keep ii f = ⟨(File.mk f.safe (f.pieces.take kk)).all, []⟩ := by unfold cutF; rw [hkk]; rfl
          have hcl : (cutF keep ii f).all.length = (File.mk f.safe (f.pieces.take kk)).all.length := by rw [hcf]; simp [File.all]
          have hus := up_used (d := d) (done := done) (r2 := r2) (nm := nm) (cutF_le keep ii f)
          have hu0 := used_nonneg (upD d (done ++ (nm, f) :: r2))
          have hu1 := hU.ok.used
          have hua := used_all hg
          have hun := used_nonneg (upD d (done ++ (nm, cutF keep ii f) :: r2))
          obtain ⟨u', hu'⟩ : ∃ u', u' = wrap64 ((upD d (done ++ (nm, f) :: r2)).used - wrap64 ((f.all.length : Int) - ((File.mk f.safe (f.pieces.take kk)).all.length : Int))) := ⟨_, rfl⟩
          have hu2 : u' = (upD d (done ++ (nm, cutF keep ii f) :: r2)).used := by
            have hle := cutF_le keep ii f
            rw [hu', w64_small (n := (f.all.length : Int) - _) (by omega) (by omega), w64_small (by omega) (by omega), hus, hcl]
          have TL := hid (fun (W : World) (hb : Below wr.heap.size wr W) => up_tail F hU.dr hU.ok hb hpv kk hkl2 (upD d (done ++ (nm, cutF keep ii f) :: r2)) (by
            rw [← hcf]
            exact (kput_mid _ _ _ _ _ hU.ok.rising).symm) rfl rfl rfl rfl u' hu2 _ rfl)
          have STEP := hid (fun W (ht : Then wr g (upD d (done ++ (nm, cutF keep ii f) :: r2)) fpk W) => hU.step hp ht)
          have Kp := hid (fun (W : World) (hb : Below wr.heap.size wr W) => drive_kept A keep cap W ((HAI.out.touch hU.tch HFAR.out).below hb) hin hl ii f.pieces.length (by omega) (by rw [← hrf]; omega))
          rw [hkk] at Kp
          have hflt : fb < wr.heap.size := by rw [← hfb]; exact hU.dr.lt _ F.file.own
          have hglt : g < wr.heap.size := F.hb.lt
          have hgf : g ≠ fb := by rw [← hfb]; exact Ne.symm F.ne.2.2
          rw [hfb] at TL
          have hra : r.f.all.length = f.all.length := by rw [hrf]
          rw [hrf] at A9 cp hn1 hnc
          have hkc : kk ≤ c2 := by omega
          have hpl2 : f.pieces.length ≤ 1000000000 := by rw [← hrf]; exact hpl
          have HUU := hid hu'
          clear hU F hg hv hrowp hpv hrf hS HU HF hus hu0 hu1 hua hun hu2 hcf hcl hkk hu' hp hpl hra hne fin
          generalize f.pieces.length = n2 at *
          generalize f.all = fa at *
          generalize hn3 : (File.mk f.safe (f.pieces.take kk)).all.length = n3 at *
          generalize hUQ : (upD d (done ++ (nm, f) :: r2)).used = u at *
          have HUQ := hid hUQ
          clear hUQ
          generalize upD d (done ++ (nm, cutF keep ii f) :: r2) = dd at *
          go_wp2_with fail
          refine A9.out.mono ?_
          rintro e w1 ⟨v1, rfl, hrow1, hb1⟩
          obtain ⟨A', c', rfl⟩ := row_form hrow1
          have c01 := (hb1.cell (p := ⟨g, 0, none⟩) hglt).trans c0
          have cp1 := (hb1.cell (p := ⟨fb, 1, none⟩) hflt).trans cp
          have fz1 := (hb1.frozen (p := ⟨fb, 1, none⟩) hflt).trans fpz
          have BD := hid (show Below wr.heap.size wr w1.drew from hb1.drew)
          have TL1 := hid (TL.out w1 hb1)
          have hg1 : g < w1.heap.size := Nat.lt_of_lt_of_le hglt hb1.size
          have c03 : (w1.drew.setCell ⟨fb, 1, none⟩ (.slice (some ⟨pb, 0, none⟩) kk c2)).cell? ⟨g, 0, none⟩ = some (.map (some mb)) := (World.cell?_of_block (a := ⟨g, 0, none⟩) (set_other _ _ _ _ g hgf)).trans c01
          clear hrow1 hb1 A9 TL c0 cp fpz cn L
          go_wp2
          refine region_anyK (fun w' => w'.cell? ⟨fb, 1, none⟩ = some (.slice (some ⟨pb, 0, none⟩) n2 c2)) 16 (by kernel_rfl) (by ((try dsimp only); first | assumption | simp [*, go_sem, World.cell?_alloc_past])) (fun hSk => ?_)
          refine anyK_take 0 [0] (v := ?_) rfl (by kernel_rfl) (by kernel_rfl) (fun _ _ _ h => h) (Or.inl ⟨by rfl, ?_⟩) hSk ?_
          rotate_left
          · intro w' hSw; (try dsimp only at hSw); go_simp; try with_reducible rfl
          try simp only [Act.put, List.setIfInBounds_toArray, List.set_cons_zero, List.set_cons_succ]
          refine anyK_take 1 [1] (v := ?_) rfl (by kernel_rfl) (by kernel_rfl) (fun _ _ _ h => h) (Or.inl ⟨by rfl, ?_⟩) hSk ?_
          rotate_left
          · intro w' hSw; (try dsimp only at hSw); go_simp; try with_reducible rfl
          try simp only [Act.put, List.setIfInBounds_toArray, List.set_cons_zero, List.set_cons_succ]
          refine anyK_take 2 [2] (v := ?_) rfl (by kernel_rfl) (by kernel_rfl) (fun _ _ _ h => h) (Or.inl ⟨by rfl, ?_⟩) hSk ?_
          rotate_left
          · intro w' hSw; (try dsimp only at hSw); go_simp; try with_reducible rfl
          try simp only [Act.put, List.setIfInBounds_toArray, List.set_cons_zero, List.set_cons_succ]
          refine anyK_take 3 [3] (v := ?_) rfl (by kernel_rfl) (by kernel_rfl) (fun _ _ _ h => h) (Or.inl ⟨by rfl, ?_⟩) hSk ?_
          rotate_left
          · intro w' hSw; (try dsimp only at hSw); go_simp; try with_reducible rfl
          try simp only [Act.put, List.setIfInBounds_toArray, List.set_cons_zero, List.set_cons_succ]
          refine anyK_take 4 [4] (v := ?_) rfl (by kernel_rfl) (by kernel_rfl) (fun _ _ _ h => h) (Or.inl ⟨by rfl, ?_⟩) hSk ?_
          rotate_left
          · intro w' hSw; (try dsimp only at hSw); go_simp; try with_reducible rfl
          try simp only [Act.put, List.setIfInBounds_toArray, List.set_cons_zero, List.set_cons_succ]
          refine anyK_take 5 [5] (v := ?_) rfl (by kernel_rfl) (by kernel_rfl) (fun _ _ _ h => h) (Or.inl ⟨by rfl, ?_⟩) hSk ?_
          rotate_left
          · intro w' hSw; (try dsimp only at hSw); go_simp; try with_reducible rfl
          try simp only [Act.put, List.setIfInBounds_toArray, List.set_cons_zero, List.set_cons_succ]
          refine anyK_take 6 [6] (v := ?_) rfl (by kernel_rfl) (by kernel_rfl) (fun _ _ _ h => h) (Or.inl ⟨by rfl, ?_⟩) hSk ?_
          rotate_left
          · intro w' hSw; (try dsimp only at hSw); go_simp; try with_reducible rfl
          try simp only [Act.put, List.setIfInBounds_toArray, List.set_cons_zero, List.set_cons_succ]
          refine anyK_take 7 [7] (v := ?_) rfl (by kernel_rfl) (by kernel_rfl) (fun _ _ _ h => h) (Or.inl ⟨by rfl, ?_⟩) hSk ?_
          rotate_left
          · intro w' hSw; (try dsimp only at hSw); go_simp; try with_reducible rfl
          try simp only [Act.put, List.setIfInBounds_toArray, List.set_cons_zero, List.set_cons_succ]
          refine anyK_take 8 [8] (v := ?_) rfl (by kernel_rfl) (by kernel_rfl) (fun _ _ _ h => h) (Or.inl ⟨by rfl, ?_⟩) hSk ?_
          rotate_left
          · intro w' hSw; (try dsimp only at hSw); go_simp; try with_reducible rfl
          try simp only [Act.put, List.setIfInBounds_toArray, List.set_cons_zero, List.set_cons_succ]
          refine anyK_take 9 [9] (v := ?_) rfl (by kernel_rfl) (by kernel_rfl) (fun _ _ _ h => h) (Or.inl ⟨by rfl, ?_⟩) hSk ?_
          rotate_left
          · intro w' hSw; (try dsimp only at hSw); go_simp; try with_reducible rfl
          try simp only [Act.put, List.setIfInBounds_toArray, List.set_cons_zero, List.set_cons_succ]
          refine anyK_take 10 [10] (v := ?_) rfl (by kernel_rfl) (by kernel_rfl) (fun _ _ _ h => h) (Or.inl ⟨by rfl, ?_⟩) hSk ?_
          rotate_left
          · intro w' hSw; (try dsimp only at hSw); go_simp; try with_reducible rfl
          try simp only [Act.put, List.setIfInBounds_toArray, List.set_cons_zero, List.set_cons_succ]
          refine anyK_take 11 [11] (v := ?_) rfl (by kernel_rfl) (by kernel_rfl) (fun _ _ _ h => h) (Or.inl ⟨by rfl, ?_⟩) hSk ?_
          rotate_left
          · intro w' hSw; (try dsimp only at hSw); go_simp; try with_reducible rfl
          try simp only [Act.put, List.setIfInBounds_toArray, List.set_cons_zero, List.set_cons_succ]
          refine anyK_only 12 (by kernel_rfl) rfl (fun K hK => ?_)
          (first | (rw [if_pos (by rfl)]; go_simp; go_at_call 47; refine (Kp.out _ BD.out).mono ?_; rintro e w2 ⟨rfl, rfl⟩; go_wp2_with fail) | go_simp)
          clear hSk
          refine hK.out _ _ (by ((try dsimp only); first | assumption | simp [*, go_sem, World.cell?_alloc_past])) (fun hSk => ?_)
          clear hK K
          try simp only [Act.put, List.setIfInBounds_toArray, List.set_cons_zero, List.set_cons_succ]
          refine anyK_only 13 (by kernel_rfl) rfl (fun K hK => ?_)
          go_simp
          clear hSk
          refine hK.out _ _ (by ((try dsimp only); first | assumption | simp [*, go_sem, World.cell?_alloc_past])) (fun hSk => ?_)
          clear hK K
          try simp only [Act.put, List.setIfInBounds_toArray, List.set_cons_zero, List.set_cons_succ]
          refine anyK_take 14 [15, 14] (v := ?_) rfl (by kernel_rfl) (by kernel_rfl) (fun _ _ _ h => h) (Or.inl ⟨by rfl, ?_⟩) hSk ?_
          rotate_left
          · intro w' hSw; (try dsimp only at hSw); go_simp; try with_reducible rfl
          try simp only [Act.put, List.setIfInBounds_toArray, List.set_cons_zero, List.set_cons_succ]
          refine anyK_take 15 [15] (v := ?_) rfl (by kernel_rfl) (by kernel_rfl) (fun _ _ _ h => h) (Or.inl ⟨by rfl, ?_⟩) hSk ?_
          rotate_left
          · intro w' hSw; (try dsimp only at hSw); go_simp; try with_reducible rfl
          try simp only [Act.put, List.setIfInBounds_toArray, List.set_cons_zero, List.set_cons_succ]
          refine anyK_last (by kernel_rfl) rfl (by kernel_rfl) (fun K hK => ?_)
          go_simp
          refine hK.out _ _ ?_
          clear hK K
          try simp only [Act.put, List.setIfInBounds_toArray, List.set_cons_zero, List.set_cons_succ]
          refine anyK_done (by kernel_rfl) ?_ _
          go_wp2
          go_region_held3 (fun w' => w'.cell? ⟨g, 0, none⟩ = some (.map (some mb))) (simp [*, go_sem, World.cell?_alloc_past])
            (first | (go_at_call 35; refine TL1.out.mono ?_; rintro e w4 ⟨A3, c3, rfl, q0, w5, hrun, t0, t1, t2, t3, t4, hThen⟩; have q1 := World.block_lt_of_cell? w4 _ q0))
          all_goals
            have S5 : w5.drew.cell? ⟨g, 2, none⟩ = some (.int .i64 u) ∧ w5.drew.cell? ⟨g, 0, none⟩ = some (.map (some mb)) ∧ w5.drew.cell? ⟨w4.heap.size, 0, none⟩ = some (.slice A3 n3 c3) ∧ (Instr.lookup 58 (.map (some mb)) (.string (S nm)) false).run Try.prog w5.drew = .ok (.pointer (some ⟨w4.heap.size, 0, none⟩)) w5.drew := ⟨by rw [← HUQ.out]; exact t1, t0, t4, t3 _ rfl⟩
            have HT := hid hThen
            rw [HUU.out] at HT
            clear t1 t3 hThen
          go_wp2
          refine region_anyK (fun w' => w'.cell? ⟨g, 2, none⟩ = some (.int .i64 u) ∧ w'.cell? ⟨g, 0, none⟩ = some (.map (some mb)) ∧ w'.cell? ⟨w4.heap.size, 0, none⟩ = some (.slice A3 n3 c3) ∧ (Instr.lookup 58 (.map (some mb)) (.string (S nm)) false).run Try.prog w' = .ok (.pointer (some ⟨w4.heap.size, 0, none⟩)) w') 19 (by kernel_rfl) (by ((try dsimp only); first | assumption | simp [*, go_sem, World.cell?_alloc_past])) (fun hSk => ?_)
          refine anyK_take 0 [0] (v := ?_) rfl (by kernel_rfl) (by kernel_rfl) (fun _ _ _ h => h) (Or.inl ⟨by rfl, ?_⟩) hSk ?_
          rotate_left
          · intro w' hSw; (try dsimp only at hSw); go_simp; try with_reducible rfl
          try simp only [Act.put, List.setIfInBounds_toArray, List.set_cons_zero, List.set_cons_succ]
          refine anyK_take 1 [1] (v := ?_) rfl (by kernel_rfl) (by kernel_rfl) (fun _ _ _ h => h) (Or.inl ⟨by rfl, ?_⟩) hSk ?_
          rotate_left
          · intro w' hSw; (try dsimp only at hSw); go_simp; try with_reducible rfl
          try simp only [Act.put, List.setIfInBounds_toArray, List.set_cons_zero, List.set_cons_succ]
          refine anyK_take 2 [2] (v := ?_) rfl (by kernel_rfl) (by kernel_rfl) (fun _ _ _ h => h) (Or.inl ⟨by rfl, ?_⟩) hSk ?_
          rotate_left
          · intro w' hSw; (try dsimp only at hSw); go_simp; try with_reducible rfl
          try simp only [Act.put, List.setIfInBounds_toArray, List.set_cons_zero, List.set_cons_succ]
          refine anyK_take 3 [3] (v := ?_) rfl (by kernel_rfl) (by kernel_rfl) (fun _ _ _ h => h) (Or.inl ⟨by rfl, ?_⟩) hSk ?_
          rotate_left
          · intro w' hSw; (try dsimp only at hSw); go_simp; try with_reducible rfl
          try simp only [Act.put, List.setIfInBounds_toArray, List.set_cons_zero, List.set_cons_succ]
          refine anyK_take 4 [4] (v := ?_) rfl (by kernel_rfl) (by kernel_rfl) (fun _ _ _ h => h) (Or.inl ⟨by rfl, ?_⟩) hSk ?_
          rotate_left
          · intro w' hSw; (try dsimp only at hSw); go_simp; try with_reducible rfl
          try simp only [Act.put, List.setIfInBounds_toArray, List.set_cons_zero, List.set_cons_succ]
          refine anyK_take 5 [5] (v := ?_) rfl (by kernel_rfl) (by kernel_rfl) (fun _ _ _ h => h) (Or.inl ⟨by rfl, ?_⟩) hSk ?_
          rotate_left
          · intro w' hSw; (try dsimp only at hSw); go_simp; try with_reducible rfl
          try simp only [Act.put, List.setIfInBounds_toArray, List.set_cons_zero, List.set_cons_succ]
          refine anyK_take 6 [6] (v := ?_) rfl (by kernel_rfl) (by kernel_rfl) (fun _ _ _ h => h) (Or.inl ⟨by rfl, ?_⟩) hSk ?_
          rotate_left
          · intro w' hSw; (try dsimp only at hSw); go_simp; try with_reducible rfl
          try simp only [Act.put, List.setIfInBounds_toArray, List.set_cons_zero, List.set_cons_succ]
          refine anyK_take 7 [7] (v := ?_) rfl (by kernel_rfl) (by kernel_rfl) (fun _ _ _ h => h) (Or.inl ⟨by rfl, ?_⟩) hSk ?_
          rotate_left
          · intro w' hSw; (try dsimp only at hSw); go_simp; try with_reducible rfl
          try simp only [Act.put, List.setIfInBounds_toArray, List.set_cons_zero, List.set_cons_succ]
          refine anyK_take 8 [8] (v := ?_) rfl (by kernel_rfl) (by kernel_rfl) (fun _ _ _ h => h) (Or.inl ⟨by rfl, ?_⟩) hSk ?_
          rotate_left
          · intro w' hSw; (try dsimp only at hSw); go_simp; try with_reducible rfl
          try simp only [Act.put, List.setIfInBounds_toArray, List.set_cons_zero, List.set_cons_succ]
          refine anyK_take 9 [9] (v := ?_) rfl (by kernel_rfl) (by kernel_rfl) (fun _ _ _ h => h) (Or.inl ⟨by rfl, ?_⟩) hSk ?_
          rotate_left
          · intro w' hSw; (try dsimp only at hSw); go_simp; try with_reducible rfl
          try simp only [Act.put, List.setIfInBounds_toArray, List.set_cons_zero, List.set_cons_succ]
          refine anyK_take 10 [10] (v := ?_) rfl (by kernel_rfl) (by kernel_rfl) (fun _ _ _ h => h) (Or.inl ⟨by rfl, ?_⟩) hSk ?_
          rotate_left
          · intro w' hSw; (try dsimp only at hSw); go_simp; try with_reducible rfl
          try simp only [Act.put, List.setIfInBounds_toArray, List.set_cons_zero, List.set_cons_succ]
          refine anyK_take 11 [11] (v := ?_) rfl (by kernel_rfl) (by kernel_rfl) (fun _ _ _ h => h) (Or.inl ⟨by rfl, ?_⟩) hSk ?_
          rotate_left
          · intro w' hSw; (try dsimp only at hSw); go_simp; try with_reducible rfl
          try simp only [Act.put, List.setIfInBounds_toArray, List.set_cons_zero, List.set_cons_succ]
          refine anyK_take 12 [12] (v := ?_) rfl (by kernel_rfl) (by kernel_rfl) (fun _ _ _ h => h) (Or.inl ⟨by rfl, ?_⟩) hSk ?_
          rotate_left
          · intro w' hSw; (try dsimp only at hSw); go_simp; try with_reducible rfl
          try simp only [Act.put, List.setIfInBounds_toArray, List.set_cons_zero, List.set_cons_succ]
          refine anyK_take 13 [13] (v := ?_) rfl (by kernel_rfl) (by kernel_rfl) (fun _ _ _ h => h) (Or.inl ⟨by rfl, ?_⟩) hSk ?_
          rotate_left
          · intro w' hSw; (try dsimp only at hSw); go_simp; try with_reducible rfl
          try simp only [Act.put, List.setIfInBounds_toArray, List.set_cons_zero, List.set_cons_succ]
          refine anyK_take 14 [14] (v := ?_) rfl (by kernel_rfl) (by kernel_rfl) (fun _ _ _ h => h) (Or.inl ⟨by rfl, ?_⟩) hSk ?_
          rotate_left
          · intro w' hSw; (try dsimp only at hSw); go_simp; try with_reducible rfl
          try simp only [Act.put, List.setIfInBounds_toArray, List.set_cons_zero, List.set_cons_succ]
          refine anyK_take 15 [15] (v := ?_) rfl (by kernel_rfl) (by kernel_rfl) (fun _ _ _ h => h) (Or.inl ⟨by rfl, ?_⟩) hSk ?_
          rotate_left
          · intro w' hSw; (try dsimp only at hSw); go_simp; try with_reducible rfl
          try simp only [Act.put, List.setIfInBounds_toArray, List.set_cons_zero, List.set_cons_succ]
          refine anyK_take 16 [16] (v := ?_) rfl (by kernel_rfl) (by kernel_rfl) (fun _ _ _ h => h) (Or.inl ⟨by rfl, ?_⟩) hSk ?_
          rotate_left
          · intro w' hSw; (try dsimp only at hSw); go_simp; try with_reducible rfl
          try simp only [Act.put, List.setIfInBounds_toArray, List.set_cons_zero, List.set_cons_succ]
          refine anyK_take 17 [18, 17] (v := ?_) rfl (by kernel_rfl) (by kernel_rfl) (fun _ _ _ h => h) (Or.inl ⟨by rfl, ?_⟩) hSk ?_
          rotate_left
          · intro w' hSw; (try dsimp only at hSw); go_simp; try with_reducible rfl
          try simp only [Act.put, List.setIfInBounds_toArray, List.set_cons_zero, List.set_cons_succ]
          refine anyK_take 18 [18] (v := ?_) rfl (by kernel_rfl) (by kernel_rfl) (fun _ _ _ h => h) (Or.inl ⟨by rfl, ?_⟩) hSk ?_
          rotate_left
          · intro w' hSw; (try dsimp only at hSw); go_simp; try with_reducible rfl
          try simp only [Act.put, List.setIfInBounds_toArray, List.set_cons_zero, List.set_cons_succ]
          refine anyK_last (by kernel_rfl) rfl (by kernel_rfl) (fun K hK => ?_)
          go_simp
          refine hK.out _ _ ?_
          clear hK K
          try simp only [Act.put, List.setIfInBounds_toArray, List.set_cons_zero, List.set_cons_succ]
          refine anyK_done (by kernel_rfl) ?_ _
          go_wp2
          go_roundw
          case rel =>
            obtain ⟨fp', h5⟩ := STEP.out _ HT.out
            exact ⟨k + 1, ii + 1, by go_num, by go_num, by omega, by omega, _, _, _, h5⟩
          case measure => simp [intOf]; omega
    · have hkd : k = d.files.length := by omega
      have HT := hid (show Then w g (d.up keep) fp wr by
        obtain ⟨done, rest, fpk, hU⟩ := hS.out
        exact fin.out _ _ _ _ _ _ _ _ hU hk)
      subst hkd
      clear hS HAI HFAR fin HS0 HA1
      go_wp2
      go_end0
      exact ⟨rfl, HT.out⟩
theorem drive_Up {w : World} {g : Nat} {d : Dr} {fp : Nat → Prop} {N : Nat} (h : IsDrive w g d fp) (hok : d.Ok N) (hN : N ≤ 1000000) (A : Option Addr) (keep : List Int) (cap : Nat) (hA : IntsAt w A keep) (hin : IntsIn keep) (hl : (keep.length : Int) ≤ 9223372036854775807) (hfar : 0 < keep.length → ∀ p, A = some p → ¬ fp p.block) :
    Calls Try.prog 15 #[.pointer (some ⟨g, 0, none⟩), .slice A keep.length cap] w fun e w' => e = .returned (.tuple #[]) ∧ Then w g (d.up keep) fp w' := by
  cases hdn : d.down with
  | true => exact up_down h hok hN hdn A keep cap hA hin hl hfar
  | false => exact up_not h hdn keep _
end Go.Proofs.Ytioillenlgpcgaa
