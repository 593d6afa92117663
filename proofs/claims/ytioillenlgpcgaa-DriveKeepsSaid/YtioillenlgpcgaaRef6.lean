/- Walks of the document's drive: Create, Ends, Rename. Walks of the document's drive: Rename, Append. -/
import Derived.Test.YtioillenlgpcgaaRef4
import Derived.Test.YtioillenlgpcgaaLawNames
import Derived.Test.YtioillenlgpcgaaLawK
import Derived.Deep.RegionHeld3
import Derived.Deep.DrawnRows
set_option linter.unusedVariables false
set_option linter.unusedSimpArgs false
set_option maxHeartbeats 3200000
set_option maxRecDepth 100000
namespace Go.Proofs.Ytioillenlgpcgaa
open Go.RowKit

theorem ThenR.after {w w1 w2 : World} {g : Nat} {d : Dr} {fp : Nat → Prop} (ht : Touch w w1 fp fp) (h : ThenR w1 g d fp w2) : ThenR w g d fp w2 := by
  obtain ⟨fp', h1, h2⟩ := h
  exact ⟨fp', h1, ht.trans h2⟩
theorem may_ne {d : Dr} {e : Int} (he : e ≠ 0) : (d.may e).2 ≠ 0 := by
  unfold Dr.may
  split
  · simp
  · first | exact he | (rw [if_pos he]; exact he)
theorem deed_ne {d : Dr} {e : Int} (he : e ≠ 0) (f : Dr → Dr) : d.deed e f = d.may e := by
  unfold Dr.deed
  rw [if_neg (may_ne he)]
theorem may_rest (d : Dr) (e : Int) : (d.may e).1.files = d.files := (may_files d e).1
theorem atN_none {d : Dr} {name : Key} (h : atN name d.files 0 = -1) : kget d.files name = none := by
  rcases atN_spec name d.files 0 with ⟨_, h2⟩ | ⟨i, hi, h1, _⟩
  · exact h2
  · rw [h] at h1; omega
theorem ref_Create {w : World} {g : Nat} {d : Dr} {fp : Nat → Prop} {N : Nat} (h : IsRef w g d fp) (hok : d.Ok N) (name : Key) (hl : name.length ≤ 1000000) :
    Calls Try.prog 36 #[.pointer (some ⟨g, 0, none⟩), .string (S name)] w fun e w' => e = .returned (.int .i64 (d.create name).2) ∧ ThenR w g (d.create name).1 fp w' := by
  have hfl := hok.files
  have At := hid (ref_at h name (by omega))
  have Nm := hid (ref13_Named name hl w)
  have M := hid (fun e => ref_may h hok.left.1 hok.left.2 e)
  obtain ⟨v, rs, hb, hf, hd⟩ := h.has
  obtain ⟨A, c, rfl⟩ := hf.form
  have c0 := hb.cell 0
  simp [refCells] at c0
  have hlr : rs.length ≤ 65536 := by rw [hd] at hfl; simpa using hfl
  have hrl : d.files.length = rs.length := by rw [hd]; simp
  have ERR : ∀ e, d.createE name = e → e ≠ 0 → Hid (d.create name = d.may e ∧ (((d.may e).2 == 0) = false)) := fun e he hne => ⟨by unfold Dr.create; rw [he]; exact deed_ne hne _, by simpa using may_ne (d := d) hne⟩
  cases hn : namedB name with
  | false =>
    have E := ERR 1 (by unfold Dr.createE; rw [hn]; rfl) (by omega)
    have M1 := hid (M.out 1)
    have hne := E.out.2
    rw [hn] at Nm
    rw [E.out.1]
    clear h hb hf hd hok ERR hn M At hfl
    generalize d.may 1 = me at *
    go_enter Try.func36, Try.ntmps36
    go_wp2_with fail
    refine Nm.out.mono ?_
    rintro e w1 ⟨rfl, hw⟩
    have hw' := hw.symm
    subst hw'
    go_wp2_with fail
    refine M1.out.mono ?_
    rintro e w2 ⟨rfl, h2, t2⟩
    have HR := hid (show ThenR w g me.1 fp w2 from ⟨fp, h2, t2⟩)
    clear h2 t2 M1
    go_wp2
    go_ret
    exact ⟨rfl, HR.out⟩
  | true =>
    rw [hn] at Nm
    rcases atN_spec name d.files 0 with ⟨q1, q2⟩ | ⟨i, hi, q1, q2, q3⟩
    · rw [q1] at At
      by_cases h65 : 65536 ≤ rs.length
      · have E := ERR 12 (by unfold Dr.createE; rw [hn, q2, hrl, if_pos h65]; rfl) (by omega)
        have M1 := hid (M.out 12)
        have hne := E.out.2
        have i65 : (65536 : Int) ≤ rs.length := by omega
        clear h65 hlr
        rw [E.out.1]
        clear h hb hf hd hok ERR hn M q1 q2 hfl
        generalize d.may 12 = me at *
        go_enter Try.func36, Try.ntmps36
        go_wp2_with fail
        refine Nm.out.mono ?_
        rintro e w1 ⟨rfl, hw⟩
        have hw' := hw.symm
        subst hw'
        go_wp2_with fail
        refine At.out.mono ?_
        rintro e w1 ⟨rfl, hw⟩
        have hw' := hw.symm
        subst hw'
        go_wp2_with fail
        refine M1.out.mono ?_
        rintro e w2 ⟨rfl, h2, t2⟩
        have HR := hid (show ThenR w g me.1 fp w2 from ⟨fp, h2, t2⟩)
        clear h2 t2 M1
        go_wp2
        go_ret
        exact ⟨rfl, HR.out⟩
      · have e0 : d.createE name = 0 := by unfold Dr.createE; rw [hn, q2, hrl, if_neg h65]; rfl
        have i65 : decide ((65536 : Int) ≤ rs.length) = false := by simp; omega
        clear h65 hlr
        have M1 := hid (M.out 0)
        by_cases hm : (d.may 0).2 = 0
        · have E := hid (show d.create name = ({ (d.may 0).1 with files := kput (d.may 0).1.files name ⟨[], []⟩ }, 0) by unfold Dr.create Dr.deed; rw [e0, if_pos hm])
          have hmf := may_rest d 0
          have hrise := hok.rising
          have PUT := hid (fun (W : World) (hW : IsRef W g (d.may 0).1 fp) => ref_put hW (by rw [hmf]; exact hrise) (by rw [hmf]; exact hfl) ⟨name, ⟨[], []⟩, .slice none 0 0⟩ ⟨World.ownsRow_nil _ _ _ _, by simp [Value.ownBlock]⟩)
          rw [E.out]
          rw [hm] at M1
          clear h hb hf hd hok ERR hn M q1 q2 hfl hmf hrise e0 hm
          generalize (d.may 0).1 = dm at *
          go_enter Try.func36, Try.ntmps36
          go_wp2_with fail
          refine Nm.out.mono ?_
          rintro e w1 ⟨rfl, hw⟩
          have hw' := hw.symm
          subst hw'
          go_wp2_with fail
          refine At.out.mono ?_
          rintro e w1 ⟨rfl, hw⟩
          have hw' := hw.symm
          subst hw'
          go_wp2_with fail
          refine M1.out.mono ?_
          rintro e w2 ⟨rfl, h2, t2⟩
          have P2 := hid (PUT.out w2 h2)
          unfold rAgg at P2
          have T2 := hid t2
          clear h2 t2 M1 PUT
          go_wp2_with fail
          refine P2.out.mono ?_
          rintro e w3 ⟨rfl, h3⟩
          have HR := hid (h3.after T2.out)
          clear h3 P2
          go_wp2
          go_ret
          exact ⟨rfl, HR.out⟩
        · have E := hid (show d.create name = d.may 0 by unfold Dr.create Dr.deed; rw [e0, if_neg hm])
          have hne : ((d.may 0).2 == 0) = false := by simpa using hm
          rw [E.out]
          clear h hb hf hd hok ERR hn M q1 q2 hfl e0 hm
          generalize d.may 0 = me at *
          go_enter Try.func36, Try.ntmps36
          go_wp2_with fail
          refine Nm.out.mono ?_
          rintro e w1 ⟨rfl, hw⟩
          have hw' := hw.symm
          subst hw'
          go_wp2_with fail
          refine At.out.mono ?_
          rintro e w1 ⟨rfl, hw⟩
          have hw' := hw.symm
          subst hw'
          go_wp2_with fail
          refine M1.out.mono ?_
          rintro e w2 ⟨rfl, h2, t2⟩
          have HR := hid (show ThenR w g me.1 fp w2 from ⟨fp, h2, t2⟩)
          clear h2 t2 M1
          go_wp2
          go_ret
          exact ⟨rfl, HR.out⟩
    · rw [q1, Nat.zero_add] at At
      have E := ERR 11 (by unfold Dr.createE; rw [hn, q3]; rfl) (by omega)
      have M1 := hid (M.out 11)
      have hne := E.out.2
      rw [E.out.1]
      clear h hb hf hd hok ERR hn M q1 q2 q3 hfl hi
      generalize d.may 11 = me at *
      go_enter Try.func36, Try.ntmps36
      go_wp2_with fail
      refine Nm.out.mono ?_
      rintro e w1 ⟨rfl, hw⟩
      have hw' := hw.symm
      subst hw'
      go_wp2_with fail
      refine At.out.mono ?_
      rintro e w1 ⟨rfl, hw⟩
      have hw' := hw.symm
      subst hw'
      go_wp2_with fail
      refine M1.out.mono ?_
      rintro e w2 ⟨rfl, h2, t2⟩
      have HR := hid (show ThenR w g me.1 fp w2 from ⟨fp, h2, t2⟩)
      clear h2 t2 M1
      go_wp2
      go_ret
      exact ⟨rfl, HR.out⟩

/-- What a found file is. -/
theorem found_at {d : Dr} {rs : List RF} (hd : d.files = rs.map rPair) {N : Nat} (hok : d.Ok N) {name : Key} {i : Nat} (hi : i < d.files.length) (hn : d.files[i].1 = name) :
    ∃ hi' : i < rs.length, rs[i].key = name ∧ kdel d.files name = d.files.take i ++ d.files.drop (i + 1) ∧ (∀ x : RF, x.key = name → (rs.set i x).map rPair = kput d.files name x.f) ∧ (∀ x : RF, x.key = name → (rs.set i x).map rPair = kset d.files name x.f) ∧ fileOf d name = rs[i].f := by
  have hi' : i < rs.length := by rw [hd] at hi; simpa using hi
  have hr := hok.rising
  have hkey : rs[i].key = name := by rw [← hn]; simp [hd, rPair]
  have hset : ∀ x : RF, x.key = name → (rs.set i x).map rPair = d.files.set i (name, x.f) := fun x hx => by
    rw [hd, List.map_set]
    simp [rPair, hx]
  refine ⟨hi', hkey, ?_, fun x hx => ?_, fun x hx => ?_, ?_⟩
  · rw [← hn]; exact kdel_at hr hi
  · rw [hset x hx]
    have := kput_at hr hi x.f
    rw [hn] at this
    exact this.symm
  · rw [hset x hx]
    have := kset_at hr hi x.f
    rw [hn] at this
    exact this.symm
  · have hm : (name, rs[i].f) ∈ d.files := by
      rw [hd]
      exact List.mem_map.2 ⟨rs[i], List.getElem_mem hi', by simp [rPair, hkey]⟩
    unfold fileOf
    rw [kget_of_mem hr hm]
    rfl
theorem ref_Ends {w : World} {g : Nat} {d : Dr} {fp : Nat → Prop} {N : Nat} (h : IsRef w g d fp) (hok : d.Ok N) (hN : N ≤ 1000000000) (name : Key) (rem : Bool) :
    Calls Try.prog 38 #[.pointer (some ⟨g, 0, none⟩), .string (S name), .bool rem] w fun e w' => e = .returned (.int .i64 (if rem then d.remove name else d.sync name).2) ∧ ThenR w g (if rem then d.remove name else d.sync name).1 fp w' := by
  have hfl := hok.files
  have At := hid (ref_at h name (by omega))
  have M := hid (fun e => ref_may h hok.left.1 hok.left.2 e)
  rcases atN_spec name d.files 0 with ⟨q1, q2⟩ | ⟨i, hi, q1, q2, q3⟩
  · have e0 : d.thereE name = 10 := by unfold Dr.thereE; rw [q2]; rfl
    have E := hid (show (if rem then d.remove name else d.sync name) = d.may 10 by
      unfold Dr.remove Dr.sync
      rw [e0, deed_ne (by omega), deed_ne (by omega)]
      split <;> rfl)
    have hne : ((d.may 10).2 == 0) = false := by simpa using may_ne (d := d) (e := 10) (by omega)
    have hne2 : ¬ (d.may 10).2 = 0 := may_ne (by omega)
    have M1 := hid (M.out 10)
    rw [q1] at At
    rw [E.out]
    clear h hok M q1 q2 e0 hfl E
    generalize d.may 10 = me at *
    go_enter Try.func38, Try.ntmps38
    go_wp2_with fail
    refine At.out.mono ?_
    rintro e w1 ⟨rfl, hw⟩
    have hw' := hw.symm
    subst hw'
    go_wp2_with fail
    refine M1.out.mono ?_
    rintro e w2 ⟨rfl, h2, t2⟩
    have HR := hid (show ThenR w g me.1 fp w2 from ⟨fp, h2, t2⟩)
    clear h2 t2 M1
    go_wp2
    go_ret
    exact ⟨rfl, HR.out⟩
  · have e0 : d.thereE name = 0 := by unfold Dr.thereE; rw [q3]; rfl
    have M1 := hid (M.out 0)
    rw [q1, Nat.zero_add] at At
    by_cases hm : (d.may 0).2 = 0
    · have hmf := may_rest d 0
      have hmo := hok.may 0
      rw [hm] at M1
      cases rem with
      | true =>
        have E := hid (show (if true then d.remove name else d.sync name) = ({ (d.may 0).1 with files := kdel (d.may 0).1.files name }, 0) by
          rw [if_pos rfl]
          unfold Dr.remove Dr.deed
          rw [e0, if_pos hm])
        rw [E.out]
        clear E
        generalize (d.may 0).1 = dm at *
        have hi2 : i < dm.files.length := by rw [hmf]; exact hi
        have hkd : kdel dm.files name = dm.files.take i ++ dm.files.drop (i + 1) := by
          have := kdel_at hmo.rising hi2
          have hn2 : dm.files[i].1 = name := by simp only [hmf]; exact q2
          rw [hn2] at this
          exact this
        have CUT := hid (fun (W : World) (hW : IsRef W g dm fp) => ref_cut hW (by rw [hmf]; exact hfl) i hi2)
        rw [hkd]
        clear h hok M q1 q2 q3 e0 hfl hmf hmo hm hi hi2 hkd
        go_enter Try.func38, Try.ntmps38
        go_wp2_with fail
        refine At.out.mono ?_
        rintro e w1 ⟨rfl, hw⟩
        have hw' := hw.symm
        subst hw'
        go_wp2_with fail
        refine M1.out.mono ?_
        rintro e w2 ⟨rfl, h2, t2⟩
        have P2 := hid (CUT.out w2 h2)
        have T2 := hid t2
        clear h2 t2 M1 CUT
        go_wp2_with fail
        refine P2.out.mono ?_
        rintro e w3 ⟨rfl, h3, -⟩
        have HR := hid (h3.after T2.out)
        clear h3 P2
        go_wp2
        go_ret
        exact ⟨rfl, HR.out⟩
      | false =>
        have E := hid (show (if false then d.remove name else d.sync name) = ({ (d.may 0).1 with files := kput (d.may 0).1.files name ⟨(fileOf (d.may 0).1 name).all, []⟩ }, 0) by
          rw [if_neg (by simp)]
          unfold Dr.sync Dr.deed
          rw [e0, if_pos hm])
        rw [E.out]
        clear E
        generalize (d.may 0).1 = dm at *
        have hi2 : i < dm.files.length := by rw [hmf]; exact hi
        have hn2 : dm.files[i].1 = name := by simp only [hmf]; exact q2
        clear h hok M q1 q2 q3 e0 hfl hmf hm hi
        go_enter Try.func38, Try.ntmps38
        go_wp2_with fail
        refine At.out.mono ?_
        rintro e w1 ⟨rfl, hw⟩
        have hw' := hw.symm
        subst hw'
        go_wp2_with fail
        refine M1.out.mono ?_
        rintro e w2 ⟨rfl, h2, t2⟩
        have T2 := hid t2
        obtain ⟨v, rs, hB, hF, hd⟩ := h2.has
        obtain ⟨hi', hkey, -, hput, -, hfo⟩ := found_at hd hmo hi2 hn2
        obtain ⟨b, c, rfl, hbl, hn, e0, e1, e2⟩ := hF.elem hi'
        obtain ⟨p1, p2, p3, p4⟩ := IsRef.place hF hd hmo hN hi'
        have c0 := hB.cell 0
        simp [refCells] at c0
        have hglt := hB.lt
        have AL := hid (ref_All (w := w2.drew) (fp := fp) (r := rs[i]) ⟨row_keep p4.row (fun _ _ => rfl), p4.own⟩ p2 (by omega))
        have hfin : ∀ W, Below w2.heap.size w2 W → ThenR w g { dm with files := kput dm.files name ⟨(fileOf dm name).all, []⟩ } fp (setRF W b i ⟨name, ⟨rs[i].f.all, []⟩, .slice none 0 0⟩) := fun W hW => by
          refine ThenR.after T2.out (h2.setElem hB hF hi' hW ⟨World.ownsRow_nil _ _ _ _, by simp [Value.ownBlock]⟩ ?_ rfl rfl rfl rfl)
          rw [hput _ rfl, hfo]
        have FIN := hid hfin
        have hfz : ∀ j, w2.frozen? ⟨b, j, none⟩ = false := fun j => by
          obtain ⟨cs, hcs⟩ := row_heap hF.row (k := b) rfl
          simp [World.frozen?, hcs]
        have hir : (i : Int) < rs.length := by omega
        obtain ⟨Ap, cp, hpv⟩ := row_form p4.row
        unfold rAgg at AL
        rw [hpv] at e2 AL
        have EF := hid (fun W (hW : Below w2.drew.heap.size w2.drew W) => show W.cell? ⟨g, 0, none⟩ = some (.slice (some ⟨b, 0, none⟩) rs.length c) ∧ W.cell? ⟨b, i * 3, none⟩ = some (.string (S rs[i].key)) ∧ W.cell? ⟨b, i * 3 + 1, none⟩ = some (.string (S rs[i].f.safe)) ∧ W.cell? ⟨b, i * 3 + 2, none⟩ = some (.slice Ap rs[i].f.pieces.length cp) ∧
            W.frozen? ⟨b, i * 3, none⟩ = false ∧ W.frozen? ⟨b, i * 3 + 1, none⟩ = false ∧ W.frozen? ⟨b, i * 3 + 2, none⟩ = false from
          ⟨(hW.cell (p := ⟨g, 0, none⟩) hglt).trans c0, (hW.cell (p := ⟨b, _, none⟩) hbl).trans e0, (hW.cell (p := ⟨b, _, none⟩) hbl).trans e1, (hW.cell (p := ⟨b, _, none⟩) hbl).trans e2, (hW.frozen (p := ⟨b, _, none⟩) hbl).trans (hfz _), (hW.frozen (p := ⟨b, _, none⟩) hbl).trans (hfz _), (hW.frozen (p := ⟨b, _, none⟩) hbl).trans (hfz _)⟩)
        have hKEY := hid hkey
        clear h2 t2 M1 hB hF hd hput hfo p1 p2 p3 p4 hfin hfz hpv hmo hi2 hn2 hkey
        generalize rs[i].key = ky at *
        generalize rs[i].f.safe = sf at *
        generalize rs[i].f.pieces.length = np at *
        generalize rs[i].f.all = al at *
        generalize rs.length = n at *
        go_wp2
        refine region_anyK (fun w' => w'.cell? ⟨g, 0, none⟩ = some (.slice (some ⟨b, 0, none⟩) n c) ∧ w'.cell? ⟨b, i * 3, none⟩ = some (.string (S ky)) ∧ w'.cell? ⟨b, i * 3 + 1, none⟩ = some (.string (S sf)) ∧ w'.cell? ⟨b, i * 3 + 2, none⟩ = some (.slice Ap np cp)) 16 (by kernel_rfl) (by ((try dsimp only); first | assumption | simp [*, go_sem, World.cell?_alloc_past])) (fun hSk => ?_)
        refine anyK_take 0 [0] (v := ?_) rfl (by kernel_rfl) (by kernel_rfl) (fun _ _ _ h => h) (Or.inl ⟨by rfl, ?_⟩) hSk ?_
        rotate_left
        · intro w' hSw; (try dsimp only at hSw); go_simp; try with_reducible rfl
        try simp only [Act.put, List.setIfInBounds_toArray, List.set_cons_zero, List.set_cons_succ]
        refine anyK_take 1 [1] (v := ?_) rfl (by kernel_rfl) (by kernel_rfl) (fun _ _ _ h => h) (Or.inl ⟨by rfl, ?_⟩) hSk ?_
        rotate_left
        · intro w' hSw; (try dsimp only at hSw); go_simp; try with_reducible rfl
        try simp only [Act.put, List.setIfInBounds_toArray, List.set_cons_zero, List.set_cons_succ]
        refine anyK_take 2 [2] (v := ?_) rfl (by kernel_rfl) (by kernel_rfl) (fun _ _ _ h => h) (Or.inl ⟨by rfl, ?_⟩) hSk ?_
        rotate_left
        · intro w' hSw; (try dsimp only at hSw); go_simp; try with_reducible rfl
        try simp only [Act.put, List.setIfInBounds_toArray, List.set_cons_zero, List.set_cons_succ]
        refine anyK_take 3 [3] (v := ?_) rfl (by kernel_rfl) (by kernel_rfl) (fun _ _ _ h => h) (Or.inl ⟨by rfl, ?_⟩) hSk ?_
        rotate_left
        · intro w' hSw; (try dsimp only at hSw); go_simp; try with_reducible rfl
        try simp only [Act.put, List.setIfInBounds_toArray, List.set_cons_zero, List.set_cons_succ]
        refine anyK_take 4 [4] (v := ?_) rfl (by kernel_rfl) (by kernel_rfl) (fun _ _ _ h => h) (Or.inl ⟨by rfl, ?_⟩) hSk ?_
        rotate_left
        · intro w' hSw; (try dsimp only at hSw); go_simp; try with_reducible rfl
        try simp only [Act.put, List.setIfInBounds_toArray, List.set_cons_zero, List.set_cons_succ]
        refine anyK_take 5 [5] (v := ?_) rfl (by kernel_rfl) (by kernel_rfl) (fun _ _ _ h => h) (Or.inl ⟨by rfl, ?_⟩) hSk ?_
        rotate_left
        · intro w' hSw; (try dsimp only at hSw); go_simp; try with_reducible rfl
        try simp only [Act.put, List.setIfInBounds_toArray, List.set_cons_zero, List.set_cons_succ]
        refine anyK_take 6 [6] (v := ?_) rfl (by kernel_rfl) (by kernel_rfl) (fun _ _ _ h => h) (Or.inl ⟨by rfl, ?_⟩) hSk ?_
        rotate_left
        · intro w' hSw; (try dsimp only at hSw); go_simp; try with_reducible rfl
        try simp only [Act.put, List.setIfInBounds_toArray, List.set_cons_zero, List.set_cons_succ]
        refine anyK_take 7 [7] (v := ?_) rfl (by kernel_rfl) (by kernel_rfl) (fun _ _ _ h => h) (Or.inl ⟨by rfl, ?_⟩) hSk ?_
        rotate_left
        · intro w' hSw; (try dsimp only at hSw); go_simp; try with_reducible rfl
        try simp only [Act.put, List.setIfInBounds_toArray, List.set_cons_zero, List.set_cons_succ]
        refine anyK_take 8 [8] (v := ?_) rfl (by kernel_rfl) (by kernel_rfl) (fun _ _ _ h => h) (Or.inl ⟨by rfl, ?_⟩) hSk ?_
        rotate_left
        · intro w' hSw; (try dsimp only at hSw); go_simp; try with_reducible rfl
        try simp only [Act.put, List.setIfInBounds_toArray, List.set_cons_zero, List.set_cons_succ]
        refine anyK_take 9 [9] (v := ?_) rfl (by kernel_rfl) (by kernel_rfl) (fun _ _ _ h => h) (Or.inl ⟨by rfl, ?_⟩) hSk ?_
        rotate_left
        · intro w' hSw; (try dsimp only at hSw); go_simp; try with_reducible rfl
        try simp only [Act.put, List.setIfInBounds_toArray, List.set_cons_zero, List.set_cons_succ]
        refine anyK_take 10 [10] (v := ?_) rfl (by kernel_rfl) (by kernel_rfl) (fun _ _ _ h => h) (Or.inl ⟨by rfl, ?_⟩) hSk ?_
        rotate_left
        · intro w' hSw; (try dsimp only at hSw); go_simp; try with_reducible rfl
        try simp only [Act.put, List.setIfInBounds_toArray, List.set_cons_zero, List.set_cons_succ]
        refine anyK_take 11 [11] (v := ?_) rfl (by kernel_rfl) (by kernel_rfl) (fun _ _ _ h => h) (Or.inl ⟨by rfl, ?_⟩) hSk ?_
        rotate_left
        · intro w' hSw; (try dsimp only at hSw); go_simp; try with_reducible rfl
        try simp only [Act.put, List.setIfInBounds_toArray, List.set_cons_zero, List.set_cons_succ]
        refine anyK_take 12 [12] (v := ?_) rfl (by kernel_rfl) (by kernel_rfl) (fun _ _ _ h => h) (Or.inl ⟨by rfl, ?_⟩) hSk ?_
        rotate_left
        · intro w' hSw; (try dsimp only at hSw); go_simp; try with_reducible rfl
        try simp only [Act.put, List.setIfInBounds_toArray, List.set_cons_zero, List.set_cons_succ]
        refine anyK_only 13 (by kernel_rfl) rfl (fun K hK => ?_)
        (first | (rw [if_pos (by rfl)]; go_simp; go_at_call 67; refine AL.out.mono ?_; rintro e w3 ⟨rfl, hb3⟩; obtain ⟨p0, p1, p2, p3, p4, p5, p6⟩ := EF.out w3 hb3; have HB3 := hid hb3; clear hb3; go_wp2_with fail) | go_simp)
        clear hSk
        refine hK.out _ _ (by ((try dsimp only); first | assumption | simp [*, go_sem, World.cell?_alloc_past])) (fun hSk => ?_)
        clear hK K
        try simp only [Act.put, List.setIfInBounds_toArray, List.set_cons_zero, List.set_cons_succ]
        refine anyK_take 14 [14] (v := ?_) rfl (by kernel_rfl) (by kernel_rfl) (fun _ _ _ h => h) (Or.inl ⟨by rfl, ?_⟩) hSk ?_
        rotate_left
        · intro w' hSw; (try dsimp only at hSw); go_simp; try with_reducible rfl
        try simp only [Act.put, List.setIfInBounds_toArray, List.set_cons_zero, List.set_cons_succ]
        refine anyK_take 15 [15] (v := ?_) rfl (by kernel_rfl) (by kernel_rfl) (fun _ _ _ h => h) (Or.inl ⟨by rfl, ?_⟩) hSk ?_
        rotate_left
        · intro w' hSw; (try dsimp only at hSw); go_simp; try with_reducible rfl
        try simp only [Act.put, List.setIfInBounds_toArray, List.set_cons_zero, List.set_cons_succ]
        refine anyK_last (by kernel_rfl) rfl (by kernel_rfl) (fun K hK => ?_)
        go_simp
        refine hK.out _ _ ?_
        clear hK K
        try simp only [Act.put, List.setIfInBounds_toArray, List.set_cons_zero, List.set_cons_succ]
        refine anyK_done (by kernel_rfl) ?_ _
        clear hSk
        go_wp2
        go_ret
        exact ⟨rfl, FIN.out w3 ((Below.refl _ _).drew.trans HB3.out)⟩
    · have E := hid (show (if rem then d.remove name else d.sync name) = d.may 0 by
        unfold Dr.remove Dr.sync Dr.deed
        rw [e0, if_neg hm, if_neg hm]
        split <;> rfl)
      have hne : ((d.may 0).2 == 0) = false := by simpa using hm
      rw [E.out]
      clear h hok M q1 q2 q3 e0 hfl E hi
      generalize d.may 0 = me at *
      go_enter Try.func38, Try.ntmps38
      go_wp2_with fail
      refine At.out.mono ?_
      rintro e w1 ⟨rfl, hw⟩
      have hw' := hw.symm
      subst hw'
      go_wp2_with fail
      refine M1.out.mono ?_
      rintro e w2 ⟨rfl, h2, t2⟩
      have HR := hid (show ThenR w g me.1 fp w2 from ⟨fp, h2, t2⟩)
      clear h2 t2 M1
      go_wp2
      go_ret
      exact ⟨rfl, HR.out⟩
end Go.Proofs.Ytioillenlgpcgaa

set_option linter.unusedVariables false
set_option linter.unusedSimpArgs false
set_option maxHeartbeats 3200000
set_option maxRecDepth 100000
namespace Go.Proofs.Ytioillenlgpcgaa
open Go.RowKit

theorem IsRef.widen {w : World} {g : Nat} {d : Dr} {fp fp' : Nat → Prop} (h : IsRef w g d fp) (hs : ∀ k, fp k → fp' k) (hl : ∀ k, fp' k → k < w.heap.size) : IsRef w g d fp' := by
  obtain ⟨v, rs, hb, hf, hd⟩ := h.has
  exact ⟨hl, hs _ h.own, v, rs, hb, hf.keep (fun _ _ _ _ _ _ => rfl) hs, hd⟩
theorem kput_len {α : Type} (m : List (Key × α)) (k : Key) (v : α) : (kput m k v).length ≤ m.length + 1 := length_kput_le k v m
theorem ref_Rename {w : World} {g : Nat} {d : Dr} {fp : Nat → Prop} {N : Nat} (h : IsRef w g d fp) (hok : d.Ok N) (hN : N ≤ 1000000000) (a b : Key) (hl : b.length ≤ 1000000) :
    Calls Try.prog 40 #[.pointer (some ⟨g, 0, none⟩), .string (S a), .string (S b)] w fun e w' => e = .returned (.int .i64 (d.rename a b).2) ∧ ThenR w g (d.rename a b).1 fp w' := by
  have hfl := hok.files
  have At := hid (ref_at h a (by omega))
  have Nm := hid (ref13_Named b hl w)
  have M := hid (fun e => ref_may h hok.left.1 hok.left.2 e)
  have ERR : ∀ e, d.renameE a b = e → e ≠ 0 → Hid (d.rename a b = d.may e ∧ (((d.may e).2 == 0) = false)) := fun e he hne => ⟨by unfold Dr.rename; rw [he]; exact deed_ne hne _, by simpa using may_ne (d := d) hne⟩
  rcases atN_spec a d.files 0 with ⟨q1, q2⟩ | ⟨i, hi, q1, q2, q3⟩
  · have E := ERR 10 (by unfold Dr.renameE Dr.thereE; rw [q2]; rfl) (by omega)
    have M1 := hid (M.out 10)
    have hne := E.out.2
    rw [q1] at At
    rw [E.out.1]
    clear h hok ERR M q1 q2 hfl
    generalize d.may 10 = me at *
    go_enter Try.func40, Try.ntmps40
    go_wp2_with fail
    refine At.out.mono ?_
    rintro e w1 ⟨rfl, hw⟩
    have hw' := hw.symm
    subst hw'
    go_wp2_with fail
    refine Nm.out.mono ?_
    rintro e w1 ⟨rfl, hw⟩
    have hw' := hw.symm
    subst hw'
    go_wp2_with fail
    refine M1.out.mono ?_
    rintro e w2 ⟨rfl, h2, t2⟩
    have HR := hid (show ThenR w g me.1 fp w2 from ⟨fp, h2, t2⟩)
    clear h2 t2 M1
    go_wp2
    go_ret
    exact ⟨rfl, HR.out⟩
  · rw [q1, Nat.zero_add] at At
    cases hn : namedB b with
    | false =>
      have E := ERR 1 (by unfold Dr.renameE Dr.thereE; rw [q3, hn]; rfl) (by omega)
      have M1 := hid (M.out 1)
      have hne := E.out.2
      rw [hn] at Nm
      rw [E.out.1]
      clear h hok ERR M q1 q2 q3 hfl hn hi
      generalize d.may 1 = me at *
      go_enter Try.func40, Try.ntmps40
      go_wp2_with fail
      refine At.out.mono ?_
      rintro e w1 ⟨rfl, hw⟩
      have hw' := hw.symm
      subst hw'
      go_wp2_with fail
      refine Nm.out.mono ?_
      rintro e w1 ⟨rfl, hw⟩
      have hw' := hw.symm
      subst hw'
      go_wp2_with fail
      refine M1.out.mono ?_
      rintro e w2 ⟨rfl, h2, t2⟩
      have HR := hid (show ThenR w g me.1 fp w2 from ⟨fp, h2, t2⟩)
      clear h2 t2 M1
      go_wp2
      go_ret
      exact ⟨rfl, HR.out⟩
    | true =>
      rw [hn] at Nm
      have e0 : d.renameE a b = 0 := by unfold Dr.renameE Dr.thereE; rw [q3, hn]; rfl
      have M1 := hid (M.out 0)
      by_cases hm : (d.may 0).2 = 0
      · have hmf := may_rest d 0
        have hmo := hok.may 0
        rw [hm] at M1
        have E := hid (show d.rename a b = ({ (d.may 0).1 with files := kput (kdel (d.may 0).1.files a) b (fileOf (d.may 0).1 a) }, 0) by unfold Dr.rename Dr.deed; rw [e0, if_pos hm])
        rw [E.out]
        clear E
        generalize (d.may 0).1 = dm at *
        have hi2 : i < dm.files.length := by rw [hmf]; exact hi
        have hn2 : dm.files[i].1 = a := by simp only [hmf]; exact q2
        have hfl2 : dm.files.length ≤ 65536 := by rw [hmf]; exact hfl
        clear h hok M q1 q2 q3 e0 hfl hmf hm hi ERR hn
        go_enter Try.func40, Try.ntmps40
        go_wp2_with fail
        refine At.out.mono ?_
        rintro e w1 ⟨rfl, hw⟩
        have hw' := hw.symm
        subst hw'
        go_wp2_with fail
        refine Nm.out.mono ?_
        rintro e w1 ⟨rfl, hw⟩
        have hw' := hw.symm
        subst hw'
        go_wp2_with fail
        refine M1.out.mono ?_
        rintro e w2 ⟨rfl, h2, t2⟩
        have T2 := hid t2
        obtain ⟨v, rs, hB, hF, hd⟩ := h2.has
        obtain ⟨hi', hkey, hkd, -, -, hfo⟩ := found_at hd hmo hi2 hn2
        obtain ⟨bb, c, rfl, hbl, hnc, e0, e1, e2⟩ := hF.elem hi'
        obtain ⟨p1, p2, p3, p4⟩ := IsRef.place hF hd hmo hN hi'
        have c0 := hB.cell 0
        simp [refCells] at c0
        have hir : (i : Int) < rs.length := by omega
        obtain ⟨Ap, cp, hpv⟩ := row_form p4.row
        rw [hpv] at e2 p4
        have hrise : Rising (dm.files.take i ++ dm.files.drop (i + 1)) := by rw [← hkd]; exact Rising.del hmo.rising a
        have hfe : kput (kdel dm.files a) b (fileOf dm a) = kput (dm.files.take i ++ dm.files.drop (i + 1)) b rs[i].f := by rw [hkd, hfo]
        have HFE := hid hfe
        have hll : (dm.files.take i ++ dm.files.drop (i + 1)).length ≤ 65536 := by simp; omega
        have b2 : Below w2.heap.size w2 (w2.alloc (.cells #[.string (S rs[i].key), .string (S rs[i].f.safe), .slice Ap rs[i].f.pieces.length cp] 78)) := (Below.refl _ _).alloc (Nat.le_refl _) _
        have hbq := Blk.new w2 78 #[.string (S rs[i].key), .string (S rs[i].f.safe), .slice Ap rs[i].f.pieces.length cp]
        have CUT := hid (ref_cut (h2.below b2) hfl2 i hi2)
        have hafter : ∀ w3, ThenR (w2.alloc (.cells #[.string (S rs[i].key), .string (S rs[i].f.safe), .slice Ap rs[i].f.pieces.length cp] 78)) g { dm with files := dm.files.take i ++ dm.files.drop (i + 1) } fp w3 → (∀ q, q < (w2.alloc (.cells #[.string (S rs[i].key), .string (S rs[i].f.safe), .slice Ap rs[i].f.pieces.length cp] 78)).heap.size → q ≠ g → w3.heap[q]? = (w2.alloc (.cells #[.string (S rs[i].key), .string (S rs[i].f.safe), .slice Ap rs[i].f.pieces.length cp] 78)).heap[q]?) →
            Blk w3 w2.heap.size 78 #[.string (S rs[i].key), .string (S rs[i].f.safe), .slice Ap rs[i].f.pieces.length cp] ∧
            Calls Try.prog 65 #[.pointer (some ⟨g, 0, none⟩), rAgg ⟨b, rs[i].f, .slice Ap rs[i].f.pieces.length cp⟩] (w3.setCell ⟨w2.heap.size, 0, none⟩ (.string (S b))) fun e w' => e = .returned (.tuple #[]) ∧ ThenR w g { dm with files := kput (dm.files.take i ++ dm.files.drop (i + 1)) b rs[i].f } fp w' := by
          intro w3 h3 hfr
          obtain ⟨fp3, k1, k2⟩ := h3
          have hgq : w2.heap.size ≠ g := by have := h2.lt g h2.own; omega
          have hs3 := k2.size
          simp at hs3
          have hnq : ¬ fp3 w2.heap.size := fun hk => by
            rcases k2.new _ hk with hk | hk
            · have := h2.lt _ hk; omega
            · simp at hk
              omega
          have hB3 : Blk w3 w2.heap.size 78 #[.string (S rs[i].key), .string (S rs[i].f.safe), .slice Ap rs[i].f.pieces.length cp] := (hfr _ (by simp) hgq).trans hbq
          refine ⟨hB3, ?_⟩
          have k4 : IsRef (w3.setCell ⟨w2.heap.size, 0, none⟩ (.string (S b))) g { dm with files := dm.files.take i ++ dm.files.drop (i + 1) } (fun k => fp3 k ∨ fp k) := by
            refine (k1.keep (w' := w3.setCell ⟨w2.heap.size, 0, none⟩ (.string (S b))) (by rw [set_size]; exact Nat.le_refl _) (fun k hk => set_other _ _ _ _ k (by rintro rfl; exact hnq hk))).widen (fun k hk => .inl hk) (fun k hk => ?_)
            rw [set_size]
            rcases hk with hk | hk
            · exact k1.lt k hk
            · have := h2.lt k hk; omega
          have hst : StrsRow (w3.setCell ⟨w2.heap.size, 0, none⟩ (.string (S b))) (fun k => fp3 k ∨ fp k) (.slice Ap rs[i].f.pieces.length cp) rs[i].f.pieces := by
            refine p4.keep (fun q cs hq hc => ?_) (fun q hq => .inr hq)
            have hql := h2.lt q hq
            have hqg : q ≠ g := by
              rintro rfl
              have hB' : w2.heap[q]? = _ := hB
              rw [hc] at hB'
              injection hB' with e
              injection e with _ e
              exact absurd e (by decide)
            exact (set_other _ _ _ _ q (by omega)).trans ((hfr q (by simp; omega) hqg).trans (b2.block q hql))
          refine (ref_put k4 hrise hll ⟨b, rs[i].f, .slice Ap rs[i].f.pieces.length cp⟩ hst).mono ?_
          rintro e w5 ⟨rfl, fp5, j1, j2⟩
          refine ⟨rfl, fp5, j1, ⟨?_, ?_, ?_, ?_, ?_, ?_⟩⟩
          · exact j2.os.trans (k2.os.trans T2.out.os)
          · exact j2.tape.trans (k2.tape.trans T2.out.tape)
          · exact j2.output.trans (k2.output.trans T2.out.output)
          · have a1 := j2.size
            have a2 := T2.out.size
            rw [set_size] at a1
            omega
          · intro q hq hnf
            have a2 := T2.out.size
            have hqg : q ≠ g := by rintro rfl; exact hnf h2.own
            have hn3 : ¬ fp3 q := fun hk => by
              rcases k2.new q hk with hk | hk
              · exact hnf hk
              · simp at hk; omega
            refine (j2.block q (by rw [set_size]; omega) (by rintro (hk | hk); exact hn3 hk; exact hnf hk)).trans ?_
            exact (set_other _ _ _ _ q (by omega)).trans ((hfr q (by simp; omega) hqg).trans ((b2.block q (by omega)).trans (T2.out.block q hq hnf)))
          · intro q hq
            have a2 := T2.out.size
            rcases j2.new q hq with hq | hq
            · rcases hq with hq | hq
              · rcases k2.new q hq with hq | hq
                · exact .inl hq
                · simp at hq; exact .inr (by omega)
              · exact .inl hq
            · rw [set_size] at hq
              exact .inr (by omega)
        have AFT := hid hafter
        clear h2 t2 M1 hB hF hd hkd hfo p1 p2 p3 p4 hmo hi2 hn2 hkey hrise hll b2 hbq hafter hfe hfl2 hpv
        unfold rAgg at AFT
        generalize rs[i].key = ky at *
        generalize rs[i].f.safe = sf at *
        generalize rs[i].f.pieces.length = np at *
        generalize rs[i].f = rf at *
        generalize rs.length = n at *
        go_wp2_with fail
        refine CUT.out.mono ?_
        rintro e w3 ⟨rfl, h3, hfr⟩
        obtain ⟨hB3, hput⟩ := AFT.out w3 h3 hfr
        have PUT := hid hput
        have d0 := hB3.cell 0
        have d1 := hB3.cell 1
        have d2 := hB3.cell 2
        simp only [List.getElem?_toArray, List.getElem?_cons_zero, List.getElem?_cons_succ] at d0 d1 d2
        have z0 := hB3.frozen 0
        clear h3 hfr hB3 hput AFT CUT
        go_wp2_with fail
        refine PUT.out.mono ?_
        rintro e w5 ⟨rfl, h5⟩
        have HR := hid h5
        clear h5 PUT
        go_wp2
        go_ret
        exact ⟨rfl, by rw [HFE.out]; exact HR.out⟩
      · have E := hid (show d.rename a b = d.may 0 by unfold Dr.rename Dr.deed; rw [e0, if_neg hm])
        have hne : ((d.may 0).2 == 0) = false := by simpa using hm
        rw [E.out]
        clear h hok M q1 q2 q3 e0 hfl E hi ERR hn
        generalize d.may 0 = me at *
        go_enter Try.func40, Try.ntmps40
        go_wp2_with fail
        refine At.out.mono ?_
        rintro e w1 ⟨rfl, hw⟩
        have hw' := hw.symm
        subst hw'
        go_wp2_with fail
        refine Nm.out.mono ?_
        rintro e w1 ⟨rfl, hw⟩
        have hw' := hw.symm
        subst hw'
        go_wp2_with fail
        refine M1.out.mono ?_
        rintro e w2 ⟨rfl, h2, t2⟩
        have HR := hid (show ThenR w g me.1 fp w2 from ⟨fp, h2, t2⟩)
        clear h2 t2 M1
        go_wp2
        go_ret
        exact ⟨rfl, HR.out⟩
end Go.Proofs.Ytioillenlgpcgaa
