/- Walk of the document's drive: Append. Walk of the document's drive: Up. -/
import Derived.Test.YtioillenlgpcgaaRef6
import Derived.Test.YtioillenlgpcgaaUp
set_option linter.unusedVariables false
set_option linter.unusedSimpArgs false
set_option maxHeartbeats 1600000
set_option maxRecDepth 100000
attribute [local go_sem ↓] Go.wp_at_zero Go.wp_at_succ
namespace Go.Proofs.Ytioillenlgpcgaa
open Go.RowKit

theorem info_str : ∃ i, (Try.prog).info? 9 = some i ∧ i.zero = some (.string ByteArray.empty) ∧ i.size = 1 ∧ i.bytes = 16 := by
  have h : ((Try.prog).info? 9).map (fun i => (i.zero, i.size, i.bytes)) = some (some (.string ByteArray.empty), 1, 16) := by kernel_rfl
  obtain ⟨i, hi, he⟩ := Option.map_eq_some_iff.1 h
  simp only [Prod.mk.injEq] at he
  exact ⟨i, hi, he.1, he.2.1, he.2.2⟩
abbrev strV (l : List UInt8) : Value := .string (S l)
/-- append(own, row...) of texts: whatever row. -/
theorem wpList_append_strs {W : World} {ops : Array Oper} {rest : List Oper} {o : Oper} {a : Act} {Q : Exit → Act → World → Prop} (hgd : o.guard = none) (s x : Operand) {base : Nat} {A B : Option Addr} {c m cb : Nat} {os ns : List (List UInt8)}
    (ho : o.op = .call { callee := .builtin .append, args := #[s, x], argTypes := #[22, 22] }) (hty : o.type = 22) (hs : a.eval s = .slice A os.length c) (hx : a.eval x = .slice B m cb)
    (hm : m = ns.length) (hown : W.ownsRow base 9 1 (.slice A os.length c) os.length (os.map strV)) (hnone : B = none → m = 0) (hcell : ∀ ad, B = some ad → ∀ j u, (ns.map strV)[j]? = some u → W.cell? (ad.add j) = some u)
    (hl : os.length + ns.length ≤ 2000000000) (hbase : base ≤ W.heap.size)
    (h : ∀ A' c' w', w'.ownsRow base 9 1 (.slice A' (os ++ ns).length c') (os ++ ns).length ((os ++ ns).map strV) → Below base W w' → wpList Try.prog ops Q rest (a.put o.dst (.slice A' (os ++ ns).length c')) w') :
    wpList Try.prog ops Q (o :: rest) a W := by
  subst hm
  obtain ⟨i, hi, hz, hsz, hby⟩ := info_str
  obtain ⟨v', w', hrun, hown1, hgrow, hat⟩ := run_append_row (P := Try.prog) W base 22 22 9 i _ 1 16 (by kernel_rfl) hi hz hsz hby rfl (by decide) _ _ _ hown B ns.length cb (ns.map strV) (by simp) hnone hcell
    (fun u hu => by
      obtain ⟨r, hr, rfl⟩ := List.mem_map.1 hu
      rfl)
    (by unfold maxLen; omega) (by omega) hbase
  have hlen : (os ++ ns).length = os.length + ns.length := by simp
  have hfl : (os ++ ns).map strV = os.map strV ++ ns.map strV := by simp
  rw [← hlen, ← hfl] at hown1
  obtain ⟨A', c', rfl⟩ := row_form hown1
  exact wpList_append_run hgd s x _ ho _ _ _ _ hs hx (by rw [hty]; exact hrun) (h A' c' w' hown1 ((Below.refl base W).grown hgrow hbase fun k hk => row_base_le hown hk))
theorem cell_one_text {W : World} {d : List UInt8} {ad : Addr} (had : (some ⟨W.heap.size, 0, none⟩ : Option Addr) = some ad) {j : Nat} {u : Value} (hu : ([d].map strV)[j]? = some u) : (W.alloc (.cells #[.string (S d)] 9)).cell? (ad.add j) = some u := by
  injection had with had
  subst had
  have h0 : j = 0 := by
    rcases Nat.eq_zero_or_pos j with h | h
    · exact h
    · rw [List.getElem?_eq_none (by simp; omega)] at hu; cases hu
  subst h0
  have : (⟨W.heap.size, 0, none⟩ : Addr).add 0 = ⟨W.heap.size, 0, none⟩ := by simp [Addr.add]
  rw [this, (Blk.new W 9 #[.string (S d)]).cell 0, ← hu]
  rfl
theorem ref_Append {w : World} {g : Nat} {d : Dr} {fp : Nat → Prop} {N : Nat} (h : IsRef w g d fp) (hok : d.Ok N) (hN : N ≤ 1000000000) (name : Key) (data : List UInt8) (hdl : data.length ≤ 1000000000) :
    Calls Try.prog 37 #[.pointer (some ⟨g, 0, none⟩), .string (S name), .string (S data)] w fun e w' => e = .returned (.int .i64 (d.append name data).2) ∧ ThenR w g (d.append name data).1 fp w' := by
  have hfl := hok.files
  have At := hid (ref_at h name (by omega))
  have M := hid (fun W (hW : IsRef W g d fp) e => ref_may hW hok.left.1 hok.left.2 e)
  have ERR : ∀ e, d.appendE name data.length = e → e ≠ 0 → Hid (d.append name data = d.may e ∧ (((d.may e).2 == 0) = false)) := fun e he hne => ⟨by unfold Dr.append; rw [he]; exact deed_ne hne _, by simpa using may_ne (d := d) hne⟩
  rcases atN_spec name d.files 0 with ⟨q1, q2⟩ | ⟨i, hi, q1, q2, q3⟩
  · have E := ERR 10 (by unfold Dr.appendE Dr.thereE; rw [q2]; simp) (by omega)
    have M1 := hid (M.out w h 10)
    have hne := E.out.2
    rw [q1] at At
    rw [E.out.1]
    clear h hok ERR M q1 q2 hfl
    generalize d.may 10 = me at *
    go_enter Try.func37, Try.ntmps37
    go_wp2_with fail
    refine At.out.mono ?_
    rintro e w1 ⟨rfl, hw⟩
    have hw' := hw.symm
    subst hw'
    go_wp2_with fail
    refine M1.out.mono ?_
    rintro e w2 ⟨rfl, h2, t2⟩
    have HR := hid (show ThenR w g me.1 fp w2 from ⟨fp, h2, t2⟩)
    clear h2 t2 M1
    go_wp2
    go_ret
    exact ⟨rfl, HR.out⟩
  · rw [q1, Nat.zero_add] at At
    have e0 : d.thereE name = 0 := by unfold Dr.thereE; rw [q3]; rfl
    obtain ⟨v0, rs0, hB0, -⟩ := h.has
    have cq := hB0.cell 1
    simp [refCells] at cq
    have hglt := hB0.lt
    have hu0 := used_nonneg d
    have hu1 := hok.used
    have hq0 := hok.q0
    have hq1 := hok.q1
    have U := hid (ref_Used (h.below ((Below.refl _ _).drew : Below w.heap.size w w.drew)) hok hN)
    have HB := hid (fun (W : World) (hW : Below w.drew.heap.size w.drew W) => h.below ((Below.refl w.heap.size w).drew.trans hW))
    have TB := hid (fun (W : World) (hW : Below w.drew.heap.size w.drew W) => Touch.of_below ((Below.refl w.heap.size w).drew.trans hW) fp)
    have hwr : IntKind.i64.wrap (d.used + data.length) = d.used + data.length := wrap_small (by omega) (by omega)
    by_cases hfull : d.quota - d.used < data.length
    · have E := ERR 12 (by unfold Dr.appendE; rw [if_pos ⟨e0, hfull⟩]) (by omega)
      have hne := E.out.2
      have hgt : d.quota < d.used + data.length := by omega
      rw [E.out.1]
      have M12 := hid (fun W hW => M.out W hW 12)
      clear h hok ERR q1 q2 q3 hfl hi hfull e0 hB0 M E
      generalize d.may 12 = me at *
      generalize hqq : d.quota = q at *
      generalize huu : d.used = u at *
      go_enter Try.func37, Try.ntmps37
      go_wp2_with fail
      refine At.out.mono ?_
      rintro e w1 ⟨rfl, hw⟩
      have hw' := hw.symm
      subst hw'
      go_wp2
      go_region_held3 (fun w' => w'.cell? ⟨g, 1, none⟩ = some (.int .i64 q)) (simp [*, go_sem, World.cell?_alloc_past])
        (first | (go_at_call 52; refine U.out.mono ?_; rintro e wu ⟨rfl, hbu⟩; have cq1 := (hbu.cell (p := ⟨g, 1, none⟩) hglt).trans cq; have BU := hid hbu; clear hbu))
      all_goals
        have M1 := hid (M12.out wu (HB.out wu BU.out))
        go_wp2_with fail
      refine M1.out.mono ?_
      rintro e w2 ⟨rfl, h2, t2⟩
      have HR := hid (show ThenR w g me.1 fp w2 from ⟨fp, h2, (TB.out wu BU.out).trans t2⟩)
      clear h2 t2 M1
      go_wp2
      go_ret
      exact ⟨rfl, HR.out⟩
    · have e1 : d.appendE name data.length = 0 := by unfold Dr.appendE; rw [if_neg (fun hx => hfull hx.2), e0]
      have hgt : ¬ d.quota < d.used + data.length := by omega
      by_cases hm : (d.may 0).2 = 0
      · have hmf := may_rest d 0
        have hmo := hok.may 0
        have E := hid (show d.append name data = ({ (d.may 0).1 with files := kset (d.may 0).1.files name ⟨(fileOf (d.may 0).1 name).safe, (fileOf (d.may 0).1 name).pieces ++ [data]⟩ }, 0) by
          unfold Dr.append Dr.deed
          rw [e1, if_pos hm])
        rw [E.out]
        clear E
        have M0 := hid (fun W (hW : IsRef W g d fp) => show Calls Try.prog 64 #[.pointer (some ⟨g, 0, none⟩), .int .i64 0] W fun x w' => x = .returned (.int .i64 0) ∧ IsRef w' g (d.may 0).1 fp ∧ Touch W w' fp fp from by
          have := M.out W hW 0
          rw [hm] at this
          exact this)
        generalize (d.may 0).1 = dm at *
        have hi2 : i < dm.files.length := by rw [hmf]; exact hi
        have hn2 : dm.files[i].1 = name := by simp only [hmf]; exact q2
        clear h hok ERR q1 q2 q3 hfl hi hfull e0 e1 hB0 hmf M hm
        generalize hqq : d.quota = q at *
        generalize huu : d.used = u at *
        go_enter Try.func37, Try.ntmps37
        go_wp2_with fail
        refine At.out.mono ?_
        rintro e w1 ⟨rfl, hw⟩
        have hw' := hw.symm
        subst hw'
        go_wp2
        go_region_held3 (fun w' => w'.cell? ⟨g, 1, none⟩ = some (.int .i64 q)) (simp [*, go_sem, World.cell?_alloc_past])
          (first | (go_at_call 52; refine U.out.mono ?_; rintro e wu ⟨rfl, hbu⟩; have cq1 := (hbu.cell (p := ⟨g, 1, none⟩) hglt).trans cq; have BU := hid hbu; clear hbu))
        all_goals
          have M1 := hid (M0.out wu (HB.out wu BU.out))
          go_wp2_with fail
        refine M1.out.mono ?_
        rintro e w2 ⟨rfl, h2, t2⟩
        have T2 := hid ((TB.out wu BU.out).trans t2)
        obtain ⟨v, rs, hB, hF, hd⟩ := h2.has
        obtain ⟨hi', hkey, -, -, hset, hfo⟩ := found_at hd hmo hi2 hn2
        obtain ⟨bb, c, rfl, hbl, hnc, c0, c1, c2⟩ := hF.elem hi'
        obtain ⟨p1, p2, p3, p4⟩ := IsRef.place hF hd hmo hN hi'
        have g0 := hB.cell 0
        simp [refCells] at g0
        have hg2 := hB.lt
        have hir : (i : Int) < rs.length := by omega
        obtain ⟨Ap, cp, hpv⟩ := row_form p4.row
        rw [hpv] at c2 p4
        have b2 : Below w2.heap.size w2 (w2.alloc (.cells #[.string (S rs[i].key), .string (S rs[i].f.safe), .slice Ap rs[i].f.pieces.length cp] 78)) := (Below.refl _ _).alloc (Nat.le_refl _) _
        have hbq := Blk.new w2 78 #[.string (S rs[i].key), .string (S rs[i].f.safe), .slice Ap rs[i].f.pieces.length cp]
        have hoff := row_offer (row_alloc p4.row (.cells #[.string (S rs[i].key), .string (S rs[i].f.safe), .slice Ap rs[i].f.pieces.length cp] 78))
        have hfz : ∀ j, w2.frozen? ⟨bb, j, none⟩ = false := fun j => by
          obtain ⟨cs, hcs⟩ := row_heap hF.row (k := bb) rfl
          simp [World.frozen?, hcs]
        have hfin : ∀ W A2 c2, Below (w2.heap.size + 1) (w2.alloc (.cells #[.string (S rs[i].key), .string (S rs[i].f.safe), .slice Ap rs[i].f.pieces.length cp] 78)) W → W.ownsRow (w2.heap.size + 1) 9 1 (.slice A2 (rs[i].f.pieces ++ [data]).length c2) (rs[i].f.pieces ++ [data]).length ((rs[i].f.pieces ++ [data]).map strV) →
            ThenR w g { dm with files := kset dm.files name ⟨(fileOf dm name).safe, (fileOf dm name).pieces ++ [data]⟩ } fp (setRF (W.setCell ⟨w2.heap.size, 2, none⟩ (.slice A2 (rs[i].f.pieces ++ [data]).length c2)).drew bb i ⟨rs[i].key, ⟨rs[i].f.safe, rs[i].f.pieces ++ [data]⟩, .slice A2 (rs[i].f.pieces ++ [data]).length c2⟩) := fun W A2 c2 hW hrow => by
          have hb5 : Below w2.heap.size w2 (W.setCell ⟨w2.heap.size, 2, none⟩ (.slice A2 (rs[i].f.pieces ++ [data]).length c2)).drew := ((b2.trans (hW.mono (by omega))).setCell (p := ⟨w2.heap.size, 2, none⟩) (Nat.le_refl _) _).drew
          have hx : StrsRow (W.setCell ⟨w2.heap.size, 2, none⟩ (.slice A2 (rs[i].f.pieces ++ [data]).length c2)).drew (fun q => fp q ∨ w2.heap.size ≤ q) (.slice A2 (rs[i].f.pieces ++ [data]).length c2) (rs[i].f.pieces ++ [data]) := by
            refine ⟨row_base (row_keep hrow fun k hk => ?_) (Nat.zero_le _), fun k hk => .inr ?_⟩
            · have := row_base_le hrow hk
              exact set_other _ _ _ _ k (by omega)
            · have := row_base_le hrow hk
              omega
          refine ThenR.after T2.out (h2.setElem hB hF hi' hb5 (x := ⟨rs[i].key, ⟨rs[i].f.safe, rs[i].f.pieces ++ [data]⟩, .slice A2 (rs[i].f.pieces ++ [data]).length c2⟩) hx ?_ rfl rfl rfl rfl)
          have hse := hset ⟨rs[i].key, ⟨rs[i].f.safe, rs[i].f.pieces ++ [data]⟩, .slice A2 (rs[i].f.pieces ++ [data]).length c2⟩ hkey
          rw [hse, hfo]
        have FIN := hid hfin
        have QF := hid (fun (W : World) (hW : Below (w2.heap.size + 1) (w2.alloc (.cells #[.string (S rs[i].key), .string (S rs[i].f.safe), .slice Ap rs[i].f.pieces.length cp] 78)) W) => show Blk W w2.heap.size 78 #[.string (S rs[i].key), .string (S rs[i].f.safe), .slice Ap rs[i].f.pieces.length cp] ∧ W.cell? ⟨g, 0, none⟩ = some (.slice (some ⟨bb, 0, none⟩) rs.length c) ∧
            (W.cell? ⟨bb, i * 3, none⟩ = some (.string (S rs[i].key)) ∧ W.cell? ⟨bb, i * 3 + 1, none⟩ = some (.string (S rs[i].f.safe)) ∧ W.cell? ⟨bb, i * 3 + 2, none⟩ = some (.slice Ap rs[i].f.pieces.length cp)) ∧ ∀ j, W.frozen? ⟨bb, j, none⟩ = false from
          ⟨(hW.block _ (by omega)).trans hbq, (hW.cell (p := ⟨g, 0, none⟩) (by simp; omega)).trans ((b2.cell (p := ⟨g, 0, none⟩) hg2).trans g0),
            ⟨(hW.cell (p := ⟨bb, _, none⟩) (by simp; omega)).trans ((b2.cell (p := ⟨bb, _, none⟩) hbl).trans c0), (hW.cell (p := ⟨bb, _, none⟩) (by simp; omega)).trans ((b2.cell (p := ⟨bb, _, none⟩) hbl).trans c1), (hW.cell (p := ⟨bb, _, none⟩) (by simp; omega)).trans ((b2.cell (p := ⟨bb, _, none⟩) hbl).trans c2)⟩,
            fun j => (hW.frozen (p := ⟨bb, j, none⟩) (by simp; omega)).trans ((b2.frozen (p := ⟨bb, j, none⟩) hbl).trans (hfz j))⟩)
        have OF := hid hoff
        have hgq : g ≠ w2.heap.size := by omega
        have hbbq : bb ≠ w2.heap.size := by omega
        have NE := hid (show g ≠ w2.heap.size ∧ bb ≠ w2.heap.size from ⟨hgq, hbbq⟩)
        clear h2 t2 M1 hB hF hd hset hfo p1 p3 p4 hfin hfz hpv hmo hi2 hn2 hkey hbq hoff b2 M0 HB TB U BU hgt
        generalize rs[i].key = ky at *
        generalize rs[i].f.safe = sf at *
        generalize rs[i].f.pieces = ps at *
        generalize rs.length = n at *
        have tokA : True := trivial
        have tokA : True := trivial
        have HL1 := hid (show (ps ++ [data]).length = ps.length + 1 by simp)
        go_wp2_with (first
          | (have _t := tokA; at_builtin; refine wpList_append_strs rfl _ _ (os := []) (ns := ps) (base := w2.heap.size + 1) rfl rfl rfl rfl rfl (World.ownsRow_nil _ _ _ _) OF.out.2.1 OF.out.2.2 (by simp; omega) (by simp) ?_; intro A1 c1' w3 hown1 hb3; obtain ⟨x0, x1, ⟨x2, x3, x4⟩, x5⟩ := QF.out w3 hb3; clear tokA)
          | (at_builtin; refine wpList_append_strs rfl _ _ (os := ps) (ns := [data]) (base := w2.heap.size + 1) rfl rfl rfl rfl rfl (row_alloc hown1 _) (fun h => by cases h) (fun ad had j u hu => cell_one_text had hu) (by simp; omega) (by have := hb3.size; simp at this ⊢; omega) ?_; intro A2 c2' w4 hown2 hb4; have hb5 := hb3.trans (below_alloc_any (by have := hb3.size; simp at this ⊢; omega) hb4); obtain ⟨y0, y1, ⟨y2, y3, y4⟩, y5⟩ := QF.out w4 hb5; have z2 := y0.cell 2; have zf := y0.frozen 2; simp only [List.getElem?_toArray, List.getElem?_cons_succ, List.getElem?_cons_zero] at z2))
        have hl1 := HL1.out
        have B5 := (show Blk w4 w2.heap.size _ _ from y0).set_ 2 (.slice A2 (ps.length + 1) c2')
        have k0 := B5.cell 0
        have k1 := B5.cell 1
        have k2 := B5.cell 2
        have e5 : (#[Value.string (S ky), Value.string (S sf), Value.slice Ap ps.length cp].setIfInBounds 2 (.slice A2 (ps.length + 1) c2')) = #[Value.string (S ky), Value.string (S sf), .slice A2 (ps.length + 1) c2'] := rfl
        rw [e5] at k0 k1 k2
        simp only [List.getElem?_toArray, List.getElem?_cons_zero, List.getElem?_cons_succ] at k0 k1 k2
        have kg := (World.cell?_of_block (a := ⟨g, 0, none⟩) (set_other w4 w2.heap.size 2 (.slice A2 (ps.length + 1) c2') g NE.out.1)).trans y1
        have kb : ∀ j, (w4.setCell ⟨w2.heap.size, 2, none⟩ (.slice A2 (ps.length + 1) c2')).cell? ⟨bb, j, none⟩ = w4.cell? ⟨bb, j, none⟩ := fun j => World.cell?_of_block (a := ⟨bb, j, none⟩) (set_other w4 w2.heap.size 2 (.slice A2 (ps.length + 1) c2') bb NE.out.2)
        have kz : ∀ j, (w4.setCell ⟨w2.heap.size, 2, none⟩ (.slice A2 (ps.length + 1) c2')).frozen? ⟨bb, j, none⟩ = false := fun j => (World.frozen?_of_block (a := ⟨bb, j, none⟩) (set_other w4 w2.heap.size 2 (.slice A2 (ps.length + 1) c2') bb NE.out.2)).trans (y5 j)
        have r0 := (kb _).trans y2
        have r1 := (kb _).trans y3
        have r2 := (kb _).trans y4
        have s0 := kz (i * 3)
        have s1 := kz (i * 3 + 1)
        have s2 := kz (i * 3 + 2)
        have HT := hid (FIN.out w4 A2 c2' hb5 hown2)
        rw [hl1] at HT
        clear x0 x1 x2 x3 x4 x5 y0 y1 y2 y3 y4 y5 z2 zf B5 e5 kb kz hown1 hown2 hb3 hb4 hb5 FIN QF OF hl1
        generalize (w4.setCell ⟨w2.heap.size, 2, none⟩ (.slice A2 (ps.length + 1) c2')) = w5 at *
        go_wp2
        refine region_anyK (fun w' => w'.cell? ⟨g, 0, none⟩ = some (.slice (some ⟨bb, 0, none⟩) n c) ∧ w'.cell? ⟨w2.heap.size, 0, none⟩ = some (.string (S ky)) ∧ w'.cell? ⟨w2.heap.size, 1, none⟩ = some (.string (S sf)) ∧ w'.cell? ⟨w2.heap.size, 2, none⟩ = some (.slice A2 (ps.length + 1) c2')) 7 (by kernel_rfl) (by ((try dsimp only); first | assumption | simp [*, go_sem, World.cell?_alloc_past])) (fun hSk => ?_)
        refine anyK_take 0 [0] (v := ?_) rfl (by kernel_rfl) (by kernel_rfl) (fun _ _ _ h => h) (Or.inl ⟨by rfl, ?_⟩) hSk ?_
        rotate_left
        · intro w' hSw; (try dsimp only at hSw); go_simp; try with_reducible rfl
        try simp only [Act.put, List.setIfInBounds_toArray, List.set_cons_zero, List.set_cons_succ]
        refine anyK_take 1 [1] (v := ?_) rfl (by kernel_rfl) (by kernel_rfl) (fun _ _ _ h => h) (Or.inl ⟨by rfl, ?_⟩) hSk ?_
        rotate_left
        · intro w' hSw; (try dsimp only at hSw); go_simp; try with_reducible rfl
        try simp only [Act.put, List.setIfInBounds_toArray, List.set_cons_zero, List.set_cons_succ]
        refine anyK_take 2 [2] (v := ?_) rfl (by kernel_rfl) (by kernel_rfl) (fun _ _ _ h => h) (Or.inl ⟨by rfl, ?_⟩) hSk ?_
        rotate_left
        · intro w' hSw; (try dsimp only at hSw); go_simp; try with_reducible rfl
        try simp only [Act.put, List.setIfInBounds_toArray, List.set_cons_zero, List.set_cons_succ]
        refine anyK_take 3 [3] (v := ?_) rfl (by kernel_rfl) (by kernel_rfl) (fun _ _ _ h => h) (Or.inl ⟨by rfl, ?_⟩) hSk ?_
        rotate_left
        · intro w' hSw; (try dsimp only at hSw); go_simp; try with_reducible rfl
        try simp only [Act.put, List.setIfInBounds_toArray, List.set_cons_zero, List.set_cons_succ]
        refine anyK_take 4 [4] (v := ?_) rfl (by kernel_rfl) (by kernel_rfl) (fun _ _ _ h => h) (Or.inl ⟨by rfl, ?_⟩) hSk ?_
        rotate_left
        · intro w' hSw; (try dsimp only at hSw); go_simp; try with_reducible rfl
        try simp only [Act.put, List.setIfInBounds_toArray, List.set_cons_zero, List.set_cons_succ]
        refine anyK_take 5 [5] (v := ?_) rfl (by kernel_rfl) (by kernel_rfl) (fun _ _ _ h => h) (Or.inl ⟨by rfl, ?_⟩) hSk ?_
        rotate_left
        · intro w' hSw; (try dsimp only at hSw); go_simp; try with_reducible rfl
        try simp only [Act.put, List.setIfInBounds_toArray, List.set_cons_zero, List.set_cons_succ]
        refine anyK_take 6 [6] (v := ?_) rfl (by kernel_rfl) (by kernel_rfl) (fun _ _ _ h => h) (Or.inl ⟨by rfl, ?_⟩) hSk ?_
        rotate_left
        · intro w' hSw; (try dsimp only at hSw); go_simp; try with_reducible rfl
        try simp only [Act.put, List.setIfInBounds_toArray, List.set_cons_zero, List.set_cons_succ]
        refine anyK_last (by kernel_rfl) rfl (by kernel_rfl) (fun K hK => ?_)
        go_simp
        refine hK.out _ _ ?_
        clear hK K
        try simp only [Act.put, List.setIfInBounds_toArray, List.set_cons_zero, List.set_cons_succ]
        refine anyK_done (by kernel_rfl) ?_ _
        clear hSk
        go_wp2
        go_ret
        exact ⟨rfl, HT.out⟩
      · have E := hid (show d.append name data = d.may 0 by unfold Dr.append Dr.deed; rw [e1, if_neg hm])
        have hne : ((d.may 0).2 == 0) = false := by simpa using hm
        rw [E.out]
        have M0 := hid (fun W hW => M.out W hW 0)
        clear h hok ERR q1 q2 q3 hfl hi hfull e0 e1 hB0 M E hm
        generalize d.may 0 = me at *
        generalize hqq : d.quota = q at *
        generalize huu : d.used = u at *
        go_enter Try.func37, Try.ntmps37
        go_wp2_with fail
        refine At.out.mono ?_
        rintro e w1 ⟨rfl, hw⟩
        have hw' := hw.symm
        subst hw'
        go_wp2
        go_region_held3 (fun w' => w'.cell? ⟨g, 1, none⟩ = some (.int .i64 q)) (simp [*, go_sem, World.cell?_alloc_past])
          (first | (go_at_call 52; refine U.out.mono ?_; rintro e wu ⟨rfl, hbu⟩; have cq1 := (hbu.cell (p := ⟨g, 1, none⟩) hglt).trans cq; have BU := hid hbu; clear hbu))
        all_goals
          have M1 := hid (M0.out wu (HB.out wu BU.out))
          go_wp2_with fail
        refine M1.out.mono ?_
        rintro e w2 ⟨rfl, h2, t2⟩
        have HR := hid (show ThenR w g me.1 fp w2 from ⟨fp, h2, (TB.out wu BU.out).trans t2⟩)
        clear h2 t2 M1
        go_wp2
        go_ret
        exact ⟨rfl, HR.out⟩
end Go.Proofs.Ytioillenlgpcgaa

set_option linter.unusedVariables false
set_option linter.unusedSimpArgs false
set_option maxHeartbeats 6400000
set_option maxRecDepth 100000
attribute [local go_sem ↓] Go.wp_at_zero Go.wp_at_succ
namespace Go.Proofs.Ytioillenlgpcgaa
open Go.RowKit

theorem row_take {w : World} {base : Nat} {e : TypeId} {b n c : Nat} {xs : List Value} (h : w.ownsRow base e 1 (.slice (some ⟨b, 0, none⟩) n c) n xs) {k : Nat} (hk : k ≤ n) : w.ownsRow base e 1 (.slice (some ⟨b, 0, none⟩) k c) k (xs.take k) := by
  rcases h.2 with ⟨h1, _⟩ | ⟨g, cap, cur, h1, hb, hh, hnc, hm, hsz, htk⟩
  · simp at h1
  · have hl := h.1
    refine ⟨by simp; omega, .inr ⟨g, cap, cur, ?_, hb, hh, by omega, hm, hsz, ?_⟩⟩
    · simp only [Value.slice.injEq] at h1 ⊢
      exact ⟨h1.1, trivial, h1.2.2⟩
    · rw [← htk, List.take_take]
      congr 1
      omega
structure UpR (w : World) (g : Nat) (d : Dr) (fp : Nat → Prop) (keep : List Int) (N k ii : Nat) (wr : World) (done rest : List (Key × File)) (fpk : Nat → Prop) : Prop where
  len : done.length = k
  tot : k + rest.length = d.files.length
  less : ii ≤ k
  up : upF keep 0 d.files = done ++ upF keep ii rest
  dr : IsRef wr g (upD d (done ++ rest)) fpk
  ok : (upD d (done ++ rest)).Ok N
  tch : Touch w wr fp fpk
theorem UpR.skip {w : World} {g : Nat} {d : Dr} {fp : Nat → Prop} {keep : List Int} {N k ii : Nat} {wr wr' : World} {done r2 : List (Key × File)} {fpk : Nat → Prop} {nm : Key} {f : File} (h : UpR w g d fp keep N k ii wr done ((nm, f) :: r2) fpk) (hp : f.pieces = []) (hb : Below wr.heap.size wr wr') :
    UpR w g d fp keep N (k + 1) ii wr' (done ++ [(nm, f)]) r2 fpk := by
  have ht := h.tot
  have hl := h.less
  have hln := h.len
  simp at ht
  have e : done ++ [(nm, f)] ++ r2 = done ++ (nm, f) :: r2 := by simp
  refine ⟨by simp; omega, by omega, by omega, ?_, by rw [e]; exact h.dr.below hb, by rw [e]; exact h.ok, h.tch.trans (Touch.of_below hb fpk)⟩
  rw [h.up]
  show done ++ (if f.pieces = [] then _ else _) = _
  rw [if_pos hp]
  simp
theorem ok_cut {d : Dr} {done r2 : List (Key × File)} {nm : Key} {f : File} {N : Nat} (keep : List Int) (ii : Nat) (hok : (upD d (done ++ (nm, f) :: r2)).Ok N) : (upD d (done ++ (nm, cutF keep ii f) :: r2)).Ok N := by
  have hu := hok.used
  have hfi := hok.files
  have hus := up_used (d := d) (done := done) (r2 := r2) (nm := nm) (cutF_le keep ii f)
  have hcl := cutF_le keep ii f
  refine ⟨hok.q0, hok.q1, by rw [hus]; omega, ?_, ?_, ?_, ?_, hok.left⟩
  · have := hfi
    simp [upD] at this ⊢
    exact this
  · intro p hp'
    have hq := hok.keys
    simp only [upD, List.mem_append, List.mem_cons] at hp' hq
    rcases hp' with hp' | rfl | hp'
    · exact hq p (.inl hp')
    · exact hq (nm, f) (.inr (.inl rfl))
    · exact hq p (.inr (.inr hp'))
  · refine rising_keys (m := done ++ (nm, f) :: r2) ?_ hok.rising
    show (done ++ (nm, cutF keep ii f) :: r2).map (·.1) = _
    simp
  · intro p hp'
    have hq := hok.few
    simp only [upD, List.mem_append, List.mem_cons] at hp' hq
    rcases hp' with hp' | rfl | hp'
    · exact hq p (.inl hp')
    · simp [cutF]
    · exact hq p (.inr (.inr hp'))
theorem UpR.step {w : World} {g : Nat} {d : Dr} {fp : Nat → Prop} {keep : List Int} {N k ii : Nat} {wr w' : World} {done r2 : List (Key × File)} {fpk : Nat → Prop} {nm : Key} {f : File} (h : UpR w g d fp keep N k ii wr done ((nm, f) :: r2) fpk) (hp : f.pieces ≠ [])
    (ht : ThenR wr g (upD d (done ++ (nm, cutF keep ii f) :: r2)) fpk w') : ∃ done rest fp', UpR w g d fp keep N (k + 1) (ii + 1) w' done rest fp' := by
  obtain ⟨fp', h1, h2⟩ := ht
  have htt := h.tot
  have hl := h.less
  have hln := h.len
  simp at htt
  have e : done ++ [(nm, cutF keep ii f)] ++ r2 = done ++ (nm, cutF keep ii f) :: r2 := by simp
  refine ⟨done ++ [(nm, cutF keep ii f)], r2, fp', by simp; omega, by omega, by omega, ?_, by rw [e]; exact h1, by rw [e]; exact ok_cut keep ii h.ok, h.tch.trans h2⟩
  rw [h.up]
  show done ++ (if f.pieces = [] then _ else _) = _
  rw [if_neg hp]
  simp
theorem UpR.zero {w : World} {g : Nat} {d : Dr} {fp : Nat → Prop} {keep : List Int} {N k ii : Nat} {wr : World} {done rest : List (Key × File)} {fpk : Nat → Prop} (h : UpR w g d fp keep N k ii wr done rest fpk) (hk : ¬ k < d.files.length) (hd : d.down = true) : ThenR w g (d.up keep) fp wr := by
  have ht := h.tot
  have hr : rest = [] := List.eq_nil_of_length_eq_zero (by omega)
  subst hr
  have hu := h.up
  have e1 : upF keep ii [] = [] := by cases ii <;> rfl
  rw [e1, List.append_nil] at hu
  have hD : d.up keep = upD d done := by
    unfold Dr.up upD
    rw [if_pos hd, hu]
  rw [hD]
  have := h.dr
  rw [List.append_nil] at this
  exact ⟨fpk, this, h.tch⟩
theorem upR_not {w : World} {g : Nat} {d : Dr} {fp : Nat → Prop} (h : IsRef w g d fp) (hdn : d.down = false) (keep : List Int) (V : Value) :
    Calls Try.prog 43 #[.pointer (some ⟨g, 0, none⟩), V] w fun e w' => e = .returned (.tuple #[]) ∧ ThenR w g (d.up keep) fp w' := by
  have E := hid (show d.up keep = { d with left := -1 } by unfold Dr.up; rw [hdn]; rfl)
  obtain ⟨v, rs, hb, hf, hd⟩ := h.has
  have c3 := hb.cell 3
  have c4 := hb.cell 4
  simp [refCells, hdn] at c3 c4
  have f4 := hb.frozen 4
  have H := hid h
  have HB := hid hb
  have HD := hid hd
  have HF := hid hf
  clear h hb hf hd hdn
  go_enter Try.func43, Try.ntmps43
  go_wp2
  refine bodyPost_ret (results_none rfl _ _ _) rfl ?_
  refine ⟨rfl, ?_⟩
  rw [E.out]
  exact ⟨fp, IsRef.mk' H.out HB.out HF.out (by simp [set_size]) (fun k hk => set_other _ _ _ _ k hk) (HB.out.set_ 4 (.int .i64 (-1))) HD.out, Touch.setCell _ _ H.out.own _⟩

theorem upR_down {w : World} {g : Nat} {d : Dr} {fp : Nat → Prop} {N : Nat} (h : IsRef w g d fp) (hok : d.Ok N) (hN : N ≤ 1000000) (hdn : d.down = true) (A : Option Addr) (keep : List Int) (cap : Nat) (hA : IntsAt w A keep) (hin : IntsIn keep) (hl : (keep.length : Int) ≤ 9223372036854775807) (hfar : 0 < keep.length → ∀ p, A = some p → ¬ fp p.block) :
    Calls Try.prog 43 #[.pointer (some ⟨g, 0, none⟩), .slice A keep.length cap] w fun e w' => e = .returned (.tuple #[]) ∧ ThenR w g (d.up keep) fp w' := by
  obtain ⟨v, rs0, hb0, hf0, hd0⟩ := h.has
  have c3 := hb0.cell 3
  have c4 := hb0.cell 4
  simp [refCells, hdn] at c3 c4
  have f4 := hb0.frozen 4
  have f3 := hb0.frozen 3
  have hflen : d.files.length ≤ 65536 := hok.files
  have hok0 : (upD d d.files).Ok N := ⟨hok.q0, hok.q1, hok.used, hok.files, hok.keys, hok.rising, hok.few, ⟨by simp [upD], by simp [upD]⟩⟩
  have hS0 : UpR w g d fp keep N 0 0 ((w.setCell ⟨g, 4, none⟩ (.int .i64 (-1))).setCell ⟨g, 3, none⟩ (.bool false)) [] d.files fp := by
    refine ⟨rfl, by simp, Nat.le_refl _, rfl, ?_, hok0, (Touch.setCell _ _ h.own _).trans (Touch.setCell _ _ h.own _)⟩
    exact IsRef.mk' h hb0 hf0 (by simp [set_size]) (fun k hk => (set_other _ _ _ _ k hk).trans (set_other _ _ _ _ k hk)) ((hb0.set_ 4 (.int .i64 (-1))).set_ 3 (.bool false)) hd0
  have HS0 := hid hS0
  have HAI := hid hA
  have HFAR := hid hfar
  have fin := hid (fun (k ii : Nat) wr done rest fpk (hS : UpR w g d fp keep N k ii wr done rest fpk) (hk : ¬ k < d.files.length) => hS.zero hk hdn)
  clear hS0 hok0 hok h hb0 hf0 hd0 hdn hA hfar
  go_enter Try.func43, Try.ntmps43
  go_wp2
  go_loopw [4, 5] (fun i t wr => ∃ k ii : Nat, t = .int .i64 k ∧ i = .int .i64 ii ∧ k ≤ d.files.length ∧ ii ≤ k ∧ Hid (∃ done rest fpk, UpR w g d fp keep N k ii wr done rest fpk)) (fun _ t _ => d.files.length - (intOf t).toNat)
  case atStart => exact ⟨0, 0, rfl, rfl, Nat.zero_le _, Nat.le_refl _, _, _, _, HS0.out⟩
  case round =>
    obtain ⟨k, ii, rfl, rfl, hkl, hii, hS⟩ := hrel
    obtain ⟨done, rest, fpk, hU⟩ := hS.out
    obtain ⟨v, rs, hB, hF, hd⟩ := hU.dr.has
    have hrl : rs.length = d.files.length := by
      have h1 : (done ++ rest).length = rs.length := by
        have := congrArg List.length hd
        simpa [upD] using this
      have := hU.tot
      have := hU.len
      simp at h1
      omega
    obtain ⟨Av, cv, rfl⟩ := hF.form
    have c0 := hB.cell 0
    simp [refCells] at c0
    rw [hrl] at c0
    by_cases hk : k < d.files.length
    · cases rest with
      | nil => have := hU.tot; simp at this; omega
      | cons p r2 =>
        obtain ⟨nm, f⟩ := p
        have hkr : k < rs.length := by omega
        obtain ⟨bb, c', hv, hbl, hnc, e0, e1, e2⟩ := hF.elem hkr
        simp only [Value.slice.injEq] at hv
        obtain ⟨rfl, _, rfl⟩ := hv
        obtain ⟨p1, p2, p3, p4⟩ := IsRef.place hF hd hU.ok (by omega) hkr
        have hpair : rPair rs[k] = (nm, f) := by
          have h1 := congrArg (fun l => l[k]?) hd
          have hlen := hU.len
          simp only [upD, List.getElem?_map, List.getElem?_eq_getElem hkr, Option.map_some] at h1
          rw [List.getElem?_append_right (by omega)] at h1
          simp [hlen] at h1
          exact h1.symm
        have hkey : rs[k].key = nm := congrArg (·.1) hpair
        have hfe : rs[k].f = f := congrArg (·.2) hpair
        obtain ⟨Ap, cp, hpv⟩ := row_form p4.row
        rw [hkey] at e0
        rw [hfe] at e1
        rw [hpv] at e2 p4
        rw [hfe] at e2 p2 p3 p4
        have hnr : (k : Int) < d.files.length := by omega
        have hglt := hB.lt
        have b2 : Below wr.heap.size wr (wr.alloc (.cells #[.string (S nm), .string (S f.safe), .slice Ap f.pieces.length cp] 78)) := (Below.refl _ _).alloc (Nat.le_refl _) _
        by_cases hp : f.pieces = []
        · have hS' := hid (show ∃ done rest fpk, UpR w g d fp keep N (k + 1) ii (wr.alloc (.cells #[.string (S nm), .string (S f.safe), .slice Ap f.pieces.length cp] 78)) done rest fpk from ⟨_, _, _, hU.skip hp b2⟩)
          have hn0 : f.pieces.length = 0 := by rw [hp]; rfl
          rw [hn0] at e2 hS'
          clear hU hB hF hd hS p1 p2 p3 p4 hpair hkey hfe hpv b2 hn0 hp
          go_wp2
          go_roundw
          case rel => exact ⟨k + 1, ii, by go_num, rfl, by omega, by omega, hS'⟩
          case measure => first | omega | (simp [intOf]; omega)
        · have hn1 : 0 < f.pieces.length := List.length_pos_iff.2 hp
          obtain ⟨pb, rfl, hpc⟩ : ∃ pb, Ap = some ⟨pb, 0, none⟩ ∧ f.pieces.length ≤ cp := by
            rcases p4.row.2 with ⟨h1, h2⟩ | ⟨gg, cp', cur, h1, h2, h3, h4, _⟩
            · omega
            · simp only [Value.slice.injEq] at h1
              obtain ⟨h1, _, rfl⟩ := h1
              exact ⟨gg, h1, h4⟩
          obtain ⟨kk, hkk⟩ : ∃ kk, keptN keep ii f.pieces.length = kk := ⟨_, rfl⟩
          have hkl2 : kk ≤ f.pieces.length := by rw [← hkk]; exact keptN_le _ _ _
          have hcf : cutF keep ii f = ⟨(File.mk f.safe (f.pieces.take kk)).all, []⟩ := by unfold cutF; rw [hkk]; rfl
          have hal : (File.mk f.safe (f.pieces.take kk)).all.length ≤ f.all.length := by
            have := flatten_take_le f.pieces kk
            simp [File.all] at this ⊢
            omega
          have hbq := Blk.new wr 78 #[.string (S nm), .string (S f.safe), .slice (some ⟨pb, 0, none⟩) f.pieces.length cp]
          have hplt : pb < wr.heap.size := by
            obtain ⟨cs, hcs⟩ := row_heap p4.row (k := pb) rfl
            exact (Array.getElem?_eq_some_iff.1 hcs).1
          have hb5 : Below wr.heap.size wr (wr.alloc (.cells #[.string (S nm), .string (S f.safe), .slice (some ⟨pb, 0, none⟩) kk cp] 78)).drew := ((Below.refl _ _).alloc (Nat.le_refl _) _).drew
          have B5 : Blk (wr.alloc (.cells #[.string (S nm), .string (S f.safe), .slice (some ⟨pb, 0, none⟩) kk cp] 78)).drew wr.heap.size 78 #[.string (S nm), .string (S f.safe), .slice (some ⟨pb, 0, none⟩) kk cp] := Blk.new wr 78 #[.string (S nm), .string (S f.safe), .slice (some ⟨pb, 0, none⟩) kk cp]
          have hst : StrsRow (wr.alloc (.cells #[.string (S nm), .string (S f.safe), .slice (some ⟨pb, 0, none⟩) kk cp] 78)).drew (fun _ => True) (.slice (some ⟨pb, 0, none⟩) kk cp) (f.pieces.take kk) := by
            have hlen : (f.pieces.take kk).length = kk := by simp; omega
            refine ⟨?_, fun _ _ => trivial⟩
            rw [hlen, List.map_take]
            refine row_keep (row_take p4.row hkl2) fun q hq => ?_
            have : pb = q := by simpa [Value.ownBlock] using hq
            subst this
            exact hb5.block pb hplt
          have AL := hid (ref_All (r := ⟨nm, ⟨f.safe, f.pieces.take kk⟩, .slice (some ⟨pb, 0, none⟩) kk cp⟩) hst (by simp; omega) (by show (File.mk f.safe (f.pieces.take kk)).all.length ≤ _; omega))
          have hstep : ∀ W, Below (wr.alloc (.cells #[.string (S nm), .string (S f.safe), .slice (some ⟨pb, 0, none⟩) kk cp] 78)).drew.heap.size (wr.alloc (.cells #[.string (S nm), .string (S f.safe), .slice (some ⟨pb, 0, none⟩) kk cp] 78)).drew W →
              Hid (∃ done rest fpk, UpR w g d fp keep N (k + 1) (ii + 1) (setRF W bb k ⟨nm, ⟨(File.mk f.safe (f.pieces.take kk)).all, []⟩, .slice none 0 0⟩) done rest fpk) := fun W hW => by
            refine hU.step hp (hU.dr.setElem (x := ⟨nm, ⟨(File.mk f.safe (f.pieces.take kk)).all, []⟩, .slice none 0 0⟩) hB hF hkr (bt hb5 hW) ⟨World.ownsRow_nil _ _ _ _, by simp [Value.ownBlock]⟩ ?_ rfl rfl rfl rfl)
            have h1 : (rs.set k ⟨nm, ⟨(File.mk f.safe (f.pieces.take kk)).all, []⟩, .slice none 0 0⟩).map rPair = (done ++ (nm, f) :: r2).set k (nm, cutF keep ii f) := by
              rw [List.map_set, ← hd, hcf]
              rfl
            rw [h1]
            have hlen := hU.len
            show done ++ (nm, cutF keep ii f) :: r2 = _
            rw [List.set_append_right _ _ (by omega), hlen]
            simp
          have STEP := hid hstep
          have hfz : ∀ j, wr.frozen? ⟨bb, j, none⟩ = false := fun j => by
            obtain ⟨cs, hcs⟩ := row_heap hF.row (k := bb) rfl
            simp [World.frozen?, hcs]
          have EF := hid (fun (W : World) (hW : Below (wr.alloc (.cells #[.string (S nm), .string (S f.safe), .slice (some ⟨pb, 0, none⟩) kk cp] 78)).drew.heap.size (wr.alloc (.cells #[.string (S nm), .string (S f.safe), .slice (some ⟨pb, 0, none⟩) kk cp] 78)).drew W) =>
            show W.cell? ⟨g, 0, none⟩ = some (.slice (some ⟨bb, 0, none⟩) d.files.length cv) ∧ W.cell? ⟨wr.heap.size, 0, none⟩ = some (.string (S nm)) ∧ W.cell? ⟨wr.heap.size, 1, none⟩ = some (.string (S f.safe)) ∧ W.cell? ⟨wr.heap.size, 2, none⟩ = some (.slice (some ⟨pb, 0, none⟩) kk cp) ∧
              W.cell? ⟨bb, k * 3, none⟩ = some (.string (S nm)) ∧ W.cell? ⟨bb, k * 3 + 1, none⟩ = some (.string (S f.safe)) ∧ W.cell? ⟨bb, k * 3 + 2, none⟩ = some (.slice (some ⟨pb, 0, none⟩) f.pieces.length cp) ∧ W.frozen? ⟨bb, k * 3, none⟩ = false ∧ W.frozen? ⟨bb, k * 3 + 1, none⟩ = false ∧ W.frozen? ⟨bb, k * 3 + 2, none⟩ = false from by
            have hW2 := bt hb5 hW
            have hq : ∀ j, W.cell? ⟨wr.heap.size, j, none⟩ = _ := fun j => (hW.cell (p := ⟨wr.heap.size, j, none⟩) B5.lt).trans (B5.cell j)
            exact ⟨(hW2.cell (p := ⟨g, 0, none⟩) hglt).trans c0, hq 0, hq 1, hq 2, (hW2.cell (p := ⟨bb, _, none⟩) hbl).trans e0, (hW2.cell (p := ⟨bb, _, none⟩) hbl).trans e1, (hW2.cell (p := ⟨bb, _, none⟩) hbl).trans e2, (hW2.frozen (p := ⟨bb, _, none⟩) hbl).trans (hfz _), (hW2.frozen (p := ⟨bb, _, none⟩) hbl).trans (hfz _), (hW2.frozen (p := ⟨bb, _, none⟩) hbl).trans (hfz _)⟩)
          have S5 := EF.out _ (Below.refl _ _)
          have KA := hid (HAI.out.touch hU.tch HFAR.out)
          unfold rAgg at AL
          have hkc : kk ≤ cp := by omega
          have hmod : ∀ m : Nat, ((ii : Int).tmod m) = ((ii % m : Nat) : Int) := fun m => by
            rw [Int.tmod_eq_emod_of_nonneg (by omega)]
            rfl
          have hkeep : Hid (keptN keep ii f.pieces.length = kk) := hkk
          clear hU hB hF hd hS p1 p3 p4 hpair hkey hfe hpv b2 hp hcf hal hbq hb5 B5 hst hstep hfz hkk fin
          generalize f.safe = sf at *
          generalize hnp : f.pieces.length = np at *
          generalize hall : (File.mk sf (f.pieces.take kk)).all = al at *
          generalize d.files.length = n at *
          obtain ⟨s0, s1, s2, s3, s4, s5, s6, s7, s8, s9⟩ := S5
          by_cases hke : keep.length = 0
          · have hk0 : kk = 0 := by
              have : keep = [] := List.eq_nil_of_length_eq_zero hke
              rw [← hkeep.out, this]
              rfl
            have hke' : (keep.length : Int) = 0 := by omega
            subst hk0
            clear hmod KA hkeep hke HS0 HAI HFAR
            go_wp2
            refine region_anyK (fun w' => w'.cell? ⟨g, 0, none⟩ = some (.slice (some ⟨bb, 0, none⟩) n cv) ∧ w'.cell? ⟨wr.heap.size, 0, none⟩ = some (.string (S nm)) ∧ w'.cell? ⟨wr.heap.size, 1, none⟩ = some (.string (S sf)) ∧ w'.cell? ⟨wr.heap.size, 2, none⟩ = some (.slice (some ⟨pb, 0, none⟩) 0 cp)) 11 (by kernel_rfl) (by ((try dsimp only); first | assumption | simp [*, go_sem, World.cell?_alloc_past])) (fun hSk => ?_)
            refine anyK_take 0 [0] (v := ?_) rfl (by kernel_rfl) (by kernel_rfl) (fun _ _ _ h => h) (Or.inl ⟨by rfl, ?_⟩) hSk ?_
            rotate_left
            · intro w' hSw; (try dsimp only at hSw); go_simp; try with_reducible rfl
            try simp only [Act.put, List.setIfInBounds_toArray, List.set_cons_zero, List.set_cons_succ]
            refine anyK_take 1 [1] (v := ?_) rfl (by kernel_rfl) (by kernel_rfl) (fun _ _ _ h => h) (Or.inl ⟨by rfl, ?_⟩) hSk ?_
            rotate_left
            · intro w' hSw; (try dsimp only at hSw); go_simp; try with_reducible rfl
            try simp only [Act.put, List.setIfInBounds_toArray, List.set_cons_zero, List.set_cons_succ]
            refine anyK_take 2 [2] (v := ?_) rfl (by kernel_rfl) (by kernel_rfl) (fun _ _ _ h => h) (Or.inl ⟨by rfl, ?_⟩) hSk ?_
            rotate_left
            · intro w' hSw; (try dsimp only at hSw); go_simp; try with_reducible rfl
            try simp only [Act.put, List.setIfInBounds_toArray, List.set_cons_zero, List.set_cons_succ]
            refine anyK_take 3 [3] (v := ?_) rfl (by kernel_rfl) (by kernel_rfl) (fun _ _ _ h => h) (Or.inl ⟨by rfl, ?_⟩) hSk ?_
            rotate_left
            · intro w' hSw; (try dsimp only at hSw); go_simp; try with_reducible rfl
            try simp only [Act.put, List.setIfInBounds_toArray, List.set_cons_zero, List.set_cons_succ]
            refine anyK_take 4 [4] (v := ?_) rfl (by kernel_rfl) (by kernel_rfl) (fun _ _ _ h => h) (Or.inl ⟨by rfl, ?_⟩) hSk ?_
            rotate_left
            · intro w' hSw; (try dsimp only at hSw); go_simp; try with_reducible rfl
            try simp only [Act.put, List.setIfInBounds_toArray, List.set_cons_zero, List.set_cons_succ]
            refine anyK_take 5 [5] (v := ?_) rfl (by kernel_rfl) (by kernel_rfl) (fun _ _ _ h => h) (Or.inl ⟨by rfl, ?_⟩) hSk ?_
            rotate_left
            · intro w' hSw; (try dsimp only at hSw); go_simp; try with_reducible rfl
            try simp only [Act.put, List.setIfInBounds_toArray, List.set_cons_zero, List.set_cons_succ]
            refine anyK_take 6 [6] (v := ?_) rfl (by kernel_rfl) (by kernel_rfl) (fun _ _ _ h => h) (Or.inl ⟨by rfl, ?_⟩) hSk ?_
            rotate_left
            · intro w' hSw; (try dsimp only at hSw); go_simp; try with_reducible rfl
            try simp only [Act.put, List.setIfInBounds_toArray, List.set_cons_zero, List.set_cons_succ]
            refine anyK_take 7 [7] (v := ?_) rfl (by kernel_rfl) (by kernel_rfl) (fun _ _ _ h => h) (Or.inl ⟨by rfl, ?_⟩) hSk ?_
            rotate_left
            · intro w' hSw; (try dsimp only at hSw); go_simp; try with_reducible rfl
            try simp only [Act.put, List.setIfInBounds_toArray, List.set_cons_zero, List.set_cons_succ]
            refine anyK_only 8 (by kernel_rfl) rfl (fun K hK => ?_)
            (first | (rw [if_pos (by rfl)]; go_simp; go_at_call 67; refine AL.out.mono ?_; rintro e w3 ⟨rfl, hb3⟩; obtain ⟨p0, p1, p2, p3, p4, p5, p6, p7, p8, p9⟩ := EF.out w3 hb3; have HB3 := hid hb3; clear hb3; go_wp2_with fail) | go_simp)
            clear hSk
            refine hK.out _ _ (by ((try dsimp only); first | assumption | simp [*, go_sem, World.cell?_alloc_past])) (fun hSk => ?_)
            clear hK K
            try simp only [Act.put, List.setIfInBounds_toArray, List.set_cons_zero, List.set_cons_succ]
            refine anyK_take 9 [9] (v := ?_) rfl (by kernel_rfl) (by kernel_rfl) (fun _ _ _ h => h) (Or.inl ⟨by rfl, ?_⟩) hSk ?_
            rotate_left
            · intro w' hSw; (try dsimp only at hSw); go_simp; try with_reducible rfl
            try simp only [Act.put, List.setIfInBounds_toArray, List.set_cons_zero, List.set_cons_succ]
            refine anyK_take 10 [10] (v := ?_) rfl (by kernel_rfl) (by kernel_rfl) (fun _ _ _ h => h) (Or.inl ⟨by rfl, ?_⟩) hSk ?_
            rotate_left
            · intro w' hSw; (try dsimp only at hSw); go_simp; try with_reducible rfl
            try simp only [Act.put, List.setIfInBounds_toArray, List.set_cons_zero, List.set_cons_succ]
            refine anyK_last (by kernel_rfl) rfl (by kernel_rfl) (fun K hK => ?_)
            go_simp
            refine hK.out _ _ ?_
            clear hK K
            try simp only [Act.put, List.setIfInBounds_toArray, List.set_cons_zero, List.set_cons_succ]
            refine anyK_done (by kernel_rfl) ?_ _
            clear hSk
            go_wp2
            go_roundw
            case rel =>
              exact ⟨k + 1, ii + 1, by go_num, by go_num, by omega, by omega, STEP.out w3 HB3.out⟩
            case measure => first | omega | (simp [intOf]; omega)
          · obtain ⟨kb, koff, rfl, hkb, hkcl⟩ := KA.out (by omega)
            have hlt : ii % keep.length < keep.length := Nat.mod_lt _ (by omega)
            have q1 := hkcl _ hlt
            have hn := hin _ hlt
            have hke1 : keptN keep ii np = ((if keep[ii % keep.length] < 0 then -(keep[ii % keep.length] + 1) else keep[ii % keep.length]) % ((np : Int) + 1)).toNat := by
              unfold keptN
              rw [List.getElem?_eq_getElem hlt]
            rw [hkeep.out] at hke1
            have hmo := hmod keep.length
            have hlt' : ((ii % keep.length : Nat) : Int) < keep.length := by omega
            clear hkcl hmod hkeep KA HS0 HAI HFAR
            generalize hne : keep[ii % keep.length] = kn at *
            obtain ⟨hn1, hn2⟩ := hn
            by_cases hneg : kn < 0
            · rw [if_pos hneg] at hke1
              have hv : (-(kn + 1).tmod ((np : Int) + 1)) = (kk : Int) := by
                rw [hke1, ← Int.neg_tmod, Int.tmod_eq_emod_of_nonneg (by omega)]
                have := Int.emod_nonneg (-(kn + 1)) (show (np : Int) + 1 ≠ 0 by omega)
                omega
              clear hke1 hne
              generalize ii % keep.length = r at *
              go_wp2
              refine region_anyK (fun w' => w'.cell? ⟨g, 0, none⟩ = some (.slice (some ⟨bb, 0, none⟩) n cv) ∧ w'.cell? ⟨wr.heap.size, 0, none⟩ = some (.string (S nm)) ∧ w'.cell? ⟨wr.heap.size, 1, none⟩ = some (.string (S sf)) ∧ w'.cell? ⟨wr.heap.size, 2, none⟩ = some (.slice (some ⟨pb, 0, none⟩) kk cp)) 11 (by kernel_rfl) (by ((try dsimp only); first | assumption | simp [*, go_sem, World.cell?_alloc_past])) (fun hSk => ?_)
              refine anyK_take 0 [0] (v := ?_) rfl (by kernel_rfl) (by kernel_rfl) (fun _ _ _ h => h) (Or.inl ⟨by rfl, ?_⟩) hSk ?_
              rotate_left
              · intro w' hSw; (try dsimp only at hSw); go_simp; try with_reducible rfl
              try simp only [Act.put, List.setIfInBounds_toArray, List.set_cons_zero, List.set_cons_succ]
              refine anyK_take 1 [1] (v := ?_) rfl (by kernel_rfl) (by kernel_rfl) (fun _ _ _ h => h) (Or.inl ⟨by rfl, ?_⟩) hSk ?_
              rotate_left
              · intro w' hSw; (try dsimp only at hSw); go_simp; try with_reducible rfl
              try simp only [Act.put, List.setIfInBounds_toArray, List.set_cons_zero, List.set_cons_succ]
              refine anyK_take 2 [2] (v := ?_) rfl (by kernel_rfl) (by kernel_rfl) (fun _ _ _ h => h) (Or.inl ⟨by rfl, ?_⟩) hSk ?_
              rotate_left
              · intro w' hSw; (try dsimp only at hSw); go_simp; try with_reducible rfl
              try simp only [Act.put, List.setIfInBounds_toArray, List.set_cons_zero, List.set_cons_succ]
              refine anyK_take 3 [3] (v := ?_) rfl (by kernel_rfl) (by kernel_rfl) (fun _ _ _ h => h) (Or.inl ⟨by rfl, ?_⟩) hSk ?_
              rotate_left
              · intro w' hSw; (try dsimp only at hSw); go_simp; try with_reducible rfl
              try simp only [Act.put, List.setIfInBounds_toArray, List.set_cons_zero, List.set_cons_succ]
              refine anyK_take 4 [4] (v := ?_) rfl (by kernel_rfl) (by kernel_rfl) (fun _ _ _ h => h) (Or.inl ⟨by rfl, ?_⟩) hSk ?_
              rotate_left
              · intro w' hSw; (try dsimp only at hSw); go_simp; try with_reducible rfl
              try simp only [Act.put, List.setIfInBounds_toArray, List.set_cons_zero, List.set_cons_succ]
              refine anyK_take 5 [5] (v := ?_) rfl (by kernel_rfl) (by kernel_rfl) (fun _ _ _ h => h) (Or.inl ⟨by rfl, ?_⟩) hSk ?_
              rotate_left
              · intro w' hSw; (try dsimp only at hSw); go_simp; try with_reducible rfl
              try simp only [Act.put, List.setIfInBounds_toArray, List.set_cons_zero, List.set_cons_succ]
              refine anyK_take 6 [6] (v := ?_) rfl (by kernel_rfl) (by kernel_rfl) (fun _ _ _ h => h) (Or.inl ⟨by rfl, ?_⟩) hSk ?_
              rotate_left
              · intro w' hSw; (try dsimp only at hSw); go_simp; try with_reducible rfl
              try simp only [Act.put, List.setIfInBounds_toArray, List.set_cons_zero, List.set_cons_succ]
              refine anyK_take 7 [7] (v := ?_) rfl (by kernel_rfl) (by kernel_rfl) (fun _ _ _ h => h) (Or.inl ⟨by rfl, ?_⟩) hSk ?_
              rotate_left
              · intro w' hSw; (try dsimp only at hSw); go_simp; try with_reducible rfl
              try simp only [Act.put, List.setIfInBounds_toArray, List.set_cons_zero, List.set_cons_succ]
              refine anyK_only 8 (by kernel_rfl) rfl (fun K hK => ?_)
              (first | (rw [if_pos (by rfl)]; go_simp; go_at_call 67; refine AL.out.mono ?_; rintro e w3 ⟨rfl, hb3⟩; obtain ⟨p0, p1, p2, p3, p4, p5, p6, p7, p8, p9⟩ := EF.out w3 hb3; have HB3 := hid hb3; clear hb3; go_wp2_with fail) | go_simp)
              clear hSk
              refine hK.out _ _ (by ((try dsimp only); first | assumption | simp [*, go_sem, World.cell?_alloc_past])) (fun hSk => ?_)
              clear hK K
              try simp only [Act.put, List.setIfInBounds_toArray, List.set_cons_zero, List.set_cons_succ]
              refine anyK_take 9 [9] (v := ?_) rfl (by kernel_rfl) (by kernel_rfl) (fun _ _ _ h => h) (Or.inl ⟨by rfl, ?_⟩) hSk ?_
              rotate_left
              · intro w' hSw; (try dsimp only at hSw); go_simp; try with_reducible rfl
              try simp only [Act.put, List.setIfInBounds_toArray, List.set_cons_zero, List.set_cons_succ]
              refine anyK_take 10 [10] (v := ?_) rfl (by kernel_rfl) (by kernel_rfl) (fun _ _ _ h => h) (Or.inl ⟨by rfl, ?_⟩) hSk ?_
              rotate_left
              · intro w' hSw; (try dsimp only at hSw); go_simp; try with_reducible rfl
              try simp only [Act.put, List.setIfInBounds_toArray, List.set_cons_zero, List.set_cons_succ]
              refine anyK_last (by kernel_rfl) rfl (by kernel_rfl) (fun K hK => ?_)
              go_simp
              refine hK.out _ _ ?_
              clear hK K
              try simp only [Act.put, List.setIfInBounds_toArray, List.set_cons_zero, List.set_cons_succ]
              refine anyK_done (by kernel_rfl) ?_ _
              clear hSk
              go_wp2
              go_roundw
              case rel =>
                exact ⟨k + 1, ii + 1, by go_num, by go_num, by omega, by omega, STEP.out w3 HB3.out⟩
              case measure => first | omega | (simp [intOf]; omega)
            · rw [if_neg hneg] at hke1
              have hv : kn % ((np : Int) + 1) = (kk : Int) := by
                rw [hke1]
                have := Int.emod_nonneg kn (show (np : Int) + 1 ≠ 0 by omega)
                omega
              have hv2 : kn.tmod ((np : Int) + 1) = (kk : Int) := by
                rw [Int.tmod_eq_emod_of_nonneg (by omega)]
                exact hv
              clear hke1 hne
              generalize ii % keep.length = r at *
              go_wp2
              refine region_anyK (fun w' => w'.cell? ⟨g, 0, none⟩ = some (.slice (some ⟨bb, 0, none⟩) n cv) ∧ w'.cell? ⟨wr.heap.size, 0, none⟩ = some (.string (S nm)) ∧ w'.cell? ⟨wr.heap.size, 1, none⟩ = some (.string (S sf)) ∧ w'.cell? ⟨wr.heap.size, 2, none⟩ = some (.slice (some ⟨pb, 0, none⟩) kk cp)) 11 (by kernel_rfl) (by ((try dsimp only); first | assumption | simp [*, go_sem, World.cell?_alloc_past])) (fun hSk => ?_)
              refine anyK_take 0 [0] (v := ?_) rfl (by kernel_rfl) (by kernel_rfl) (fun _ _ _ h => h) (Or.inl ⟨by rfl, ?_⟩) hSk ?_
              rotate_left
              · intro w' hSw; (try dsimp only at hSw); go_simp; try with_reducible rfl
              try simp only [Act.put, List.setIfInBounds_toArray, List.set_cons_zero, List.set_cons_succ]
              refine anyK_take 1 [1] (v := ?_) rfl (by kernel_rfl) (by kernel_rfl) (fun _ _ _ h => h) (Or.inl ⟨by rfl, ?_⟩) hSk ?_
              rotate_left
              · intro w' hSw; (try dsimp only at hSw); go_simp; try with_reducible rfl
              try simp only [Act.put, List.setIfInBounds_toArray, List.set_cons_zero, List.set_cons_succ]
              refine anyK_take 2 [2] (v := ?_) rfl (by kernel_rfl) (by kernel_rfl) (fun _ _ _ h => h) (Or.inl ⟨by rfl, ?_⟩) hSk ?_
              rotate_left
              · intro w' hSw; (try dsimp only at hSw); go_simp; try with_reducible rfl
              try simp only [Act.put, List.setIfInBounds_toArray, List.set_cons_zero, List.set_cons_succ]
              refine anyK_take 3 [3] (v := ?_) rfl (by kernel_rfl) (by kernel_rfl) (fun _ _ _ h => h) (Or.inl ⟨by rfl, ?_⟩) hSk ?_
              rotate_left
              · intro w' hSw; (try dsimp only at hSw); go_simp; try with_reducible rfl
              try simp only [Act.put, List.setIfInBounds_toArray, List.set_cons_zero, List.set_cons_succ]
              refine anyK_take 4 [4] (v := ?_) rfl (by kernel_rfl) (by kernel_rfl) (fun _ _ _ h => h) (Or.inl ⟨by rfl, ?_⟩) hSk ?_
              rotate_left
              · intro w' hSw; (try dsimp only at hSw); go_simp; try with_reducible rfl
              try simp only [Act.put, List.setIfInBounds_toArray, List.set_cons_zero, List.set_cons_succ]
              refine anyK_take 5 [5] (v := ?_) rfl (by kernel_rfl) (by kernel_rfl) (fun _ _ _ h => h) (Or.inl ⟨by rfl, ?_⟩) hSk ?_
              rotate_left
              · intro w' hSw; (try dsimp only at hSw); go_simp; try with_reducible rfl
              try simp only [Act.put, List.setIfInBounds_toArray, List.set_cons_zero, List.set_cons_succ]
              refine anyK_take 6 [6] (v := ?_) rfl (by kernel_rfl) (by kernel_rfl) (fun _ _ _ h => h) (Or.inl ⟨by rfl, ?_⟩) hSk ?_
              rotate_left
              · intro w' hSw; (try dsimp only at hSw); go_simp; try with_reducible rfl
              try simp only [Act.put, List.setIfInBounds_toArray, List.set_cons_zero, List.set_cons_succ]
              refine anyK_take 7 [7] (v := ?_) rfl (by kernel_rfl) (by kernel_rfl) (fun _ _ _ h => h) (Or.inl ⟨by rfl, ?_⟩) hSk ?_
              rotate_left
              · intro w' hSw; (try dsimp only at hSw); go_simp; try with_reducible rfl
              try simp only [Act.put, List.setIfInBounds_toArray, List.set_cons_zero, List.set_cons_succ]
              refine anyK_only 8 (by kernel_rfl) rfl (fun K hK => ?_)
              (first | (rw [if_pos (by rfl)]; go_simp; go_at_call 67; refine AL.out.mono ?_; rintro e w3 ⟨rfl, hb3⟩; obtain ⟨p0, p1, p2, p3, p4, p5, p6, p7, p8, p9⟩ := EF.out w3 hb3; have HB3 := hid hb3; clear hb3; go_wp2_with fail) | go_simp)
              clear hSk
              refine hK.out _ _ (by ((try dsimp only); first | assumption | simp [*, go_sem, World.cell?_alloc_past])) (fun hSk => ?_)
              clear hK K
              try simp only [Act.put, List.setIfInBounds_toArray, List.set_cons_zero, List.set_cons_succ]
              refine anyK_take 9 [9] (v := ?_) rfl (by kernel_rfl) (by kernel_rfl) (fun _ _ _ h => h) (Or.inl ⟨by rfl, ?_⟩) hSk ?_
              rotate_left
              · intro w' hSw; (try dsimp only at hSw); go_simp; try with_reducible rfl
              try simp only [Act.put, List.setIfInBounds_toArray, List.set_cons_zero, List.set_cons_succ]
              refine anyK_take 10 [10] (v := ?_) rfl (by kernel_rfl) (by kernel_rfl) (fun _ _ _ h => h) (Or.inl ⟨by rfl, ?_⟩) hSk ?_
              rotate_left
              · intro w' hSw; (try dsimp only at hSw); go_simp; try with_reducible rfl
              try simp only [Act.put, List.setIfInBounds_toArray, List.set_cons_zero, List.set_cons_succ]
              refine anyK_last (by kernel_rfl) rfl (by kernel_rfl) (fun K hK => ?_)
              go_simp
              refine hK.out _ _ ?_
              clear hK K
              try simp only [Act.put, List.setIfInBounds_toArray, List.set_cons_zero, List.set_cons_succ]
              refine anyK_done (by kernel_rfl) ?_ _
              clear hSk
              go_wp2
              go_roundw
              case rel =>
                exact ⟨k + 1, ii + 1, by go_num, by go_num, by omega, by omega, STEP.out w3 HB3.out⟩
              case measure => first | omega | (simp [intOf]; omega)
    · have hkd : k = d.files.length := by omega
      have HT := hid (show ThenR w g (d.up keep) fp wr from fin.out _ _ _ _ _ _ hU hk)
      subst hkd
      clear hS HAI HFAR fin HS0 hU hB hF hd
      go_wp2
      go_end0
      exact ⟨rfl, HT.out⟩
theorem ref_Up {w : World} {g : Nat} {d : Dr} {fp : Nat → Prop} {N : Nat} (h : IsRef w g d fp) (hok : d.Ok N) (hN : N ≤ 1000000) (A : Option Addr) (keep : List Int) (cap : Nat) (hA : IntsAt w A keep) (hin : IntsIn keep) (hl : (keep.length : Int) ≤ 9223372036854775807) (hfar : 0 < keep.length → ∀ p, A = some p → ¬ fp p.block) :
    Calls Try.prog 43 #[.pointer (some ⟨g, 0, none⟩), .slice A keep.length cap] w fun e w' => e = .returned (.tuple #[]) ∧ ThenR w g (d.up keep) fp w' := by
  cases hdn : d.down with
  | true => exact upR_down h hok hN hdn A keep cap hA hin hl hfar
  | false => exact upR_not h hdn keep _
end Go.Proofs.Ytioillenlgpcgaa
