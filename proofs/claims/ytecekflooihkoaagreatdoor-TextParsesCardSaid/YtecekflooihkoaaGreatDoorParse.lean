/- Walk of text.Parse. -/
import Derived.Test.YtecekflooihkoaaGreatDoorRep5
import Derived.Test.YtecekflooihkoaaGreatDoorLaw07
import Derived.Deep.DeepFit
set_option linter.unusedVariables false
set_option linter.unusedSimpArgs false
set_option maxHeartbeats 100000000
set_option maxRecDepth 100000
namespace Go.Proofs.YtecekflooihkoaaGreatDoor
open Go.RowKit

def HasMax (w : World) : Prop := ∃ m, w.cell? ⟨0, 0, none⟩ = some (.int .i64 m)
theorem HasMax.below {w w' : World} (h : HasMax w) (hb : Below w.heap.size w w') : HasMax w' := by
  obtain ⟨m, hm⟩ := h
  exact ⟨m, (hb.cell (World.block_lt_of_cell? w _ hm)).trans hm⟩
theorem hasMax_shape {w : World} (h : w.ShapedOpen Tryz.prog) : HasMax w := layCut.s1_3 w h
theorem str_Cut (l sep : List UInt8) (w : World) (hm : HasMax w) (hl : l.length ≤ 1000000) :
    Calls Tryz.prog 30 #[.string (S l), .string (S sep)] w fun e w' => e = .returned (.tuple #[.string (S (Lib.cut l sep).1), .string (S (Lib.cut l sep).2.1), .bool (Lib.cut l sep).2.2]) ∧ Below w.heap.size w w' := by
  obtain ⟨m, hm⟩ := hm
  refine (Any.strings_Cut { layCut with } (S l) (S sep) m w (by rw [S_size]; omega) hm).mono ?_
  rintro e w' ⟨rfl, n, rfl⟩
  exact ⟨rfl, below_drewN (Below.refl _ _) n⟩
theorem str_CutPrefix (l p : List UInt8) (w : World) : Calls Tryz.prog 29 #[.string (S l), .string (S p)] w fun e w' => e = .returned (.tuple #[.string (S (Lib.trimPrefix l p)), .bool (Lib.hasPrefix l p)]) ∧ w' = w :=
  Any.strings_CutPrefix layCutPrefix (S l) (S p) w
theorem str_TrimLeft (c : UInt8) (hc : c.toNat < 128) (l : List UInt8) (w : World) : Calls Tryz.prog 31 #[.string (S l), .string (S [c])] w fun e w' => e = .returned (.string (S (l.dropWhile (· == c)))) ∧ w' = w :=
  Any.strings_TrimLeft_one layTrimLeft (S l) c hc w

abbrev tileC (a b c : Int) : Array Value := #[.int .i64 a, .int .i64 b, .int .i64 c]
/-- The two tiles of a call: what is told, what is read. -/
structure PS (w W : World) (a b c : Int) : Prop where
  res : Blk W w.heap.size 23 (tileC 0 0 0)
  til : Blk W (w.heap.size + 1) 23 (tileC a b c)
  bel : Below w.heap.size w W
section
variable {w W W' : World} {a b c : Int}
theorem PS.below (h : PS w W a b c) (hb : Below W.heap.size W W') : PS w W' a b c := ⟨h.res.below hb h.res.lt, h.til.below hb h.til.lt, bt h.bel hb⟩
theorem PS.set0 (h : PS w W a b c) (x : Int) : PS w (W.setCell ⟨w.heap.size + 1, 0, none⟩ (.int .i64 x)) x b c :=
  ⟨h.res.far (by simp) _, by simpa using h.til.set_ 0 (.int .i64 x), h.bel.setCell (by simp) _⟩
theorem PS.set1 (h : PS w W a b c) (x : Int) : PS w (W.setCell ⟨w.heap.size + 1, 1, none⟩ (.int .i64 x)) a x c :=
  ⟨h.res.far (by simp) _, by simpa using h.til.set_ 1 (.int .i64 x), h.bel.setCell (by simp) _⟩
theorem PS.set2 (h : PS w W a b c) (x : Int) : PS w (W.setCell ⟨w.heap.size + 1, 2, none⟩ (.int .i64 x)) a b x :=
  ⟨h.res.far (by simp) _, by simpa using h.til.set_ 2 (.int .i64 x), h.bel.setCell (by simp) _⟩
theorem PS.cells (h : PS w W a b c) : W.cell? ⟨w.heap.size + 1, 0, none⟩ = some (.int .i64 a) ∧ W.cell? ⟨w.heap.size + 1, 1, none⟩ = some (.int .i64 b) ∧ W.cell? ⟨w.heap.size + 1, 2, none⟩ = some (.int .i64 c) ∧
    W.frozen? ⟨w.heap.size + 1, 0, none⟩ = false ∧ W.frozen? ⟨w.heap.size + 1, 1, none⟩ = false ∧ W.frozen? ⟨w.heap.size + 1, 2, none⟩ = false :=
  ⟨h.til.cell 0, h.til.cell 1, h.til.cell 2, h.til.frozen 0, h.til.frozen 1, h.til.frozen 2⟩
theorem PS.rcells (h : PS w W a b c) : W.cell? ⟨w.heap.size, 0, none⟩ = some (.int .i64 0) ∧ W.cell? ⟨w.heap.size, 1, none⟩ = some (.int .i64 0) ∧ W.cell? ⟨w.heap.size, 2, none⟩ = some (.int .i64 0) ∧
    W.frozen? ⟨w.heap.size, 0, none⟩ = false ∧ W.frozen? ⟨w.heap.size, 1, none⟩ = false ∧ W.frozen? ⟨w.heap.size, 2, none⟩ = false :=
  ⟨h.res.cell 0, h.res.cell 1, h.res.cell 2, h.res.frozen 0, h.res.frozen 1, h.res.frozen 2⟩
theorem PS.out (h : PS w W a b c) (x y z : Int) : Blk (((W.setCell ⟨w.heap.size, 0, none⟩ (.int .i64 x)).setCell ⟨w.heap.size, 1, none⟩ (.int .i64 y)).setCell ⟨w.heap.size, 2, none⟩ (.int .i64 z)) w.heap.size 23 (tileC x y z) ∧
    Below w.heap.size w (((W.setCell ⟨w.heap.size, 0, none⟩ (.int .i64 x)).setCell ⟨w.heap.size, 1, none⟩ (.int .i64 y)).setCell ⟨w.heap.size, 2, none⟩ (.int .i64 z)) :=
  ⟨by simpa using ((h.res.set_ 0 (.int .i64 x)).set_ 1 (.int .i64 y)).set_ 2 (.int .i64 z), ((h.bel.setCell (p := ⟨w.heap.size, 0, none⟩) (Nat.le_refl _) _).setCell (p := ⟨w.heap.size, 1, none⟩) (Nat.le_refl _) _).setCell (p := ⟨w.heap.size, 2, none⟩) (Nat.le_refl _) _⟩
end
theorem ps_start (w : World) (z : Array Value) (hz : z = tileC 0 0 0) (a b c : Int) : PS w ((w.alloc (.cells z 23)).alloc (.cells (tileC a b c) 23)) a b c := by
  subst hz
  refine ⟨(Blk.new w _ _).alloc _, ?_, ((Below.refl _ _).alloc (Nat.le_refl _) _).alloc (by simp) _⟩
  have := Blk.new (w.alloc (.cells (tileC 0 0 0) 23)) 23 (tileC a b c)
  simpa using this
def ParsePost (l : List UInt8) (w : World) (e : Ending) (w' : World) : Prop :=
  e = .returned (.tuple #[.agg (if okT l then tileC (lvlT l) (idxT l) (widT l) else tileC 0 0 0), .int .i64 (if okT l then 0 else 2)]) ∧ Below w.heap.size w w'
theorem parse_no {l : List UInt8} {w w' : World} (h : okT l = false) (hb : Below w.heap.size w w') : ParsePost l w (.returned (.tuple #[.agg #[.int .i64 0, .int .i64 0, .int .i64 0], .int .i64 2])) w' := by
  unfold ParsePost
  rw [h]
  exact ⟨rfl, hb⟩
theorem parse_yes {l : List UInt8} {w w' : World} {a b c : Int} (h : okT l = true) (ha : lvlT l = a) (hb' : idxT l = b) (hc : widT l = c) (hb : Below w.heap.size w w') : ParsePost l w (.returned (.tuple #[.agg #[.int .i64 a, .int .i64 b, .int .i64 c], .int .i64 0])) w' := by
  unfold ParsePost
  rw [h]
  subst ha hb' hc
  exact ⟨rfl, hb⟩
theorem num_in (l : List UInt8) : -9223372036854775808 ≤ numI l ∧ numI l ≤ 9223372036854775807 := by
  cases h : isNum l with
  | true => exact (num_yes h).2
  | false => rw [(num_no h).1]; omega
theorem text_Parse (l : List UInt8) (hl : l.length ≤ 1000) (w : World) (hm : HasMax w) : Calls Tryz.prog 11 #[.string (S l)] w (ParsePost l w) := by
  have hmf : ∀ (fn : Fn) (first cap : Array Value) (w : World), (Instr.makeFunc fn first cap).run Tryz.prog w = .ok (.func fn first cap) w := fun _ _ _ _ => rfl
  have hrl : (restT l).length ≤ 1000 := by
    unfold restT
    split
    · simp; omega
    · exact hl
  have CP := hid (fun W => str_CutPrefix l preT W)
  have hrest : Lib.trimPrefix l preT = restT l := rfl
  rw [hrest] at CP
  clear hrest
  have hal := ahead_len 47 (restT l)
  have hbl := behind_len 47 (restT l)
  have C1 := hid (fun W (h : HasMax W) => str_Cut (restT l) [47] W h (by omega))
  rw [cut_ahead] at C1
  have htl : (tailT l).length ≤ 1000 := by unfold tailT; simp; omega
  have C2 := hid (fun W (h : HasMax W) => str_Cut (tailT l) dotP W h (by omega))
  have hlv : lvlT l = if ahead 47 (restT l) = entT then -1 else numI (ahead 47 (restT l)) := rfl
  have htt : tailT l = (behind 47 (restT l)).tail := rfl
  rw [← htt] at C1
  have hwd : widT l = if (cutT l).2.2 then numI (cutT l).2.1 else 256 := rfl
  have hix : idxT l = if nulT (cutT l).1 = [] then 0 else numI (nulT (cutT l).1) := rfl
  have hcl : (cutT l).1.length ≤ 1000 := by
    unfold cutT Lib.cut
    split
    · simp; omega
    · exact htl
  have hok : okT l = (isTile (lvlT l) (idxT l) (widT l) && (pathT (lvlT l) (idxT l) (widT l) == l)) := rfl
  have hC2 : ∀ W, HasMax W → _ := C2.out
  rw [show Lib.cut (tailT l) dotP = cutT l from rfl] at C2
  clear htt hC2 hrl hbl
  have RP := hid (fun W g ob c (h : Rep0 W g ob c) (hne : ob ≠ g) B (hBg : B ≤ g) => rep_Replace g ob c (cutT l).1 hcl W h hne B hBg)
  have TL := hid (fun W => str_TrimLeft 48 (by decide) (keepT (cutT l).1) W)
  rw [show (keepT (cutT l).1).dropWhile (· == 48) = nulT (cutT l).1 from rfl] at TL
  have HOK := hid hok
  have HLV := hid hlv
  have HWD := hid hwd
  have HIX := hid hix
  clear hok hlv hwd hix
  have LVE0 : ∃ x, lvlT l = x := ⟨_, rfl⟩
  have WDE0 : ∃ x, widT l = x := ⟨_, rfl⟩
  have IXE0 : ∃ x, idxT l = x := ⟨_, rfl⟩
  obtain ⟨lv, LVE⟩ := LVE0
  obtain ⟨wd, WDE⟩ := WDE0
  obtain ⟨ix, IXE⟩ := IXE0
  rw [LVE] at HLV HOK
  rw [WDE] at HWD HOK
  rw [IXE] at HIX HOK
  have LVE := hid LVE
  have WDE := hid WDE
  have IXE := hid IXE
  have LVB := hid (show -9223372036854775808 ≤ lv ∧ lv ≤ 9223372036854775807 by
    rw [HLV.out]
    split
    · omega
    · exact num_in _)
  have IXB := hid (show -9223372036854775808 ≤ ix ∧ ix ≤ 9223372036854775807 by
    rw [HIX.out]
    split
    · omega
    · exact num_in _)
  generalize restT l = rs at *
  generalize tailT l = ts at *
  generalize hkt : cutT l = ct at *
  obtain ⟨r2, wds, part⟩ := ct
  simp only at RP TL HWD HIX C2 hcl
  clear hkt
  generalize ahead 47 rs = lvs at *
  generalize (behind 47 rs).isEmpty = isE at *
  generalize keepT r2 = kp at *
  generalize nulT r2 = nl at *
  have NM := hid (fun (t : List UInt8) (W : World) => text_Number t W)
  have HM := hid hm
  clear hm
  have P1 : Hid (PS w ((w.alloc (.cells #[.int .i64 0, .int .i64 0, .int .i64 0] 23)).alloc (.cells #[.int .i64 (-1), .int .i64 0, .int .i64 256] 23)) (-1) 0 256) := ps_start w _ rfl (-1) 0 256
  go_enter Tryz.func11, Tryz.ntmps11
  go_wp2_with fail
  refine (CP.out _).mono ?_
  rintro e w' ⟨rfl, rfl⟩
  generalize (w.alloc (.cells #[.int .i64 0, .int .i64 0, .int .i64 0] 23)).alloc (.cells #[.int .i64 (-1), .int .i64 0, .int .i64 256] 23) = W1 at *
  go_wp2_with fail
  refine (C1.out _ (HM.out.below P1.out.bel)).mono ?_
  rintro e W2 ⟨rfl, hb2⟩
  have P2 := hid (P1.out.below hb2)
  clear hb2 P1
  by_cases hent : lvs = entT
  · have h1 : (lvs == [101, 110, 116, 114, 105, 101, 115]) = true := by rw [hent]; rfl
    have h2 : (lvs != [101, 110, 116, 114, 105, 101, 115]) = false := by rw [hent]; rfl
    rw [if_pos hent] at HLV
    clear hent
    go_wp2_with fail
    obtain ⟨W4, rfl⟩ : ∃ W4 : World, W4 = W2 := ⟨_, rfl⟩
    have P4 : Hid (PS w W4 lv 0 256) := by unfold Hid; rw [HLV.out]; exact P2.out
    clear P2 h1 h2
    refine (C2.out _ (HM.out.below P4.out.bel)).mono ?_
    rintro e W5 ⟨rfl, hb5⟩
    have P5 := hid (P4.out.below hb5)
    clear hb5 P4
    cases part with
    | false =>
      simp only [Bool.false_eq_true, if_false] at HWD
      obtain ⟨W6, rfl⟩ : ∃ W6 : World, W6 = W5 := ⟨_, rfl⟩
      have P6 : Hid (PS w W6 lv 0 wd) := by unfold Hid; rw [HWD.out]; exact P5.out
      have WDB := hid (show -9223372036854775808 ≤ wd ∧ wd ≤ 9223372036854775807 by rw [HWD.out]; omega)
      clear P5
      go_wp2_with fail
      have hbk := (Blk.new W6 9 #[.string (S [120]), .string (S []), .string (S [47]), .string (S [])])
      refine (newReplacer W6.heap.size _ hbk).mono ?_
      rintro e W7 ⟨g, ob, c, rfl, hg, hR0, hne, hb7⟩
      have P7 := hid ((P6.out.below ((Below.refl _ _).alloc (Nat.le_refl _) (.cells #[.string (S [120]), .string (S []), .string (S [47]), .string (S [])] 9))).below hb7)
      have HR := hid hR0
      have hgW : W6.heap.size ≤ g := by simp at hg; omega
      have hneH := hid hne
      have BW7 := hid (show Below W6.heap.size W6 W7 from below_alloc_any (Nat.le_refl _) (hb7.mono (by simp)))
      clear hbk hb7 hR0 hne hg P7
      go_wp2_with fail
      refine (RP.out _ g ob c HR.out hneH.out W6.heap.size hgW).mono ?_
      rintro e W8 ⟨rfl, hb8⟩
      have P8 := hid (P6.out.below (BW7.out.trans hb8))
      clear hb8 HR hneH BW7 P6
      go_wp2_with fail
      refine (TL.out _).mono ?_
      rintro e w' ⟨rfl, hw⟩
      have hw' := hw.symm
      subst hw'
      by_cases hnl : nl = []
      · rw [if_pos hnl] at HIX
        subst hnl
        obtain ⟨W9, rfl⟩ : ∃ W9 : World, W9 = W8 := ⟨_, rfl⟩
        have P9 : Hid (PS w W9 lv ix wd) := by unfold Hid; rw [HIX.out]; exact P8.out
        clear P8
        obtain ⟨c0, c1, c2, f0, f1, f2⟩ := P9.out.cells
        go_wp2_with fail
        have ha := LVB.out
        have hx := IXB.out
        have hw := WDB.out
        cases hti : isTile lv ix wd with
        | false =>
          have PT := text_Path lv ix wd W9 ha hx hw
          unfold PathPost at PT
          rw [show pathS lv ix wd = [] by unfold pathS; rw [hti]; rfl, show pathE lv ix wd = 1 by unfold pathE; rw [hti]; rfl] at PT
          have HPT := hid PT
          have HN := hid (show okT l = false by rw [HOK.out, hti]; rfl)
          clear PT hti ha hx hw
          refine HPT.out.mono ?_
          rintro e WA ⟨rfl, hbA⟩
          have PA := hid (P9.out.below hbA)
          obtain ⟨r0, r1, r2', g0, g1, g2⟩ := PA.out.rcells
          have OU := hid (PA.out.out 0 0 0)
          clear hbA c0 c1 c2 f0 f1 f2
          go_wp2
          have e0 := OU.out.1.cell 0
          have e1 := OU.out.1.cell 1
          have e2 := OU.out.1.cell 2
          refine bodyPost_ret (v := .tuple #[.agg #[.int .i64 0, .int .i64 0, .int .i64 0], .int .i64 2]) (by simp [results, Tryz.results11, go_sem, e0, e1, e2]) rfl (parse_no HN.out OU.out.2)
        | true =>
          have PT := text_Path lv ix wd W9 ha hx hw
          unfold PathPost at PT
          rw [show pathS lv ix wd = pathT lv ix wd by unfold pathS; rw [hti]; rfl, show pathE lv ix wd = 0 by unfold pathE; rw [hti]; rfl] at PT
          have HPT := hid PT
          clear PT ha hx hw
          cases hpl : (pathT lv ix wd == l) with
          | false =>
            have hpl' : (pathT lv ix wd != l) = true := by rw [bne, hpl]; rfl
            have HN := hid (show okT l = false by rw [HOK.out, hti, hpl]; rfl)
            clear hti
            generalize pathT lv ix wd = pt at *
            refine HPT.out.mono ?_
            rintro e WA ⟨rfl, hbA⟩
            have PA := hid (P9.out.below hbA)
            obtain ⟨r0, r1, r2', g0, g1, g2⟩ := PA.out.rcells
            have OU := hid (PA.out.out 0 0 0)
            clear hbA c0 c1 c2 f0 f1 f2
            go_wp2
            have e0 := OU.out.1.cell 0
            have e1 := OU.out.1.cell 1
            have e2 := OU.out.1.cell 2
            refine bodyPost_ret (v := .tuple #[.agg #[.int .i64 0, .int .i64 0, .int .i64 0], .int .i64 2]) (by simp [results, Tryz.results11, go_sem, e0, e1, e2]) rfl (parse_no HN.out OU.out.2)
          | true =>
            have hpl' : (pathT lv ix wd != l) = false := by rw [bne, hpl]; rfl
            have HN := hid (show okT l = true by rw [HOK.out, hti, hpl]; rfl)
            clear hti
            generalize pathT lv ix wd = pt at *
            refine HPT.out.mono ?_
            rintro e WA ⟨rfl, hbA⟩
            have PA := hid (P9.out.below hbA)
            obtain ⟨r0, r1, r2', g0, g1, g2⟩ := PA.out.rcells
            clear c0 c1 c2 f0 f1 f2
            obtain ⟨c0, c1, c2, f0, f1, f2⟩ := PA.out.cells
            have OU := hid (PA.out.out lv ix wd)
            clear hbA
            go_wp2
            have e0 := OU.out.1.cell 0
            have e1 := OU.out.1.cell 1
            have e2 := OU.out.1.cell 2
            refine bodyPost_ret (v := .tuple #[.agg #[.int .i64 lv, .int .i64 ix, .int .i64 wd], .int .i64 0]) (by simp [results, Tryz.results11, go_sem, e0, e1, e2]) rfl (parse_yes HN.out LVE.out IXE.out WDE.out OU.out.2)

      · have hn1 : nl.isEmpty = false := by cases nl with | nil => exact absurd rfl hnl | cons => rfl
        have hn2 : (!nl.isEmpty) = true := by rw [hn1]; rfl
        rw [if_neg hnl] at HIX
        clear hnl
        go_wp2_with fail
        refine (NM.out nl _).mono ?_
        rintro e W3 ⟨rfl, hb3⟩
        have P3 := hid (P8.out.below hb3)
        have P9 : Hid (PS w (W3.setCell ⟨w.heap.size + 1, 1, none⟩ (.int .i64 (numI nl))) lv ix wd) := by unfold Hid; rw [HIX.out]; exact P3.out.set1 _
        obtain ⟨c0, c1, c2, f0, f1, f2⟩ := P3.out.cells
        obtain ⟨d0, d1, d2, -, -, -⟩ := P9.out.cells
        clear hb3 P3 P8
        go_wp2_with fail
        clear c0 c1 c2 f0 f1 f2 d0 d1 d2
        generalize W3.setCell ⟨w.heap.size + 1, 1, none⟩ (.int .i64 (numI nl)) = W9 at *
        obtain ⟨c0, c1, c2, f0, f1, f2⟩ := P9.out.cells
        have ha := LVB.out
        have hx := IXB.out
        have hw := WDB.out
        cases hti : isTile lv ix wd with
        | false =>
          have PT := text_Path lv ix wd W9 ha hx hw
          unfold PathPost at PT
          rw [show pathS lv ix wd = [] by unfold pathS; rw [hti]; rfl, show pathE lv ix wd = 1 by unfold pathE; rw [hti]; rfl] at PT
          have HPT := hid PT
          have HN := hid (show okT l = false by rw [HOK.out, hti]; rfl)
          clear PT hti ha hx hw
          refine HPT.out.mono ?_
          rintro e WA ⟨rfl, hbA⟩
          have PA := hid (P9.out.below hbA)
          obtain ⟨r0, r1, r2', g0, g1, g2⟩ := PA.out.rcells
          have OU := hid (PA.out.out 0 0 0)
          clear hbA c0 c1 c2 f0 f1 f2
          go_wp2
          have e0 := OU.out.1.cell 0
          have e1 := OU.out.1.cell 1
          have e2 := OU.out.1.cell 2
          refine bodyPost_ret (v := .tuple #[.agg #[.int .i64 0, .int .i64 0, .int .i64 0], .int .i64 2]) (by simp [results, Tryz.results11, go_sem, e0, e1, e2]) rfl (parse_no HN.out OU.out.2)
        | true =>
          have PT := text_Path lv ix wd W9 ha hx hw
          unfold PathPost at PT
          rw [show pathS lv ix wd = pathT lv ix wd by unfold pathS; rw [hti]; rfl, show pathE lv ix wd = 0 by unfold pathE; rw [hti]; rfl] at PT
          have HPT := hid PT
          clear PT ha hx hw
          cases hpl : (pathT lv ix wd == l) with
          | false =>
            have hpl' : (pathT lv ix wd != l) = true := by rw [bne, hpl]; rfl
            have HN := hid (show okT l = false by rw [HOK.out, hti, hpl]; rfl)
            clear hti
            generalize pathT lv ix wd = pt at *
            refine HPT.out.mono ?_
            rintro e WA ⟨rfl, hbA⟩
            have PA := hid (P9.out.below hbA)
            obtain ⟨r0, r1, r2', g0, g1, g2⟩ := PA.out.rcells
            have OU := hid (PA.out.out 0 0 0)
            clear hbA c0 c1 c2 f0 f1 f2
            go_wp2
            have e0 := OU.out.1.cell 0
            have e1 := OU.out.1.cell 1
            have e2 := OU.out.1.cell 2
            refine bodyPost_ret (v := .tuple #[.agg #[.int .i64 0, .int .i64 0, .int .i64 0], .int .i64 2]) (by simp [results, Tryz.results11, go_sem, e0, e1, e2]) rfl (parse_no HN.out OU.out.2)
          | true =>
            have hpl' : (pathT lv ix wd != l) = false := by rw [bne, hpl]; rfl
            have HN := hid (show okT l = true by rw [HOK.out, hti, hpl]; rfl)
            clear hti
            generalize pathT lv ix wd = pt at *
            refine HPT.out.mono ?_
            rintro e WA ⟨rfl, hbA⟩
            have PA := hid (P9.out.below hbA)
            obtain ⟨r0, r1, r2', g0, g1, g2⟩ := PA.out.rcells
            clear c0 c1 c2 f0 f1 f2
            obtain ⟨c0, c1, c2, f0, f1, f2⟩ := PA.out.cells
            have OU := hid (PA.out.out lv ix wd)
            clear hbA
            go_wp2
            have e0 := OU.out.1.cell 0
            have e1 := OU.out.1.cell 1
            have e2 := OU.out.1.cell 2
            refine bodyPost_ret (v := .tuple #[.agg #[.int .i64 lv, .int .i64 ix, .int .i64 wd], .int .i64 0]) (by simp [results, Tryz.results11, go_sem, e0, e1, e2]) rfl (parse_yes HN.out LVE.out IXE.out WDE.out OU.out.2)

    | true =>
      simp only [if_true] at HWD
      have WDB := hid (show -9223372036854775808 ≤ wd ∧ wd ≤ 9223372036854775807 by rw [HWD.out]; exact num_in _)
      go_wp2_with fail
      refine (NM.out wds _).mono ?_
      rintro e W3 ⟨rfl, hb3⟩
      have P3 := hid (P5.out.below hb3)
      have P6 : Hid (PS w (W3.setCell ⟨w.heap.size + 1, 2, none⟩ (.int .i64 (numI wds))) lv 0 wd) := by unfold Hid; rw [HWD.out]; exact P3.out.set2 _
      obtain ⟨c0, c1, c2, f0, f1, f2⟩ := P3.out.cells
      clear hb3 P3 P5
      go_wp2_with fail
      clear c0 c1 c2 f0 f1 f2
      have hz : (W3.setCell ⟨w.heap.size + 1, 2, none⟩ (.int .i64 (numI wds))).heap.size = W3.heap.size := by simp
      generalize W3.setCell ⟨w.heap.size + 1, 2, none⟩ (.int .i64 (numI wds)) = W6 at *
      rw [← hz]
      clear hz
      have hbk := (Blk.new W6 9 #[.string (S [120]), .string (S []), .string (S [47]), .string (S [])])
      refine (newReplacer W6.heap.size _ hbk).mono ?_
      rintro e W7 ⟨g, ob, c, rfl, hg, hR0, hne, hb7⟩
      have P7 := hid ((P6.out.below ((Below.refl _ _).alloc (Nat.le_refl _) (.cells #[.string (S [120]), .string (S []), .string (S [47]), .string (S [])] 9))).below hb7)
      have HR := hid hR0
      have hgW : W6.heap.size ≤ g := by simp at hg; omega
      have hneH := hid hne
      have BW7 := hid (show Below W6.heap.size W6 W7 from below_alloc_any (Nat.le_refl _) (hb7.mono (by simp)))
      clear hbk hb7 hR0 hne hg P7
      go_wp2_with fail
      refine (RP.out _ g ob c HR.out hneH.out W6.heap.size hgW).mono ?_
      rintro e W8 ⟨rfl, hb8⟩
      have P8 := hid (P6.out.below (BW7.out.trans hb8))
      clear hb8 HR hneH BW7 P6
      go_wp2_with fail
      refine (TL.out _).mono ?_
      rintro e w' ⟨rfl, hw⟩
      have hw' := hw.symm
      subst hw'
      by_cases hnl : nl = []
      · rw [if_pos hnl] at HIX
        subst hnl
        obtain ⟨W9, rfl⟩ : ∃ W9 : World, W9 = W8 := ⟨_, rfl⟩
        have P9 : Hid (PS w W9 lv ix wd) := by unfold Hid; rw [HIX.out]; exact P8.out
        clear P8
        obtain ⟨c0, c1, c2, f0, f1, f2⟩ := P9.out.cells
        go_wp2_with fail
        have ha := LVB.out
        have hx := IXB.out
        have hw := WDB.out
        cases hti : isTile lv ix wd with
        | false =>
          have PT := text_Path lv ix wd W9 ha hx hw
          unfold PathPost at PT
          rw [show pathS lv ix wd = [] by unfold pathS; rw [hti]; rfl, show pathE lv ix wd = 1 by unfold pathE; rw [hti]; rfl] at PT
          have HPT := hid PT
          have HN := hid (show okT l = false by rw [HOK.out, hti]; rfl)
          clear PT hti ha hx hw
          refine HPT.out.mono ?_
          rintro e WA ⟨rfl, hbA⟩
          have PA := hid (P9.out.below hbA)
          obtain ⟨r0, r1, r2', g0, g1, g2⟩ := PA.out.rcells
          have OU := hid (PA.out.out 0 0 0)
          clear hbA c0 c1 c2 f0 f1 f2
          go_wp2
          have e0 := OU.out.1.cell 0
          have e1 := OU.out.1.cell 1
          have e2 := OU.out.1.cell 2
          refine bodyPost_ret (v := .tuple #[.agg #[.int .i64 0, .int .i64 0, .int .i64 0], .int .i64 2]) (by simp [results, Tryz.results11, go_sem, e0, e1, e2]) rfl (parse_no HN.out OU.out.2)
        | true =>
          have PT := text_Path lv ix wd W9 ha hx hw
          unfold PathPost at PT
          rw [show pathS lv ix wd = pathT lv ix wd by unfold pathS; rw [hti]; rfl, show pathE lv ix wd = 0 by unfold pathE; rw [hti]; rfl] at PT
          have HPT := hid PT
          clear PT ha hx hw
          cases hpl : (pathT lv ix wd == l) with
          | false =>
            have hpl' : (pathT lv ix wd != l) = true := by rw [bne, hpl]; rfl
            have HN := hid (show okT l = false by rw [HOK.out, hti, hpl]; rfl)
            clear hti
            generalize pathT lv ix wd = pt at *
            refine HPT.out.mono ?_
            rintro e WA ⟨rfl, hbA⟩
            have PA := hid (P9.out.below hbA)
            obtain ⟨r0, r1, r2', g0, g1, g2⟩ := PA.out.rcells
            have OU := hid (PA.out.out 0 0 0)
            clear hbA c0 c1 c2 f0 f1 f2
            go_wp2
            have e0 := OU.out.1.cell 0
            have e1 := OU.out.1.cell 1
            have e2 := OU.out.1.cell 2
            refine bodyPost_ret (v := .tuple #[.agg #[.int .i64 0, .int .i64 0, .int .i64 0], .int .i64 2]) (by simp [results, Tryz.results11, go_sem, e0, e1, e2]) rfl (parse_no HN.out OU.out.2)
          | true =>
            have hpl' : (pathT lv ix wd != l) = false := by rw [bne, hpl]; rfl
            have HN := hid (show okT l = true by rw [HOK.out, hti, hpl]; rfl)
            clear hti
            generalize pathT lv ix wd = pt at *
            refine HPT.out.mono ?_
            rintro e WA ⟨rfl, hbA⟩
            have PA := hid (P9.out.below hbA)
            obtain ⟨r0, r1, r2', g0, g1, g2⟩ := PA.out.rcells
            clear c0 c1 c2 f0 f1 f2
            obtain ⟨c0, c1, c2, f0, f1, f2⟩ := PA.out.cells
            have OU := hid (PA.out.out lv ix wd)
            clear hbA
            go_wp2
            have e0 := OU.out.1.cell 0
            have e1 := OU.out.1.cell 1
            have e2 := OU.out.1.cell 2
            refine bodyPost_ret (v := .tuple #[.agg #[.int .i64 lv, .int .i64 ix, .int .i64 wd], .int .i64 0]) (by simp [results, Tryz.results11, go_sem, e0, e1, e2]) rfl (parse_yes HN.out LVE.out IXE.out WDE.out OU.out.2)

      · have hn1 : nl.isEmpty = false := by cases nl with | nil => exact absurd rfl hnl | cons => rfl
        have hn2 : (!nl.isEmpty) = true := by rw [hn1]; rfl
        rw [if_neg hnl] at HIX
        clear hnl
        go_wp2_with fail
        refine (NM.out nl _).mono ?_
        rintro e W3 ⟨rfl, hb3⟩
        have P3 := hid (P8.out.below hb3)
        have P9 : Hid (PS w (W3.setCell ⟨w.heap.size + 1, 1, none⟩ (.int .i64 (numI nl))) lv ix wd) := by unfold Hid; rw [HIX.out]; exact P3.out.set1 _
        obtain ⟨c0, c1, c2, f0, f1, f2⟩ := P3.out.cells
        obtain ⟨d0, d1, d2, -, -, -⟩ := P9.out.cells
        clear hb3 P3 P8
        go_wp2_with fail
        clear c0 c1 c2 f0 f1 f2 d0 d1 d2
        generalize W3.setCell ⟨w.heap.size + 1, 1, none⟩ (.int .i64 (numI nl)) = W9 at *
        obtain ⟨c0, c1, c2, f0, f1, f2⟩ := P9.out.cells
        have ha := LVB.out
        have hx := IXB.out
        have hw := WDB.out
        cases hti : isTile lv ix wd with
        | false =>
          have PT := text_Path lv ix wd W9 ha hx hw
          unfold PathPost at PT
          rw [show pathS lv ix wd = [] by unfold pathS; rw [hti]; rfl, show pathE lv ix wd = 1 by unfold pathE; rw [hti]; rfl] at PT
          have HPT := hid PT
          have HN := hid (show okT l = false by rw [HOK.out, hti]; rfl)
          clear PT hti ha hx hw
          refine HPT.out.mono ?_
          rintro e WA ⟨rfl, hbA⟩
          have PA := hid (P9.out.below hbA)
          obtain ⟨r0, r1, r2', g0, g1, g2⟩ := PA.out.rcells
          have OU := hid (PA.out.out 0 0 0)
          clear hbA c0 c1 c2 f0 f1 f2
          go_wp2
          have e0 := OU.out.1.cell 0
          have e1 := OU.out.1.cell 1
          have e2 := OU.out.1.cell 2
          refine bodyPost_ret (v := .tuple #[.agg #[.int .i64 0, .int .i64 0, .int .i64 0], .int .i64 2]) (by simp [results, Tryz.results11, go_sem, e0, e1, e2]) rfl (parse_no HN.out OU.out.2)
        | true =>
          have PT := text_Path lv ix wd W9 ha hx hw
          unfold PathPost at PT
          rw [show pathS lv ix wd = pathT lv ix wd by unfold pathS; rw [hti]; rfl, show pathE lv ix wd = 0 by unfold pathE; rw [hti]; rfl] at PT
          have HPT := hid PT
          clear PT ha hx hw
          cases hpl : (pathT lv ix wd == l) with
          | false =>
            have hpl' : (pathT lv ix wd != l) = true := by rw [bne, hpl]; rfl
            have HN := hid (show okT l = false by rw [HOK.out, hti, hpl]; rfl)
            clear hti
            generalize pathT lv ix wd = pt at *
            refine HPT.out.mono ?_
            rintro e WA ⟨rfl, hbA⟩
            have PA := hid (P9.out.below hbA)
            obtain ⟨r0, r1, r2', g0, g1, g2⟩ := PA.out.rcells
            have OU := hid (PA.out.out 0 0 0)
            clear hbA c0 c1 c2 f0 f1 f2
            go_wp2
            have e0 := OU.out.1.cell 0
            have e1 := OU.out.1.cell 1
            have e2 := OU.out.1.cell 2
            refine bodyPost_ret (v := .tuple #[.agg #[.int .i64 0, .int .i64 0, .int .i64 0], .int .i64 2]) (by simp [results, Tryz.results11, go_sem, e0, e1, e2]) rfl (parse_no HN.out OU.out.2)
          | true =>
            have hpl' : (pathT lv ix wd != l) = false := by rw [bne, hpl]; rfl
            have HN := hid (show okT l = true by rw [HOK.out, hti, hpl]; rfl)
            clear hti
            generalize pathT lv ix wd = pt at *
            refine HPT.out.mono ?_
            rintro e WA ⟨rfl, hbA⟩
            have PA := hid (P9.out.below hbA)
            obtain ⟨r0, r1, r2', g0, g1, g2⟩ := PA.out.rcells
            clear c0 c1 c2 f0 f1 f2
            obtain ⟨c0, c1, c2, f0, f1, f2⟩ := PA.out.cells
            have OU := hid (PA.out.out lv ix wd)
            clear hbA
            go_wp2
            have e0 := OU.out.1.cell 0
            have e1 := OU.out.1.cell 1
            have e2 := OU.out.1.cell 2
            refine bodyPost_ret (v := .tuple #[.agg #[.int .i64 lv, .int .i64 ix, .int .i64 wd], .int .i64 0]) (by simp [results, Tryz.results11, go_sem, e0, e1, e2]) rfl (parse_yes HN.out LVE.out IXE.out WDE.out OU.out.2)

  · have h1 : (lvs == [101, 110, 116, 114, 105, 101, 115]) = false := by rw [beq_eq_false_iff_ne]; exact hent
    have h2 : (lvs != [101, 110, 116, 114, 105, 101, 115]) = true := by rw [bne_iff_ne]; exact hent
    rw [if_neg hent] at HLV
    clear hent
    go_wp2_with fail
    refine (NM.out lvs _).mono ?_
    rintro e W3 ⟨rfl, hb3⟩
    have P3 := hid (P2.out.below hb3)
    have P4 : Hid (PS w (W3.setCell ⟨w.heap.size + 1, 0, none⟩ (.int .i64 (numI lvs))) lv 0 256) := by unfold Hid; rw [HLV.out]; exact P3.out.set0 _
    obtain ⟨c0, c1, c2, f0, f1, f2⟩ := P3.out.cells
    clear hb3 P3
    go_wp2_with fail
    clear c0 c1 c2 f0 f1 f2 P2 h1 h2
    generalize W3.setCell ⟨w.heap.size + 1, 0, none⟩ (.int .i64 (numI lvs)) = W4 at *
    refine (C2.out _ (HM.out.below P4.out.bel)).mono ?_
    rintro e W5 ⟨rfl, hb5⟩
    have P5 := hid (P4.out.below hb5)
    clear hb5 P4
    cases part with
    | false =>
      simp only [Bool.false_eq_true, if_false] at HWD
      obtain ⟨W6, rfl⟩ : ∃ W6 : World, W6 = W5 := ⟨_, rfl⟩
      have P6 : Hid (PS w W6 lv 0 wd) := by unfold Hid; rw [HWD.out]; exact P5.out
      have WDB := hid (show -9223372036854775808 ≤ wd ∧ wd ≤ 9223372036854775807 by rw [HWD.out]; omega)
      clear P5
      go_wp2_with fail
      have hbk := (Blk.new W6 9 #[.string (S [120]), .string (S []), .string (S [47]), .string (S [])])
      refine (newReplacer W6.heap.size _ hbk).mono ?_
      rintro e W7 ⟨g, ob, c, rfl, hg, hR0, hne, hb7⟩
      have P7 := hid ((P6.out.below ((Below.refl _ _).alloc (Nat.le_refl _) (.cells #[.string (S [120]), .string (S []), .string (S [47]), .string (S [])] 9))).below hb7)
      have HR := hid hR0
      have hgW : W6.heap.size ≤ g := by simp at hg; omega
      have hneH := hid hne
      have BW7 := hid (show Below W6.heap.size W6 W7 from below_alloc_any (Nat.le_refl _) (hb7.mono (by simp)))
      clear hbk hb7 hR0 hne hg P7
      go_wp2_with fail
      refine (RP.out _ g ob c HR.out hneH.out W6.heap.size hgW).mono ?_
      rintro e W8 ⟨rfl, hb8⟩
      have P8 := hid (P6.out.below (BW7.out.trans hb8))
      clear hb8 HR hneH BW7 P6
      go_wp2_with fail
      refine (TL.out _).mono ?_
      rintro e w' ⟨rfl, hw⟩
      have hw' := hw.symm
      subst hw'
      by_cases hnl : nl = []
      · rw [if_pos hnl] at HIX
        subst hnl
        obtain ⟨W9, rfl⟩ : ∃ W9 : World, W9 = W8 := ⟨_, rfl⟩
        have P9 : Hid (PS w W9 lv ix wd) := by unfold Hid; rw [HIX.out]; exact P8.out
        clear P8
        obtain ⟨c0, c1, c2, f0, f1, f2⟩ := P9.out.cells
        go_wp2_with fail
        have ha := LVB.out
        have hx := IXB.out
        have hw := WDB.out
        cases hti : isTile lv ix wd with
        | false =>
          have PT := text_Path lv ix wd W9 ha hx hw
          unfold PathPost at PT
          rw [show pathS lv ix wd = [] by unfold pathS; rw [hti]; rfl, show pathE lv ix wd = 1 by unfold pathE; rw [hti]; rfl] at PT
          have HPT := hid PT
          have HN := hid (show okT l = false by rw [HOK.out, hti]; rfl)
          clear PT hti ha hx hw
          refine HPT.out.mono ?_
          rintro e WA ⟨rfl, hbA⟩
          have PA := hid (P9.out.below hbA)
          obtain ⟨r0, r1, r2', g0, g1, g2⟩ := PA.out.rcells
          have OU := hid (PA.out.out 0 0 0)
          clear hbA c0 c1 c2 f0 f1 f2
          go_wp2
          have e0 := OU.out.1.cell 0
          have e1 := OU.out.1.cell 1
          have e2 := OU.out.1.cell 2
          refine bodyPost_ret (v := .tuple #[.agg #[.int .i64 0, .int .i64 0, .int .i64 0], .int .i64 2]) (by simp [results, Tryz.results11, go_sem, e0, e1, e2]) rfl (parse_no HN.out OU.out.2)
        | true =>
          have PT := text_Path lv ix wd W9 ha hx hw
          unfold PathPost at PT
          rw [show pathS lv ix wd = pathT lv ix wd by unfold pathS; rw [hti]; rfl, show pathE lv ix wd = 0 by unfold pathE; rw [hti]; rfl] at PT
          have HPT := hid PT
          clear PT ha hx hw
          cases hpl : (pathT lv ix wd == l) with
          | false =>
            have hpl' : (pathT lv ix wd != l) = true := by rw [bne, hpl]; rfl
            have HN := hid (show okT l = false by rw [HOK.out, hti, hpl]; rfl)
            clear hti
            generalize pathT lv ix wd = pt at *
            refine HPT.out.mono ?_
            rintro e WA ⟨rfl, hbA⟩
            have PA := hid (P9.out.below hbA)
            obtain ⟨r0, r1, r2', g0, g1, g2⟩ := PA.out.rcells
            have OU := hid (PA.out.out 0 0 0)
            clear hbA c0 c1 c2 f0 f1 f2
            go_wp2
            have e0 := OU.out.1.cell 0
            have e1 := OU.out.1.cell 1
            have e2 := OU.out.1.cell 2
            refine bodyPost_ret (v := .tuple #[.agg #[.int .i64 0, .int .i64 0, .int .i64 0], .int .i64 2]) (by simp [results, Tryz.results11, go_sem, e0, e1, e2]) rfl (parse_no HN.out OU.out.2)
          | true =>
            have hpl' : (pathT lv ix wd != l) = false := by rw [bne, hpl]; rfl
            have HN := hid (show okT l = true by rw [HOK.out, hti, hpl]; rfl)
            clear hti
            generalize pathT lv ix wd = pt at *
            refine HPT.out.mono ?_
            rintro e WA ⟨rfl, hbA⟩
            have PA := hid (P9.out.below hbA)
            obtain ⟨r0, r1, r2', g0, g1, g2⟩ := PA.out.rcells
            clear c0 c1 c2 f0 f1 f2
            obtain ⟨c0, c1, c2, f0, f1, f2⟩ := PA.out.cells
            have OU := hid (PA.out.out lv ix wd)
            clear hbA
            go_wp2
            have e0 := OU.out.1.cell 0
            have e1 := OU.out.1.cell 1
            have e2 := OU.out.1.cell 2
            refine bodyPost_ret (v := .tuple #[.agg #[.int .i64 lv, .int .i64 ix, .int .i64 wd], .int .i64 0]) (by simp [results, Tryz.results11, go_sem, e0, e1, e2]) rfl (parse_yes HN.out LVE.out IXE.out WDE.out OU.out.2)

      · have hn1 : nl.isEmpty = false := by cases nl with | nil => exact absurd rfl hnl | cons => rfl
        have hn2 : (!nl.isEmpty) = true := by rw [hn1]; rfl
        rw [if_neg hnl] at HIX
        clear hnl
        go_wp2_with fail
        refine (NM.out nl _).mono ?_
        rintro e W3 ⟨rfl, hb3⟩
        have P3 := hid (P8.out.below hb3)
        have P9 : Hid (PS w (W3.setCell ⟨w.heap.size + 1, 1, none⟩ (.int .i64 (numI nl))) lv ix wd) := by unfold Hid; rw [HIX.out]; exact P3.out.set1 _
        obtain ⟨c0, c1, c2, f0, f1, f2⟩ := P3.out.cells
        obtain ⟨d0, d1, d2, -, -, -⟩ := P9.out.cells
        clear hb3 P3 P8
        go_wp2_with fail
        clear c0 c1 c2 f0 f1 f2 d0 d1 d2
        generalize W3.setCell ⟨w.heap.size + 1, 1, none⟩ (.int .i64 (numI nl)) = W9 at *
        obtain ⟨c0, c1, c2, f0, f1, f2⟩ := P9.out.cells
        have ha := LVB.out
        have hx := IXB.out
        have hw := WDB.out
        cases hti : isTile lv ix wd with
        | false =>
          have PT := text_Path lv ix wd W9 ha hx hw
          unfold PathPost at PT
          rw [show pathS lv ix wd = [] by unfold pathS; rw [hti]; rfl, show pathE lv ix wd = 1 by unfold pathE; rw [hti]; rfl] at PT
          have HPT := hid PT
          have HN := hid (show okT l = false by rw [HOK.out, hti]; rfl)
          clear PT hti ha hx hw
          refine HPT.out.mono ?_
          rintro e WA ⟨rfl, hbA⟩
          have PA := hid (P9.out.below hbA)
          obtain ⟨r0, r1, r2', g0, g1, g2⟩ := PA.out.rcells
          have OU := hid (PA.out.out 0 0 0)
          clear hbA c0 c1 c2 f0 f1 f2
          go_wp2
          have e0 := OU.out.1.cell 0
          have e1 := OU.out.1.cell 1
          have e2 := OU.out.1.cell 2
          refine bodyPost_ret (v := .tuple #[.agg #[.int .i64 0, .int .i64 0, .int .i64 0], .int .i64 2]) (by simp [results, Tryz.results11, go_sem, e0, e1, e2]) rfl (parse_no HN.out OU.out.2)
        | true =>
          have PT := text_Path lv ix wd W9 ha hx hw
          unfold PathPost at PT
          rw [show pathS lv ix wd = pathT lv ix wd by unfold pathS; rw [hti]; rfl, show pathE lv ix wd = 0 by unfold pathE; rw [hti]; rfl] at PT
          have HPT := hid PT
          clear PT ha hx hw
          cases hpl : (pathT lv ix wd == l) with
          | false =>
            have hpl' : (pathT lv ix wd != l) = true := by rw [bne, hpl]; rfl
            have HN := hid (show okT l = false by rw [HOK.out, hti, hpl]; rfl)
            clear hti
            generalize pathT lv ix wd = pt at *
            refine HPT.out.mono ?_
            rintro e WA ⟨rfl, hbA⟩
            have PA := hid (P9.out.below hbA)
            obtain ⟨r0, r1, r2', g0, g1, g2⟩ := PA.out.rcells
            have OU := hid (PA.out.out 0 0 0)
            clear hbA c0 c1 c2 f0 f1 f2
            go_wp2
            have e0 := OU.out.1.cell 0
            have e1 := OU.out.1.cell 1
            have e2 := OU.out.1.cell 2
            refine bodyPost_ret (v := .tuple #[.agg #[.int .i64 0, .int .i64 0, .int .i64 0], .int .i64 2]) (by simp [results, Tryz.results11, go_sem, e0, e1, e2]) rfl (parse_no HN.out OU.out.2)
          | true =>
            have hpl' : (pathT lv ix wd != l) = false := by rw [bne, hpl]; rfl
            have HN := hid (show okT l = true by rw [HOK.out, hti, hpl]; rfl)
            clear hti
            generalize pathT lv ix wd = pt at *
            refine HPT.out.mono ?_
            rintro e WA ⟨rfl, hbA⟩
            have PA := hid (P9.out.below hbA)
            obtain ⟨r0, r1, r2', g0, g1, g2⟩ := PA.out.rcells
            clear c0 c1 c2 f0 f1 f2
            obtain ⟨c0, c1, c2, f0, f1, f2⟩ := PA.out.cells
            have OU := hid (PA.out.out lv ix wd)
            clear hbA
            go_wp2
            have e0 := OU.out.1.cell 0
            have e1 := OU.out.1.cell 1
            have e2 := OU.out.1.cell 2
            refine bodyPost_ret (v := .tuple #[.agg #[.int .i64 lv, .int .i64 ix, .int .i64 wd], .int .i64 0]) (by simp [results, Tryz.results11, go_sem, e0, e1, e2]) rfl (parse_yes HN.out LVE.out IXE.out WDE.out OU.out.2)

    | true =>
      simp only [if_true] at HWD
      have WDB := hid (show -9223372036854775808 ≤ wd ∧ wd ≤ 9223372036854775807 by rw [HWD.out]; exact num_in _)
      go_wp2_with fail
      refine (NM.out wds _).mono ?_
      rintro e W3 ⟨rfl, hb3⟩
      have P3 := hid (P5.out.below hb3)
      have P6 : Hid (PS w (W3.setCell ⟨w.heap.size + 1, 2, none⟩ (.int .i64 (numI wds))) lv 0 wd) := by unfold Hid; rw [HWD.out]; exact P3.out.set2 _
      obtain ⟨c0, c1, c2, f0, f1, f2⟩ := P3.out.cells
      clear hb3 P3 P5
      go_wp2_with fail
      clear c0 c1 c2 f0 f1 f2
      have hz : (W3.setCell ⟨w.heap.size + 1, 2, none⟩ (.int .i64 (numI wds))).heap.size = W3.heap.size := by simp
      generalize W3.setCell ⟨w.heap.size + 1, 2, none⟩ (.int .i64 (numI wds)) = W6 at *
      rw [← hz]
      clear hz
      have hbk := (Blk.new W6 9 #[.string (S [120]), .string (S []), .string (S [47]), .string (S [])])
      refine (newReplacer W6.heap.size _ hbk).mono ?_
      rintro e W7 ⟨g, ob, c, rfl, hg, hR0, hne, hb7⟩
      have P7 := hid ((P6.out.below ((Below.refl _ _).alloc (Nat.le_refl _) (.cells #[.string (S [120]), .string (S []), .string (S [47]), .string (S [])] 9))).below hb7)
      have HR := hid hR0
      have hgW : W6.heap.size ≤ g := by simp at hg; omega
      have hneH := hid hne
      have BW7 := hid (show Below W6.heap.size W6 W7 from below_alloc_any (Nat.le_refl _) (hb7.mono (by simp)))
      clear hbk hb7 hR0 hne hg P7
      go_wp2_with fail
      refine (RP.out _ g ob c HR.out hneH.out W6.heap.size hgW).mono ?_
      rintro e W8 ⟨rfl, hb8⟩
      have P8 := hid (P6.out.below (BW7.out.trans hb8))
      clear hb8 HR hneH BW7 P6
      go_wp2_with fail
      refine (TL.out _).mono ?_
      rintro e w' ⟨rfl, hw⟩
      have hw' := hw.symm
      subst hw'
      by_cases hnl : nl = []
      · rw [if_pos hnl] at HIX
        subst hnl
        obtain ⟨W9, rfl⟩ : ∃ W9 : World, W9 = W8 := ⟨_, rfl⟩
        have P9 : Hid (PS w W9 lv ix wd) := by unfold Hid; rw [HIX.out]; exact P8.out
        clear P8
        obtain ⟨c0, c1, c2, f0, f1, f2⟩ := P9.out.cells
        go_wp2_with fail
        have ha := LVB.out
        have hx := IXB.out
        have hw := WDB.out
        cases hti : isTile lv ix wd with
        | false =>
          have PT := text_Path lv ix wd W9 ha hx hw
          unfold PathPost at PT
          rw [show pathS lv ix wd = [] by unfold pathS; rw [hti]; rfl, show pathE lv ix wd = 1 by unfold pathE; rw [hti]; rfl] at PT
          have HPT := hid PT
          have HN := hid (show okT l = false by rw [HOK.out, hti]; rfl)
          clear PT hti ha hx hw
          refine HPT.out.mono ?_
          rintro e WA ⟨rfl, hbA⟩
          have PA := hid (P9.out.below hbA)
          obtain ⟨r0, r1, r2', g0, g1, g2⟩ := PA.out.rcells
          have OU := hid (PA.out.out 0 0 0)
          clear hbA c0 c1 c2 f0 f1 f2
          go_wp2
          have e0 := OU.out.1.cell 0
          have e1 := OU.out.1.cell 1
          have e2 := OU.out.1.cell 2
          refine bodyPost_ret (v := .tuple #[.agg #[.int .i64 0, .int .i64 0, .int .i64 0], .int .i64 2]) (by simp [results, Tryz.results11, go_sem, e0, e1, e2]) rfl (parse_no HN.out OU.out.2)
        | true =>
          have PT := text_Path lv ix wd W9 ha hx hw
          unfold PathPost at PT
          rw [show pathS lv ix wd = pathT lv ix wd by unfold pathS; rw [hti]; rfl, show pathE lv ix wd = 0 by unfold pathE; rw [hti]; rfl] at PT
          have HPT := hid PT
          clear PT ha hx hw
          cases hpl : (pathT lv ix wd == l) with
          | false =>
            have hpl' : (pathT lv ix wd != l) = true := by rw [bne, hpl]; rfl
            have HN := hid (show okT l = false by rw [HOK.out, hti, hpl]; rfl)
            clear hti
            generalize pathT lv ix wd = pt at *
            refine HPT.out.mono ?_
            rintro e WA ⟨rfl, hbA⟩
            have PA := hid (P9.out.below hbA)
            obtain ⟨r0, r1, r2', g0, g1, g2⟩ := PA.out.rcells
            have OU := hid (PA.out.out 0 0 0)
            clear hbA c0 c1 c2 f0 f1 f2
            go_wp2
            have e0 := OU.out.1.cell 0
            have e1 := OU.out.1.cell 1
            have e2 := OU.out.1.cell 2
            refine bodyPost_ret (v := .tuple #[.agg #[.int .i64 0, .int .i64 0, .int .i64 0], .int .i64 2]) (by simp [results, Tryz.results11, go_sem, e0, e1, e2]) rfl (parse_no HN.out OU.out.2)
          | true =>
            have hpl' : (pathT lv ix wd != l) = false := by rw [bne, hpl]; rfl
            have HN := hid (show okT l = true by rw [HOK.out, hti, hpl]; rfl)
            clear hti
            generalize pathT lv ix wd = pt at *
            refine HPT.out.mono ?_
            rintro e WA ⟨rfl, hbA⟩
            have PA := hid (P9.out.below hbA)
            obtain ⟨r0, r1, r2', g0, g1, g2⟩ := PA.out.rcells
            clear c0 c1 c2 f0 f1 f2
            obtain ⟨c0, c1, c2, f0, f1, f2⟩ := PA.out.cells
            have OU := hid (PA.out.out lv ix wd)
            clear hbA
            go_wp2
            have e0 := OU.out.1.cell 0
            have e1 := OU.out.1.cell 1
            have e2 := OU.out.1.cell 2
            refine bodyPost_ret (v := .tuple #[.agg #[.int .i64 lv, .int .i64 ix, .int .i64 wd], .int .i64 0]) (by simp [results, Tryz.results11, go_sem, e0, e1, e2]) rfl (parse_yes HN.out LVE.out IXE.out WDE.out OU.out.2)

      · have hn1 : nl.isEmpty = false := by cases nl with | nil => exact absurd rfl hnl | cons => rfl
        have hn2 : (!nl.isEmpty) = true := by rw [hn1]; rfl
        rw [if_neg hnl] at HIX
        clear hnl
        go_wp2_with fail
        refine (NM.out nl _).mono ?_
        rintro e W3 ⟨rfl, hb3⟩
        have P3 := hid (P8.out.below hb3)
        have P9 : Hid (PS w (W3.setCell ⟨w.heap.size + 1, 1, none⟩ (.int .i64 (numI nl))) lv ix wd) := by unfold Hid; rw [HIX.out]; exact P3.out.set1 _
        obtain ⟨c0, c1, c2, f0, f1, f2⟩ := P3.out.cells
        obtain ⟨d0, d1, d2, -, -, -⟩ := P9.out.cells
        clear hb3 P3 P8
        go_wp2_with fail
        clear c0 c1 c2 f0 f1 f2 d0 d1 d2
        generalize W3.setCell ⟨w.heap.size + 1, 1, none⟩ (.int .i64 (numI nl)) = W9 at *
        obtain ⟨c0, c1, c2, f0, f1, f2⟩ := P9.out.cells
        have ha := LVB.out
        have hx := IXB.out
        have hw := WDB.out
        cases hti : isTile lv ix wd with
        | false =>
          have PT := text_Path lv ix wd W9 ha hx hw
          unfold PathPost at PT
          rw [show pathS lv ix wd = [] by unfold pathS; rw [hti]; rfl, show pathE lv ix wd = 1 by unfold pathE; rw [hti]; rfl] at PT
          have HPT := hid PT
          have HN := hid (show okT l = false by rw [HOK.out, hti]; rfl)
          clear PT hti ha hx hw
          refine HPT.out.mono ?_
          rintro e WA ⟨rfl, hbA⟩
          have PA := hid (P9.out.below hbA)
          obtain ⟨r0, r1, r2', g0, g1, g2⟩ := PA.out.rcells
          have OU := hid (PA.out.out 0 0 0)
          clear hbA c0 c1 c2 f0 f1 f2
          go_wp2
          have e0 := OU.out.1.cell 0
          have e1 := OU.out.1.cell 1
          have e2 := OU.out.1.cell 2
          refine bodyPost_ret (v := .tuple #[.agg #[.int .i64 0, .int .i64 0, .int .i64 0], .int .i64 2]) (by simp [results, Tryz.results11, go_sem, e0, e1, e2]) rfl (parse_no HN.out OU.out.2)
        | true =>
          have PT := text_Path lv ix wd W9 ha hx hw
          unfold PathPost at PT
          rw [show pathS lv ix wd = pathT lv ix wd by unfold pathS; rw [hti]; rfl, show pathE lv ix wd = 0 by unfold pathE; rw [hti]; rfl] at PT
          have HPT := hid PT
          clear PT ha hx hw
          cases hpl : (pathT lv ix wd == l) with
          | false =>
            have hpl' : (pathT lv ix wd != l) = true := by rw [bne, hpl]; rfl
            have HN := hid (show okT l = false by rw [HOK.out, hti, hpl]; rfl)
            clear hti
            generalize pathT lv ix wd = pt at *
            refine HPT.out.mono ?_
            rintro e WA ⟨rfl, hbA⟩
            have PA := hid (P9.out.below hbA)
            obtain ⟨r0, r1, r2', g0, g1, g2⟩ := PA.out.rcells
            have OU := hid (PA.out.out 0 0 0)
            clear hbA c0 c1 c2 f0 f1 f2
            go_wp2
            have e0 := OU.out.1.cell 0
            have e1 := OU.out.1.cell 1
            have e2 := OU.out.1.cell 2
            refine bodyPost_ret (v := .tuple #[.agg #[.int .i64 0, .int .i64 0, .int .i64 0], .int .i64 2]) (by simp [results, Tryz.results11, go_sem, e0, e1, e2]) rfl (parse_no HN.out OU.out.2)
          | true =>
            have hpl' : (pathT lv ix wd != l) = false := by rw [bne, hpl]; rfl
            have HN := hid (show okT l = true by rw [HOK.out, hti, hpl]; rfl)
            clear hti
            generalize pathT lv ix wd = pt at *
            refine HPT.out.mono ?_
            rintro e WA ⟨rfl, hbA⟩
            have PA := hid (P9.out.below hbA)
            obtain ⟨r0, r1, r2', g0, g1, g2⟩ := PA.out.rcells
            clear c0 c1 c2 f0 f1 f2
            obtain ⟨c0, c1, c2, f0, f1, f2⟩ := PA.out.cells
            have OU := hid (PA.out.out lv ix wd)
            clear hbA
            go_wp2
            have e0 := OU.out.1.cell 0
            have e1 := OU.out.1.cell 1
            have e2 := OU.out.1.cell 2
            refine bodyPost_ret (v := .tuple #[.agg #[.int .i64 lv, .int .i64 ix, .int .i64 wd], .int .i64 0]) (by simp [results, Tryz.results11, go_sem, e0, e1, e2]) rfl (parse_yes HN.out LVE.out IXE.out WDE.out OU.out.2)

end Go.Proofs.YtecekflooihkoaaGreatDoor
