/-
  The three rounds of legacy.Open over a store's keys.
-/
import Derived.Test.YtiabfngiibabcaaGreatDoorLg11
import Derived.Test.YtiabfngiibabcaaGreatDoorLg5
import Derived.Test.YtiabfngiibabcaaGreatDoorLg2
set_option linter.unusedVariables false
set_option linter.unusedSimpArgs false
set_option maxHeartbeats 3200000
set_option maxRecDepth 100000
namespace Go.Proofs.YtiabfngiibabcaaGreatDoor
open Go.RowKit

theorem rd_Keys {W : World} {sb : Nat} {m : KM} (h : RdS W sb m) (hr : Rising m) (hml : m.length ≤ 100000) (pre : List UInt8) (ks : List (List UInt8)) (hk : preK m pre = ks) :
    Calls Tryz.prog 29 #[.pointer (some ⟨sb, 0, none⟩), .string (S pre)] W fun e w' => ∃ v, e = .returned v ∧ w'.ownsRow W.heap.size 9 1 v ks.length (ks.map fun x => Value.string (S x)) ∧ Below W.heap.size W w' := by
  obtain ⟨g, name, mb, dead, h1, h2⟩ := h
  refine (kv_Keys (h1.cell 2) h1.lt h2 hr (by omega) pre).mono ?_
  rintro e w' ⟨v, rfl, hro, hb⟩
  rw [hk] at hro
  exact ⟨v, rfl, hro, hb⟩
def entL (p : Nat × Lf) : Ent := ⟨lK p.1, p.1, leafB p.2⟩
def entP (p : Nat × Lf) : Ent := ⟨pK p.1, p.1, leafB p.2⟩
def entH (h : Hd) : Ent := ⟨hK h.size, h.size, headV h⟩
def notes (C : KMapI) (xs : List Lf) : KMapI := xs.foldl noteM C
theorem notes_snoc (C : KMapI) (xs : List Lf) (x : Lf) : notes C (xs ++ [x]) = noteM (notes C xs) x := by simp [notes]
theorem noteM_len (C : KMapI) (x : Lf) : (noteM C x).length ≤ C.length + 1 := by
  unfold noteM
  split
  · omega
  · exact length_kput_le _ _ _
theorem notes_len (xs : List Lf) : ∀ C : KMapI, (notes C xs).length ≤ C.length + xs.length := by
  induction xs with
  | nil => intro C; exact Nat.le_refl _
  | cons x r ih =>
    intro C
    have h1 := ih (noteM C x)
    have h2 := noteM_len C x
    have e : notes C (x :: r) = notes (noteM C x) r := rfl
    rw [e, List.length_cons]
    omega
section
variable {w1 W : World} {lx lb sb cm size : Nat} {m : KM} {C : KMapI}
theorem get_ent {Wx : World} (hr : RdS Wx sb m) {key : Key} {val : List UInt8} (hg : kget m key = some val) (hl : key.length ≤ 1000000) : Calls Tryz.prog 49 #[.pointer (some ⟨sb, 0, none⟩), .string (S key)] Wx fun e w' => e = .returned (.tuple #[.string (S val), .bool true]) ∧ w' = Wx := by
  have := hr.get key hl
  rw [hg] at this
  exact this
theorem open_l (hb : Below w1.heap.size w1 W) (hx : Blk W lx 25 #[.pointer (some ⟨lb, 0, none⟩)]) {st hd : Value} (h : Blk W lb 49 (logCells sb size st hd cm)) (hm : OwnI Tryz.prog 9 W cm C) (hcm : w1.heap.size ≤ cm) (hrd : RdS w1 sb m) (hr : Rising m) (hml : m.length ≤ 100000) (hCl : C.length ≤ 100000)
    (EL : List (Nat × Lf)) (hn : EL.length ≤ 1000) (hk : preK m [108, 47] = EL.map fun p => lK p.1) (hE : ∀ p ∈ EL, p.1 < 10000000 ∧ okL p.2 = true ∧ kget m (lK p.1) = some (leafB p.2)) :
    Calls Tryz.prog 30 #[.pointer (some ⟨lb, 0, none⟩), .string (S [108, 47]), .func (.func 31) #[] #[.pointer (some ⟨lx, 0, none⟩)]] W fun e w' => e = .returned (.bool true) ∧ Below w1.heap.size w1 w' ∧ Blk w' lx 25 #[.pointer (some ⟨lb, 0, none⟩)] ∧ Blk w' lb 49 (logCells sb size st hd cm) ∧ OwnI Tryz.prog 9 w' cm (notes C (EL.map (·.2))) := by
  have hxm : lx ≠ cm := hm.not_blk hx
  have hlm : lb ≠ cm := hm.not_blk h
  have hlen : (EL.map entL).length = EL.length := by simp
  refine (legacy_each W lb sb [108, 47] (EL.map entL) 31 #[.pointer (some ⟨lx, 0, none⟩)] (fun i fp Wx => fp = (fun k => k = cm) ∧ Below w1.heap.size w1 Wx ∧ Blk Wx lx 25 #[.pointer (some ⟨lb, 0, none⟩)] ∧ Blk Wx lb 49 (logCells sb size st hd cm) ∧ OwnI Tryz.prog 9 Wx cm (notes C ((EL.take i).map (·.2)))) (fun k => k = cm)
    (enters_of Tryz.func31 (by kernel_rfl) rfl) (h.cell 0) ?_ ?_ (fun k hk => hk ▸ hm.lt) (fun i fp Wx hI => hI.2.2.2.1.cell 0) ?_ ?_ ?_ ?_ (by rw [hlen]; omega)).mono ?_
  · have := rd_Keys (hrd.below hb) hr hml [108, 47] _ hk
    simpa [entL, Function.comp_def] using this
  · intro w' hb'
    exact ⟨rfl, hb.trans (hb'.mono hb.size), hx.below hb' hx.lt, h.below hb' h.lt, by simpa [notes] using hm.kept (hb'.block cm hm.lt)⟩
  · intro i fp Wx hi hI
    rw [hlen] at hi
    obtain ⟨h1, -, h3⟩ := hE _ (List.getElem_mem hi)
    simp only [List.getElem_map, entL]
    exact get_ent (hrd.below hI.2.1) h3 (by unfold lK; rw [List.length_append, numK_len h1]; simp)
  · intro i hi
    rw [hlen] at hi
    obtain ⟨h1, -, -⟩ := hE _ (List.getElem_mem hi)
    simp only [List.getElem_map, entL]
    exact ⟨numK EL[i].1, rfl, atoi_numK (by omega), by rw [numK_len h1]; omega⟩
  · rintro i fp Wx Wy ⟨h0, h1, h2, h3, h4⟩ hb'
    exact ⟨h0, h1.trans (hb'.mono h1.size), h2.below hb' h2.lt, h3.below hb' h3.lt, h4.kept (hb'.block cm h4.lt)⟩
  · rintro i fp Wx hi ⟨rfl, h1, h2, h3, h4⟩
    rw [hlen] at hi
    obtain ⟨-, hok, -⟩ := hE _ (List.getElem_mem hi)
    have hl := notes_len ((EL.take i).map (·.2)) C
    rw [List.length_map, List.length_take] at hl
    have hs : notes C ((EL.take (i + 1)).map (·.2)) = noteM (notes C ((EL.take i).map (·.2))) EL[i].2 := by rw [take_snoc EL hi, List.map_append]; exact notes_snoc _ _ _
    have := legacy_open1 (h2.cell 0) hxm h3 h4 EL[i].2 hok (by omega) EL[i].1
    simp only [List.getElem_map, entL]
    refine this.mono ?_
    rintro e w' ⟨rfl, ho, ht⟩
    have tt := Turn.of_touch ht
    exact ⟨rfl, _, ⟨rfl, below_touch h1 ht (fun k hk => hk ▸ hcm), tt.blk h2 hxm, tt.blk h3 hlm, by rw [hs]; exact ho⟩, ht⟩
  · rintro e w' ⟨rfl, fp', ⟨-, h1, h2, h3, h4⟩, -⟩
    rw [hlen, List.take_length] at h4
    exact ⟨rfl, h1, h2, h3, h4⟩
theorem open_p (hb : Below w1.heap.size w1 W) (hx : Blk W lx 25 #[.pointer (some ⟨lb, 0, none⟩)]) {hd : Value} (h : Blk W lb 49 (logCells sb size (.slice none 0 0) hd cm)) (hm : OwnI Tryz.prog 9 W cm C) (hcm : w1.heap.size ≤ cm) (hlb : w1.heap.size ≤ lb) (hrd : RdS w1 sb m) (hr : Rising m) (hml : m.length ≤ 100000) (hCl : C.length ≤ 100000)
    (EP : List (Nat × Lf)) (hn : EP.length ≤ 1000) (hk : preK m [112, 47] = EP.map fun p => pK p.1) (hE : ∀ p ∈ EP, p.1 < 10000000 ∧ okL p.2 = true ∧ kget m (pK p.1) = some (leafB p.2)) :
    Calls Tryz.prog 30 #[.pointer (some ⟨lb, 0, none⟩), .string (S [112, 47]), .func (.func 34) #[] #[.pointer (some ⟨lx, 0, none⟩)]] W fun e w' => e = .returned (.bool true) ∧ Below w1.heap.size w1 w' ∧ Blk w' lx 25 #[.pointer (some ⟨lb, 0, none⟩)] ∧ OwnI Tryz.prog 9 w' cm (notes C (EP.map (·.2))) ∧ ∃ A c, Blk w' lb 49 (logCells sb size (.slice A EP.length c) hd cm) ∧ w'.ownsRow w1.heap.size 30 2 (.slice A EP.length c) EP.length ((EP.map (·.2)).flatMap lCells) := by
  have hxm : lx ≠ cm := hm.not_blk hx
  have hlm : lb ≠ cm := hm.not_blk h
  have hxl : lx ≠ lb := hx.ne_ h (by decide)
  have hlen : (EP.map entP).length = EP.length := by simp
  refine (legacy_each W lb sb [112, 47] (EP.map entP) 34 #[.pointer (some ⟨lx, 0, none⟩)] (fun i fp Wx => ∃ A c, fp = (fun k => k = cm ∨ k = lb ∨ OwnBy (.slice A ((EP.take i).map (·.2)).length c) k) ∧ Below w1.heap.size w1 Wx ∧ Blk Wx lx 25 #[.pointer (some ⟨lb, 0, none⟩)] ∧ Blk Wx lb 49 (logCells sb size (.slice A ((EP.take i).map (·.2)).length c) hd cm) ∧ Wx.ownsRow w1.heap.size 30 2 (.slice A ((EP.take i).map (·.2)).length c) ((EP.take i).map (·.2)).length (((EP.take i).map (·.2)).flatMap lCells) ∧ OwnI Tryz.prog 9 Wx cm (notes C ((EP.take i).map (·.2)))) (fun k => k = cm ∨ k = lb ∨ OwnBy (.slice none 0 0) k)
    (enters_of Tryz.func34 (by kernel_rfl) rfl) (h.cell 0) ?_ ?_ (fun k hk => ?_) (fun i fp Wx hI => ?_) ?_ ?_ ?_ ?_ (by rw [hlen]; omega)).mono ?_
  · have := rd_Keys (hrd.below hb) hr hml [112, 47] _ hk
    simpa [entP, Function.comp_def] using this
  · intro w' hb'
    exact ⟨none, 0, by simp, hb.trans (hb'.mono hb.size), hx.below hb' hx.lt, by simpa using h.below hb' h.lt, by simpa using World.ownsRow_nil _ _ _ _, by simpa [notes] using hm.kept (hb'.block cm hm.lt)⟩
  · rcases hk with rfl | rfl | hk
    · exact hm.lt
    · exact h.lt
    · simp [OwnBy, Value.ownBlock] at hk
  · obtain ⟨A, c, -, -, -, h3, -⟩ := hI
    exact h3.cell 0
  · intro i fp Wx hi hI
    rw [hlen] at hi
    obtain ⟨A, c, -, hb1, -⟩ := hI
    obtain ⟨h1, -, h3⟩ := hE _ (List.getElem_mem hi)
    simp only [List.getElem_map, entP]
    exact get_ent (hrd.below hb1) h3 (by unfold pK; rw [List.length_append, numK_len h1]; simp)
  · intro i hi
    rw [hlen] at hi
    obtain ⟨h1, -, -⟩ := hE _ (List.getElem_mem hi)
    simp only [List.getElem_map, entP]
    exact ⟨numK EP[i].1, rfl, atoi_numK (by omega), by rw [numK_len h1]; omega⟩
  · rintro i fp Wx Wy ⟨A, c, h0, h1, h2, h3, h4, h5⟩ hb'
    exact ⟨A, c, h0, h1.trans (hb'.mono h1.size), h2.below hb' h2.lt, h3.below hb' h3.lt, row_under h4 hb', h5.kept (hb'.block cm h5.lt)⟩
  · rintro i fp Wx hi ⟨A, c, rfl, h1, h2, h3, h4, h5⟩
    rw [hlen] at hi
    obtain ⟨-, hok, -⟩ := hE _ (List.getElem_mem hi)
    have hl := notes_len ((EP.take i).map (·.2)) C
    have hl2 : ((EP.take i).map (·.2)).length ≤ 1000 := by rw [List.length_map, List.length_take]; omega
    have hs : notes C ((EP.take (i + 1)).map (·.2)) = noteM (notes C ((EP.take i).map (·.2))) EP[i].2 := by rw [take_snoc EP hi, List.map_append]; exact notes_snoc _ _ _
    have ht : (EP.take (i + 1)).map (·.2) = (EP.take i).map (·.2) ++ [EP[i].2] := by rw [take_snoc EP hi, List.map_append]; rfl
    have := legacy_open2 h2 h3 h5 h4 h1.size hl2 EP[i].2 hok (by omega) EP[i].1
    simp only [List.getElem_map, entP]
    refine this.mono ?_
    rintro e w' ⟨rfl, A', c', q1, q2, q3, tc⟩
    have tt := Turn.of_touch tc
    rw [← ht] at q1 q2 tc
    refine ⟨rfl, _, ⟨A', c', rfl, below_touch h1 tc (fun k hk => ?_), tt.blk h2 (fun hk => ?_), q1, q2, by rw [hs]; exact q3⟩, tc⟩
    · rcases hk with rfl | rfl | hk
      · exact hcm
      · exact hlb
      · exact row_base_le h4 hk
    · rcases hk with hk | hk | hk
      · exact hxm hk
      · exact hxl hk
      · obtain ⟨cs, hcs⟩ := row_heap h4 hk
        exact Blk.ne_ (w := Wx) (t := 30) (cs := cs) hcs h2 (by decide) rfl
  · rintro e w' ⟨rfl, fp', ⟨A, c, -, h1, h2, h3, h4, h5⟩, -⟩
    rw [hlen, List.take_length] at h3 h4 h5
    rw [List.length_map] at h3 h4
    exact ⟨rfl, h1, h2, h5, A, c, h3, h4⟩
theorem open_h (hb : Below w1.heap.size w1 W) (hx : Blk W lx 25 #[.pointer (some ⟨lb, 0, none⟩)]) {A0 : Option Addr} {n0 c0 : Nat} {P : List Lf} (h : Blk W lb 49 (logCells sb size (.slice A0 n0 c0) (.slice none 0 0) cm)) (hp : W.ownsRow w1.heap.size 30 2 (.slice A0 n0 c0) n0 (P.flatMap lCells)) (hm : OwnI Tryz.prog 9 W cm C) (hlb : w1.heap.size ≤ lb) (hrd : RdS w1 sb m) (hr : Rising m) (hml : m.length ≤ 100000) (hL : LibL w1)
    (EH : List Hd) (hn : EH.length ≤ 1000) (hk : preK m [104, 47] = EH.map fun p => hK p.size) (hE : ∀ p ∈ EH, p.size < 10000000 ∧ p.time < 100000000000000000 ∧ p.root.length ≤ 10000 ∧ kget m (hK p.size) = some (headV p)) :
    Calls Tryz.prog 30 #[.pointer (some ⟨lb, 0, none⟩), .string (S [104, 47]), .func (.func 35) #[] #[.pointer (some ⟨lx, 0, none⟩)]] W fun e w' => e = .returned (.bool true) ∧ Below w1.heap.size w1 w' ∧ Blk w' lx 25 #[.pointer (some ⟨lb, 0, none⟩)] ∧ OwnI Tryz.prog 9 w' cm C ∧ w'.ownsRow w1.heap.size 30 2 (.slice A0 n0 c0) n0 (P.flatMap lCells) ∧ ∃ A c, Blk w' lb 49 (logCells sb size (.slice A0 n0 c0) (.slice A EH.length c) cm) ∧ w'.ownsRow w1.heap.size 97 3 (.slice A EH.length c) EH.length (EH.flatMap dCells) := by
  have hxm : lx ≠ cm := hm.not_blk hx
  have hlm : lb ≠ cm := hm.not_blk h
  have hxl : lx ≠ lb := hx.ne_ h (by decide)
  have hlen : (EH.map entH).length = EH.length := by simp
  refine (legacy_each W lb sb [104, 47] (EH.map entH) 35 #[.pointer (some ⟨lx, 0, none⟩)] (fun i fp Wx => ∃ A c, fp = (fun k => k = lb ∨ OwnBy (.slice A (EH.take i).length c) k) ∧ Below w1.heap.size w1 Wx ∧ Blk Wx lx 25 #[.pointer (some ⟨lb, 0, none⟩)] ∧ Blk Wx lb 49 (logCells sb size (.slice A0 n0 c0) (.slice A (EH.take i).length c) cm) ∧ Wx.ownsRow w1.heap.size 97 3 (.slice A (EH.take i).length c) (EH.take i).length ((EH.take i).flatMap dCells) ∧ OwnI Tryz.prog 9 Wx cm C ∧ Wx.ownsRow w1.heap.size 30 2 (.slice A0 n0 c0) n0 (P.flatMap lCells)) (fun k => k = lb ∨ OwnBy (.slice none 0 0) k)
    (enters_of Tryz.func35 (by kernel_rfl) rfl) (h.cell 0) ?_ ?_ (fun k hk => ?_) (fun i fp Wx hI => ?_) ?_ ?_ ?_ ?_ (by rw [hlen]; omega)).mono ?_
  · have := rd_Keys (hrd.below hb) hr hml [104, 47] _ hk
    simpa [entH, Function.comp_def] using this
  · intro w' hb'
    exact ⟨none, 0, by simp, hb.trans (hb'.mono hb.size), hx.below hb' hx.lt, by simpa using h.below hb' h.lt, by simpa using World.ownsRow_nil _ _ _ _, hm.kept (hb'.block cm hm.lt), row_under hp hb'⟩
  · rcases hk with rfl | hk
    · exact h.lt
    · simp [OwnBy, Value.ownBlock] at hk
  · obtain ⟨A, c, -, -, -, h3, -⟩ := hI
    exact h3.cell 0
  · intro i fp Wx hi hI
    rw [hlen] at hi
    obtain ⟨A, c, -, hb1, -⟩ := hI
    obtain ⟨h1, -, -, h3⟩ := hE _ (List.getElem_mem hi)
    simp only [List.getElem_map, entH]
    exact get_ent (hrd.below hb1) h3 (by unfold hK; rw [List.length_append, numK_len h1]; simp)
  · intro i hi
    rw [hlen] at hi
    obtain ⟨h1, -, -⟩ := hE _ (List.getElem_mem hi)
    simp only [List.getElem_map, entH]
    exact ⟨numK EH[i].size, rfl, atoi_numK (by omega), by rw [numK_len h1]; omega⟩
  · rintro i fp Wx Wy ⟨A, c, h0, h1, h2, h3, h4, h5, h6⟩ hb'
    exact ⟨A, c, h0, h1.trans (hb'.mono h1.size), h2.below hb' h2.lt, h3.below hb' h3.lt, row_under h4 hb', h5.kept (hb'.block cm h5.lt), row_under h6 hb'⟩
  · rintro i fp Wx hi ⟨A, c, rfl, h1, h2, h3, h4, h5, h6⟩
    rw [hlen] at hi
    obtain ⟨-, ht1, hr1, -⟩ := hE _ (List.getElem_mem hi)
    have hl2 : (EH.take i).length ≤ 100000 := by rw [List.length_take]; omega
    have ht : EH.take (i + 1) = EH.take i ++ [EH[i]] := take_snoc EH hi
    have := legacy_open3 h2 h3 h4 h1.size hl2 EH[i] ht1 hr1 (hL.below h1)
    simp only [List.getElem_map, entH]
    refine this.mono ?_
    rintro e w' ⟨rfl, A', c', q1, q2, tc⟩
    have tt := Turn.of_touch tc
    rw [← ht] at q1 q2 tc
    have nrow : ∀ {t : TypeId} {size2 n c2 : Nat} {B : Option Addr} {ys : List Value}, Wx.ownsRow w1.heap.size t size2 (.slice B n c2) n ys → t ≠ 97 → t ≠ 49 → ∀ k, OwnBy (.slice B n c2) k → ¬ (k = lb ∨ OwnBy (.slice A (EH.take i).length c) k) := fun hy n1 n2 k hk hh => by
      obtain ⟨cs, hcs⟩ := row_heap hy hk
      rcases hh with rfl | hh
      · exact Blk.ne_ (w := Wx) (cs := cs) hcs h3 n2 rfl
      · exact row_apart hy h4 n1 hk hh
    refine ⟨rfl, _, ⟨A', c', rfl, below_touch h1 tc (fun k hk => ?_), tt.blk h2 (fun hk => ?_), q1, q2, h5.kept (tt.block cm h5.lt fun hk => ?_), tt.row h6 (nrow h6 (by decide) (by decide))⟩, tc⟩
    · rcases hk with rfl | hk
      · exact hlb
      · exact row_base_le h4 hk
    · rcases hk with hk | hk
      · exact hxl hk
      · obtain ⟨cs, hcs⟩ := row_heap h4 hk
        exact Blk.ne_ (w := Wx) (t := 97) (cs := cs) hcs h2 (by decide) rfl
    · rcases hk with hk | hk
      · exact hlm hk.symm
      · obtain ⟨cs, hcs⟩ := row_heap h4 hk
        exact h5.not_blk (x := cm) (tx := 97) (cs := cs) hcs rfl
  · rintro e w' ⟨rfl, fp', ⟨A, c, -, h1, h2, h3, h4, h5, h6⟩, -⟩
    rw [hlen, List.take_length] at h3 h4
    exact ⟨rfl, h1, h2, h5, h6, A, c, h3, h4⟩
end
end Go.Proofs.YtiabfngiibabcaaGreatDoor
