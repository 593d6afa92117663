/-
  Walk of (*legacy.Log).grow.
-/
import Derived.Test.YtiabfngiibabcaaGreatDoorLg8
set_option linter.unusedVariables false
set_option linter.unusedSimpArgs false
set_option maxHeartbeats 12800000
set_option maxRecDepth 100000
namespace Go.Proofs.YtiabfngiibabcaaGreatDoor
open Go.RowKit

theorem tls_Leaf_ok (x : Lf) (w : World) (hok : okL x = true) : Calls Tryz.prog 40 #[leafV x] w fun e w' => ∃ A c, e = .returned (.tuple #[.slice A (leafB x).length c, .int .i64 0]) ∧ w'.ownsRow w.heap.size 5 1 (.slice A (leafB x).length c) (leafB x).length ((leafB x).map B8) ∧ Below w.heap.size w w' := by
  refine (tls_Leaf x w (by have := (okL_of hok).2.2; omega)).mono ?_
  rintro e w' (⟨-, A, c, h⟩ | ⟨hf, -⟩)
  · exact ⟨A, c, h⟩
  · rw [hok] at hf; cases hf
/-- Leaves lie here. -/
def LfAt (W : World) (A : Option Addr) (xs : List Lf) : Prop := xs ≠ [] → ∃ g off, A = some ⟨g, off, none⟩ ∧ g < W.heap.size ∧ ∀ k, (h : k < xs.length) → W.cell? ⟨g, off + k * 2, none⟩ = some (.int .i64 xs[k].time) ∧ W.cell? ⟨g, off + k * 2 + 1, none⟩ = some (.string (S xs[k].cert))
theorem LfAt.below {W W' : World} {A : Option Addr} {xs : List Lf} (h : LfAt W A xs) (hb : Below W.heap.size W W') : LfAt W' A xs := fun hne => by
  obtain ⟨g, off, hA, hg, hc⟩ := h hne
  exact ⟨g, off, hA, Nat.lt_of_lt_of_le hg hb.size, fun k hk => ⟨(hb.cell (p := ⟨g, off + k * 2, none⟩) hg).trans (hc k hk).1, (hb.cell (p := ⟨g, off + k * 2 + 1, none⟩) hg).trans (hc k hk).2⟩⟩
theorem row_tops {w : World} {base c : Nat} {A : Option Addr} {ts : List (List UInt8)} (h : w.ownsRow base 9 1 (.slice A ts.length c) ts.length (ts.map tV)) (hne : ts ≠ []) : ∃ g, A = some ⟨g, 0, none⟩ ∧ ts.length ≤ c ∧ ∀ k, k < ts.length → w.cell? ⟨g, k, none⟩ = some (.string (S (ts[k]?.getD []))) := by
  have hl : 0 < ts.length := List.length_pos_iff.2 hne
  rcases h.2 with ⟨h1, h2⟩ | ⟨g, cap, cur, hv, hb, hh, r⟩
  · omega
  · simp only [Value.slice.injEq] at hv
    obtain ⟨rfl, -, rfl⟩ := hv
    refine ⟨g, rfl, by have := r.1; omega, fun k hk => ?_⟩
    refine (h.cellAt k (by omega)).trans ?_
    rw [List.getElem?_map, List.getElem?_eq_getElem hk]
    rfl
section
variable {W : World} {lb sb size cm : Nat} {st hd : Value} {m : KM}
theorem legacy_grow (h : Blk W lb 49 (logCells sb size st hd cm)) (hr : RdS W sb m) (xs : List Lf) (A : Option Addr) (c : Nat) (hA : LfAt W A xs) (hok : ∀ x ∈ xs, okL x = true) (hn : size + xs.length < 2047)
    (hpl : (peaksP m size (Lib.bitLen size + 1)).length = popN size) (hp1 : ∀ t ∈ peaksP m size (Lib.bitLen size + 1), t.length ≤ 100) (hne : peaksP m size (Lib.bitLen size + 1) ≠ [] ∨ xs ≠ [])
    (hf : ∀ x ∈ xs, ∃ o : Option Nat, kget m (iK (leafH (leafB x))) = o.map numK ∧ ∀ j, o = some j → j < 10000000) (hL : LibL W) :
    Calls Tryz.prog 45 #[.pointer (some ⟨lb, 0, none⟩), .slice A xs.length c] W fun e w' => ∃ A' c', e = .returned (.tuple #[.slice A' (growL m size xs).1.length c', .string (S (growL m size xs).2)]) ∧ w'.ownsRow W.heap.size 104 3 (.slice A' (growL m size xs).1.length c') (growL m size xs).1.length ((growL m size xs).1.flatMap wCells) ∧ Below W.heap.size W w' := by
  obtain ⟨k0, k1, k2, k3, k4⟩ := log5 h
  have hlb := h.lt
  have HLB := hid h
  have HR := hid hr
  have HA := hid hA
  have HOK := hid hok
  have HN := hid hn
  have HPL := hid hpl
  have HP1 := hid hp1
  have HNE := hid hne
  have HF := hid hf
  have HL := hid hL
  clear h hr hA hok hn hpl hp1 hne hf hL
  have hmm : ∀ w : World, (Instr.makeMap 47 none).run Tryz.prog w = .ok (.map (some w.heap.size)) (w.alloc (.map #[] 0)) := fun w => by kernel_rfl
  go_enter Tryz.func45, Tryz.ntmps45
  go_wp2
  obtain ⟨fb, hfb⟩ : ∃ fb, W.heap.size = fb := ⟨_, rfl⟩
  have hG0 : GR W fb (W.alloc (.map #[] 0)) [] [] none 0 [] none 0 [] none 0 := by
    refine ⟨⟨World.ownsRow_nil _ _ _ _, World.ownsRow_nil _ _ _ _, (Below.refl _ _).alloc (Nat.le_refl _) _⟩, ?_, ⟨0, World.ownsRow_nil _ _ _ _⟩, Nat.le_of_eq hfb⟩
    rw [← hfb]
    exact OwnI.made W
  have HG0 := hid hG0
  have HLW := hid (show leafWs m size [] xs = [] ++ leafWs m (size + 0) [] (xs.drop 0) by simp)
  have HHS := hid (show ([] : List (List UInt8)) = hashesP (xs.take 0) from rfl)
  clear hG0
  rw [hfb]
  go_loopw [6, 7, 9, 10, 11, 12, 13, 14, 15, 21] (fun o' h' _ _ _ _ _ _ _ i wr => ∃ (k : Nat) (os : List Wr) (hs : List (List UInt8)) (fm : KMapI) (Ao : Option Addr) (co : Nat) (Ah : Option Addr) (ch : Nat), k ≤ xs.length ∧ o' = .slice Ao os.length co ∧ h' = .slice Ah hs.length ch ∧ i = .int .i64 k ∧ os.length ≤ 2 * k ∧ fm.length ≤ k ∧ Hid (GR W fb wr fm hs Ah ch os Ao co [] none 0) ∧ Hid (leafWs m size [] xs = os ++ leafWs m (size + k) fm (xs.drop k)) ∧ Hid (hs = hashesP (xs.take k))) (fun _ _ _ _ _ _ _ _ _ i _ => xs.length - (intOf i).toNat)
  case atStart => exact ⟨0, [], [], [], none, 0, none, 0, Nat.zero_le _, rfl, rfl, rfl, Nat.zero_le _, Nat.zero_le _, HG0, HLW, HHS⟩
  case round =>
    obtain ⟨k, os, hs, fm, Ao, co, Ah, ch, hk, rfl, rfl, rfl, hol, hfl, hG, hlw, hhs⟩ := hrel
    have hk1 : wr.cell? ⟨lb, 1, none⟩ = some (.int .i64 size) := (hG.out.gw.be.cell hlb).trans k1
    have hk0 : wr.cell? ⟨lb, 0, none⟩ = some (.pointer (some ⟨sb, 0, none⟩)) := (hG.out.gw.be.cell hlb).trans k0
    by_cases hlt : k < xs.length
    · have hxne : xs ≠ [] := by intro h; rw [h] at hlt; simp at hlt
      obtain ⟨g, off, rfl, hgl, hcc⟩ := HA.out hxne
      obtain ⟨x0, x1⟩ := hcc k hlt
      have c0 := (hG.out.gw.be.cell (p := ⟨g, off + k * 2, none⟩) hgl).trans x0
      have c1 := (hG.out.gw.be.cell (p := ⟨g, off + k * 2 + 1, none⟩) hgl).trans x1
      have hxo := HOK.out _ (List.getElem_mem hlt)
      have hdr : xs.drop k = xs[k] :: xs.drop (k + 1) := List.drop_eq_getElem_cons hlt
      have htk : xs.take (k + 1) = xs.take k ++ [xs[k]] := take_snoc xs hlt
      have hfo := HF.out _ (List.getElem_mem hlt)
      have hnl := HN.out
      rw [hdr] at hlw
      have HTK := hid htk
      clear hdr hcc x0 x1 htk
      generalize xs[k] = x at *
      obtain ⟨o, ho, hoj⟩ := hfo
      have hlfl : (leafB x).length ≤ 10000 := by rw [leafB_len]; have := (okL_of hxo).2.2; omega
      have TL := hid (tls_Leaf_ok x (wr.alloc (.cells #[.int .i64 x.time, .string (S x.cert)] 30)) hxo)
      have HNW := hid (show ((kget m (iK (leafH (leafB x)))).isSome = false ∧ (kget fm (leafH (leafB x))).getD 0 = 0 → leafWs m size [] xs = ((os ++ [⟨lK (size + k), leafB x, false⟩]) ++ [⟨iK (leafH (leafB x)), numK (size + k), false⟩]) ++ leafWs m (size + (k + 1)) (kput fm (leafH (leafB x)) 1) (xs.drop (k + 1))) ∧ (¬ ((kget m (iK (leafH (leafB x)))).isSome = false ∧ (kget fm (leafH (leafB x))).getD 0 = 0) → leafWs m size [] xs = (os ++ [⟨lK (size + k), leafB x, false⟩]) ++ leafWs m (size + (k + 1)) fm (xs.drop (k + 1))) from
        ⟨fun h => by rw [hlw.out, leafWs_fresh h]; simp [Nat.add_assoc], fun h => by rw [hlw.out, leafWs_old h]; simp [Nat.add_assoc]⟩)
      have HHN := hid (show hs ++ [leafH (leafB x)] = hashesP (xs.take (k + 1)) by rw [HTK.out, hhs.out]; simp [hashesP])
      have hhl : (leafH (leafB x)).length = 32 := leafH_len _
      have HLH := hid (fun (w' : World) (A' : Option Addr) (c' : Nat) (h1 : BytesAt w' A' (leafB x)) (h2 : LibL w') => peaks_LeafHash w' A' (leafB x) c' h1 hlfl h2.k h2.b)
      have hhsl : hs.length ≤ 1000000 := by rw [hhs.out]; unfold hashesP; rw [List.length_map, List.length_take]; omega
      have hik : (iK (leafH (leafB x))).length ≤ 1000000 := by unfold iK; rw [List.length_append, hexB_len, hhl]; simp
      have HXO := hid hxo
      clear hlw hhs hxo
      obtain ⟨t, ce⟩ := x
      simp only [leafV] at *
      generalize leafB ⟨t, ce⟩ = lf at *
      generalize leafH lf = hh at *
      have hos1 : os.length ≤ 1000000 := by omega
      have hw1 : IntKind.i64.wrap ((size : Int) + k) = ((size + k : Nat) : Int) := by rw [IntWalk.i64_in _ (by omega)]; omega
      go_wp2_with (first
        | (go_at_call 40; refine TL.out.mono ?_; rintro e w2 ⟨A3, c3, rfl, hr3, hb3⟩; have G2 := hid (((hG.out.alloc _).below hb3).bytes hr3); have LH := hid (HLH.out w2 A3 c3 (bytesAt_row hr3).2 (HL.out.below G2.out.gw.be)); clear hr3 hb3)
        | (go_at_call 106; refine LH.out.mono ?_; rintro e w3 ⟨rfl, hb4⟩; obtain ⟨A5, c5, w5, hrun5, g5⟩ := (G2.out.below hb4).addT hh hhsl; have G5 := hid g5; have y5 : w5.cell? ⟨lb, 1, none⟩ = some (.int .i64 size) := (g5.gw.be.cell hlb).trans k1; have z5 := g5.conv; clear g5 hb4)
        | (at_builtin; refine wpList_append_run rfl _ _ _ (by rfl) _ _ _ _ (by rfl) (by rfl) hrun5 ?_))
      have LF := hid (nodes_Leaf (size + k) (by omega) w5.drew (HL.out.below G5.out.drew.gw.be))
      have z5d : (convert 85 9 (.slice A3 lf.length c3)).run Tryz.prog w5.drew = .ok (.string (S lf)) w5.drew := G5.out.drew.conv
      go_region_held3 (fun w' => w'.cell? ⟨lb, 1, none⟩ = some (.int .i64 size) ∧ (convert 85 9 (.slice A3 lf.length c3)).run Tryz.prog w' = .ok (.string (S lf)) w') (first | assumption | simp [*, go_sem, World.cell?_alloc_past]) (first
        | (go_at_call 50; refine LF.out.mono ?_; rintro e w6 ⟨rfl, hb6⟩; have g6 := G5.out.drew.below hb6; have S6 : w6.cell? ⟨lb, 1, none⟩ = some (.int .i64 size) ∧ (convert 85 9 (.slice A3 lf.length c3)).run Tryz.prog w6 = .ok (.string (S lf)) w6 := ⟨(g6.gw.be.cell hlb).trans k1, g6.conv⟩; have g6a := g6.alloc (.cells #[.string (S (lK (size + k))), .string (S lf), .bool false] 104); have S6a : (w6.alloc (.cells #[.string (S (lK (size + k))), .string (S lf), .bool false] 104)).cell? ⟨lb, 1, none⟩ = some (.int .i64 size) ∧ (convert 85 9 (.slice A3 lf.length c3)).run Tryz.prog (w6.alloc (.cells #[.string (S (lK (size + k))), .string (S lf), .bool false] 104)) = .ok (.string (S lf)) (w6.alloc (.cells #[.string (S (lK (size + k))), .string (S lf), .bool false] 104)) := ⟨(g6a.gw.be.cell hlb).trans k1, g6a.conv⟩; obtain ⟨A7, c7, w7, hrun7, g7⟩ := g6.addW ⟨lK (size + k), lf, false⟩ hos1; have S7 : w7.cell? ⟨lb, 1, none⟩ = some (.int .i64 size) ∧ (convert 85 9 (.slice A3 lf.length c3)).run Tryz.prog w7 = .ok (.string (S lf)) w7 := ⟨(g7.gw.be.cell hlb).trans k1, g7.conv⟩; have G7 := hid g7; clear g6 g6a g7 hb6)
        | (refine step_append_run rfl _ _ _ (by rfl) _ _ _ _ (by rfl) (by rfl) hrun7 ?_))
      have FD := hid (legacy_Find ((G7.out.gw.be.cell (p := ⟨lb, 0, none⟩) hlb).trans k0) (Nat.lt_of_lt_of_le hlb G7.out.gw.be.size) (HR.out.below G7.out.gw.be) hh (by omega) o ho hoj (HL.out.below G7.out.gw.be))
      have ol1 : (os ++ [(⟨lK (size + k), lf, false⟩ : Wr)]).length = os.length + 1 := by simp
      cases o with
      | some j =>
        simp only [Option.getD_some, Option.isSome_some] at FD
        have HN2 := hid (HNW.out.2 (by rw [ho]; simp))
        go_wp2_with (go_at_call 107; refine FD.out.mono ?_; rintro e w8 ⟨rfl, hb8⟩; have G8 := hid (((G7.out.below hb8).bytes (World.ownsRow_nil _ 0 _ _) : GR W fb w8 fm (hs ++ [hh]) A5 c5 (os ++ [⟨lK (size + k), lf, false⟩]) A7 c7 [] none 0)); clear hb8)
        go_roundw
        case rel =>
          iterate 68 (apply Exists.intro)
          refine ⟨?_, rfl⟩
          exact ⟨k + 1, os ++ [⟨lK (size + k), lf, false⟩], hs ++ [hh], fm, A7, c7, A5, c5, by omega, by rw [ol1], by rw [List.length_append]; rfl, by go_num, by rw [ol1]; omega, by omega, G8, HN2, HHN⟩
        case measure => simp [intOf]; omega
      | none =>
        simp only [Option.getD_none, Option.isSome_none, Option.map_none] at FD ho
        by_cases hz : (kget fm hh).getD 0 = 0
        · have hn2 := HNW.out.1 (And.intro (by rw [ho]; rfl) hz)
          have HN2 := hid hn2
          clear hn2
          have ol2 : ((os ++ [(⟨lK (size + k), lf, false⟩ : Wr)]) ++ [(⟨iK hh, numK (size + k), false⟩ : Wr)]).length = os.length + 1 + 1 := by simp
          have hfl6 : fm.length ≤ 1000000 := by omega
          have hkl := length_kput_le hh (1 : Int) fm
          have HKL := hid hkl
          clear hkl
          go_wp2_with (go_at_call 107; refine FD.out.mono ?_; rintro e w8 ⟨rfl, hb8⟩; have g8 := G7.out.below hb8; have lk8 := g8.map.look (t := 47) (e := 3) (by kernel_rfl) (by kernel_rfl) (by kernel_rfl) hh (by omega); rw [hz] at lk8; obtain ⟨w9, hput9, g9⟩ := g8.note hh (by omega) hfl6; have G9 := hid g9; have S9 : w9.cell? ⟨lb, 1, none⟩ = some (.int .i64 size) := (g9.gw.be.cell hlb).trans k1; clear hb8 g8 g9)
          have HA9 := hid (nodes_Hash hh (by omega) w9.drew)
          go_region_held3 (fun w' => w'.cell? ⟨lb, 1, none⟩ = some (.int .i64 size)) (first | assumption | simp [*, go_sem, World.cell?_alloc_past]) (first
            | (go_at_call 108; refine HA9.out.mono ?_; rintro e w10 ⟨rfl, hb10⟩; have g10 := G9.out.drew.below hb10; have S10 : w10.cell? ⟨lb, 1, none⟩ = some (.int .i64 size) := (g10.gw.be.cell hlb).trans k1; have NU := hid (nodes_Number (size + k) (by omega) w10 (HL.out.below g10.gw.be)); have G10 := hid g10; clear g10 hb10)
            | (go_at_call 105; refine NU.out.mono ?_; rintro e w11 ⟨rfl, hb11⟩; have g11 := G10.out.below hb11; have S11 : w11.cell? ⟨lb, 1, none⟩ = some (.int .i64 size) := (g11.gw.be.cell hlb).trans k1; have S11a : (w11.alloc (.cells #[.string (S (iK hh)), .string (S (numK (size + k))), .bool false] 104)).cell? ⟨lb, 1, none⟩ = some (.int .i64 size) := ((g11.alloc _).gw.be.cell hlb).trans k1; obtain ⟨A12, c12, w12, hrun12, g12⟩ := g11.addW ⟨iK hh, numK (size + k), false⟩ (by rw [ol1]; omega); rw [ol1] at hrun12; have S12 : w12.cell? ⟨lb, 1, none⟩ = some (.int .i64 size) := (g12.gw.be.cell hlb).trans k1; have G12 := hid ((g12.bytes (World.ownsRow_nil _ 0 _ _) : GR W fb w12 (kput fm hh 1) (hs ++ [hh]) A5 c5 ((os ++ [⟨lK (size + k), lf, false⟩]) ++ [⟨iK hh, numK (size + k), false⟩]) A12 c12 [] none 0)); clear g11 g12 hb11)
            | (refine step_append_run rfl _ _ _ (by rfl) _ _ _ _ (by rfl) (by rfl) hrun12 ?_))
          all_goals
            go_wp2
            go_roundw
            case rel =>
              iterate 68 (apply Exists.intro)
              refine ⟨?_, rfl⟩
              exact ⟨k + 1, (os ++ [⟨lK (size + k), lf, false⟩]) ++ [⟨iK hh, numK (size + k), false⟩], hs ++ [hh], kput fm hh 1, A12, c12, A5, c5, by omega, by rw [ol2], by rw [List.length_append]; rfl, by go_num, by rw [ol2]; omega, by have := HKL.out; omega, G12, HN2, HHN⟩
            case measure => simp [intOf]; omega
        · have HN2 := hid (HNW.out.2 (fun h => hz h.2))
          have hzb : ((kget fm hh).getD 0 == 0) = false := by simpa using hz
          go_wp2_with (go_at_call 107; refine FD.out.mono ?_; rintro e w8 ⟨rfl, hb8⟩; have g8 := G7.out.below hb8; have lk8 := g8.map.look (t := 47) (e := 3) (by kernel_rfl) (by kernel_rfl) (by kernel_rfl) hh (by omega); have G8 := hid ((g8.bytes (World.ownsRow_nil _ 0 _ _) : GR W fb w8 fm (hs ++ [hh]) A5 c5 (os ++ [⟨lK (size + k), lf, false⟩]) A7 c7 [] none 0)); clear hb8 g8)
          go_roundw
          case rel =>
            iterate 68 (apply Exists.intro)
            refine ⟨?_, rfl⟩
            exact ⟨k + 1, os ++ [⟨lK (size + k), lf, false⟩], hs ++ [hh], fm, A7, c7, A5, c5, by omega, by rw [ol1], by rw [List.length_append]; rfl, by go_num, by rw [ol1]; omega, by omega, G8, HN2, HHN⟩
          case measure => simp [intOf]; omega
    · have hke : k = xs.length := by omega
      subst hke
      have HOS := hid (show leafWs m size [] xs = os by rw [hlw.out, List.drop_length]; simp [leafWs])
      have hhe : hs = hashesP xs := by rw [hhs.out, List.take_length]
      have HG := hid hG.out
      have hhl : hs.length = xs.length := by rw [hhe]; simp [hashesP]
      have hh100 : ∀ t ∈ hs, t.length ≤ 100 := by
        rw [hhe]
        intro t ht
        obtain ⟨x, -, rfl⟩ := List.mem_map.1 ht
        rw [leafH_len]
        omega
      have hnn := HN.out
      obtain ⟨PP, hPP⟩ : ∃ PP, PP = peaksP m size (Lib.bitLen size + 1) := ⟨_, rfl⟩
      have hPl := HPL.out
      have hP1 := HP1.out
      have hNE := HNE.out
      have PK := hid (tree_Peaks (HR.out.below HG.out.drew.gw.be) size (by omega) (HL.out.below HG.out.drew.gw.be))
      rw [← hPP] at hPl hP1 hNE PK
      have hPP100 : PP.length ≤ 100 := by have := popC_le 11 size; unfold popN at hPl; omega
      have HNG := hid (fun (w2 : World) (A2 : Option Addr) (c2 b2 : Nat) (hr2 : w2.ownsRow b2 9 1 (.slice A2 PP.length c2) PP.length (PP.map tV)) (g2 : w2.ownsRow W.heap.size 9 1 (.slice Ah hs.length ch) hs.length (hs.map tV)) (hL2 : LibL w2) => nodes_Grow w2 size PP hs A2 Ah c2 ch b2 W.heap.size hr2 g2 (by omega) hPl hP1 hh100 hL2)
      obtain ⟨t1, t2, t3⟩ := growP_tops hs PP size hP1 hh100
      have t4 := growP_ne hs PP size (by
        rcases hNE with h | h
        · exact .inl h
        · refine .inr fun h0 => h ?_
          rw [h0] at hhl
          exact List.eq_nil_of_length_eq_zero hhl.symm)
      have HGL := hid (show growL m size xs = (os ++ (growP size PP hs).1, rootP (growP size PP hs).2) by unfold growL; rw [HOS.out, ← hPP, ← hhe])
      generalize growP size PP hs = MT at *
      obtain ⟨M, T⟩ := MT
      simp only [] at *
      have RT := hid (fun (w5 : World) (g c : Nat) (hg : ∀ k, k < T.length → w5.cell? ⟨g, k, none⟩ = some (.string (S (T[k]?.getD [])))) (hc : T.length ≤ c) (hL5 : LibL w5) => legacy_root w5 T g c t4 hg hc (by omega) t1 hL5)
      have hMl : M.length ≤ 1000000 := by omega
      have hol6 : os.length ≤ 1000000 := by omega
      have HT4 := hid t4
      clear hG hlw hhs hlt hhe hPl hP1 hNE t1 t2 t3 t4 hh100 hPP hhl
      go_wp2
      have S0 : wr.drew.cell? ⟨lb, 0, none⟩ = some (.pointer (some ⟨sb, 0, none⟩)) ∧ wr.drew.cell? ⟨lb, 1, none⟩ = some (.int .i64 size) := ⟨hk0, hk1⟩
      go_region_held3 (fun w' => w'.cell? ⟨lb, 0, none⟩ = some (.pointer (some ⟨sb, 0, none⟩)) ∧ w'.cell? ⟨lb, 1, none⟩ = some (.int .i64 size)) (first | assumption | simp [*, go_sem, World.cell?_alloc_past]) (first
        | (go_at_call 110; refine PK.out.mono ?_; rintro e w2 ⟨A2, c2, rfl, hr2, hb2⟩; have g2 := HG.out.drew.below hb2; have S2 : w2.cell? ⟨lb, 0, none⟩ = some (.pointer (some ⟨sb, 0, none⟩)) ∧ w2.cell? ⟨lb, 1, none⟩ = some (.int .i64 size) := ⟨(g2.gw.be.cell hlb).trans k0, (g2.gw.be.cell hlb).trans k1⟩; have NG := hid (HNG.out w2 A2 c2 _ hr2 g2.gw.tx (HL.out.below g2.gw.be)); have G2 := hid g2; clear g2 hr2 hb2)
        | (go_at_call 109; refine NG.out.mono ?_; rintro e w3 ⟨A3, c3, A4, c4, rfl, gw3⟩; have g3 := G2.out.below gw3.be; have S3 : w3.cell? ⟨lb, 0, none⟩ = some (.pointer (some ⟨sb, 0, none⟩)) ∧ w3.cell? ⟨lb, 1, none⟩ = some (.int .i64 size) := ⟨(g3.gw.be.cell hlb).trans k0, (g3.gw.be.cell hlb).trans k1⟩; have G3 := hid g3; have GW3 := hid gw3; clear g3 gw3))
      all_goals
        obtain ⟨A5, c5, w5, hrun5, hr5, ht5⟩ := append_wrs w3 G3.out.gw.wx GW3.out.wx hol6 hMl G3.out.gw.be.size
        have hb5 : Below W.heap.size W w5 := below_touch G3.out.gw.be ht5 fun k hk => row_base_le G3.out.gw.wx hk
        have htx := row_keep GW3.out.tx fun k hk => ht5.block k (row_lt GW3.out.tx hk) (row_apart GW3.out.tx G3.out.gw.wx (by decide) hk)
        obtain ⟨g4, rfl, hc4, hg4⟩ := row_tops htx HT4.out
        have RT5 := hid (RT.out w5 g4 c4 hg4 hc4 (HL.out.below hb5))
        have HR5 := hid hr5
        have HB5 := hid hb5
        clear hr5 ht5 hb5 htx hg4 hc4
        go_wp2_with (first
          | (at_builtin; refine wpList_append_run rfl _ _ _ (by rfl) _ _ _ _ (by rfl) (by rfl) hrun5 ?_)
          | (go_at_call 111; refine RT5.out.mono ?_; rintro e w6 ⟨rfl, hb6⟩; have HB6 := hid hb6; clear hb6))
        go_ret2
        rw [HGL.out]
        exact ⟨A5, c5, by rw [List.length_append]; rfl, row_under HR5.out HB6.out, HB5.out.trans (HB6.out.mono HB5.out.size)⟩
end
end Go.Proofs.YtiabfngiibabcaaGreatDoor
