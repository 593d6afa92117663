/-
  Walk of pantilelaw16.lives.
-/
import Derived.Test.YtiabfngiibabcaaGreatDoorLgOn2
set_option linter.unusedVariables false
set_option linter.unusedSimpArgs false
set_option maxHeartbeats 6400000
set_option maxRecDepth 100000
namespace Go.Proofs.YtiabfngiibabcaaGreatDoor
open Go.RowKit

theorem noteM_get (x : Lf) : kget (noteM [] x) x.cert = some x.time := by
  simp [noteM, kget, kput, kins, kdel]
theorem LF.lt {w0 W : World} {g lb size : Nat} {q : Int} {log : List UInt8} {m : KM} {P : List Lf} {H : List Hd} {C : KMapI} {F : Nat → Prop} (h : LF w0 W g q log lb m size P H C F) : ∀ j, F j → w0.heap.size ≤ j ∧ j < W.heap.size := by
  obtain ⟨N, k, sb, mb, cm, base, A, c, Ah, ch, Z, hN, hS, hw, hf, hbs⟩ := h
  exact hf.2
theorem LF.bel {w0 W : World} {g lb size : Nat} {q : Int} {log : List UInt8} {m : KM} {P : List Lf} {H : List Hd} {C : KMapI} {F : Nat → Prop} (h : LF w0 W g q log lb m size P H C F) : Below w0.heap.size w0 W := by
  obtain ⟨N, k, sb, mb, cm, base, A, c, Ah, ch, Z, hN, hS, hw, hf, hbs⟩ := h
  exact hw
theorem LW.lt {w0 W : World} {g lb size : Nat} {q : Int} {log : List UInt8} {m : KM} {P : List Lf} {C : KMapI} {F : Nat → Prop} (h : LW w0 W g q log lb m size P C F) : ∀ j, F j → w0.heap.size ≤ j ∧ j < W.heap.size := by
  obtain ⟨N, k, sb, mb, cm, A, c, hd, Z, hN, h1, h2, h3, hw, hf, hA⟩ := h
  exact hf.2
theorem LW.bel {w0 W : World} {g lb size : Nat} {q : Int} {log : List UInt8} {m : KM} {P : List Lf} {C : KMapI} {F : Nat → Prop} (h : LW w0 W g q log lb m size P C F) : Below w0.heap.size w0 W := by
  obtain ⟨N, k, sb, mb, cm, A, c, hd, Z, hN, h1, h2, h3, hw, hf, hA⟩ := h
  exact hw
theorem law16_lives (w0 : World) (hL : LibL w0) : Calls Tryz.prog 13 #[] w0 fun e w' => e = .returned (.bool true) ∧ Below w0.heap.size w0 w' := by
  have HL := hid hL
  have hok : okL ⟨5, [97]⟩ = true := by rfl
  have hok9 : okL ⟨9, [97]⟩ = true := by rfl
  have HAN := hid (fun (w2 : World) (g lb : Nat) (F2 : Nat → Prop) (h2 : LF w0 w2 g 100000 [] lb [] 0 [] [] [] F2) => on_Add_new ⟨5, [97]⟩ h2 hok (by simp) (by omega) hL)
  have HAS := hid (fun (w2 : World) (g lb : Nat) (F2 : Nat → Prop) (h2 : LF w0 w2 g 100000 (frameB (bS ⟨5, [97]⟩)) lb (mS ⟨5, [97]⟩) 0 [⟨5, [97]⟩] [] (noteM [] ⟨5, [97]⟩) F2) => on_Add_seen (h2.lw (by simp)) [97] 9 5 hok9 (noteM_get ⟨5, [97]⟩))
  have HSQ := hid (fun (w2 : World) (g lb : Nat) (F2 : Nat → Prop) (h2 : LF w0 w2 g 100000 (frameB (bS ⟨5, [97]⟩)) lb (mS ⟨5, [97]⟩) 0 [⟨5, [97]⟩] [] (noteM [] ⟨5, [97]⟩) F2) => on_Seq ⟨5, [97]⟩ 9 h2 hok (by simp) (by omega) (by omega) hL)
  simp only [leafV] at HAN HAS
  clear hL hok hok9
  go_enter Tryz.func13, Tryz.ntmps13
  go_wp2_with (first
    | (go_at_call 7; refine (drive_New 100000 (by rfl) _).mono ?_; rintro e w1 ⟨g, fp, rfl, hd1, hb1, hf1⟩; have OP := hid (on_Open_new hd1 (by rfl) hb1 hf1 HL.out); clear hd1 hb1 hf1)
    | (go_at_call 8; refine OP.out.mono ?_; rintro e w2 ⟨lb, rfl, F2, h2, -, -⟩; have AN := hid (HAN.out w2 g lb F2 h2); clear h2)
    | (go_at_call 9; with_reducible refine AN.out.mono ?_; rintro e w3 ⟨rfl, F3, h3, -, -⟩; have H3 := hid (h3.below ((Below.refl _ _).alloc (Nat.le_refl _) (.cells #[.int .i64 5, .string (S [97])] 30))); have LT3 := hid h3.lt; have AS := hid (HAS.out _ g lb F3 H3.out); clear h3)
    | (go_at_call 9; with_reducible refine AS.out.mono ?_; rintro e w4 ⟨rfl, hb4⟩; have hA4 : Blk w4 w3.heap.size 30 #[.int .i64 5, .string (S [97])] := (Blk.new _ _ _).below hb4 (by simp); have hz4 : w3.heap.size < w4.heap.size := hA4.lt; have H4 := hid ((H3.out.below hb4).below ((Below.refl _ _).alloc (Nat.le_refl _) (.cells #[.int .i64 5, .string (S [97])] 30))); have HA4 := hid (hA4.alloc (.cells #[.int .i64 5, .string (S [97])] 30)); have HB4 := hid (Blk.new w4 30 #[.int .i64 5, .string (S [97])]); have SQ := hid (HSQ.out _ g lb F3 H4.out); clear hb4 hA4)
    | (go_at_call 10; refine SQ.out.mono ?_; rintro e w5 ⟨rfl, F5, h5, t5, f5⟩; have hA5 := t5.blk HA4.out (fun h => by have := (LT3.out _ h).2; omega); have hB5 := t5.blk HB4.out (fun h => by have := (LT3.out _ h).2; omega); have a0 : w5.cell? ⟨w3.heap.size, 0, none⟩ = some (.int .i64 5) := hA5.cell 0; have a1 : w5.cell? ⟨w3.heap.size, 1, none⟩ = some (.string (S [97])) := hA5.cell 1; have b0 : w5.cell? ⟨w4.heap.size, 0, none⟩ = some (.int .i64 5) := hB5.cell 0; have b1 : w5.cell? ⟨w4.heap.size, 1, none⟩ = some (.string (S [97])) := hB5.cell 1; have SZ := hid (on_Size h5); have HF := hid h5.bel; clear h5 t5 f5 hA5 hB5)
    | (go_at_call 11; refine SZ.out.mono ?_; rintro e w6 ⟨rfl, hw⟩; rw [hw]; clear hw w6))
  go_ret
  exact ⟨rfl, HF.out⟩
end Go.Proofs.YtiabfngiibabcaaGreatDoor
