/-
  Walk of legacy.Open, where the store opens and what it has is a log's.
-/
import Derived.Test.YtiabfngiibabcaaGreatDoorLg12
set_option linter.unusedVariables false
set_option linter.unusedSimpArgs false
set_option maxHeartbeats 6400000
set_option maxRecDepth 100000
namespace Go.Proofs.YtiabfngiibabcaaGreatDoor
open Go.RowKit

theorem nodes_Of (sb : Nat) (w : World) : Calls Tryz.prog 28 #[.pointer (some ⟨sb, 0, none⟩)] w fun e w' => e = .returned (.agg #[.pointer (some ⟨sb, 0, none⟩)]) ∧ Below w.heap.size w w' := by
  obtain ⟨W1, HW1⟩ : ∃ W1, Hid (W1 = w.alloc (.cells #[.pointer (some ⟨sb, 0, none⟩)] 45)) := ⟨_, hid rfl⟩
  have b1 : Below w.heap.size w W1 := by rw [HW1.out]; exact (Below.refl _ _).alloc (Nat.le_refl _) _
  have hR : Blk W1 w.heap.size 45 #[.pointer (some ⟨sb, 0, none⟩)] := by rw [HW1.out]; exact Blk.new _ _ _
  have n0 := hR.cell 0
  simp at n0
  have HB := hid b1
  clear hR b1
  go_enter Tryz.func28, Tryz.ntmps28
  go_wp2
  rw [← HW1.out]
  exact bodyPost_ret (v := .agg #[.pointer (some ⟨sb, 0, none⟩)]) (by simp [results, Tryz.results28, go_sem, n0]) rfl ⟨rfl, HB.out⟩
theorem open_mem (w3 : World) (sb n : Nat) (W4 : World) (hW : W4 = ((w3.alloc (.map #[] 0)).alloc (.cells #[.pointer (some ⟨sb, 0, none⟩), .int .i64 n, .slice none 0 0, .slice none 0 0, .map (some w3.heap.size)] 49)).alloc (.cells #[.pointer (some ⟨w3.heap.size + 1, 0, none⟩)] 25)) :
    Below w3.heap.size w3 W4 ∧ Blk W4 (w3.heap.size + 1 + 1) 25 #[.pointer (some ⟨w3.heap.size + 1, 0, none⟩)] ∧ Blk W4 (w3.heap.size + 1) 49 (logCells sb n (.slice none 0 0) (.slice none 0 0) w3.heap.size) ∧ OwnI Tryz.prog 9 W4 w3.heap.size [] := by
  have hm := OwnI.made (P := Tryz.prog) (k := 9) w3
  have hl := Blk.new (w3.alloc (.map #[] 0)) 49 #[.pointer (some ⟨sb, 0, none⟩), .int .i64 n, .slice none 0 0, .slice none 0 0, .map (some w3.heap.size)]
  have hx := Blk.new ((w3.alloc (.map #[] 0)).alloc (.cells #[.pointer (some ⟨sb, 0, none⟩), .int .i64 n, .slice none 0 0, .slice none 0 0, .map (some w3.heap.size)] 49)) 25 #[.pointer (some ⟨w3.heap.size + 1, 0, none⟩)]
  rw [World.size_alloc] at hl
  rw [World.size_alloc, World.size_alloc] at hx
  subst hW
  refine ⟨(((Below.refl _ _).alloc (Nat.le_refl _) _).alloc (by simp) _).alloc (by simp; omega) _, hx, hl.alloc _, ?_⟩
  exact (hm.kept (Below.heap_alloc _ _ _ (by simp))).kept (Below.heap_alloc _ _ _ (by simp; omega))
/-- A log, whole. -/
structure LogS (W : World) (g : Nat) (d : Dr) (N lb sb mb cm : Nat) (m : KM) (size : Nat) (P : List Lf) (H : List Hd) (C : KMapI) (base : Nat) (A : Option Addr) (c : Nat) (Ah : Option Addr) (ch : Nat) (Z : Nat → Prop) : Prop where
  st : St W g d N lgN sb mb m Z
  blk : Blk W lb 49 (logCells sb size (.slice A P.length c) (.slice Ah H.length ch) cm)
  pr : W.ownsRow base 30 2 (.slice A P.length c) P.length (P.flatMap lCells)
  hr : W.ownsRow base 97 3 (.slice Ah H.length ch) H.length (H.flatMap dCells)
  cr : OwnI Tryz.prog 9 W cm C
  fr : ∀ k, k = lb ∨ k = cm ∨ OwnBy (.slice A P.length c) k ∨ OwnBy (.slice Ah H.length ch) k → ¬ foot Z sb mb k
  bl : base ≤ lb ∧ base ≤ cm ∧ base ≤ W.heap.size
theorem legacy_Open_at {W : World} {g N : Nat} {d : Dr} {m : KM} {Z0 : Nat → Prop} (hopen : Calls Tryz.prog 27 #[.pointer (some ⟨g, 0, none⟩), .string (S lgN)] W (OpenPost14 W Z0 g d N lgN m)) (hr : Rising m) (hml : m.length ≤ 100000) (hL : ∀ w', Turn Z0 W w' → LibL w')
    (EL EP : List (Nat × Lf)) (EH : List Hd) (hn1 : EL.length ≤ 1000) (hn2 : EP.length ≤ 1000) (hn3 : EH.length ≤ 1000) (hk1 : preK m [108, 47] = EL.map fun p => lK p.1) (hE1 : ∀ p ∈ EL, p.1 < 10000000 ∧ okL p.2 = true ∧ kget m (lK p.1) = some (leafB p.2))
    (hk2 : preK m [112, 47] = EP.map fun p => pK p.1) (hE2 : ∀ p ∈ EP, p.1 < 10000000 ∧ okL p.2 = true ∧ kget m (pK p.1) = some (leafB p.2)) (hk3 : preK m [104, 47] = EH.map fun p => hK p.size) (hE3 : ∀ p ∈ EH, p.size < 10000000 ∧ p.time < 100000000000000000 ∧ p.root.length ≤ 10000 ∧ kget m (hK p.size) = some (headV p)) :
    Calls Tryz.prog 8 #[.pointer (some ⟨g, 0, none⟩)] W fun e w' => ∃ lb sb mb cm A c Ah ch Z base, e = .returned (.tuple #[.pointer (some ⟨lb, 0, none⟩), .int .i64 0]) ∧ LogS w' g d N lb sb mb cm m EL.length (EP.map (·.2)) EH (notes (notes [] (EL.map (·.2))) (EP.map (·.2))) base A c Ah ch Z ∧ W.heap.size ≤ base ∧ Turn Z0 W w' ∧ ∀ k, foot Z sb mb k → Z0 k ∨ W.heap.size ≤ k := by
  have hncl : (notes [] (EL.map (·.2))).length ≤ 100000 := by
    have := notes_len (EL.map (·.2)) []
    rw [List.length_map, List.length_nil] at this
    omega
  have HO := hid hopen
  have HR := hid hr
  clear hopen hr
  have hmm : ∀ w : World, (Instr.makeMap 47 none).run Tryz.prog w = .ok (.map (some w.heap.size)) (w.alloc (.map #[] 0)) := fun w => by kernel_rfl
  have hmf : ∀ (fn : Fn) (first cap : Array Value) (w : World), (Instr.makeFunc fn first cap).run Tryz.prog w = .ok (.func fn first cap) w := fun _ _ _ _ => rfl
  go_enter Tryz.func8, Tryz.ntmps8
  go_wp2_with (first
    | (go_at_call 27; refine HO.out.mono ?_; rintro e w1 ⟨sb, mb, Z, rfl, hsb, hs1, ht1, hf1⟩; have hL1 := hL _ ht1; have K1 := hid (rd_Keys hs1.rd HR.out hml [108, 47] _ hk1); have HS1 := hid hs1; have HT1 := hid ht1; have HF1 := hid hf1; have HL1 := hid hL1; clear hs1 ht1 hf1 hL1)
    | (go_at_call 28; refine (nodes_Of _ _).mono ?_; rintro e w2 ⟨rfl, hb2⟩; have HB2 := hid hb2; clear hb2)
    | (go_at_call 29; refine (rd_Keys (HS1.out.rd.below HB2.out) HR.out hml [108, 47] _ hk1).mono ?_; rintro e w3 ⟨v, rfl, hr3, hb3⟩; obtain ⟨A3, c3, rfl⟩ := row_form hr3; have hb13 := bt HB2.out hb3; rw [List.length_map]; obtain ⟨m1, m2, m3, m4⟩ := open_mem w3 sb EL.length _ rfl; have OL := hid (open_l (bt hb13 m1) m2 m3 m4 hb13.size HS1.out.rd HR.out hml (by simp) EL hn1 hk1 hE1); have HZ3 := hid hb13.size; clear hb3 hr3 hb13 m1 m2 m3 m4)
    | (go_at_call 30; with_reducible refine OL.out.mono ?_; rintro e w5 ⟨rfl, hb5, hx5, h5, hm5⟩; have y5 := box1 hx5; have OP := hid (open_p hb5 hx5 h5 hm5 HZ3.out (Nat.le_succ_of_le HZ3.out) HS1.out.rd HR.out hml hncl EP hn2 hk2 hE2); clear hb5 hx5 h5 hm5)
    | (go_at_call 30; with_reducible refine OP.out.mono ?_; rintro e w6 ⟨rfl, hb6, hx6, hm6, A6, c6, h6, hr6⟩; have y6 := box1 hx6; have OH := hid (open_h hb6 hx6 h6 hr6 hm6 (Nat.le_succ_of_le HZ3.out) HS1.out.rd HR.out hml HL1.out EH hn3 hk3 hE3); clear hb6 hx6 h6 hm6 hr6)
    | (go_at_call 30; with_reducible refine OH.out.mono ?_; rintro e w7 ⟨rfl, hb7, hx7, hm7, hp7, A7, c7, h7, hr7⟩; have y7 := box1 hx7; have HF := hid (And.intro hb7 (And.intro hm7 (And.intro hp7 (And.intro h7 hr7)))); clear hb7 hx7 hm7 hp7 h7 hr7))
  go_ret2
  obtain ⟨hb7, hm7, hp7, h7, hr7⟩ := HF.out
  have hl : (EP.map (·.2)).length = EP.length := by simp
  have hfl : ∀ k, foot Z sb mb k → k < w1.heap.size := fun k hk => HS1.out.lt hk
  refine ⟨w3.heap.size + 1, sb, mb, w3.heap.size, A6, c6, A7, c7, Z, w1.heap.size, rfl, ⟨HS1.out.keep (Turn.of_below hb7 (fun _ => False)) (fun _ _ h => h), by rw [hl]; exact h7, by rw [hl]; exact hp7, hr7, hm7, fun k hk hf => ?_, by have := HZ3.out; omega, HZ3.out, hb7.size⟩, HT1.out.size, HT1.out.trans (Turn.of_below hb7 _), HF1.out⟩
  have h1 := hfl k hf
  have h2 := HZ3.out
  rcases hk with rfl | rfl | hk | hk
  · omega
  · omega
  · rw [hl] at hk
    have := row_base_le hp7 hk
    omega
  · have := row_base_le hr7 hk
    omega
end Go.Proofs.YtiabfngiibabcaaGreatDoor
