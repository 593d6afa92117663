/- strings.Trim at a store's letters. Walk of kv.Open on a drive without the store's files. -/
import Derived.Test.YtbjimikppdfmgaaGreatDoorLayK
import Derived.Test.YtbjimikppdfmgaaGreatDoorBy
import Derived.Test.YtbjimikppdfmgaaGreatDoorKv7
set_option linter.unusedVariables false
set_option linter.unusedSimpArgs false
set_option maxHeartbeats 1600000
set_option maxRecDepth 100000
namespace Go.Proofs.YtbjimikppdfmgaaGreatDoor
open Go.RowKit

def abcT : List UInt8 := [97, 98, 99, 100, 101, 102, 103, 104, 105, 106, 107, 108, 109, 110, 111, 112, 113, 114, 115, 116, 117, 118, 119, 120, 121, 122]
theorem str_Trim_abc (l : List UInt8) (hl : l.length ≤ 1000) (w : World) : Calls Tryz.prog 18 #[.string (S l), .string (S abcT)] w fun e w' => e = .returned (.string (S (Lib.trimS l abcT))) ∧ Below w.heap.size w w' := by
  refine (Any.strings_Trim_laid layTrim (by kernel_rfl) (S l) (S abcT) w (by rw [S_size]; omega) (by rw [S_size]; decide) ?_).mono ?_
  · intro j b hb
    have hm : b ∈ abcT := by
      rw [S_toList] at hb
      exact List.mem_of_getElem? hb
    have : ∀ x ∈ abcT, x.toNat < 128 := by decide
    exact this b hm
  · rintro e w' ⟨rfl, h⟩
    rw [S_toList, S_toList]
    exact ⟨rfl, h⟩
theorem dropAll {α : Type} {p : α → Bool} {l : List α} (h : ∀ c ∈ l, p c = true) : l.dropWhile p = [] := by
  induction l with
  | nil => rfl
  | cons a r ih =>
    rw [List.dropWhile_cons, if_pos (h a (by simp))]
    exact ih fun c hc => h c (by simp [hc])
theorem trimS_all {l : List UInt8} (h : ∀ c ∈ l, abcT.contains c = true) : Lib.trimS l abcT = [] := by
  have h1 : Lib.trimRightS l abcT = [] := by
    unfold Lib.trimRightS
    rw [List.reverse_eq_nil_iff]
    exact dropAll fun c hc => h c (List.mem_reverse.1 hc)
  unfold Lib.trimS
  rw [h1]
  rfl
end Go.Proofs.YtbjimikppdfmgaaGreatDoor

set_option linter.unusedVariables false
set_option linter.unusedSimpArgs false
set_option maxHeartbeats 6400000
set_option maxRecDepth 100000
namespace Go.Proofs.YtbjimikppdfmgaaGreatDoor
open Go.RowKit

section
variable {w0 : Fr} {W : World} {g N : Nat} {d : Dr} {X : List Xc} {name : Key}
theorem kv_Open_new (h : FW w0 g d N X W) (hN : N ≤ 1000000000) (hn : name ≠ []) (hl : name.length ≤ 20) (ha : ∀ c ∈ name, abcT.contains c = true) (hd : d.down = false) (hB : d.readE (fileN name baseN) = 10) (hL : d.readE (fileN name logN) = 10) (hC : (d.create (fileN name logN)).2 = 0) :
    Calls Tryz.prog 7 #[.pointer (some ⟨g, 0, none⟩), .string (S name)] W fun e w' => ∃ sb mb, e = .returned (.tuple #[.pointer (some ⟨sb, 0, none⟩), .int .i64 0]) ∧ W.heap.size ≤ sb ∧ MW w0 g (d.create (fileN name logN)).1 N ((sb, 52, storeCells g name mb false) :: X) mb [] w' := by
  have TR := hid (fun W' => str_Trim_abc name (by omega) W')
  rw [trimS_all ha] at TR
  unfold abcT at TR
  have H1 := hid (h.with_ 22 #[.pointer (some ⟨g, 0, none⟩)])
  have k0 : (name == []) = false := beq_eq_false_iff_ne.2 hn
  have hl' : (name.length : Int) ≤ 20 := by omega
  clear h ha hn
  have hmm := @run_makeMap Tryz.prog
  go_enter Tryz.func7, Tryz.ntmps7
  go_wp2_with fail
  refine (TR.out _).mono ?_
  rintro e w2 ⟨rfl, hb2⟩
  have H2 := hid (H1.out.below hb2)
  have HSZ := hid (show W.heap.size ≤ w2.heap.size by have := hb2.size; simp at this; omega)
  have c2 := box1 (H2.out.blk (x := (W.heap.size, 22, #[.pointer (some ⟨g, 0, none⟩)])) (by simp))
  obtain ⟨fp, D2, -⟩ := H2.out
  have AL := hid (drive_Alive D2)
  rw [hd] at AL
  go_wp2_with fail
  refine AL.out.mono ?_
  rintro e w3 ⟨rfl, rfl⟩
  have H3 := H2.out.newMap
  have H4 : MW w0 g d N ((w3.heap.size + 1, 52, storeCells g name w3.heap.size false) :: (W.heap.size, 22, #[.pointer (some ⟨g, 0, none⟩)]) :: X) w3.heap.size [] ((w3.alloc (.map #[] 0)).alloc (.cells (storeCells g name w3.heap.size false) 52)) := by
    simpa using H3.with_ 52 (storeCells g name w3.heap.size false)
  have H5 := H4.with_ 24 #[.pointer (some ⟨w3.heap.size + 1, 0, none⟩)]
  have H6 := H5.with_ 33 #[.func (.func 21) #[] #[.pointer (some ⟨w3.heap.size + 1 + 1, 0, none⟩)], .func (.func 23) #[] #[.pointer (some ⟨w3.heap.size + 1 + 1, 0, none⟩)], .func (.func 24) #[] #[.pointer (some ⟨W.heap.size, 0, none⟩), .pointer (some ⟨w3.heap.size + 1 + 1, 0, none⟩)]]
  simp only [show ((w3.alloc (.map #[] 0)).alloc (.cells (storeCells g name w3.heap.size false) 52)).heap.size = w3.heap.size + 1 + 1 by simp, show (((w3.alloc (.map #[] 0)).alloc (.cells (storeCells g name w3.heap.size false) 52)).alloc (.cells #[.pointer (some ⟨w3.heap.size + 1, 0, none⟩)] 24)).heap.size = w3.heap.size + 1 + 1 + 1 by simp] at H6
  have H6H := hid H6
  have HH := hid (show d.readE (fileN name baseN) = 10 ∧ d.readE (fileN name logN) = 10 ∧ (d.create (fileN name logN)).2 = 0 from ⟨hB, hL, hC⟩)
  clear H3 H4 H5 H6 hB hL hC
  have FI := hid (kv_first _ (some ⟨w3.heap.size + 1 + 1 + 1, 0, none⟩) 3 [(21, #[.pointer (some ⟨w3.heap.size + 1 + 1, 0, none⟩)]), (23, #[.pointer (some ⟨w3.heap.size + 1 + 1, 0, none⟩)]), (24, #[.pointer (some ⟨W.heap.size, 0, none⟩), .pointer (some ⟨w3.heap.size + 1 + 1, 0, none⟩)])]
    (fun i W' => MW w0 g (if i = 3 then (d.create (fileN name logN)).1 else d) N _ w3.heap.size [] W') (fun _ _ => False) (by simp) H6H.out
    (fun i hi W' => by
      have : i = 0 ∨ i = 1 ∨ i = 2 := by simp at hi; omega
      rcases this with rfl | rfl | rfl
      · exact Go.MuLone.run_callFunc_enter Tryz.func21 (by kernel_rfl) rfl _ W'
      · exact Go.MuLone.run_callFunc_enter Tryz.func23 (by kernel_rfl) rfl _ W'
      · exact Go.MuLone.run_callFunc_enter Tryz.func24 (by kernel_rfl) rfl _ W')
    (fun i W' hi hI => by
      have hb := hI.blk (List.mem_cons_self ..)
      have : i = 0 ∨ i = 1 ∨ i = 2 := by simp at hi; omega
      rcases this with rfl | rfl | rfl
      · exact ⟨_, _, rfl, hb.cell 0⟩
      · exact ⟨_, _, rfl, hb.cell 1⟩
      · exact ⟨_, _, rfl, hb.cell 2⟩)
    (fun i W' hi hI => by
      have : i = 0 ∨ i = 1 ∨ i = 2 := by simp at hi; omega
      rcases this with rfl | rfl | rfl
      · refine (kv_open1 (sb := w3.heap.size + 1) (name := name) (dead := false) hI (by simp) (by simp) hN (by omega) HH.out.1).mono ?_
        rintro e w' ⟨rfl, -, hM⟩
        exact ⟨0, rfl, .inl ⟨rfl, hM⟩⟩
      · refine (kv_open2 (sb := w3.heap.size + 1) (name := name) (dead := false) hI (by simp) (by simp) hN (by omega) HH.out.2.1).mono ?_
        rintro e w' ⟨rfl, -, hM⟩
        exact ⟨0, rfl, .inl ⟨rfl, hM⟩⟩
      · refine (kv_open3 (sb := w3.heap.size + 1) (name := name) (dead := false) hI (by simp) (by simp) (by simp) (by omega) (by rw [show (if (2 : Nat) = 3 then (d.create (fileN name logN)).1 else d) = d from rfl, HH.out.2.2]; decide)).mono ?_
        rintro e w' ⟨rfl, hM⟩
        exact ⟨0, by rw [show (if (2 : Nat) = 3 then (d.create (fileN name logN)).1 else d) = d from rfl, HH.out.2.2], .inl ⟨rfl, hM⟩⟩))
  go_wp2_with fail
  refine FI.out.mono ?_
  rintro e w4 ⟨x, rfl, hx⟩
  rcases hx with ⟨rfl, hM⟩ | ⟨-, hF⟩
  · have HM := hid hM
    have c7 := box1 (hM.blk (x := (w3.heap.size + 1 + 1, 24, #[.pointer (some ⟨w3.heap.size + 1, 0, none⟩)])) (by simp))
    clear hM
    go_wp2
    go_ret2
    exact ⟨_, _, rfl, by have := HSZ.out; omega, HM.out.sub fun x hx => by
      rcases List.mem_cons.1 hx with rfl | hx
      · simp
      · simp [hx]⟩
  · cases hF
end
end Go.Proofs.YtbjimikppdfmgaaGreatDoor
