/- Walks of package drive: Rename, whole. -/
import Derived.Test.YtioillenlgpcgaaDrive15
set_option linter.unusedVariables false
set_option linter.unusedSimpArgs false
set_option maxHeartbeats 1600000
set_option maxRecDepth 100000
attribute [local go_sem ↓] Go.wp_at_zero Go.wp_at_succ
namespace Go.Proofs.Ytioillenlgpcgaa
open Go.RowKit

theorem drive_Rename {w : World} {g : Nat} {d : Dr} {fp : Nat → Prop} {N : Nat} (h : IsDrive w g d fp) (hok : d.Ok N) (hN : N ≤ 1000000000) (a b : Key) (hla : a.length ≤ 1000000) (hlb : b.length ≤ 1000000) :
    Calls Try.prog 39 #[.pointer (some ⟨g, 0, none⟩), .string (S a), .string (S b)] w fun x w' => x = .returned (.int .i64 (d.rename a b).2) ∧ Then w g (d.rename a b).1 fp w' := by
  have hlt := h.lt
  generalize hW : (((w.alloc (.cells #[.pointer (some ⟨g, 0, none⟩)] 25)).alloc (.cells #[.string (S a)] 9)).alloc (.cells #[.string (S b)] 9)) = W
  have b0 : Below w.heap.size w W := by rw [← hW]; exact (((Below.refl _ _).alloc (Nat.le_refl _) _).alloc (by simp) _).alloc (by simp; omega) _
  have hC : Caps W g w.heap.size (w.heap.size + 1) a fp := by
    rw [← hW]
    exact ⟨by simp [World.cell?_alloc_past, go_sem], by simp [World.cell?_alloc_past, go_sem], by simp; omega, by simp, fun hk => by have := hlt _ hk; omega, fun hk => by have := hlt _ hk; omega⟩
  have hdc : W.cell? ⟨w.heap.size + 1 + 1, 0, none⟩ = some (.string (S b)) := by
    rw [← hW]
    simp [World.cell?_alloc_past, go_sem]
  have hdlt : w.heap.size + 1 + 1 < W.heap.size := by rw [← hW]; simp
  have hdn : ¬ fp (w.heap.size + 1 + 1) := fun hk => by have := hlt _ hk; omega
  have hD : ∀ (e : Int) (hE : d.renameE a b = e),
      Calls Try.prog 29 #[.pointer (some ⟨g, 0, none⟩), .int .i64 e, .func (.func 68) #[] #[.pointer (some ⟨w.heap.size, 0, none⟩), .pointer (some ⟨w.heap.size + 1, 0, none⟩), .pointer (some ⟨w.heap.size + 1 + 1, 0, none⟩)]] W fun x w' => x = .returned (.int .i64 (d.rename a b).2) ∧ Then w g (d.rename a b).1 fp w' := by
    intro e hE
    unfold Dr.rename
    rw [hE]
    refine (deed_with (h.below b0) hok e 68 #[.pointer (some ⟨w.heap.size, 0, none⟩), .pointer (some ⟨w.heap.size + 1, 0, none⟩), .pointer (some ⟨w.heap.size + 1 + 1, 0, none⟩)]
      (fun W => Go.MuLone.run_callFunc_enter Try.func68 (by kernel_rfl) rfl _ W) (fun d => { d with files := kput (kdel d.files a) b (fileOf d a) })
      (fun h0 d1 w1 e1 e2 ok1 h1 h2 => ?_)).mono ?_
    · rw [h0] at hE
      have hth : d.thereE a = 0 := by
        unfold Dr.renameE at hE
        split at hE
        · cases hE
        · exact hE
      cases hk : kget d.files a with
      | none => simp [Dr.thereE, hk] at hth
      | some f =>
        have hk1 : kget d1.files a = some f := by rw [e1]; exact hk
        have hfo : fileOf d1 a = f := by simp [fileOf, hk1]
        simp only [hfo]
        exact rename_closure h1 ok1 hN (hC.touch h2) ((World.cell?_of_block (a := ⟨w.heap.size + 1 + 1, 0, none⟩) (h2.block _ hdlt hdn)).trans hdc) (Nat.lt_of_lt_of_le hdlt h2.size) hdn hla hlb hk1
    · rintro x w2 ⟨hx, ht⟩
      exact ⟨hx, ht.of_below b0 hlt⟩
  have h0 := h.below b0
  have T := hid (drive_there h0 a hla)
  have Nm := hid (drive_named (w := W) b hlb)
  have hcp := hC.cp
  have hcn := hC.cn
  by_cases he : d.thereE a = 0
  · rw [he] at T
    cases hnb : namedB b with
    | true =>
      have D := hid (hD 0 (by unfold Dr.renameE; rw [if_neg (fun hy => by rw [hnb] at hy; exact absurd hy.2 (by simp)), he]))
      rw [hnb] at Nm
      clear hD h0 hdn hdlt hC b0 hlt h hok he hnb
      go_enter Try.func39, Try.ntmps39
      go_wp2_with fail
      refine T.out.mono ?_
      rintro x w1 ⟨rfl, rfl⟩
      go_wp2_with fail
      refine Nm.out.mono ?_
      rintro x w1 ⟨rfl, rfl⟩
      go_wp2_with fail
      refine D.out.mono ?_
      rintro x w2 ⟨rfl, ht⟩
      go_wp2
      go_ret
      exact ⟨rfl, ht⟩
    | false =>
      have D := hid (hD 1 (by unfold Dr.renameE; rw [if_pos ⟨he, by rw [hnb]; rfl⟩]))
      rw [hnb] at Nm
      clear hD h0 hdn hdlt hC b0 hlt h hok he hnb
      go_enter Try.func39, Try.ntmps39
      go_wp2_with fail
      refine T.out.mono ?_
      rintro x w1 ⟨rfl, rfl⟩
      go_wp2_with fail
      refine Nm.out.mono ?_
      rintro x w1 ⟨rfl, rfl⟩
      go_wp2_with fail
      refine D.out.mono ?_
      rintro x w2 ⟨rfl, ht⟩
      go_wp2
      go_ret
      exact ⟨rfl, ht⟩
  · have he3 : d.thereE a = 10 := by
      unfold Dr.thereE at he ⊢
      by_cases hs : (kget d.files a).isSome = true
      · rw [if_pos hs] at he
        exact absurd rfl he
      · rw [if_neg hs]
    have D := hid (hD 10 (by unfold Dr.renameE; rw [if_neg (fun hy => he hy.1), he3]))
    rw [he3] at T
    clear hD h0 hdn hdlt hC b0 hlt h hok he he3 Nm
    go_enter Try.func39, Try.ntmps39
    go_wp2_with fail
    refine T.out.mono ?_
    rintro x w1 ⟨rfl, rfl⟩
    go_wp2_with fail
    refine D.out.mono ?_
    rintro x w2 ⟨rfl, ht⟩
    go_wp2
    go_ret
    exact ⟨rfl, ht⟩
end Go.Proofs.Ytioillenlgpcgaa
