/- Walks of package drive: Append, whole. -/
import Derived.Test.YtioillenlgpcgaaDrive12
import Derived.Deep.QuietTactic
import Derived.BigQuiet
set_option linter.unusedVariables false
set_option linter.unusedSimpArgs false
set_option maxHeartbeats 1600000
set_option maxRecDepth 100000
attribute [local go_sem ↓] Go.wp_at_zero Go.wp_at_succ
namespace Go.Proofs.Ytioillenlgpcgaa
open Go.RowKit

theorem BytesAt.touch {w w' : World} {A : Option Addr} {l : List UInt8} {fp fp' : Nat → Prop} (h : BytesAt w A l) (ht : Touch w w' fp fp') (hn : ∀ p, A = some p → ¬ fp p.block) : BytesAt w' A l := fun h0 => by
  obtain ⟨b, off, hA, hlt, hc⟩ := h h0
  exact ⟨b, off, hA, Nat.lt_of_lt_of_le hlt ht.size, fun i hi => (World.cell?_of_block (a := ⟨b, off + i, none⟩) (ht.block b hlt (hn _ hA))).trans (hc i hi)⟩

theorem Caps.drewM {w : World} {g pb nb : Nat} {name : Key} {fp : Nat → Prop} (h : Caps w g pb nb name fp) (n : Nat) : Caps (w.drewN n) g pb nb name fp := ⟨h.cp, h.cn, h.hp, h.hn, h.np, h.nn⟩

theorem drive_Append {w : World} {g : Nat} {d : Dr} {fp : Nat → Prop} {N : Nat} (h : IsDrive w g d fp) (hok : d.Ok N) (hN : N < 1000000000) (name : Key) (hl : name.length ≤ 1000000) (A : Option Addr) (data : List UInt8) (c : Nat) (hB : BytesAt w A data) (hn : ∀ p, A = some p → ¬ fp p.block) (hdl : data.length ≤ 1000000000) :
    Calls Try.prog 11 #[.pointer (some ⟨g, 0, none⟩), .string (S name), .slice A data.length c] w fun x w' => x = .returned (.int .i64 (d.append name data).2) ∧ Then w g (d.append name data).1 fp w' := by
  have hlt := h.lt
  generalize hW : (((w.alloc (.cells #[.pointer (some ⟨g, 0, none⟩)] 25)).alloc (.cells #[.string (S name)] 9)).alloc (.cells #[.slice A data.length c] 33)) = W
  have b0 : Below w.heap.size w W := by rw [← hW]; exact (((Below.refl _ _).alloc (Nat.le_refl _) _).alloc (by simp) _).alloc (by simp; omega) _
  have hC : Caps W g w.heap.size (w.heap.size + 1) name fp := by
    rw [← hW]
    exact ⟨by simp [World.cell?_alloc_past, go_sem], by simp [World.cell?_alloc_past, go_sem], by simp; omega, by simp, fun hk => by have := hlt _ hk; omega, fun hk => by have := hlt _ hk; omega⟩
  have hdc : W.cell? ⟨w.heap.size + 1 + 1, 0, none⟩ = some (.slice A data.length c) := by
    rw [← hW]
    simp [World.cell?_alloc_past, go_sem]
  have hdlt : w.heap.size + 1 + 1 < W.heap.size := by rw [← hW]; simp
  have hdn : ¬ fp (w.heap.size + 1 + 1) := fun hk => by have := hlt _ hk; omega
  have hD : ∀ (W : World) (hW : Below w.heap.size w W) (hC : Caps W g w.heap.size (w.heap.size + 1) name fp) (hdc : W.cell? ⟨w.heap.size + 1 + 1, 0, none⟩ = some (.slice A data.length c)) (hdlt : w.heap.size + 1 + 1 < W.heap.size) (e : Int) (hE : d.appendE name data.length = e),
      Calls Try.prog 29 #[.pointer (some ⟨g, 0, none⟩), .int .i64 e, .func (.func 32) #[] #[.pointer (some ⟨w.heap.size, 0, none⟩), .pointer (some ⟨w.heap.size + 1, 0, none⟩), .pointer (some ⟨w.heap.size + 1 + 1, 0, none⟩)]] W fun x w' => x = .returned (.int .i64 (d.append name data).2) ∧ Then w g (d.append name data).1 fp w' := by
    intro W hW hC hdc hdlt e hE
    unfold Dr.append
    rw [hE]
    refine (deed_with (h.below hW) hok e 32 #[.pointer (some ⟨w.heap.size, 0, none⟩), .pointer (some ⟨w.heap.size + 1, 0, none⟩), .pointer (some ⟨w.heap.size + 1 + 1, 0, none⟩)]
      (fun W => Go.MuLone.run_callFunc_enter Try.func32 (by kernel_rfl) rfl _ W) (fun d => { d with files := kset d.files name ⟨(fileOf d name).safe, (fileOf d name).pieces ++ [data]⟩ })
      (fun h0 d1 w1 e1 e2 ok1 h1 h2 => ?_)).mono ?_
    · rw [h0] at hE
      have hth : d.thereE name = 0 ∧ ¬ d.quota - d.used < data.length := by
        unfold Dr.appendE at hE
        split at hE
        · cases hE
        · rename_i hx
          exact ⟨hE, fun hy => hx ⟨hE, hy⟩⟩
      cases hk : kget d.files name with
      | none =>
        have := hth.1
        simp [Dr.thereE, hk] at this
      | some f =>
        have hk1 : kget d1.files name = some f := by rw [e1]; exact hk
        have hfo : fileOf d1 name = f := by simp [fileOf, hk1]
        simp only [hfo]
        have hu1 : d1.used = d.used := by rw [Dr.used, Dr.used, e1]
        have hq := hok.q1
        exact append_closure h1 ok1 hN (hC.touch h2) ((World.cell?_of_block (a := ⟨w.heap.size + 1 + 1, 0, none⟩) (h2.block _ hdlt hdn)).trans hdc) (Nat.lt_of_lt_of_le hdlt h2.size) hdn ((hB.below hW).touch h2 hn) hl hk1 (by rw [hu1]; omega)
    · rintro x w2 ⟨hx, ht⟩
      exact ⟨hx, ht.of_below hW hlt⟩
  have h0 := h.below b0
  have T := hid (drive_there h0 name hl)
  have hcp := hC.cp
  have hcn := hC.cn
  obtain ⟨mb, aft, rs, hb, ha, hf, hd⟩ := h0.has
  have c1 := hb.cell 1
  have c2 := hb.cell 2
  simp [driveCells] at c1 c2
  have hq0 := hok.q0
  have hq1 := hok.q1
  have hu0 := used_nonneg d
  have hu1 := hok.used
  have hw : IntKind.i64.wrap (d.quota - d.used) = d.quota - d.used := wrap_small (by omega) (by omega)
  have hCd : Caps W.drew g w.heap.size (w.heap.size + 1) name fp := hC.drewN
  by_cases he : d.thereE name = 0
  · rw [he] at T
    by_cases hx : d.quota - d.used < data.length
    · have D := hid (hD W.drew b0.drew hCd hdc hdlt 12 (by unfold Dr.appendE; rw [if_pos ⟨he, hx⟩]))
      clear hD hCd hq0 hq1 hu0 hu1 hd hf ha hb h0 hdn hdlt hC b0 hlt h hok hB hn he
      generalize d.quota = q at *
      generalize d.used = us at *
      go_enter Try.func11, Try.ntmps11
      go_wp2_with fail
      refine T.out.mono ?_
      rintro x w1 ⟨rfl, rfl⟩
      go_wp2
      go_region_held3 (fun w' => w'.cell? ⟨w.heap.size, 0, none⟩ = some (.pointer (some ⟨g, 0, none⟩)) ∧ w'.cell? ⟨w.heap.size + 1 + 1, 0, none⟩ = some (.slice A data.length c) ∧ w'.cell? ⟨g, 1, none⟩ = some (.int .i64 q) ∧ w'.cell? ⟨g, 2, none⟩ = some (.int .i64 us)) (simp [*, go_sem, World.cell?_alloc_past])
        (first | fail)
      all_goals go_wp2_with fail
      all_goals (refine D.out.mono ?_; rintro x w2 ⟨rfl, ht⟩; go_wp2; go_ret; exact ⟨rfl, ht⟩)
    · have D := hid (hD W.drew b0.drew hCd hdc hdlt 0 (by unfold Dr.appendE; rw [if_neg (fun hy => hx hy.2), he]))
      have hx2 : (data.length : Int) ≤ d.quota - d.used := by omega
      clear hx
      clear hD hCd hq0 hq1 hu0 hu1 hd hf ha hb h0 hdn hdlt hC b0 hlt h hok hB hn he
      generalize d.quota = q at *
      generalize d.used = us at *
      go_enter Try.func11, Try.ntmps11
      go_wp2_with fail
      refine T.out.mono ?_
      rintro x w1 ⟨rfl, rfl⟩
      go_wp2
      go_region_held3 (fun w' => w'.cell? ⟨w.heap.size, 0, none⟩ = some (.pointer (some ⟨g, 0, none⟩)) ∧ w'.cell? ⟨w.heap.size + 1 + 1, 0, none⟩ = some (.slice A data.length c) ∧ w'.cell? ⟨g, 1, none⟩ = some (.int .i64 q) ∧ w'.cell? ⟨g, 2, none⟩ = some (.int .i64 us)) (simp [*, go_sem, World.cell?_alloc_past])
        (first | fail)
      all_goals go_wp2_with fail
      all_goals (refine D.out.mono ?_; rintro x w2 ⟨rfl, ht⟩; go_wp2; go_ret; exact ⟨rfl, ht⟩)
  · have D := hid (fun nq => hD (W.drewN nq) (below_drewN b0 nq) (hC.drewM nq) hdc hdlt (d.thereE name) (by unfold Dr.appendE; rw [if_neg (fun hy => he hy.1)]))
    have he3 : d.thereE name = 10 := by
      unfold Dr.thereE at he ⊢
      by_cases hs : (kget d.files name).isSome = true
      · rw [if_pos hs] at he
        exact absurd rfl he
      · rw [if_neg hs]
    rw [he3] at D T
    clear he3
    clear hD hCd hq0 hq1 hu0 hu1 hd hf ha hb h0 hdn hdlt hC b0 hlt h hok hB hn he
    generalize d.quota = q at *
    generalize d.used = us at *
    go_enter Try.func11, Try.ntmps11
    go_wp2_with fail
    refine T.out.mono ?_
    rintro x w1 ⟨rfl, rfl⟩
    go_wp2
    go_quiet (fail)
    all_goals go_wp2_with fail
    all_goals (refine (D.out _).mono ?_; rintro x w2 ⟨rfl, ht⟩; go_wp2; go_ret; exact ⟨rfl, ht⟩)
end Go.Proofs.Ytioillenlgpcgaa
