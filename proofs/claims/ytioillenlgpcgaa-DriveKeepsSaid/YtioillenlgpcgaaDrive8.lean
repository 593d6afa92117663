/- Walks of package drive: Sync, whole. -/
import Derived.Test.YtioillenlgpcgaaDrive7
set_option linter.unusedVariables false
set_option linter.unusedSimpArgs false
set_option maxHeartbeats 1600000
set_option maxRecDepth 100000
attribute [local go_sem ↓] Go.wp_at_zero Go.wp_at_succ
namespace Go.Proofs.Ytioillenlgpcgaa
open Go.RowKit

theorem Dr.Ok.may {N : Nat} {d : Dr} (h : d.Ok N) (e : Int) : (d.may e).1.Ok N := by
  have h1 := (may_files d e).1
  have h2 := (may_files d e).2
  refine ⟨by rw [h2]; exact h.q0, by rw [h2]; exact h.q1, by rw [Dr.used, h1]; exact h.used, by rw [h1]; exact h.files, by rw [h1]; exact h.keys, by rw [h1]; exact h.rising, by rw [h1]; exact h.few, ?_⟩
  have := h.left
  unfold Dr.may
  split
  · exact this
  · split
    · exact this
    · split
      · exact ⟨by simp, by simp⟩
      · refine ⟨?_, ?_⟩
        · show -1 ≤ if 0 ≤ d.left then d.left - 1 else -1
          split <;> omega
        · show (if 0 ≤ d.left then d.left - 1 else -1) ≤ _
          split <;> omega
theorem deed_with {w : World} {g : Nat} {d : Dr} {fp : Nat → Prop} {N : Nat} (h : IsDrive w g d fp) (hok : d.Ok N) (e : Int) (F : FuncId) (caps : Array Value) (hcf : ∀ W, (callFunc F caps).run Try.prog W = .ok (.enter F caps) W) (f : Dr → Dr)
    (hF : e = 0 → ∀ d1 w1, d1.files = d.files → d1.quota = d.quota → d1.Ok N → IsDrive w1 g d1 fp → Touch w w1 fp fp → Calls Try.prog F caps w1 fun x w2 => x = .returned (.tuple #[]) ∧ Then w1 g (f d1) fp w2) :
    Calls Try.prog 29 #[.pointer (some ⟨g, 0, none⟩), .int .i64 e, .func (.func F) #[] caps] w fun x w' => x = .returned (.int .i64 (d.deed e f).2) ∧ Then w g (d.deed e f).1 fp w' :=
  deed_any h hok.left.2 e F caps hcf f fun h0 _ w1 h1 h2 => hF h0 (d.may 0).1 w1 (may_files d 0).1 (may_files d 0).2 (hok.may 0) h1 h2
theorem Caps.drewN {w : World} {g pb nb : Nat} {name : Key} {fp : Nat → Prop} (h : Caps w g pb nb name fp) : Caps w.drew g pb nb name fp := ⟨h.cp, h.cn, h.hp, h.hn, h.np, h.nn⟩

theorem drive_Sync {w : World} {g : Nat} {d : Dr} {fp : Nat → Prop} {N : Nat} (h : IsDrive w g d fp) (hok : d.Ok N) (hN : N ≤ 1000000000) (name : Key) (hl : name.length ≤ 1000000) :
    Calls Try.prog 12 #[.pointer (some ⟨g, 0, none⟩), .string (S name)] w fun x w' => x = .returned (.int .i64 (d.sync name).2) ∧ Then w g (d.sync name).1 fp w' := by
  have hlt := h.lt
  generalize hW : ((w.alloc (.cells #[.pointer (some ⟨g, 0, none⟩)] 25)).alloc (.cells #[.string (S name)] 9)) = W
  have b0 : Below w.heap.size w W := by rw [← hW]; exact ((Below.refl _ _).alloc (Nat.le_refl _) _).alloc (by simp) _
  have hC : Caps W g w.heap.size (w.heap.size + 1) name fp := by
    rw [← hW]
    exact ⟨by simp [World.cell?_alloc_past, go_sem], by simp [World.cell?_alloc_past, go_sem], by simp; omega, by simp, fun hk => by have := hlt _ hk; omega, fun hk => by have := hlt _ hk; omega⟩
  have hD : ∀ (W : World) (hW : Below w.heap.size w W) (hC : Caps W g w.heap.size (w.heap.size + 1) name fp),
      Calls Try.prog 29 #[.pointer (some ⟨g, 0, none⟩), .int .i64 (d.thereE name), .func (.func 34) #[] #[.pointer (some ⟨w.heap.size, 0, none⟩), .pointer (some ⟨w.heap.size + 1, 0, none⟩)]] W fun x w' => x = .returned (.int .i64 (d.sync name).2) ∧ Then w g (d.sync name).1 fp w' ∧ w'.cell? ⟨w.heap.size, 0, none⟩ = some (.pointer (some ⟨g, 0, none⟩)) ∧ w'.cell? ⟨w.heap.size + 1, 0, none⟩ = some (.string (S name)) := by
    intro W hW hC
    refine (deed_with (h.below hW) hok (d.thereE name) 34 #[.pointer (some ⟨w.heap.size, 0, none⟩), .pointer (some ⟨w.heap.size + 1, 0, none⟩)]
      (fun W => Go.MuLone.run_callFunc_enter Try.func34 (by kernel_rfl) rfl _ W) (fun d => { d with files := kput d.files name ⟨(fileOf d name).all, []⟩ })
      (fun h0 d1 w1 e1 e2 ok1 h1 h2 => ?_)).mono ?_
    · cases hk : kget d.files name with
      | none => simp [Dr.thereE, hk] at h0
      | some f =>
        have hk1 : kget d1.files name = some f := by rw [e1]; exact hk
        have hfo : fileOf d1 name = f := by simp [fileOf, hk1]
        simp only [hfo]
        exact sync_closure h1 ok1 hN (hC.touch h2) hl hk1
    · rintro x w2 ⟨hx, ht⟩
      obtain ⟨fp', ht1, ht2⟩ := ht
      have hC2 := hC.touch ht2
      exact ⟨hx, Then.of_below hW ⟨fp', ht1, ht2⟩ hlt, hC2.cp, hC2.cn⟩
  have D := hid (hD W.drew b0.drew hC.drewN)
  clear hD
  have h1 : IsDrive W.drew g d fp := h.below b0.drew
  have T := hid (drive_there h1 name hl)
  have hcp := hC.cp
  have hcn := hC.cn
  clear h1 hC b0 hlt hok h
  generalize hE : d.thereE name = e at D T
  clear hE
  go_enter Try.func12, Try.ntmps12
  go_wp2
  go_region_held3 (fun w' => w'.cell? ⟨w.heap.size, 0, none⟩ = some (.pointer (some ⟨g, 0, none⟩)) ∧ w'.cell? ⟨w.heap.size + 1, 0, none⟩ = some (.string (S name))) (simp [*, go_sem, World.cell?_alloc_past])
    (first | (go_at_call 31; refine T.out.mono ?_; rintro x w1 ⟨rfl, rfl⟩) | (go_at_call 29; refine D.out.mono ?_; rintro x w2 ⟨rfl, ht, k0, k1⟩))
  all_goals
    go_wp2
    go_ret
    exact ⟨rfl, ht⟩
end Go.Proofs.Ytioillenlgpcgaa
