/- Walks of package drive: a deed, whole; Create. -/
import Derived.Test.YtbjimikppdfmgaaGreatDoorDrive5
import Derived.Test.YtbjimikppdfmgaaGreatDoorMap2
import Derived.Deep.RegionHeld3
import Derived.Deep.DrawnRows
import Derived.Conc.MuLone
set_option linter.unusedVariables false
set_option linter.unusedSimpArgs false
set_option maxHeartbeats 1600000
set_option maxRecDepth 100000
attribute [local go_sem ↓] Go.wp_at_zero Go.wp_at_succ
namespace Go.Proofs.YtbjimikppdfmgaaGreatDoor
open Go.RowKit

theorem deed_any {w : World} {g : Nat} {d : Dr} {fp : Nat → Prop} (h : IsDrive w g d fp) (hlm : d.left ≤ 9223372036854775807) (e : Int) (F : FuncId) (caps : Array Value) (hcf : ∀ W, (callFunc F caps).run Tryz.prog W = .ok (.enter F caps) W) (f : Dr → Dr)
    (hF : e = 0 → (d.may 0).2 = 0 → ∀ w1, IsDrive w1 g (d.may 0).1 fp → Touch w w1 fp fp → Calls Tryz.prog F caps w1 fun x w2 => x = .returned (.tuple #[]) ∧ Then w1 g (f (d.may 0).1) fp w2) :
    Calls Tryz.prog 54 #[.pointer (some ⟨g, 0, none⟩), .int .i64 e, .func (.func F) #[] caps] w fun x w' => x = .returned (.int .i64 (d.deed e f).2) ∧ Then w g (d.deed e f).1 fp w' := by
  by_cases hm : (d.may e).2 = 0
  · have he : e = 0 := by
      by_cases h0 : e = 0
      · exact h0
      · exfalso
        unfold Dr.may at hm
        split at hm
        · simp at hm
        · simp only [if_pos h0] at hm
          exact h0 hm
    subst he
    have E : d.deed 0 f = (f (d.may 0).1, 0) := by unfold Dr.deed; rw [if_pos hm]
    rw [E]
    refine deed_do h hlm hm F caps hcf (fun w' => Then w g (f (d.may 0).1) fp w') fun w1 h1 h2 => (hF rfl hm w1 h1 h2).mono ?_
    rintro x w2 ⟨hx, fp', h3, h4⟩
    exact ⟨hx, fp', h3, h2.trans h4⟩
  · have E : d.deed e f = d.may e := by unfold Dr.deed; rw [if_neg hm]
    rw [E]
    exact (deed_no h e hm F caps).mono fun x w' ⟨h1, h2, h3⟩ => ⟨h1, fp, h2, h3⟩

theorem may_files (d : Dr) (e : Int) : (d.may e).1.files = d.files ∧ (d.may e).1.quota = d.quota := by
  unfold Dr.may
  split
  · exact ⟨rfl, rfl⟩
  · split
    · exact ⟨rfl, rfl⟩
    · split <;> exact ⟨rfl, rfl⟩
theorem Then.of_below {w w0 w' : World} {g : Nat} {d : Dr} {fp : Nat → Prop} (hb : Below w.heap.size w w0) (h : Then w0 g d fp w') (hlt : ∀ k, fp k → k < w.heap.size) : Then w g d fp w' := by
  obtain ⟨fp', h1, h2⟩ := h
  exact ⟨fp', h1, (Touch.of_below hb fp).trans h2⟩
theorem IsDrive.drewN {w : World} {g : Nat} {d : Dr} {fp : Nat → Prop} (h : IsDrive w g d fp) (n : Nat) : IsDrive (w.drewN n) g d fp := h.keep (Nat.le_refl _) fun _ _ => rfl

theorem drive_Create {w : World} {g : Nat} {d : Dr} {fp : Nat → Prop} {N : Nat} (h : IsDrive w g d fp) (hok : d.Ok N) (name : Key) (hl : name.length ≤ 1000000) :
    Calls Tryz.prog 25 #[.pointer (some ⟨g, 0, none⟩), .string (S name)] w fun x w' => x = .returned (.int .i64 (d.create name).2) ∧ Then w g (d.create name).1 fp w' := by
  have hlt := h.lt
  generalize hW : ((w.alloc (.cells #[.pointer (some ⟨g, 0, none⟩)] 22)).alloc (.cells #[.string (S name)] 9)) = W
  have b0 : Below w.heap.size w W := by rw [← hW]; exact ((Below.refl _ _).alloc (Nat.le_refl _) _).alloc (by simp) _
  have hC : Caps W g w.heap.size (w.heap.size + 1) name fp := by
    rw [← hW]
    exact ⟨by simp [World.cell?_alloc_past, go_sem], by simp [World.cell?_alloc_past, go_sem], by simp; omega, by simp, fun hk => by have := hlt _ hk; omega, fun hk => by have := hlt _ hk; omega⟩
  have hCd : Caps W.drew g w.heap.size (w.heap.size + 1) name fp := ⟨hC.cp, hC.cn, hC.hp, hC.hn, hC.np, hC.nn⟩
  have h0 := h.below b0
  have hD : ∀ (W : World) (hW : Below w.heap.size w W) (hC : Caps W g w.heap.size (w.heap.size + 1) name fp) (e : Int) (he : e = 0 → kget d.files name = none) (hE : d.createE name = e),
      Calls Tryz.prog 54 #[.pointer (some ⟨g, 0, none⟩), .int .i64 e, .func (.func 55) #[] #[.pointer (some ⟨w.heap.size, 0, none⟩), .pointer (some ⟨w.heap.size + 1, 0, none⟩)]] W fun x w' => x = .returned (.int .i64 (d.create name).2) ∧ Then w g (d.create name).1 fp w' := by
    intro W hW hC e he hE
    unfold Dr.create
    rw [hE]
    refine (deed_any (h.below hW) hok.left.2 e 55 #[.pointer (some ⟨w.heap.size, 0, none⟩), .pointer (some ⟨w.heap.size + 1, 0, none⟩)]
      (fun W => Go.MuLone.run_callFunc_enter Tryz.func55 (by kernel_rfl) rfl _ W) (fun d => { d with files := kput d.files name ⟨[], []⟩ })
      (fun h0 _ w1 h1 h2 => create_closure h1 (hC.touch h2) hl (by rw [(may_files d 0).1]; exact hok.files) (by rw [(may_files d 0).1]; exact he h0))).mono ?_
    rintro x w2 ⟨hx, ht⟩
    exact ⟨hx, ht.of_below hW hlt⟩
  have D := hid hD
  clear hD
  obtain ⟨mb, aft, rs, hb, ha, hf, hd⟩ := h0.has
  have c0 := hb.cell 0
  simp [driveCells] at c0
  have hz : (zeroValue 79).run Tryz.prog W = .ok (.pointer none) W := by kernel_rfl
  have L := hf.map.look (t := 46) (e := 79) (by kernel_rfl) (by kernel_rfl) hz name hl
  have hf2 : OwnM Tryz.prog 9 W.drew mb (kmap FileR.blk rs) := hf.map.kept rfl
  have hz2 : (zeroValue 79).run Tryz.prog W.drew = .ok (.pointer none) W.drew := by kernel_rfl
  have L2 := hf2.look (t := 46) (e := 79) (by kernel_rfl) (by kernel_rfl) hz2 name hl
  have M2 := hf2.len (t := 46) (e := 79) (by kernel_rfl) 3
  have hk0 : kget d.files name = (kget rs name).map FileR.f := by rw [hd, kget_map]
  have hlen : (kmap FileR.blk rs).length = d.files.length := by rw [hd]; simp [kmap]
  rw [kget_map] at L L2
  rw [hlen] at M2
  have Nm := hid (drive_named (w := W) name hl)
  have hcp := hC.cp
  have hcn := hC.cn
  cases hnb : namedB name with
  | false =>
    have D1 := hid (D.out W b0 hC 1 (by simp) (by simp [Dr.createE, hnb]))
    rw [hnb] at Nm
    clear D hnb hk0 hlen M2 L L2 hz hz2 hf2 hd hf ha hb h0 hCd hC b0 h hlt hok
    go_enter Tryz.func25, Tryz.ntmps25
    go_wp2_with fail
    refine Nm.out.mono ?_
    rintro x w1 ⟨rfl, rfl⟩
    go_wp2_with fail
    refine D1.out.mono ?_
    rintro x w2 ⟨rfl, ht⟩
    go_wp2
    go_ret
    exact ⟨rfl, ht⟩
  | true =>
    rw [hnb] at Nm
    cases hk : kget rs name with
    | some r =>
      have D1 := hid (D.out W.drew b0.drew hCd 11 (by simp) (by simp [Dr.createE, hnb, hk0, hk]))
      rw [hk] at L L2
      simp [ptrOf] at L L2
      clear D hnb hk0 hlen M2 hz hz2 hf2 hd hf ha hb h0 hCd hC b0 h hlt hok hk
      go_enter Tryz.func25, Tryz.ntmps25
      go_wp2_with fail
      refine Nm.out.mono ?_
      rintro x w1 ⟨rfl, rfl⟩
      go_wp2
      go_region_held3 (fun w' => w'.cell? ⟨w.heap.size, 0, none⟩ = some (.pointer (some ⟨g, 0, none⟩)) ∧ w'.cell? ⟨w.heap.size + 1, 0, none⟩ = some (.string (S name)) ∧ w'.cell? ⟨g, 0, none⟩ = some (.map (some mb))) (simp [*, go_sem, World.cell?_alloc_past])
        (first | fail)
      all_goals (go_wp2_with (first | (refine D1.out.mono ?_; rintro x w2 ⟨rfl, ht⟩)); go_wp2; go_ret; exact ⟨rfl, ht⟩)
    | none =>
      rw [hk] at L L2
      simp [ptrOf] at L L2
      by_cases hm : 65536 ≤ d.files.length
      · have D1 := hid (D.out W.drew b0.drew hCd 12 (by simp) (by simp [Dr.createE, hnb, hk0, hk, hm]))
        have hm2 : (65536 : Int) ≤ (d.files.length : Nat) := by omega
        clear D hnb hk0 hlen hz hz2 hf2 hd hf ha hb h0 hCd hC b0 h hlt hok hk hm
        go_enter Tryz.func25, Tryz.ntmps25
        go_wp2_with fail
        refine Nm.out.mono ?_
        rintro x w1 ⟨rfl, rfl⟩
        go_wp2
        go_region_held3 (fun w' => w'.cell? ⟨w.heap.size, 0, none⟩ = some (.pointer (some ⟨g, 0, none⟩)) ∧ w'.cell? ⟨w.heap.size + 1, 0, none⟩ = some (.string (S name)) ∧ w'.cell? ⟨g, 0, none⟩ = some (.map (some mb))) (simp [*, go_sem, World.cell?_alloc_past])
          (first | fail)
        all_goals (go_wp2_with (first | (refine D1.out.mono ?_; rintro x w2 ⟨rfl, ht⟩)); go_wp2; go_ret; exact ⟨rfl, ht⟩)
      · have D1 := hid (D.out W.drew b0.drew hCd 0 (by simp [hk0, hk]) (by simp [Dr.createE, hnb, hk0, hk, hm]))
        have hm2 : decide ((65536 : Int) ≤ (d.files.length : Nat)) = false := decide_eq_false (by omega)
        generalize d.files.length = n0 at hm2 M2
        clear D hnb hk0 hlen hz hz2 hf2 hd hf ha hb h0 hCd hC b0 h hlt hok hk hm
        go_enter Tryz.func25, Tryz.ntmps25
        go_wp2_with fail
        refine Nm.out.mono ?_
        rintro x w1 ⟨rfl, rfl⟩
        go_wp2
        go_region_held3 (fun w' => w'.cell? ⟨w.heap.size, 0, none⟩ = some (.pointer (some ⟨g, 0, none⟩)) ∧ w'.cell? ⟨w.heap.size + 1, 0, none⟩ = some (.string (S name)) ∧ w'.cell? ⟨g, 0, none⟩ = some (.map (some mb))) (simp [*, go_sem, World.cell?_alloc_past])
          (first | fail)
        all_goals go_wp2_with fail
        all_goals (refine D1.out.mono ?_; rintro x w2 ⟨rfl, ht⟩; go_wp2; go_ret; exact ⟨rfl, ht⟩)
end Go.Proofs.YtbjimikppdfmgaaGreatDoor
