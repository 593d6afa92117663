/- Walks of package drive: Sync. Walks of package drive: Sync, whole. -/
import Derived.Test.YtbjimikppdfmgaaGreatDoorDrive6
import Derived.Test.YtbjimikppdfmgaaGreatDoorKeys
set_option linter.unusedVariables false
set_option linter.unusedSimpArgs false
set_option maxHeartbeats 1600000
set_option maxRecDepth 100000
attribute [local go_sem ↓] Go.wp_at_zero Go.wp_at_succ
namespace Go.Proofs.YtbjimikppdfmgaaGreatDoor
open Go.RowKit

theorem sync_walk {w : World} {g mb pb nb fb : Nat} {name : Key} (cp : w.cell? ⟨pb, 0, none⟩ = some (.pointer (some ⟨g, 0, none⟩))) (cn : w.cell? ⟨nb, 0, none⟩ = some (.string (S name))) (cg : w.cell? ⟨g, 0, none⟩ = some (.map (some mb)))
    (L : (Instr.lookup 46 (.map (some mb)) (.string (S name)) false).run Tryz.prog w.drew = .ok (.pointer (some ⟨fb, 0, none⟩)) w.drew) (R : World → Prop)
    (hA : Calls Tryz.prog 58 #[.pointer (some ⟨fb, 0, none⟩)] w.drew fun e w1 => ∃ A n c, e = .returned (.slice A n c) ∧ pb < w1.heap.size ∧ nb < w1.heap.size ∧ g < w1.heap.size ∧
      w1.cell? ⟨pb, 0, none⟩ = some (.pointer (some ⟨g, 0, none⟩)) ∧ w1.cell? ⟨nb, 0, none⟩ = some (.string (S name)) ∧ w1.cell? ⟨g, 0, none⟩ = some (.map (some mb)) ∧
      ∃ w2, (Instr.mapUpdate 46 (.map (some mb)) (.string (S name)) (.pointer (some ⟨w1.heap.size, 0, none⟩))).run Tryz.prog (w1.alloc (.cells #[.slice A n c, .slice none 0 0] 83)) = .ok () w2 ∧
        w2.cell? ⟨pb, 0, none⟩ = some (.pointer (some ⟨g, 0, none⟩)) ∧ w2.cell? ⟨nb, 0, none⟩ = some (.string (S name)) ∧ w2.cell? ⟨g, 0, none⟩ = some (.map (some mb)) ∧ R w2) :
    Calls Tryz.prog 57 #[.pointer (some ⟨pb, 0, none⟩), .pointer (some ⟨nb, 0, none⟩)] w fun e w' => e = .returned (.tuple #[]) ∧ R w' := by
  have HA := hid hA
  clear hA
  go_enter Tryz.func57, Tryz.ntmps57
  go_wp2
  go_region_held3 (fun w' => w'.cell? ⟨pb, 0, none⟩ = some (.pointer (some ⟨g, 0, none⟩)) ∧ w'.cell? ⟨nb, 0, none⟩ = some (.string (S name)) ∧ w'.cell? ⟨g, 0, none⟩ = some (.map (some mb))) (simp [*, go_sem, World.cell?_alloc_past])
    (first | (go_at_call 58; refine HA.out.mono ?_; rintro e w1 ⟨A, n, c, rfl, q0, q1, q2, q3, q4, q5, w2, hrun, k0, k1, k2, hR⟩))
  all_goals
    go_wp2
    go_end0
    exact ⟨rfl, hR⟩

/-- A new file without pieces was put into a drive's map. -/
theorem put_new {w w1 w2 : World} {g mb : Nat} {d : Dr} {fp : Nat → Prop} {aft : Int} {rs : List (Key × FileR)} {name : Key} {v : Value} {l : List UInt8} (h : IsDrive w g d fp) (hb : Blk w g 48 (driveCells d mb aft)) (ha : 0 ≤ d.left → aft = d.left)
    (hf : HasFiles w fp mb rs) (hd : d.files = kmap FileR.f rs) (b1 : Below w.heap.size w w1) (hrow : w1.ownsRow w.heap.size 5 1 v l.length (l.map B8)) (hm2 : OwnM Tryz.prog 9 w2 mb (kput (kmap FileR.blk rs) name w1.heap.size))
    (hg2 : (w1.alloc (.cells #[v, .slice none 0 0] 83)).grownBy w2 (some mb)) (hu : ({ d with files := kput d.files name ⟨l, []⟩ } : Dr).used = d.used) : Then w g { d with files := kput d.files name ⟨l, []⟩ } fp w2 := by
  have hs1 := b1.size
  have hs2 := hg2.size
  simp at hs2
  have hmlt : mb < w.heap.size := h.lt mb hf.own
  have hglt := hb.lt
  obtain ⟨es0, cl0, hmb⟩ := hf.map.isMap
  have b2 : Below w.heap.size w (w1.alloc (.cells #[v, .slice none 0 0] 83)) := b1.alloc hs1 _
  have hblk2 : ∀ k, k < w.heap.size → k ≠ mb → w2.heap[k]? = w.heap[k]? := fun k hk hne => (hg2.block k (by simp; omega) (by simpa using hne)).trans (b2.block k hk)
  have hgm : g ≠ mb := by
    rintro rfl
    have : w.heap[g]? = _ := hb
    rw [hmb] at this
    cases this
  have hblkn : Blk w2 w1.heap.size 83 #[v, .slice none 0 0] := (hg2.block w1.heap.size (by simp) (by simp; omega)).trans (heap_alloc_new w1 _)
  have hrow2 : w2.ownsRow w.heap.size 5 1 v l.length (l.map B8) := row_keep hrow fun k hk => by
    obtain ⟨cs, hcs⟩ := row_heap hrow hk
    have hklt : k < w1.heap.size := (Array.getElem?_eq_some_iff.1 hcs).1
    have hkm : k ≠ mb := by
      rintro rfl
      rcases hrow.2 with ⟨rfl, _⟩ | ⟨g', cap, cur, rfl, hb', _⟩
      · simp [Value.ownBlock] at hk
      · have : g' = k := by simpa [Value.ownBlock] using hk
        omega
    exact (hg2.block k (by simp; omega) (by simpa using hkm)).trans (heap_alloc_old w1 _ hklt)
  have hvown : ∀ k, v.ownBlock = some k → w.heap.size ≤ k ∧ k < w2.heap.size := fun k hk => by
    obtain ⟨cs, hcs⟩ := row_heap hrow2 hk
    refine ⟨?_, (Array.getElem?_eq_some_iff.1 hcs).1⟩
    rcases hrow.2 with ⟨rfl, _⟩ | ⟨g', cap, cur, rfl, hb', _⟩
    · simp [Value.ownBlock] at hk
    · have : g' = k := by simpa [Value.ownBlock] using hk
      omega
  refine ⟨fun k => fp k ∨ (w.heap.size ≤ k ∧ k < w2.heap.size), ⟨?_, .inl h.own, mb, aft, kput rs name ⟨w1.heap.size, v, .slice none 0 0, ⟨l, []⟩⟩, ?_, ha, ⟨?_, .inl hf.own, ?_, ?_⟩, ?_⟩, ⟨?_, ?_, ?_, by omega, ?_, ?_⟩⟩
  · rintro k (hk | ⟨_, hk⟩)
    · have := h.lt k hk; omega
    · exact hk
  · have : Blk w2 g 48 (driveCells d mb aft) := (hblk2 g hglt hgm).trans hb
    unfold driveCells at this ⊢
    rw [hu]
    exact this
  · rw [kmap_put]; exact hm2
  · intro p hp
    rcases mem_kput.1 hp with rfl | ⟨hp, _⟩
    · exact ⟨hblkn, .inr ⟨hs1, by show w1.heap.size < _; omega⟩, ⟨row_base hrow2 (Nat.zero_le _), fun k hk => .inr (hvown k hk)⟩, [], ⟨World.ownsRow_nil _ _ _ _, by simp [Value.ownBlock], rfl, by simp⟩⟩
    · refine (hf.each p hp).keepAll (fun k cs t h1 _ h3 => hblk2 k (h.lt k h1) ?_) (fun k hk => .inl hk)
      rintro rfl
      rw [hmb] at h3; cases h3
  · refine pairwise_kput (fun a b hab => hab.symm) hf.apart (fun p hp _ => ⟨?_, fun k hk => ?_⟩)
    · have := h.lt _ (hf.each p hp).own
      show w1.heap.size ≠ p.2.blk
      omega
    · simp [Value.ownBlock] at hk
  · rw [kmap_put, ← hd]
  · exact hg2.os.trans b2.os
  · exact hg2.tape.trans b2.tape
  · exact hg2.output.trans b2.output
  · intro k hk hnf
    refine hblk2 k hk ?_
    rintro rfl
    exact hnf hf.own
  · rintro k (hk | hk)
    · exact .inl hk
    · exact .inr hk.1
theorem used_sync {d : Dr} {name : Key} {f : File} (hr : Rising d.files) (hk : kget d.files name = some f) : ({ d with files := kput d.files name ⟨f.all, []⟩ } : Dr).used = d.used := by
  rw [Dr.used_eq, Dr.used_eq]
  show ((ksum _ (kput d.files name ⟨f.all, []⟩) : Nat) : Int) = _
  rw [ksum_put, ksum_del _ hr hk]
  simp [File.all]

theorem sync_closure {w : World} {g pb nb : Nat} {d : Dr} {fp : Nat → Prop} {name : Key} {N : Nat} (h : IsDrive w g d fp) (hok : d.Ok N) (hN : N ≤ 1000000000) (hC : Caps w g pb nb name fp) (hl : name.length ≤ 1000000) {f : File} (hk : kget d.files name = some f) :
    Calls Tryz.prog 57 #[.pointer (some ⟨pb, 0, none⟩), .pointer (some ⟨nb, 0, none⟩)] w fun e w' => e = .returned (.tuple #[]) ∧ Then w g { d with files := kput d.files name ⟨f.all, []⟩ } fp w' := by
  have hu := used_sync hok.rising hk
  obtain ⟨mb, aft, rs, hb, ha, hf, hd⟩ := h.has
  have cg := hb.cell 0
  simp [driveCells] at cg
  have hglt := hb.lt
  have hmlt : mb < w.heap.size := h.lt mb hf.own
  cases hk2 : kget rs name with
  | none =>
    rw [hd, kget_map, hk2] at hk
    cases hk
  | some r =>
    obtain ⟨hF, hk3, hp, ha2⟩ := file_get hf hd hok hN hk2
    have hfr : r.f = f := by rw [hk] at hk3; exact (Option.some.inj hk3).symm
    have hrl : (kmap FileR.blk rs).length ≤ 65536 := by
      have : d.files.length = rs.length := by rw [hd]; simp [kmap]
      have := hok.files
      simp [kmap]; omega
    have hfd : IsFile w.drew fp r := hF.keepAll (fun _ _ _ _ _ _ => rfl) (fun _ h => h)
    have A := file_all hfd hp ha2
    have hm1 : OwnM Tryz.prog 9 w.drew mb (kmap FileR.blk rs) := hf.map.kept rfl
    have hz : (zeroValue 79).run Tryz.prog w.drew = .ok (.pointer none) w.drew := by kernel_rfl
    have L := hm1.look (t := 46) (e := 79) (by kernel_rfl) (by kernel_rfl) hz name hl
    rw [kget_map, hk2] at L
    obtain ⟨es0, cl0, hmb⟩ := hf.map.isMap
    have hne : ∀ k v, w.cell? ⟨k, 0, none⟩ = some v → k ≠ mb := by
      rintro k v hk rfl
      simp [World.cell?, hmb] at hk
    refine sync_walk hC.cp hC.cn cg L (fun w' => Then w g { d with files := kput d.files name ⟨f.all, []⟩ } fp w') (A.mono ?_)
    rintro e w1 ⟨v, rfl, hrow, hb1⟩
    have hb1' : Below w.heap.size w w1 := bt (Below.refl w.heap.size w).drew hb1
    have hs1 := hb1'.size
    have hg1 : ∀ k v, k < w.heap.size → w.cell? ⟨k, 0, none⟩ = some v → w1.cell? ⟨k, 0, none⟩ = some v := fun k v hk hc => (World.cell?_of_block (a := ⟨k, 0, none⟩) (hb1'.block k hk)).trans hc
    obtain ⟨A', c', hv⟩ := row_form hrow
    subst hv
    have hm3 : OwnM Tryz.prog 9 (w1.alloc (.cells #[.slice A' r.f.all.length c', .slice none 0 0] 83)) mb (kmap FileR.blk rs) := hf.map.kept ((heap_alloc_old w1 _ (by omega)).trans (hb1'.block mb hmlt))
    obtain ⟨w2, hrun, hm2, hg2⟩ := hm3.put (t := 46) (e := 79) (by kernel_rfl) (by kernel_rfl) (by omega) name hl w1.heap.size
    have hg3 : ∀ k v, k < w.heap.size → w.cell? ⟨k, 0, none⟩ = some v → w2.cell? ⟨k, 0, none⟩ = some v := fun k v hk hc => by
      refine (World.cell?_of_block (a := ⟨k, 0, none⟩) ((hg2.block k (by simp; omega) (by simpa using hne k v hc)).trans ((heap_alloc_old w1 _ (by omega)).trans (hb1'.block k hk)))).trans hc
    refine ⟨A', _, c', rfl, Nat.lt_of_lt_of_le hC.hp hs1, Nat.lt_of_lt_of_le hC.hn hs1, Nat.lt_of_lt_of_le hglt hs1, hg1 _ _ hC.hp hC.cp, hg1 _ _ hC.hn hC.cn, hg1 _ _ hglt cg, w2, hrun, hg3 _ _ hC.hp hC.cp, hg3 _ _ hC.hn hC.cn, hg3 _ _ hglt cg, ?_⟩
    rw [hfr] at hrow hg2
    exact put_new h hb ha hf hd hb1' hrow hm2 hg2 hu
end Go.Proofs.YtbjimikppdfmgaaGreatDoor

set_option linter.unusedVariables false
set_option linter.unusedSimpArgs false
set_option maxHeartbeats 1600000
set_option maxRecDepth 100000
attribute [local go_sem ↓] Go.wp_at_zero Go.wp_at_succ
namespace Go.Proofs.YtbjimikppdfmgaaGreatDoor
open Go.RowKit

theorem Dr.Ok.may {N : Nat} {d : Dr} (h : d.Ok N) (e : Int) : (d.may e).1.Ok N := by
  have h1 := (may_files d e).1
  have h2 := (may_files d e).2
  refine ⟨by rw [h2]; exact h.q0, by rw [h2]; exact h.q1, by rw [Dr.used, h1]; exact h.used, by rw [h1]; exact h.files, by rw [h1]; exact h.keys, by rw [h1]; exact h.rising, by rw [h1]; exact h.few, ?_⟩
  have := h.left
  unfold Dr.may
  split
  · exact this
  · split
    · exact this
    · split
      · exact ⟨by simp, by simp⟩
      · refine ⟨?_, ?_⟩
        · show -1 ≤ if 0 ≤ d.left then d.left - 1 else -1
          split <;> omega
        · show (if 0 ≤ d.left then d.left - 1 else -1) ≤ _
          split <;> omega
theorem deed_with {w : World} {g : Nat} {d : Dr} {fp : Nat → Prop} {N : Nat} (h : IsDrive w g d fp) (hok : d.Ok N) (e : Int) (F : FuncId) (caps : Array Value) (hcf : ∀ W, (callFunc F caps).run Tryz.prog W = .ok (.enter F caps) W) (f : Dr → Dr)
    (hF : e = 0 → ∀ d1 w1, d1.files = d.files → d1.quota = d.quota → d1.Ok N → IsDrive w1 g d1 fp → Touch w w1 fp fp → Calls Tryz.prog F caps w1 fun x w2 => x = .returned (.tuple #[]) ∧ Then w1 g (f d1) fp w2) :
    Calls Tryz.prog 54 #[.pointer (some ⟨g, 0, none⟩), .int .i64 e, .func (.func F) #[] caps] w fun x w' => x = .returned (.int .i64 (d.deed e f).2) ∧ Then w g (d.deed e f).1 fp w' :=
  deed_any h hok.left.2 e F caps hcf f fun h0 _ w1 h1 h2 => hF h0 (d.may 0).1 w1 (may_files d 0).1 (may_files d 0).2 (hok.may 0) h1 h2
theorem Caps.drewN {w : World} {g pb nb : Nat} {name : Key} {fp : Nat → Prop} (h : Caps w g pb nb name fp) : Caps w.drew g pb nb name fp := ⟨h.cp, h.cn, h.hp, h.hn, h.np, h.nn⟩

theorem drive_Sync {w : World} {g : Nat} {d : Dr} {fp : Nat → Prop} {N : Nat} (h : IsDrive w g d fp) (hok : d.Ok N) (hN : N ≤ 1000000000) (name : Key) (hl : name.length ≤ 1000000) :
    Calls Tryz.prog 27 #[.pointer (some ⟨g, 0, none⟩), .string (S name)] w fun x w' => x = .returned (.int .i64 (d.sync name).2) ∧ Then w g (d.sync name).1 fp w' := by
  have hlt := h.lt
  generalize hW : ((w.alloc (.cells #[.pointer (some ⟨g, 0, none⟩)] 22)).alloc (.cells #[.string (S name)] 9)) = W
  have b0 : Below w.heap.size w W := by rw [← hW]; exact ((Below.refl _ _).alloc (Nat.le_refl _) _).alloc (by simp) _
  have hC : Caps W g w.heap.size (w.heap.size + 1) name fp := by
    rw [← hW]
    exact ⟨by simp [World.cell?_alloc_past, go_sem], by simp [World.cell?_alloc_past, go_sem], by simp; omega, by simp, fun hk => by have := hlt _ hk; omega, fun hk => by have := hlt _ hk; omega⟩
  have hD : ∀ (W : World) (hW : Below w.heap.size w W) (hC : Caps W g w.heap.size (w.heap.size + 1) name fp),
      Calls Tryz.prog 54 #[.pointer (some ⟨g, 0, none⟩), .int .i64 (d.thereE name), .func (.func 57) #[] #[.pointer (some ⟨w.heap.size, 0, none⟩), .pointer (some ⟨w.heap.size + 1, 0, none⟩)]] W fun x w' => x = .returned (.int .i64 (d.sync name).2) ∧ Then w g (d.sync name).1 fp w' ∧ w'.cell? ⟨w.heap.size, 0, none⟩ = some (.pointer (some ⟨g, 0, none⟩)) ∧ w'.cell? ⟨w.heap.size + 1, 0, none⟩ = some (.string (S name)) := by
    intro W hW hC
    refine (deed_with (h.below hW) hok (d.thereE name) 57 #[.pointer (some ⟨w.heap.size, 0, none⟩), .pointer (some ⟨w.heap.size + 1, 0, none⟩)]
      (fun W => Go.MuLone.run_callFunc_enter Tryz.func57 (by kernel_rfl) rfl _ W) (fun d => { d with files := kput d.files name ⟨(fileOf d name).all, []⟩ })
      (fun h0 d1 w1 e1 e2 ok1 h1 h2 => ?_)).mono ?_
    · cases hk : kget d.files name with
      | none => simp [Dr.thereE, hk] at h0
      | some f =>
        have hk1 : kget d1.files name = some f := by rw [e1]; exact hk
        have hfo : fileOf d1 name = f := by simp [fileOf, hk1]
        simp only [hfo]
        exact sync_closure h1 ok1 hN (hC.touch h2) hl hk1
    · rintro x w2 ⟨hx, ht⟩
      obtain ⟨fp', ht1, ht2⟩ := ht
      have hC2 := hC.touch ht2
      exact ⟨hx, Then.of_below hW ⟨fp', ht1, ht2⟩ hlt, hC2.cp, hC2.cn⟩
  have D := hid (hD W.drew b0.drew hC.drewN)
  clear hD
  have h1 : IsDrive W.drew g d fp := h.below b0.drew
  have T := hid (drive_there h1 name hl)
  have hcp := hC.cp
  have hcn := hC.cn
  clear h1 hC b0 hlt hok h
  generalize hE : d.thereE name = e at D T
  clear hE
  go_enter Tryz.func27, Tryz.ntmps27
  go_wp2
  go_region_held3 (fun w' => w'.cell? ⟨w.heap.size, 0, none⟩ = some (.pointer (some ⟨g, 0, none⟩)) ∧ w'.cell? ⟨w.heap.size + 1, 0, none⟩ = some (.string (S name))) (simp [*, go_sem, World.cell?_alloc_past])
    (first | (go_at_call 56; refine T.out.mono ?_; rintro x w1 ⟨rfl, rfl⟩) | (go_at_call 54; refine D.out.mono ?_; rintro x w2 ⟨rfl, ht, k0, k1⟩))
  all_goals
    go_wp2
    go_ret
    exact ⟨rfl, ht⟩
end Go.Proofs.YtbjimikppdfmgaaGreatDoor
