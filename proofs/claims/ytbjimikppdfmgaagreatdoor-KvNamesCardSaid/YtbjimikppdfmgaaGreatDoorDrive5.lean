/- Walks of package drive: Read, Create. Walks of package drive: Create. -/
import Derived.Test.YtbjimikppdfmgaaGreatDoorAll
set_option linter.unusedVariables false
set_option linter.unusedSimpArgs false
set_option maxHeartbeats 1600000
set_option maxRecDepth 100000
attribute [local go_sem ↓] Go.wp_at_zero Go.wp_at_succ
namespace Go.Proofs.YtbjimikppdfmgaaGreatDoor
open Go.RowKit

theorem used_all {d : Dr} {name : Key} {f : File} (h : kget d.files name = some f) : (f.all.length : Int) ≤ d.used := by
  have hm := kget_some h
  unfold Dr.used
  have : ∀ (l : List (Key × File)), (name, f) ∈ l → f.all.length ≤ (l.map fun p => p.2.all.length).sum := by
    intro l hl
    induction l with
    | nil => simp at hl
    | cons p l ih =>
      rcases List.mem_cons.1 hl with h | h
      · subst h; simp
      · have := ih h
        simp; omega
  have := this d.files hm
  omega
theorem file_get {w : World} {fp : Nat → Prop} {mb : Nat} {d : Dr} {rs : List (Key × FileR)} {name : Key} {r : FileR} {N : Nat} (hf : HasFiles w fp mb rs) (hd : d.files = kmap FileR.f rs) (hok : d.Ok N) (hN : N ≤ 1000000000) (hk : kget rs name = some r) :
    IsFile w fp r ∧ kget d.files name = some r.f ∧ r.f.pieces.length ≤ 1000000000 ∧ r.f.all.length ≤ 1000000000000 := by
  have h1 : kget d.files name = some r.f := by rw [hd, kget_map, hk]; rfl
  have h2 := used_all h1
  have h3 := hok.used
  have h4 : r.f.pieces.length ≤ N := hok.few _ (kget_some h1)
  exact ⟨hf.each _ (kget_some hk), h1, by omega, by omega⟩

def ReadPost (w : World) (d : Dr) (name : Key) (e : Ending) (w' : World) : Prop := ∃ v, e = .returned (.tuple #[v, .int .i64 (d.readE name)]) ∧ w'.ownsRow w.heap.size 5 1 v (d.read name).length ((d.read name).map B8) ∧ Below w.heap.size w w'

theorem drive_Read {w : World} {g : Nat} {d : Dr} {fp : Nat → Prop} {N : Nat} (h : IsDrive w g d fp) (hok : d.Ok N) (hN : N ≤ 1000000000) (name : Key) (hl : name.length ≤ 1000000) : Calls Tryz.prog 51 #[.pointer (some ⟨g, 0, none⟩), .string (S name)] w (ReadPost w d name) := by
  have T := hid (drive_there h name hl)
  obtain ⟨mb, aft, rs, hb, ha, hf, hd⟩ := h.has
  have c0 := hb.cell 0
  have c4 := hb.cell 4
  simp [driveCells] at c0 c4
  have hz : (zeroValue 79).run Tryz.prog w = .ok (.pointer none) w := by kernel_rfl
  have L := hf.map.look (t := 46) (e := 79) (by kernel_rfl) (by kernel_rfl) hz name hl
  rw [kget_map] at L
  cases hdn : d.down with
  | true =>
    have H := hid (show ReadPost w d name (.returned (.tuple #[.slice none 0 0, .int .i64 13])) w from ⟨.slice none 0 0, by simp [Dr.readE, hdn], by simp [Dr.read, Dr.readE, hdn]; exact World.ownsRow_nil _ _ _ _, Below.refl _ _⟩)
    rw [hdn] at c4
    clear hdn hz L hb ha hf hd h
    go_enter Tryz.func51, Tryz.ntmps51
    go_wp2
    go_ret2
    exact H.out
  | false =>
    rw [hdn] at c4
    cases hk : kget rs name with
    | none =>
      have hk2 : kget d.files name = none := by rw [hd, kget_map, hk]; rfl
      have H := hid (show ReadPost w d name (.returned (.tuple #[.slice none 0 0, .int .i64 10])) w from ⟨.slice none 0 0, by simp [Dr.readE, Dr.thereE, hdn, hk2], by simp [Dr.read, Dr.readE, Dr.thereE, hdn, hk2]; exact World.ownsRow_nil _ _ _ _, Below.refl _ _⟩)
      rw [show d.thereE name = 10 by simp [Dr.thereE, hk2]] at T
      clear hdn hz L hb ha hf hd h hk hk2
      go_enter Tryz.func51, Tryz.ntmps51
      go_wp2_with fail
      refine T.out.mono ?_
      rintro e w1 ⟨rfl, rfl⟩
      go_wp2
      go_ret2
      exact H.out
    | some r =>
      obtain ⟨hF, hk2, hp, ha2⟩ := file_get hf hd hok hN hk
      have A := hid (file_all hF hp ha2)
      have H := hid (show ∀ v w', w'.ownsRow w.heap.size 5 1 v r.f.all.length (r.f.all.map B8) → Below w.heap.size w w' → ReadPost w d name (.returned (.tuple #[v, .int .i64 0])) w' from fun v w' h1 h2 => ⟨v, by simp [Dr.readE, Dr.thereE, hdn, hk2], by simpa [Dr.read, Dr.readE, Dr.thereE, hdn, hk2, fileOf] using h1, h2⟩)
      rw [show d.thereE name = 0 by simp [Dr.thereE, hk2]] at T
      rw [hk] at L
      simp [ptrOf] at L
      clear hdn hz hb ha hf hd h hk hk2 hF hp ha2
      go_enter Tryz.func51, Tryz.ntmps51
      go_wp2_with fail
      refine T.out.mono ?_
      rintro e w1 ⟨rfl, rfl⟩
      go_wp2_with fail
      refine A.out.mono ?_
      rintro e w2 ⟨v, rfl, ho, hb2⟩
      go_wp2
      go_ret2
      exact H.out _ _ ho hb2
end Go.Proofs.YtbjimikppdfmgaaGreatDoor

set_option linter.unusedVariables false
set_option linter.unusedSimpArgs false
set_option maxHeartbeats 1600000
set_option maxRecDepth 100000
attribute [local go_sem ↓] Go.wp_at_zero Go.wp_at_succ
namespace Go.Proofs.YtbjimikppdfmgaaGreatDoor
open Go.RowKit

theorem create_walk {w w2 : World} {g mb pb nb : Nat} {name : Key} (cp : w.cell? ⟨pb, 0, none⟩ = some (.pointer (some ⟨g, 0, none⟩))) (cn : w.cell? ⟨nb, 0, none⟩ = some (.string (S name))) (cg : w.cell? ⟨g, 0, none⟩ = some (.map (some mb)))
    (hrun : (Instr.mapUpdate 46 (.map (some mb)) (.string (S name)) (.pointer (some ⟨w.heap.size, 0, none⟩))).run Tryz.prog (w.alloc (.cells #[.slice none 0 0, .slice none 0 0] 83)).drew = .ok () w2)
    (hp : pb < w.heap.size) (hn : nb < w.heap.size) (hg : g < w.heap.size)
    (k0 : w2.cell? ⟨pb, 0, none⟩ = some (.pointer (some ⟨g, 0, none⟩))) (k1 : w2.cell? ⟨nb, 0, none⟩ = some (.string (S name))) (k2 : w2.cell? ⟨g, 0, none⟩ = some (.map (some mb))) :
    Calls Tryz.prog 55 #[.pointer (some ⟨pb, 0, none⟩), .pointer (some ⟨nb, 0, none⟩)] w fun e w' => e = .returned (.tuple #[]) ∧ w' = w2 := by
  go_enter Tryz.func55, Tryz.ntmps55
  go_wp2
  go_region_held3 (fun w' => w'.cell? ⟨pb, 0, none⟩ = some (.pointer (some ⟨g, 0, none⟩)) ∧ w'.cell? ⟨nb, 0, none⟩ = some (.string (S name)) ∧ w'.cell? ⟨g, 0, none⟩ = some (.map (some mb))) (simp [*, go_sem, World.cell?_alloc_past])
    (first | fail)
  all_goals
    go_wp2
    go_end0
    exact ⟨rfl, rfl⟩

/-- Two captured variables: the drive, a name. -/
structure Caps (w : World) (g pb nb : Nat) (name : Key) (fp : Nat → Prop) : Prop where
  cp : w.cell? ⟨pb, 0, none⟩ = some (.pointer (some ⟨g, 0, none⟩))
  cn : w.cell? ⟨nb, 0, none⟩ = some (.string (S name))
  hp : pb < w.heap.size
  hn : nb < w.heap.size
  np : ¬ fp pb
  nn : ¬ fp nb
theorem Caps.touch {w w' : World} {g pb nb : Nat} {name : Key} {fp fp' : Nat → Prop} (h : Caps w g pb nb name fp) (ht : Touch w w' fp fp') : Caps w' g pb nb name fp' :=
  ⟨(World.cell?_of_block (a := ⟨pb, 0, none⟩) (ht.block pb h.hp h.np)).trans h.cp, (World.cell?_of_block (a := ⟨nb, 0, none⟩) (ht.block nb h.hn h.nn)).trans h.cn, Nat.lt_of_lt_of_le h.hp ht.size, Nat.lt_of_lt_of_le h.hn ht.size,
    fun hk => by
      rcases ht.new _ hk with h1 | h1
      · exact h.np h1
      · have := h.hp; omega, fun hk => by
      rcases ht.new _ hk with h1 | h1
      · exact h.nn h1
      · have := h.hn; omega⟩

/-- What a drive is behind a closure. -/
def Then (w : World) (g : Nat) (d : Dr) (fp : Nat → Prop) (w' : World) : Prop := ∃ fp', IsDrive w' g d fp' ∧ Touch w w' fp fp'

theorem File.all_nil : (File.mk [] []).all = [] := rfl
theorem used_kput_new {d : Dr} {name : Key} (hk : kget d.files name = none) : ({ d with files := kput d.files name ⟨[], []⟩ } : Dr).used = d.used := by
  unfold Dr.used
  have h1 : kdel d.files name = d.files := by
    unfold kdel
    rw [List.filter_eq_self]
    intro p hp
    unfold kget at hk
    simp only [Option.map_eq_none_iff, List.find?_eq_none] at hk
    have := hk p hp
    simpa using this
  have h2 : ∀ (m : List (Key × File)), ((kins name ⟨[], []⟩ m).map fun p => p.2.all.length).sum = (m.map fun p => p.2.all.length).sum := by
    intro m
    induction m with
    | nil => rfl
    | cons y r ih =>
      unfold kins
      split
      · simp [File.all_nil]
      · simp [ih]
  simp only [kput, h1, h2]

theorem create_closure {w : World} {g pb nb : Nat} {d : Dr} {fp : Nat → Prop} {name : Key} (h : IsDrive w g d fp) (hC : Caps w g pb nb name fp) (hl : name.length ≤ 1000000) (hf65 : d.files.length ≤ 65536) (hnew : kget d.files name = none) :
    Calls Tryz.prog 55 #[.pointer (some ⟨pb, 0, none⟩), .pointer (some ⟨nb, 0, none⟩)] w fun e w' => e = .returned (.tuple #[]) ∧ Then w g { d with files := kput d.files name ⟨[], []⟩ } fp w' := by
  obtain ⟨mb, aft, rs, hb, ha, hf, hd⟩ := h.has
  have cg := hb.cell 0
  simp [driveCells] at cg
  have hglt := hb.lt
  have hmlt : mb < w.heap.size := h.lt mb hf.own
  have hrl : (kmap FileR.blk rs).length ≤ 65536 := by
    have : d.files.length = rs.length := by rw [hd]; simp [kmap]
    simp [kmap]; omega
  have b1 : Below w.heap.size w (w.alloc (.cells #[.slice none 0 0, .slice none 0 0] 83)).drew := ((Below.refl _ _).alloc (Nat.le_refl _) _).drew
  have hm1 : OwnM Tryz.prog 9 (w.alloc (.cells #[.slice none 0 0, .slice none 0 0] 83)).drew mb (kmap FileR.blk rs) := hf.map.kept (b1.block mb hmlt)
  obtain ⟨w2, hrun, hm2, hg2⟩ := hm1.put (t := 46) (e := 79) (by kernel_rfl) (by kernel_rfl) (by omega) name hl w.heap.size
  have hs2 := hg2.size
  simp at hs2
  have hblk2 : ∀ k, k < w.heap.size → k ≠ mb → w2.heap[k]? = w.heap[k]? := fun k hk hne => (hg2.block k (by simp; omega) (by simpa using hne)).trans (b1.block k hk)
  obtain ⟨es0, cl0, hmb⟩ := hf.map.isMap
  have hne : ∀ k v, w.cell? ⟨k, 0, none⟩ = some v → k ≠ mb := by
    rintro k v hk rfl
    simp [World.cell?, hmb] at hk
  have keepc : ∀ k v, k < w.heap.size → w.cell? ⟨k, 0, none⟩ = some v → w2.cell? ⟨k, 0, none⟩ = some v := fun k v hk hc => (World.cell?_of_block (a := ⟨k, 0, none⟩) (hblk2 k hk (hne k v hc))).trans hc
  refine (create_walk hC.cp hC.cn cg hrun hC.hp hC.hn hglt (keepc _ _ hC.hp hC.cp) (keepc _ _ hC.hn hC.cn) (keepc _ _ hglt cg)).mono ?_
  rintro e w' ⟨rfl, rfl⟩
  have hblkn : Blk w' w.heap.size 83 #[.slice none 0 0, .slice none 0 0] := (hg2.block w.heap.size (by simp) (by simp; omega)).trans (heap_alloc_new w _)
  refine ⟨rfl, fun k => fp k ∨ k = w.heap.size, ⟨?_, .inl h.own, mb, aft, kput rs name ⟨w.heap.size, .slice none 0 0, .slice none 0 0, ⟨[], []⟩⟩, ?_, ha, ⟨?_, .inl hf.own, ?_, ?_⟩, ?_⟩, ⟨?_, ?_, ?_, by omega, ?_, ?_⟩⟩
  · rintro k (hk | rfl)
    · have := h.lt k hk; omega
    · omega
  · have : Blk w' g 48 (driveCells d mb aft) := (hblk2 g hglt (hne g _ cg)).trans hb
    unfold driveCells at this ⊢
    rw [used_kput_new hnew]
    exact this
  · rw [kmap_put]; exact hm2
  · intro p hp
    rcases mem_kput.1 hp with rfl | ⟨hp, _⟩
    · exact ⟨hblkn, .inr rfl, ⟨World.ownsRow_nil _ _ _ _, by simp [Value.ownBlock]⟩, [], ⟨World.ownsRow_nil _ _ _ _, by simp [Value.ownBlock], rfl, by simp⟩⟩
    · refine (hf.each p hp).keepAll (fun k cs t h1 _ h3 => hblk2 k (h.lt k h1) ?_) (fun k hk => .inl hk)
      rintro rfl
      rw [hmb] at h3; cases h3
  · refine pairwise_kput (fun a b hab => hab.symm) hf.apart (fun p hp _ => ⟨?_, fun k hk => ?_⟩)
    · have := h.lt _ (hf.each p hp).own
      show w.heap.size ≠ p.2.blk
      omega
    · simp [Value.ownBlock] at hk
  · rw [kmap_put, ← hd]
  · exact hg2.os
  · exact hg2.tape
  · exact hg2.output
  · intro k hk hnf
    refine hblk2 k hk ?_
    rintro rfl
    exact hnf hf.own
  · rintro k (hk | rfl)
    · exact .inl hk
    · exact .inr (Nat.le_refl _)
end Go.Proofs.YtbjimikppdfmgaaGreatDoor
