/- Walks of package drive: Create. -/
import Derived.Test.YtioillenlgpcgaaDrive4
set_option linter.unusedVariables false
set_option linter.unusedSimpArgs false
set_option maxHeartbeats 1600000
set_option maxRecDepth 100000
attribute [local go_sem ↓] Go.wp_at_zero Go.wp_at_succ
namespace Go.Proofs.Ytioillenlgpcgaa
open Go.RowKit

theorem create_walk {w w2 : World} {g mb pb nb : Nat} {name : Key} (cp : w.cell? ⟨pb, 0, none⟩ = some (.pointer (some ⟨g, 0, none⟩))) (cn : w.cell? ⟨nb, 0, none⟩ = some (.string (S name))) (cg : w.cell? ⟨g, 0, none⟩ = some (.map (some mb)))
    (hrun : (Instr.mapUpdate 58 (.map (some mb)) (.string (S name)) (.pointer (some ⟨w.heap.size, 0, none⟩))).run Try.prog (w.alloc (.cells #[.slice none 0 0, .slice none 0 0] 68)).drew = .ok () w2)
    (hp : pb < w.heap.size) (hn : nb < w.heap.size) (hg : g < w.heap.size)
    (k0 : w2.cell? ⟨pb, 0, none⟩ = some (.pointer (some ⟨g, 0, none⟩))) (k1 : w2.cell? ⟨nb, 0, none⟩ = some (.string (S name))) (k2 : w2.cell? ⟨g, 0, none⟩ = some (.map (some mb))) :
    Calls Try.prog 30 #[.pointer (some ⟨pb, 0, none⟩), .pointer (some ⟨nb, 0, none⟩)] w fun e w' => e = .returned (.tuple #[]) ∧ w' = w2 := by
  go_enter Try.func30, Try.ntmps30
  go_wp2
  go_region_held3 (fun w' => w'.cell? ⟨pb, 0, none⟩ = some (.pointer (some ⟨g, 0, none⟩)) ∧ w'.cell? ⟨nb, 0, none⟩ = some (.string (S name)) ∧ w'.cell? ⟨g, 0, none⟩ = some (.map (some mb))) (simp [*, go_sem, World.cell?_alloc_past])
    (first | fail)
  all_goals
    go_wp2
    go_end0
    exact ⟨rfl, rfl⟩

/-- Two captured variables: the drive, a name. -/
structure Caps (w : World) (g pb nb : Nat) (name : Key) (fp : Nat → Prop) : Prop where
  cp : w.cell? ⟨pb, 0, none⟩ = some (.pointer (some ⟨g, 0, none⟩))
  cn : w.cell? ⟨nb, 0, none⟩ = some (.string (S name))
  hp : pb < w.heap.size
  hn : nb < w.heap.size
  np : ¬ fp pb
  nn : ¬ fp nb
theorem Caps.touch {w w' : World} {g pb nb : Nat} {name : Key} {fp fp' : Nat → Prop} (h : Caps w g pb nb name fp) (ht : Touch w w' fp fp') : Caps w' g pb nb name fp' :=
  ⟨(World.cell?_of_block (a := ⟨pb, 0, none⟩) (ht.block pb h.hp h.np)).trans h.cp, (World.cell?_of_block (a := ⟨nb, 0, none⟩) (ht.block nb h.hn h.nn)).trans h.cn, Nat.lt_of_lt_of_le h.hp ht.size, Nat.lt_of_lt_of_le h.hn ht.size,
    fun hk => by
      rcases ht.new _ hk with h1 | h1
      · exact h.np h1
      · have := h.hp; omega, fun hk => by
      rcases ht.new _ hk with h1 | h1
      · exact h.nn h1
      · have := h.hn; omega⟩

/-- What a drive is behind a closure. -/
def Then (w : World) (g : Nat) (d : Dr) (fp : Nat → Prop) (w' : World) : Prop := ∃ fp', IsDrive w' g d fp' ∧ Touch w w' fp fp'

theorem File.all_nil : (File.mk [] []).all = [] := rfl
theorem used_kput_new {d : Dr} {name : Key} (hk : kget d.files name = none) : ({ d with files := kput d.files name ⟨[], []⟩ } : Dr).used = d.used := by
  unfold Dr.used
  have h1 : kdel d.files name = d.files := by
    unfold kdel
    rw [List.filter_eq_self]
    intro p hp
    unfold kget at hk
    simp only [Option.map_eq_none_iff, List.find?_eq_none] at hk
    have := hk p hp
    simpa using this
  have h2 : ∀ (m : List (Key × File)), ((kins name ⟨[], []⟩ m).map fun p => p.2.all.length).sum = (m.map fun p => p.2.all.length).sum := by
    intro m
    induction m with
    | nil => rfl
    | cons y r ih =>
      unfold kins
      split
      · simp [File.all_nil]
      · simp [ih]
  simp only [kput, h1, h2]

theorem create_closure {w : World} {g pb nb : Nat} {d : Dr} {fp : Nat → Prop} {name : Key} (h : IsDrive w g d fp) (hC : Caps w g pb nb name fp) (hl : name.length ≤ 1000000) (hf65 : d.files.length ≤ 65536) (hnew : kget d.files name = none) :
    Calls Try.prog 30 #[.pointer (some ⟨pb, 0, none⟩), .pointer (some ⟨nb, 0, none⟩)] w fun e w' => e = .returned (.tuple #[]) ∧ Then w g { d with files := kput d.files name ⟨[], []⟩ } fp w' := by
  obtain ⟨mb, aft, rs, hb, ha, hf, hd⟩ := h.has
  have cg := hb.cell 0
  simp [driveCells] at cg
  have hglt := hb.lt
  have hmlt : mb < w.heap.size := h.lt mb hf.own
  have hrl : (kmap FileR.blk rs).length ≤ 65536 := by
    have : d.files.length = rs.length := by rw [hd]; simp [kmap]
    simp [kmap]; omega
  have b1 : Below w.heap.size w (w.alloc (.cells #[.slice none 0 0, .slice none 0 0] 68)).drew := ((Below.refl _ _).alloc (Nat.le_refl _) _).drew
  have hm1 : OwnM Try.prog 9 (w.alloc (.cells #[.slice none 0 0, .slice none 0 0] 68)).drew mb (kmap FileR.blk rs) := hf.map.kept (b1.block mb hmlt)
  obtain ⟨w2, hrun, hm2, hg2⟩ := hm1.put (t := 58) (e := 64) (by kernel_rfl) (by kernel_rfl) (by omega) name hl w.heap.size
  have hs2 := hg2.size
  simp at hs2
  have hblk2 : ∀ k, k < w.heap.size → k ≠ mb → w2.heap[k]? = w.heap[k]? := fun k hk hne => (hg2.block k (by simp; omega) (by simpa using hne)).trans (b1.block k hk)
  obtain ⟨es0, cl0, hmb⟩ := hf.map.isMap
  have hne : ∀ k v, w.cell? ⟨k, 0, none⟩ = some v → k ≠ mb := by
    rintro k v hk rfl
    simp [World.cell?, hmb] at hk
  have keepc : ∀ k v, k < w.heap.size → w.cell? ⟨k, 0, none⟩ = some v → w2.cell? ⟨k, 0, none⟩ = some v := fun k v hk hc => (World.cell?_of_block (a := ⟨k, 0, none⟩) (hblk2 k hk (hne k v hc))).trans hc
  refine (create_walk hC.cp hC.cn cg hrun hC.hp hC.hn hglt (keepc _ _ hC.hp hC.cp) (keepc _ _ hC.hn hC.cn) (keepc _ _ hglt cg)).mono ?_
  rintro e w' ⟨rfl, rfl⟩
  have hblkn : Blk w' w.heap.size 68 #[.slice none 0 0, .slice none 0 0] := (hg2.block w.heap.size (by simp) (by simp; omega)).trans (heap_alloc_new w _)
  refine ⟨rfl, fun k => fp k ∨ k = w.heap.size, ⟨?_, .inl h.own, mb, aft, kput rs name ⟨w.heap.size, .slice none 0 0, .slice none 0 0, ⟨[], []⟩⟩, ?_, ha, ⟨?_, .inl hf.own, ?_, ?_⟩, ?_⟩, ⟨?_, ?_, ?_, by omega, ?_, ?_⟩⟩
  · rintro k (hk | rfl)
    · have := h.lt k hk; omega
    · omega
  · have : Blk w' g 60 (driveCells d mb aft) := (hblk2 g hglt (hne g _ cg)).trans hb
    unfold driveCells at this ⊢
    rw [used_kput_new hnew]
    exact this
  · rw [kmap_put]; exact hm2
  · intro p hp
    rcases mem_kput.1 hp with rfl | ⟨hp, _⟩
    · exact ⟨hblkn, .inr rfl, ⟨World.ownsRow_nil _ _ _ _, by simp [Value.ownBlock]⟩, [], ⟨World.ownsRow_nil _ _ _ _, by simp [Value.ownBlock], rfl, by simp⟩⟩
    · refine (hf.each p hp).keepAll (fun k cs t h1 _ h3 => hblk2 k (h.lt k h1) ?_) (fun k hk => .inl hk)
      rintro rfl
      rw [hmb] at h3; cases h3
  · refine pairwise_kput (fun a b hab => hab.symm) hf.apart (fun p hp _ => ⟨?_, fun k hk => ?_⟩)
    · have := h.lt _ (hf.each p hp).own
      show w.heap.size ≠ p.2.blk
      omega
    · simp [Value.ownBlock] at hk
  · rw [kmap_put, ← hd]
  · exact hg2.os
  · exact hg2.tape
  · exact hg2.output
  · intro k hk hnf
    refine hblk2 k hk ?_
    rintro rfl
    exact hnf hf.own
  · rintro k (hk | rfl)
    · exact .inl hk
    · exact .inr (Nat.le_refl _)
end Go.Proofs.Ytioillenlgpcgaa
