/- Walk of (*drive.file).all. Walks of package drive: Read, Create. Walks of package drive: Create. Maps of texts to addresses: how many there are, and that one goes. Walks of package drive: a deed, whole; Create. Walks of package drive: Sync. Walks of package drive: Sync, whole. -/
import Derived.Test.YtiabfngiibabcaaGreatDoorM05
import Derived.Deep.RegionHeld3
import Derived.Deep.DrawnRows
import Derived.Test.YtiabfngiibabcaaGreatDoorM01
import Derived.Conc.MuLone
import Derived.Test.YtiabfngiibabcaaGreatDoorM02
set_option linter.unusedVariables false
set_option linter.unusedSimpArgs false
set_option maxHeartbeats 1600000
set_option maxRecDepth 100000
attribute [local go_sem ↓] Go.wp_at_zero Go.wp_at_succ
namespace Go.Proofs.YtiabfngiibabcaaGreatDoor
open Go.RowKit

theorem info_bytes : ∃ i, (Tryz.prog).info? 85 = some i ∧ i.zero = some (.slice none 0 0) ∧ i.size = 1 ∧ i.bytes = 24 := by
  have h : ((Tryz.prog).info? 85).map (fun i => (i.zero, i.size, i.bytes)) = some (some (.slice none 0 0), 1, 24) := by kernel_rfl
  obtain ⟨i, hi, he⟩ := Option.map_eq_some_iff.1 h
  simp only [Prod.mk.injEq] at he
  exact ⟨i, hi, he.1, he.2.1, he.2.2⟩

/-- The pieces of a file read as slices of bytes. -/
theorem piece_chunk {w : World} {fp : Nat → Prop} {v : Value} {ls : List (List UInt8)} {vs : List Value} (h : PiecesRow w fp v ls vs) : ∀ i, (hi : i < ls.length) → ∃ Ai ci, vs[i]? = some (.slice Ai ls[i].length ci) ∧ BytesAt w Ai ls[i] := by
  intro i hi
  obtain ⟨u, hu, hb⟩ := h.each i hi
  obtain ⟨A, c, rfl⟩ := row_form hb.row
  exact ⟨A, c, hu, (bytesAt_row hb.row).2⟩

theorem all_walk {w : World} {blk : Nat} {A A2 : Option Addr} {n c n2 c2 : Nat} (c0 : w.cell? ⟨blk, 0, none⟩ = some (.slice A n c)) (c1 : w.cell? ⟨blk, 1, none⟩ = some (.slice A2 n2 c2)) (hlt : blk < w.heap.size)
    {v' : Value} {w1 : World} (hrun : (Builtin.append_ #[176, 176] 176 #[.slice (some ⟨w.heap.size, 0, none⟩) 1 1, .slice A2 n2 c2]).run Tryz.prog (w.alloc (.cells #[.slice A n c] 85)).drew = .ok v' w1)
    (k0 : w1.cell? ⟨blk, 0, none⟩ = some (.slice A n c)) (k1 : w1.cell? ⟨blk, 1, none⟩ = some (.slice A2 n2 c2)) (R : Value → World → Prop)
    (hR : Calls Tryz.prog 180 #[v'] w1 fun e w' => ∃ v, e = .returned v ∧ R v w' ∧ w'.cell? ⟨blk, 0, none⟩ = some (.slice A n c) ∧ w'.cell? ⟨blk, 1, none⟩ = some (.slice A2 n2 c2)) : Calls Tryz.prog 123 #[.pointer (some ⟨blk, 0, none⟩)] w fun e w' => ∃ v, e = .returned v ∧ R v w' := by
  have HR := hid hR
  clear hR
  go_enter Tryz.func123, Tryz.ntmps123
  go_wp2
  go_region_held3 (fun w' => w'.cell? ⟨blk, 0, none⟩ = some (.slice A n c) ∧ w'.cell? ⟨blk, 1, none⟩ = some (.slice A2 n2 c2)) (simp [*, go_sem, World.cell?_alloc_past])
    (first | (refine step_append_run rfl _ _ _ (by rfl) _ _ _ _ (by rfl) (by rfl) hrun ?_) | (go_at_call 180; refine HR.out.mono ?_; rintro e w2 ⟨v2, rfl, hr, q0, q1⟩))
  all_goals
    go_wp2
    go_ret
    exact ⟨v2, rfl, hr⟩

/-- What an owned row offers to an append. -/
theorem row_offer {w : World} {base : Nat} {e : TypeId} {A : Option Addr} {n c : Nat} {xs : List Value} (h : w.ownsRow base e 1 (.slice A n c) n xs) : xs.length = n * 1 ∧ (A = none → n = 0) ∧ ∀ ad, A = some ad → ∀ j u, xs[j]? = some u → w.cell? (ad.add j) = some u := by
  refine ⟨h.1, fun hA => ?_, fun ad hA j u hu => ?_⟩
  · rcases h.2 with ⟨h1, h2⟩ | ⟨g, cap, cur, hv, _⟩
    · exact h2
    · rw [hA] at hv; simp at hv
  · subst hA
    rcases h.2 with ⟨h1, h2⟩ | ⟨g, cap, cur, hv, hb, hh, r⟩
    · simp at h1
    · simp only [Value.slice.injEq, Option.some.injEq] at hv
      obtain ⟨rfl, _, rfl⟩ := hv
      exact h.cells (g := g) rfl j u hu

theorem file_all {w : World} {fp : Nat → Prop} {r : FileR} (h : IsFile w fp r) (hn : r.f.pieces.length ≤ 1000000000) (ht : r.f.all.length ≤ 1000000000000) : Calls Tryz.prog 123 #[.pointer (some ⟨r.blk, 0, none⟩)] w (Made w r.f.all) := by
  have c0 := h.blk.cell 0
  have c1 := h.blk.cell 1
  obtain ⟨vs, hv⟩ := h.pieces
  have hch := piece_chunk hv
  have hs := h.safe.row
  have hlt := h.blk.lt
  obtain ⟨A, c, hsv⟩ := row_form hs
  obtain ⟨A2, c2, hpv⟩ := row_form hv.row
  have hrow := hv.row
  rw [hsv] at hs
  rw [hpv] at hrow
  have ho := row_offer hrow
  simp [hsv] at c0
  simp [hpv] at c1
  obtain ⟨i, hi, hz, hsz, hby⟩ := info_bytes
  have b0 : Below w.heap.size w (w.alloc (.cells #[.slice A r.f.safe.length c] 85)).drew := ((Below.refl _ _).alloc (Nat.le_refl _) _).drew
  have hown0 : (w.alloc (.cells #[.slice A r.f.safe.length c] 85)).drew.ownsRow w.heap.size 85 1 (.slice (some ⟨w.heap.size, 0, none⟩) 1 1) 1 [.slice A r.f.safe.length c] :=
    ⟨rfl, .inr ⟨w.heap.size, 1, _, rfl, Nat.le_refl _, heap_alloc_new w _, Nat.le_refl _, by unfold maxLen; omega, rfl, rfl⟩⟩
  obtain ⟨v', w1, hrun, hown1, hgrow, hat⟩ := run_append_row (P := Tryz.prog) _ w.heap.size 176 176 85 i (.slice none 0 0) 1 24 (by kernel_rfl) hi hz hsz hby rfl (by decide) _ _ _ hown0 A2 r.f.pieces.length c2 vs ho.1 ho.2.1
    (fun ad hA j u hu => by
      have hc := ho.2.2 ad hA j u hu
      have hb : (ad.add j).block < w.heap.size := World.block_lt_of_cell? w _ hc
      exact (b0.cell hb).trans hc)
    (fun u hu => by
      obtain ⟨j, hj, rfl⟩ := List.mem_iff_getElem.1 hu
      obtain ⟨Ai, ci, hx, _⟩ := hch j (by rw [← hv.len]; exact hj)
      rw [List.getElem?_eq_getElem hj] at hx
      injection hx with hx
      rw [hx]; rfl)
    (by unfold maxLen; omega) (by omega) (by simp)
  have b1 : Below w.heap.size w w1 := b0.grown hgrow (by simp) (fun k hk => by
    have : w.heap.size = k := by simpa [Value.ownBlock] using hk
    omega)
  have hB1 : BytesAt w A r.f.safe := (bytesAt_row hs).2
  obtain ⟨A3, c3, hv3⟩ := row_form hown1
  rw [hv3] at hown1 hrun
  have hchunks : ChunksAt w1 A3 (r.f.safe :: r.f.pieces) := by
    intro _
    rcases hown1.2 with ⟨h1, h2⟩ | ⟨g, cap, cur, hvv, hb, hh, r4⟩
    · omega
    · simp only [Value.slice.injEq] at hvv
      obtain ⟨rfl, _, rfl⟩ := hvv
      refine ⟨g, 0, rfl, (Array.getElem?_eq_some_iff.1 hh).1, fun j hj => ?_⟩
      have hcell := hown1.cellAt j (by simp at hj; omega)
      rcases j with _ | j
      · exact ⟨A, c, by rw [Nat.zero_add, hcell]; rfl, hB1.below b1⟩
      · obtain ⟨Ai, ci, hx, hy⟩ := hch j (by simpa using hj)
        exact ⟨Ai, ci, by rw [Nat.zero_add, hcell]; simpa using hx, hy.below b1⟩
  have hlen : 1 + r.f.pieces.length = (r.f.safe :: r.f.pieces).length := by simp; omega
  rw [hlen] at hrun
  have h9 : total (r.f.safe :: r.f.pieces) = r.f.all.length := by simp [total, File.all]
  have hC := concat A3 (r.f.safe :: r.f.pieces) c3 w1 hchunks (by simp; omega) (by rw [h9]; omega)
  refine all_walk c0 c1 hlt hrun ((b1.cell (p := ⟨r.blk, 0, none⟩) hlt).trans c0) ((b1.cell (p := ⟨r.blk, 1, none⟩) hlt).trans c1) (fun v w' => w'.ownsRow w.heap.size 5 1 v r.f.all.length (r.f.all.map B8) ∧ Below w.heap.size w w') (hC.mono ?_)
  rintro e w' ⟨v, rfl, ho', hb'⟩
  have b2 := bt b1 hb'
  exact ⟨v, rfl, ⟨row_base ho' b1.size, b2⟩, (b2.cell (p := ⟨r.blk, 0, none⟩) hlt).trans c0, (b2.cell (p := ⟨r.blk, 1, none⟩) hlt).trans c1⟩
end Go.Proofs.YtiabfngiibabcaaGreatDoor

set_option linter.unusedVariables false
set_option linter.unusedSimpArgs false
set_option maxHeartbeats 1600000
set_option maxRecDepth 100000
attribute [local go_sem ↓] Go.wp_at_zero Go.wp_at_succ
namespace Go.Proofs.YtiabfngiibabcaaGreatDoor
open Go.RowKit

theorem used_all {d : Dr} {name : Key} {f : File} (h : kget d.files name = some f) : (f.all.length : Int) ≤ d.used := by
  have hm := kget_some h
  unfold Dr.used
  have : ∀ (l : List (Key × File)), (name, f) ∈ l → f.all.length ≤ (l.map fun p => p.2.all.length).sum := by
    intro l hl
    induction l with
    | nil => simp at hl
    | cons p l ih =>
      rcases List.mem_cons.1 hl with h | h
      · subst h; simp
      · have := ih h
        simp; omega
  have := this d.files hm
  omega
theorem file_get {w : World} {fp : Nat → Prop} {mb : Nat} {d : Dr} {rs : List (Key × FileR)} {name : Key} {r : FileR} {N : Nat} (hf : HasFiles w fp mb rs) (hd : d.files = kmap FileR.f rs) (hok : d.Ok N) (hN : N ≤ 1000000000) (hk : kget rs name = some r) :
    IsFile w fp r ∧ kget d.files name = some r.f ∧ r.f.pieces.length ≤ 1000000000 ∧ r.f.all.length ≤ 1000000000000 := by
  have h1 : kget d.files name = some r.f := by rw [hd, kget_map, hk]; rfl
  have h2 := used_all h1
  have h3 := hok.used
  have h4 : r.f.pieces.length ≤ N := hok.few _ (kget_some h1)
  exact ⟨hf.each _ (kget_some hk), h1, by omega, by omega⟩

def ReadPost (w : World) (d : Dr) (name : Key) (e : Ending) (w' : World) : Prop := ∃ v, e = .returned (.tuple #[v, .int .i64 (d.readE name)]) ∧ w'.ownsRow w.heap.size 5 1 v (d.read name).length ((d.read name).map B8) ∧ Below w.heap.size w w'

theorem drive_Read {w : World} {g : Nat} {d : Dr} {fp : Nat → Prop} {N : Nat} (h : IsDrive w g d fp) (hok : d.Ok N) (hN : N ≤ 1000000000) (name : Key) (hl : name.length ≤ 1000000) : Calls Tryz.prog 139 #[.pointer (some ⟨g, 0, none⟩), .string (S name)] w (ReadPost w d name) := by
  have T := hid (drive_there h name hl)
  obtain ⟨mb, aft, rs, hb, ha, hf, hd⟩ := h.has
  have c0 := hb.cell 0
  have c4 := hb.cell 4
  simp [driveCells] at c0 c4
  have hz : (zeroValue 175).run Tryz.prog w = .ok (.pointer none) w := by kernel_rfl
  have L := hf.map.look (t := 76) (e := 175) (by kernel_rfl) (by kernel_rfl) hz name hl
  rw [kget_map] at L
  cases hdn : d.down with
  | true =>
    have H := hid (show ReadPost w d name (.returned (.tuple #[.slice none 0 0, .int .i64 13])) w from ⟨.slice none 0 0, by simp [Dr.readE, hdn], by simp [Dr.read, Dr.readE, hdn]; exact World.ownsRow_nil _ _ _ _, Below.refl _ _⟩)
    rw [hdn] at c4
    clear hdn hz L hb ha hf hd h
    go_enter Tryz.func139, Tryz.ntmps139
    go_wp2
    go_ret2
    exact H.out
  | false =>
    rw [hdn] at c4
    cases hk : kget rs name with
    | none =>
      have hk2 : kget d.files name = none := by rw [hd, kget_map, hk]; rfl
      have H := hid (show ReadPost w d name (.returned (.tuple #[.slice none 0 0, .int .i64 10])) w from ⟨.slice none 0 0, by simp [Dr.readE, Dr.thereE, hdn, hk2], by simp [Dr.read, Dr.readE, Dr.thereE, hdn, hk2]; exact World.ownsRow_nil _ _ _ _, Below.refl _ _⟩)
      rw [show d.thereE name = 10 by simp [Dr.thereE, hk2]] at T
      clear hdn hz L hb ha hf hd h hk hk2
      go_enter Tryz.func139, Tryz.ntmps139
      go_wp2_with fail
      refine T.out.mono ?_
      rintro e w1 ⟨rfl, rfl⟩
      go_wp2
      go_ret2
      exact H.out
    | some r =>
      obtain ⟨hF, hk2, hp, ha2⟩ := file_get hf hd hok hN hk
      have A := hid (file_all hF hp ha2)
      have H := hid (show ∀ v w', w'.ownsRow w.heap.size 5 1 v r.f.all.length (r.f.all.map B8) → Below w.heap.size w w' → ReadPost w d name (.returned (.tuple #[v, .int .i64 0])) w' from fun v w' h1 h2 => ⟨v, by simp [Dr.readE, Dr.thereE, hdn, hk2], by simpa [Dr.read, Dr.readE, Dr.thereE, hdn, hk2, fileOf] using h1, h2⟩)
      rw [show d.thereE name = 0 by simp [Dr.thereE, hk2]] at T
      rw [hk] at L
      simp [ptrOf] at L
      clear hdn hz hb ha hf hd h hk hk2 hF hp ha2
      go_enter Tryz.func139, Tryz.ntmps139
      go_wp2_with fail
      refine T.out.mono ?_
      rintro e w1 ⟨rfl, rfl⟩
      go_wp2_with fail
      refine A.out.mono ?_
      rintro e w2 ⟨v, rfl, ho, hb2⟩
      go_wp2
      go_ret2
      exact H.out _ _ ho hb2
end Go.Proofs.YtiabfngiibabcaaGreatDoor

set_option linter.unusedVariables false
set_option linter.unusedSimpArgs false
set_option maxHeartbeats 1600000
set_option maxRecDepth 100000
attribute [local go_sem ↓] Go.wp_at_zero Go.wp_at_succ
namespace Go.Proofs.YtiabfngiibabcaaGreatDoor
open Go.RowKit

theorem create_walk {w w2 : World} {g mb pb nb : Nat} {name : Key} (cp : w.cell? ⟨pb, 0, none⟩ = some (.pointer (some ⟨g, 0, none⟩))) (cn : w.cell? ⟨nb, 0, none⟩ = some (.string (S name))) (cg : w.cell? ⟨g, 0, none⟩ = some (.map (some mb)))
    (hrun : (Instr.mapUpdate 76 (.map (some mb)) (.string (S name)) (.pointer (some ⟨w.heap.size, 0, none⟩))).run Tryz.prog (w.alloc (.cells #[.slice none 0 0, .slice none 0 0] 178)).drew = .ok () w2)
    (hp : pb < w.heap.size) (hn : nb < w.heap.size) (hg : g < w.heap.size)
    (k0 : w2.cell? ⟨pb, 0, none⟩ = some (.pointer (some ⟨g, 0, none⟩))) (k1 : w2.cell? ⟨nb, 0, none⟩ = some (.string (S name))) (k2 : w2.cell? ⟨g, 0, none⟩ = some (.map (some mb))) :
    Calls Tryz.prog 143 #[.pointer (some ⟨pb, 0, none⟩), .pointer (some ⟨nb, 0, none⟩)] w fun e w' => e = .returned (.tuple #[]) ∧ w' = w2 := by
  go_enter Tryz.func143, Tryz.ntmps143
  go_wp2
  go_region_held3 (fun w' => w'.cell? ⟨pb, 0, none⟩ = some (.pointer (some ⟨g, 0, none⟩)) ∧ w'.cell? ⟨nb, 0, none⟩ = some (.string (S name)) ∧ w'.cell? ⟨g, 0, none⟩ = some (.map (some mb))) (simp [*, go_sem, World.cell?_alloc_past])
    (first | fail)
  all_goals
    go_wp2
    go_end0
    exact ⟨rfl, rfl⟩

/-- Two captured variables: the drive, a name. -/
structure Caps (w : World) (g pb nb : Nat) (name : Key) (fp : Nat → Prop) : Prop where
  cp : w.cell? ⟨pb, 0, none⟩ = some (.pointer (some ⟨g, 0, none⟩))
  cn : w.cell? ⟨nb, 0, none⟩ = some (.string (S name))
  hp : pb < w.heap.size
  hn : nb < w.heap.size
  np : ¬ fp pb
  nn : ¬ fp nb
theorem Caps.touch {w w' : World} {g pb nb : Nat} {name : Key} {fp fp' : Nat → Prop} (h : Caps w g pb nb name fp) (ht : Touch w w' fp fp') : Caps w' g pb nb name fp' :=
  ⟨(World.cell?_of_block (a := ⟨pb, 0, none⟩) (ht.block pb h.hp h.np)).trans h.cp, (World.cell?_of_block (a := ⟨nb, 0, none⟩) (ht.block nb h.hn h.nn)).trans h.cn, Nat.lt_of_lt_of_le h.hp ht.size, Nat.lt_of_lt_of_le h.hn ht.size,
    fun hk => by
      rcases ht.new _ hk with h1 | h1
      · exact h.np h1
      · have := h.hp; omega, fun hk => by
      rcases ht.new _ hk with h1 | h1
      · exact h.nn h1
      · have := h.hn; omega⟩

/-- What a drive is behind a closure. -/
def Then (w : World) (g : Nat) (d : Dr) (fp : Nat → Prop) (w' : World) : Prop := ∃ fp', IsDrive w' g d fp' ∧ Touch w w' fp fp'

theorem File.all_nil : (File.mk [] []).all = [] := rfl
theorem used_kput_new {d : Dr} {name : Key} (hk : kget d.files name = none) : ({ d with files := kput d.files name ⟨[], []⟩ } : Dr).used = d.used := by
  unfold Dr.used
  have h1 : kdel d.files name = d.files := by
    unfold kdel
    rw [List.filter_eq_self]
    intro p hp
    unfold kget at hk
    simp only [Option.map_eq_none_iff, List.find?_eq_none] at hk
    have := hk p hp
    simpa using this
  have h2 : ∀ (m : List (Key × File)), ((kins name ⟨[], []⟩ m).map fun p => p.2.all.length).sum = (m.map fun p => p.2.all.length).sum := by
    intro m
    induction m with
    | nil => rfl
    | cons y r ih =>
      unfold kins
      split
      · simp [File.all_nil]
      · simp [ih]
  simp only [kput, h1, h2]

theorem create_closure {w : World} {g pb nb : Nat} {d : Dr} {fp : Nat → Prop} {name : Key} (h : IsDrive w g d fp) (hC : Caps w g pb nb name fp) (hl : name.length ≤ 1000000) (hf65 : d.files.length ≤ 65536) (hnew : kget d.files name = none) :
    Calls Tryz.prog 143 #[.pointer (some ⟨pb, 0, none⟩), .pointer (some ⟨nb, 0, none⟩)] w fun e w' => e = .returned (.tuple #[]) ∧ Then w g { d with files := kput d.files name ⟨[], []⟩ } fp w' := by
  obtain ⟨mb, aft, rs, hb, ha, hf, hd⟩ := h.has
  have cg := hb.cell 0
  simp [driveCells] at cg
  have hglt := hb.lt
  have hmlt : mb < w.heap.size := h.lt mb hf.own
  have hrl : (kmap FileR.blk rs).length ≤ 65536 := by
    have : d.files.length = rs.length := by rw [hd]; simp [kmap]
    simp [kmap]; omega
  have b1 : Below w.heap.size w (w.alloc (.cells #[.slice none 0 0, .slice none 0 0] 178)).drew := ((Below.refl _ _).alloc (Nat.le_refl _) _).drew
  have hm1 : OwnM Tryz.prog 9 (w.alloc (.cells #[.slice none 0 0, .slice none 0 0] 178)).drew mb (kmap FileR.blk rs) := hf.map.kept (b1.block mb hmlt)
  obtain ⟨w2, hrun, hm2, hg2⟩ := hm1.put (t := 76) (e := 175) (by kernel_rfl) (by kernel_rfl) (by omega) name hl w.heap.size
  have hs2 := hg2.size
  simp at hs2
  have hblk2 : ∀ k, k < w.heap.size → k ≠ mb → w2.heap[k]? = w.heap[k]? := fun k hk hne => (hg2.block k (by simp; omega) (by simpa using hne)).trans (b1.block k hk)
  obtain ⟨es0, cl0, hmb⟩ := hf.map.isMap
  have hne : ∀ k v, w.cell? ⟨k, 0, none⟩ = some v → k ≠ mb := by
    rintro k v hk rfl
    simp [World.cell?, hmb] at hk
  have keepc : ∀ k v, k < w.heap.size → w.cell? ⟨k, 0, none⟩ = some v → w2.cell? ⟨k, 0, none⟩ = some v := fun k v hk hc => (World.cell?_of_block (a := ⟨k, 0, none⟩) (hblk2 k hk (hne k v hc))).trans hc
  refine (create_walk hC.cp hC.cn cg hrun hC.hp hC.hn hglt (keepc _ _ hC.hp hC.cp) (keepc _ _ hC.hn hC.cn) (keepc _ _ hglt cg)).mono ?_
  rintro e w' ⟨rfl, rfl⟩
  have hblkn : Blk w' w.heap.size 178 #[.slice none 0 0, .slice none 0 0] := (hg2.block w.heap.size (by simp) (by simp; omega)).trans (heap_alloc_new w _)
  refine ⟨rfl, fun k => fp k ∨ k = w.heap.size, ⟨?_, .inl h.own, mb, aft, kput rs name ⟨w.heap.size, .slice none 0 0, .slice none 0 0, ⟨[], []⟩⟩, ?_, ha, ⟨?_, .inl hf.own, ?_, ?_⟩, ?_⟩, ⟨?_, ?_, ?_, by omega, ?_, ?_⟩⟩
  · rintro k (hk | rfl)
    · have := h.lt k hk; omega
    · omega
  · have : Blk w' g 78 (driveCells d mb aft) := (hblk2 g hglt (hne g _ cg)).trans hb
    unfold driveCells at this ⊢
    rw [used_kput_new hnew]
    exact this
  · rw [kmap_put]; exact hm2
  · intro p hp
    rcases mem_kput.1 hp with rfl | ⟨hp, _⟩
    · exact ⟨hblkn, .inr rfl, ⟨World.ownsRow_nil _ _ _ _, by simp [Value.ownBlock]⟩, [], ⟨World.ownsRow_nil _ _ _ _, by simp [Value.ownBlock], rfl, by simp⟩⟩
    · refine (hf.each p hp).keepAll (fun k cs t h1 _ h3 => hblk2 k (h.lt k h1) ?_) (fun k hk => .inl hk)
      rintro rfl
      rw [hmb] at h3; cases h3
  · refine pairwise_kput (fun a b hab => hab.symm) hf.apart (fun p hp _ => ⟨?_, fun k hk => ?_⟩)
    · have := h.lt _ (hf.each p hp).own
      show w.heap.size ≠ p.2.blk
      omega
    · simp [Value.ownBlock] at hk
  · rw [kmap_put, ← hd]
  · exact hg2.os
  · exact hg2.tape
  · exact hg2.output
  · intro k hk hnf
    refine hblk2 k hk ?_
    rintro rfl
    exact hnf hf.own
  · rintro k (hk | rfl)
    · exact .inl hk
    · exact .inr (Nat.le_refl _)
end Go.Proofs.YtiabfngiibabcaaGreatDoor

set_option linter.unusedVariables false
set_option linter.unusedSimpArgs false
namespace Go.Proofs.YtiabfngiibabcaaGreatDoor
open Go.RowKit Go.Maps
section
variable {P : Program} {k t e : TypeId} {w : World} {b : Nat} {m : List (Key × Nat)}
theorem OwnM.len (h : OwnM P k w b m) (ht : P.underlying t = some (.map k e)) (ty : TypeId) : (Builtin.len_ #[t] ty #[.map (some b)]).run P w = .ok (.int .i64 (m.length : Nat)) w := by
  have := World.ownsMap.len h ht ty
  rw [mapD_size] at this
  exact this
theorem OwnM.drop (h : OwnM P k w b m) (hk : P.underlying k = some .string) (ht : P.underlying t = some (.map k e)) (key : Key) (hl : key.length ≤ 1000000) (ty : TypeId) :
    ∃ w', (Builtin.delete_ #[t, k] ty #[.map (some b), .string (S key)]).run P w = .ok (.tuple #[]) w' ∧ OwnM P k w' b (kdel m key) ∧ w.mapTurned w' b := by
  obtain ⟨w', hrun, hown, hg⟩ := World.ownsMap.drop h (Maps.string_keyed hk) ht (key_of hk key hl) ty
  rw [mapD_del] at hown
  exact ⟨w', hrun, OwnM.tight hown, hg⟩
end
theorem turned_grown {w w' : World} {b : Nat} (h : w.mapTurned w' b) : w.grownBy w' (some b) := by
  first
  | exact h.grown
  | exact h.grownBy
  | exact World.mapTurned.grown h
  | exact World.mapTurned.grownBy h
end Go.Proofs.YtiabfngiibabcaaGreatDoor

set_option linter.unusedVariables false
set_option linter.unusedSimpArgs false
set_option maxHeartbeats 1600000
set_option maxRecDepth 100000
attribute [local go_sem ↓] Go.wp_at_zero Go.wp_at_succ
namespace Go.Proofs.YtiabfngiibabcaaGreatDoor
open Go.RowKit

theorem deed_any {w : World} {g : Nat} {d : Dr} {fp : Nat → Prop} (h : IsDrive w g d fp) (hlm : d.left ≤ 9223372036854775807) (e : Int) (F : FuncId) (caps : Array Value) (hcf : ∀ W, (callFunc F caps).run Tryz.prog W = .ok (.enter F caps) W) (f : Dr → Dr)
    (hF : e = 0 → (d.may 0).2 = 0 → ∀ w1, IsDrive w1 g (d.may 0).1 fp → Touch w w1 fp fp → Calls Tryz.prog F caps w1 fun x w2 => x = .returned (.tuple #[]) ∧ Then w1 g (f (d.may 0).1) fp w2) :
    Calls Tryz.prog 142 #[.pointer (some ⟨g, 0, none⟩), .int .i64 e, .func (.func F) #[] caps] w fun x w' => x = .returned (.int .i64 (d.deed e f).2) ∧ Then w g (d.deed e f).1 fp w' := by
  by_cases hm : (d.may e).2 = 0
  · have he : e = 0 := by
      by_cases h0 : e = 0
      · exact h0
      · exfalso
        unfold Dr.may at hm
        split at hm
        · simp at hm
        · simp only [if_pos h0] at hm
          exact h0 hm
    subst he
    have E : d.deed 0 f = (f (d.may 0).1, 0) := by unfold Dr.deed; rw [if_pos hm]
    rw [E]
    refine deed_do h hlm hm F caps hcf (fun w' => Then w g (f (d.may 0).1) fp w') fun w1 h1 h2 => (hF rfl hm w1 h1 h2).mono ?_
    rintro x w2 ⟨hx, fp', h3, h4⟩
    exact ⟨hx, fp', h3, h2.trans h4⟩
  · have E : d.deed e f = d.may e := by unfold Dr.deed; rw [if_neg hm]
    rw [E]
    exact (deed_no h e hm F caps).mono fun x w' ⟨h1, h2, h3⟩ => ⟨h1, fp, h2, h3⟩

theorem may_files (d : Dr) (e : Int) : (d.may e).1.files = d.files ∧ (d.may e).1.quota = d.quota := by
  unfold Dr.may
  split
  · exact ⟨rfl, rfl⟩
  · split
    · exact ⟨rfl, rfl⟩
    · split <;> exact ⟨rfl, rfl⟩
theorem Then.of_below {w w0 w' : World} {g : Nat} {d : Dr} {fp : Nat → Prop} (hb : Below w.heap.size w w0) (h : Then w0 g d fp w') (hlt : ∀ k, fp k → k < w.heap.size) : Then w g d fp w' := by
  obtain ⟨fp', h1, h2⟩ := h
  exact ⟨fp', h1, (Touch.of_below hb fp).trans h2⟩
theorem IsDrive.drewN {w : World} {g : Nat} {d : Dr} {fp : Nat → Prop} (h : IsDrive w g d fp) (n : Nat) : IsDrive (w.drewN n) g d fp := h.keep (Nat.le_refl _) fun _ _ => rfl

theorem drive_Create {w : World} {g : Nat} {d : Dr} {fp : Nat → Prop} {N : Nat} (h : IsDrive w g d fp) (hok : d.Ok N) (name : Key) (hl : name.length ≤ 1000000) :
    Calls Tryz.prog 79 #[.pointer (some ⟨g, 0, none⟩), .string (S name)] w fun x w' => x = .returned (.int .i64 (d.create name).2) ∧ Then w g (d.create name).1 fp w' := by
  have hlt := h.lt
  generalize hW : ((w.alloc (.cells #[.pointer (some ⟨g, 0, none⟩)] 23)).alloc (.cells #[.string (S name)] 9)) = W
  have b0 : Below w.heap.size w W := by rw [← hW]; exact ((Below.refl _ _).alloc (Nat.le_refl _) _).alloc (by simp) _
  have hC : Caps W g w.heap.size (w.heap.size + 1) name fp := by
    rw [← hW]
    exact ⟨by simp [World.cell?_alloc_past, go_sem], by simp [World.cell?_alloc_past, go_sem], by simp; omega, by simp, fun hk => by have := hlt _ hk; omega, fun hk => by have := hlt _ hk; omega⟩
  have hCd : Caps W.drew g w.heap.size (w.heap.size + 1) name fp := ⟨hC.cp, hC.cn, hC.hp, hC.hn, hC.np, hC.nn⟩
  have h0 := h.below b0
  have hD : ∀ (W : World) (hW : Below w.heap.size w W) (hC : Caps W g w.heap.size (w.heap.size + 1) name fp) (e : Int) (he : e = 0 → kget d.files name = none) (hE : d.createE name = e),
      Calls Tryz.prog 142 #[.pointer (some ⟨g, 0, none⟩), .int .i64 e, .func (.func 143) #[] #[.pointer (some ⟨w.heap.size, 0, none⟩), .pointer (some ⟨w.heap.size + 1, 0, none⟩)]] W fun x w' => x = .returned (.int .i64 (d.create name).2) ∧ Then w g (d.create name).1 fp w' := by
    intro W hW hC e he hE
    unfold Dr.create
    rw [hE]
    refine (deed_any (h.below hW) hok.left.2 e 143 #[.pointer (some ⟨w.heap.size, 0, none⟩), .pointer (some ⟨w.heap.size + 1, 0, none⟩)]
      (fun W => Go.MuLone.run_callFunc_enter Tryz.func143 (by kernel_rfl) rfl _ W) (fun d => { d with files := kput d.files name ⟨[], []⟩ })
      (fun h0 _ w1 h1 h2 => create_closure h1 (hC.touch h2) hl (by rw [(may_files d 0).1]; exact hok.files) (by rw [(may_files d 0).1]; exact he h0))).mono ?_
    rintro x w2 ⟨hx, ht⟩
    exact ⟨hx, ht.of_below hW hlt⟩
  have D := hid hD
  clear hD
  obtain ⟨mb, aft, rs, hb, ha, hf, hd⟩ := h0.has
  have c0 := hb.cell 0
  simp [driveCells] at c0
  have hz : (zeroValue 175).run Tryz.prog W = .ok (.pointer none) W := by kernel_rfl
  have L := hf.map.look (t := 76) (e := 175) (by kernel_rfl) (by kernel_rfl) hz name hl
  have hf2 : OwnM Tryz.prog 9 W.drew mb (kmap FileR.blk rs) := hf.map.kept rfl
  have hz2 : (zeroValue 175).run Tryz.prog W.drew = .ok (.pointer none) W.drew := by kernel_rfl
  have L2 := hf2.look (t := 76) (e := 175) (by kernel_rfl) (by kernel_rfl) hz2 name hl
  have M2 := hf2.len (t := 76) (e := 175) (by kernel_rfl) 3
  have hk0 : kget d.files name = (kget rs name).map FileR.f := by rw [hd, kget_map]
  have hlen : (kmap FileR.blk rs).length = d.files.length := by rw [hd]; simp [kmap]
  rw [kget_map] at L L2
  rw [hlen] at M2
  have Nm := hid (drive_named (w := W) name hl)
  have hcp := hC.cp
  have hcn := hC.cn
  cases hnb : namedB name with
  | false =>
    have D1 := hid (D.out W b0 hC 1 (by simp) (by simp [Dr.createE, hnb]))
    rw [hnb] at Nm
    clear D hnb hk0 hlen M2 L L2 hz hz2 hf2 hd hf ha hb h0 hCd hC b0 h hlt hok
    go_enter Tryz.func79, Tryz.ntmps79
    go_wp2_with fail
    refine Nm.out.mono ?_
    rintro x w1 ⟨rfl, rfl⟩
    go_wp2_with fail
    refine D1.out.mono ?_
    rintro x w2 ⟨rfl, ht⟩
    go_wp2
    go_ret
    exact ⟨rfl, ht⟩
  | true =>
    rw [hnb] at Nm
    cases hk : kget rs name with
    | some r =>
      have D1 := hid (D.out W.drew b0.drew hCd 11 (by simp) (by simp [Dr.createE, hnb, hk0, hk]))
      rw [hk] at L L2
      simp [ptrOf] at L L2
      clear D hnb hk0 hlen M2 hz hz2 hf2 hd hf ha hb h0 hCd hC b0 h hlt hok hk
      go_enter Tryz.func79, Tryz.ntmps79
      go_wp2_with fail
      refine Nm.out.mono ?_
      rintro x w1 ⟨rfl, rfl⟩
      go_wp2
      go_region_held3 (fun w' => w'.cell? ⟨w.heap.size, 0, none⟩ = some (.pointer (some ⟨g, 0, none⟩)) ∧ w'.cell? ⟨w.heap.size + 1, 0, none⟩ = some (.string (S name)) ∧ w'.cell? ⟨g, 0, none⟩ = some (.map (some mb))) (simp [*, go_sem, World.cell?_alloc_past])
        (first | fail)
      all_goals (go_wp2_with (first | (refine D1.out.mono ?_; rintro x w2 ⟨rfl, ht⟩)); go_wp2; go_ret; exact ⟨rfl, ht⟩)
    | none =>
      rw [hk] at L L2
      simp [ptrOf] at L L2
      by_cases hm : 65536 ≤ d.files.length
      · have D1 := hid (D.out W.drew b0.drew hCd 12 (by simp) (by simp [Dr.createE, hnb, hk0, hk, hm]))
        have hm2 : (65536 : Int) ≤ (d.files.length : Nat) := by omega
        clear D hnb hk0 hlen hz hz2 hf2 hd hf ha hb h0 hCd hC b0 h hlt hok hk hm
        go_enter Tryz.func79, Tryz.ntmps79
        go_wp2_with fail
        refine Nm.out.mono ?_
        rintro x w1 ⟨rfl, rfl⟩
        go_wp2
        go_region_held3 (fun w' => w'.cell? ⟨w.heap.size, 0, none⟩ = some (.pointer (some ⟨g, 0, none⟩)) ∧ w'.cell? ⟨w.heap.size + 1, 0, none⟩ = some (.string (S name)) ∧ w'.cell? ⟨g, 0, none⟩ = some (.map (some mb))) (simp [*, go_sem, World.cell?_alloc_past])
          (first | fail)
        all_goals (go_wp2_with (first | (refine D1.out.mono ?_; rintro x w2 ⟨rfl, ht⟩)); go_wp2; go_ret; exact ⟨rfl, ht⟩)
      · have D1 := hid (D.out W.drew b0.drew hCd 0 (by simp [hk0, hk]) (by simp [Dr.createE, hnb, hk0, hk, hm]))
        have hm2 : decide ((65536 : Int) ≤ (d.files.length : Nat)) = false := decide_eq_false (by omega)
        generalize d.files.length = n0 at hm2 M2
        clear D hnb hk0 hlen hz hz2 hf2 hd hf ha hb h0 hCd hC b0 h hlt hok hk hm
        go_enter Tryz.func79, Tryz.ntmps79
        go_wp2_with fail
        refine Nm.out.mono ?_
        rintro x w1 ⟨rfl, rfl⟩
        go_wp2
        go_region_held3 (fun w' => w'.cell? ⟨w.heap.size, 0, none⟩ = some (.pointer (some ⟨g, 0, none⟩)) ∧ w'.cell? ⟨w.heap.size + 1, 0, none⟩ = some (.string (S name)) ∧ w'.cell? ⟨g, 0, none⟩ = some (.map (some mb))) (simp [*, go_sem, World.cell?_alloc_past])
          (first | fail)
        all_goals go_wp2_with fail
        all_goals (refine D1.out.mono ?_; rintro x w2 ⟨rfl, ht⟩; go_wp2; go_ret; exact ⟨rfl, ht⟩)
end Go.Proofs.YtiabfngiibabcaaGreatDoor

set_option linter.unusedVariables false
set_option linter.unusedSimpArgs false
set_option maxHeartbeats 1600000
set_option maxRecDepth 100000
attribute [local go_sem ↓] Go.wp_at_zero Go.wp_at_succ
namespace Go.Proofs.YtiabfngiibabcaaGreatDoor
open Go.RowKit

theorem sync_walk {w : World} {g mb pb nb fb : Nat} {name : Key} (cp : w.cell? ⟨pb, 0, none⟩ = some (.pointer (some ⟨g, 0, none⟩))) (cn : w.cell? ⟨nb, 0, none⟩ = some (.string (S name))) (cg : w.cell? ⟨g, 0, none⟩ = some (.map (some mb)))
    (L : (Instr.lookup 76 (.map (some mb)) (.string (S name)) false).run Tryz.prog w.drew = .ok (.pointer (some ⟨fb, 0, none⟩)) w.drew) (R : World → Prop)
    (hA : Calls Tryz.prog 123 #[.pointer (some ⟨fb, 0, none⟩)] w.drew fun e w1 => ∃ A n c, e = .returned (.slice A n c) ∧ pb < w1.heap.size ∧ nb < w1.heap.size ∧ g < w1.heap.size ∧
      w1.cell? ⟨pb, 0, none⟩ = some (.pointer (some ⟨g, 0, none⟩)) ∧ w1.cell? ⟨nb, 0, none⟩ = some (.string (S name)) ∧ w1.cell? ⟨g, 0, none⟩ = some (.map (some mb)) ∧
      ∃ w2, (Instr.mapUpdate 76 (.map (some mb)) (.string (S name)) (.pointer (some ⟨w1.heap.size, 0, none⟩))).run Tryz.prog (w1.alloc (.cells #[.slice A n c, .slice none 0 0] 178)) = .ok () w2 ∧
        w2.cell? ⟨pb, 0, none⟩ = some (.pointer (some ⟨g, 0, none⟩)) ∧ w2.cell? ⟨nb, 0, none⟩ = some (.string (S name)) ∧ w2.cell? ⟨g, 0, none⟩ = some (.map (some mb)) ∧ R w2) :
    Calls Tryz.prog 145 #[.pointer (some ⟨pb, 0, none⟩), .pointer (some ⟨nb, 0, none⟩)] w fun e w' => e = .returned (.tuple #[]) ∧ R w' := by
  have HA := hid hA
  clear hA
  go_enter Tryz.func145, Tryz.ntmps145
  go_wp2
  go_region_held3 (fun w' => w'.cell? ⟨pb, 0, none⟩ = some (.pointer (some ⟨g, 0, none⟩)) ∧ w'.cell? ⟨nb, 0, none⟩ = some (.string (S name)) ∧ w'.cell? ⟨g, 0, none⟩ = some (.map (some mb))) (simp [*, go_sem, World.cell?_alloc_past])
    (first | (go_at_call 123; refine HA.out.mono ?_; rintro e w1 ⟨A, n, c, rfl, q0, q1, q2, q3, q4, q5, w2, hrun, k0, k1, k2, hR⟩))
  all_goals
    go_wp2
    go_end0
    exact ⟨rfl, hR⟩

/-- A new file without pieces was put into a drive's map. -/
theorem put_new {w w1 w2 : World} {g mb : Nat} {d : Dr} {fp : Nat → Prop} {aft : Int} {rs : List (Key × FileR)} {name : Key} {v : Value} {l : List UInt8} (h : IsDrive w g d fp) (hb : Blk w g 78 (driveCells d mb aft)) (ha : 0 ≤ d.left → aft = d.left)
    (hf : HasFiles w fp mb rs) (hd : d.files = kmap FileR.f rs) (b1 : Below w.heap.size w w1) (hrow : w1.ownsRow w.heap.size 5 1 v l.length (l.map B8)) (hm2 : OwnM Tryz.prog 9 w2 mb (kput (kmap FileR.blk rs) name w1.heap.size))
    (hg2 : (w1.alloc (.cells #[v, .slice none 0 0] 178)).grownBy w2 (some mb)) (hu : ({ d with files := kput d.files name ⟨l, []⟩ } : Dr).used = d.used) : Then w g { d with files := kput d.files name ⟨l, []⟩ } fp w2 := by
  have hs1 := b1.size
  have hs2 := hg2.size
  simp at hs2
  have hmlt : mb < w.heap.size := h.lt mb hf.own
  have hglt := hb.lt
  obtain ⟨es0, cl0, hmb⟩ := hf.map.isMap
  have b2 : Below w.heap.size w (w1.alloc (.cells #[v, .slice none 0 0] 178)) := b1.alloc hs1 _
  have hblk2 : ∀ k, k < w.heap.size → k ≠ mb → w2.heap[k]? = w.heap[k]? := fun k hk hne => (hg2.block k (by simp; omega) (by simpa using hne)).trans (b2.block k hk)
  have hgm : g ≠ mb := by
    rintro rfl
    have : w.heap[g]? = _ := hb
    rw [hmb] at this
    cases this
  have hblkn : Blk w2 w1.heap.size 178 #[v, .slice none 0 0] := (hg2.block w1.heap.size (by simp) (by simp; omega)).trans (heap_alloc_new w1 _)
  have hrow2 : w2.ownsRow w.heap.size 5 1 v l.length (l.map B8) := row_keep hrow fun k hk => by
    obtain ⟨cs, hcs⟩ := row_heap hrow hk
    have hklt : k < w1.heap.size := (Array.getElem?_eq_some_iff.1 hcs).1
    have hkm : k ≠ mb := by
      rintro rfl
      rcases hrow.2 with ⟨rfl, _⟩ | ⟨g', cap, cur, rfl, hb', _⟩
      · simp [Value.ownBlock] at hk
      · have : g' = k := by simpa [Value.ownBlock] using hk
        omega
    exact (hg2.block k (by simp; omega) (by simpa using hkm)).trans (heap_alloc_old w1 _ hklt)
  have hvown : ∀ k, v.ownBlock = some k → w.heap.size ≤ k ∧ k < w2.heap.size := fun k hk => by
    obtain ⟨cs, hcs⟩ := row_heap hrow2 hk
    refine ⟨?_, (Array.getElem?_eq_some_iff.1 hcs).1⟩
    rcases hrow.2 with ⟨rfl, _⟩ | ⟨g', cap, cur, rfl, hb', _⟩
    · simp [Value.ownBlock] at hk
    · have : g' = k := by simpa [Value.ownBlock] using hk
      omega
  refine ⟨fun k => fp k ∨ (w.heap.size ≤ k ∧ k < w2.heap.size), ⟨?_, .inl h.own, mb, aft, kput rs name ⟨w1.heap.size, v, .slice none 0 0, ⟨l, []⟩⟩, ?_, ha, ⟨?_, .inl hf.own, ?_, ?_⟩, ?_⟩, ⟨?_, ?_, ?_, by omega, ?_, ?_⟩⟩
  · rintro k (hk | ⟨_, hk⟩)
    · have := h.lt k hk; omega
    · exact hk
  · have : Blk w2 g 78 (driveCells d mb aft) := (hblk2 g hglt hgm).trans hb
    unfold driveCells at this ⊢
    rw [hu]
    exact this
  · rw [kmap_put]; exact hm2
  · intro p hp
    rcases mem_kput.1 hp with rfl | ⟨hp, _⟩
    · exact ⟨hblkn, .inr ⟨hs1, by show w1.heap.size < _; omega⟩, ⟨row_base hrow2 (Nat.zero_le _), fun k hk => .inr (hvown k hk)⟩, [], ⟨World.ownsRow_nil _ _ _ _, by simp [Value.ownBlock], rfl, by simp⟩⟩
    · refine (hf.each p hp).keepAll (fun k cs t h1 _ h3 => hblk2 k (h.lt k h1) ?_) (fun k hk => .inl hk)
      rintro rfl
      rw [hmb] at h3; cases h3
  · refine pairwise_kput (fun a b hab => hab.symm) hf.apart (fun p hp _ => ⟨?_, fun k hk => ?_⟩)
    · have := h.lt _ (hf.each p hp).own
      show w1.heap.size ≠ p.2.blk
      omega
    · simp [Value.ownBlock] at hk
  · rw [kmap_put, ← hd]
  · exact hg2.os.trans b2.os
  · exact hg2.tape.trans b2.tape
  · exact hg2.output.trans b2.output
  · intro k hk hnf
    refine hblk2 k hk ?_
    rintro rfl
    exact hnf hf.own
  · rintro k (hk | hk)
    · exact .inl hk
    · exact .inr hk.1
theorem used_sync {d : Dr} {name : Key} {f : File} (hr : Rising d.files) (hk : kget d.files name = some f) : ({ d with files := kput d.files name ⟨f.all, []⟩ } : Dr).used = d.used := by
  rw [Dr.used_eq, Dr.used_eq]
  show ((ksum _ (kput d.files name ⟨f.all, []⟩) : Nat) : Int) = _
  rw [ksum_put, ksum_del _ hr hk]
  simp [File.all]

theorem sync_closure {w : World} {g pb nb : Nat} {d : Dr} {fp : Nat → Prop} {name : Key} {N : Nat} (h : IsDrive w g d fp) (hok : d.Ok N) (hN : N ≤ 1000000000) (hC : Caps w g pb nb name fp) (hl : name.length ≤ 1000000) {f : File} (hk : kget d.files name = some f) :
    Calls Tryz.prog 145 #[.pointer (some ⟨pb, 0, none⟩), .pointer (some ⟨nb, 0, none⟩)] w fun e w' => e = .returned (.tuple #[]) ∧ Then w g { d with files := kput d.files name ⟨f.all, []⟩ } fp w' := by
  have hu := used_sync hok.rising hk
  obtain ⟨mb, aft, rs, hb, ha, hf, hd⟩ := h.has
  have cg := hb.cell 0
  simp [driveCells] at cg
  have hglt := hb.lt
  have hmlt : mb < w.heap.size := h.lt mb hf.own
  cases hk2 : kget rs name with
  | none =>
    rw [hd, kget_map, hk2] at hk
    cases hk
  | some r =>
    obtain ⟨hF, hk3, hp, ha2⟩ := file_get hf hd hok hN hk2
    have hfr : r.f = f := by rw [hk] at hk3; exact (Option.some.inj hk3).symm
    have hrl : (kmap FileR.blk rs).length ≤ 65536 := by
      have : d.files.length = rs.length := by rw [hd]; simp [kmap]
      have := hok.files
      simp [kmap]; omega
    have hfd : IsFile w.drew fp r := hF.keepAll (fun _ _ _ _ _ _ => rfl) (fun _ h => h)
    have A := file_all hfd hp ha2
    have hm1 : OwnM Tryz.prog 9 w.drew mb (kmap FileR.blk rs) := hf.map.kept rfl
    have hz : (zeroValue 175).run Tryz.prog w.drew = .ok (.pointer none) w.drew := by kernel_rfl
    have L := hm1.look (t := 76) (e := 175) (by kernel_rfl) (by kernel_rfl) hz name hl
    rw [kget_map, hk2] at L
    obtain ⟨es0, cl0, hmb⟩ := hf.map.isMap
    have hne : ∀ k v, w.cell? ⟨k, 0, none⟩ = some v → k ≠ mb := by
      rintro k v hk rfl
      simp [World.cell?, hmb] at hk
    refine sync_walk hC.cp hC.cn cg L (fun w' => Then w g { d with files := kput d.files name ⟨f.all, []⟩ } fp w') (A.mono ?_)
    rintro e w1 ⟨v, rfl, hrow, hb1⟩
    have hb1' : Below w.heap.size w w1 := bt (Below.refl w.heap.size w).drew hb1
    have hs1 := hb1'.size
    have hg1 : ∀ k v, k < w.heap.size → w.cell? ⟨k, 0, none⟩ = some v → w1.cell? ⟨k, 0, none⟩ = some v := fun k v hk hc => (World.cell?_of_block (a := ⟨k, 0, none⟩) (hb1'.block k hk)).trans hc
    obtain ⟨A', c', hv⟩ := row_form hrow
    subst hv
    have hm3 : OwnM Tryz.prog 9 (w1.alloc (.cells #[.slice A' r.f.all.length c', .slice none 0 0] 178)) mb (kmap FileR.blk rs) := hf.map.kept ((heap_alloc_old w1 _ (by omega)).trans (hb1'.block mb hmlt))
    obtain ⟨w2, hrun, hm2, hg2⟩ := hm3.put (t := 76) (e := 175) (by kernel_rfl) (by kernel_rfl) (by omega) name hl w1.heap.size
    have hg3 : ∀ k v, k < w.heap.size → w.cell? ⟨k, 0, none⟩ = some v → w2.cell? ⟨k, 0, none⟩ = some v := fun k v hk hc => by
      refine (World.cell?_of_block (a := ⟨k, 0, none⟩) ((hg2.block k (by simp; omega) (by simpa using hne k v hc)).trans ((heap_alloc_old w1 _ (by omega)).trans (hb1'.block k hk)))).trans hc
    refine ⟨A', _, c', rfl, Nat.lt_of_lt_of_le hC.hp hs1, Nat.lt_of_lt_of_le hC.hn hs1, Nat.lt_of_lt_of_le hglt hs1, hg1 _ _ hC.hp hC.cp, hg1 _ _ hC.hn hC.cn, hg1 _ _ hglt cg, w2, hrun, hg3 _ _ hC.hp hC.cp, hg3 _ _ hC.hn hC.cn, hg3 _ _ hglt cg, ?_⟩
    rw [hfr] at hrow hg2
    exact put_new h hb ha hf hd hb1' hrow hm2 hg2 hu
end Go.Proofs.YtiabfngiibabcaaGreatDoor

set_option linter.unusedVariables false
set_option linter.unusedSimpArgs false
set_option maxHeartbeats 1600000
set_option maxRecDepth 100000
attribute [local go_sem ↓] Go.wp_at_zero Go.wp_at_succ
namespace Go.Proofs.YtiabfngiibabcaaGreatDoor
open Go.RowKit

theorem Dr.Ok.may {N : Nat} {d : Dr} (h : d.Ok N) (e : Int) : (d.may e).1.Ok N := by
  have h1 := (may_files d e).1
  have h2 := (may_files d e).2
  refine ⟨by rw [h2]; exact h.q0, by rw [h2]; exact h.q1, by rw [Dr.used, h1]; exact h.used, by rw [h1]; exact h.files, by rw [h1]; exact h.keys, by rw [h1]; exact h.rising, by rw [h1]; exact h.few, ?_⟩
  have := h.left
  unfold Dr.may
  split
  · exact this
  · split
    · exact this
    · split
      · exact ⟨by simp, by simp⟩
      · refine ⟨?_, ?_⟩
        · show -1 ≤ if 0 ≤ d.left then d.left - 1 else -1
          split <;> omega
        · show (if 0 ≤ d.left then d.left - 1 else -1) ≤ _
          split <;> omega
theorem deed_with {w : World} {g : Nat} {d : Dr} {fp : Nat → Prop} {N : Nat} (h : IsDrive w g d fp) (hok : d.Ok N) (e : Int) (F : FuncId) (caps : Array Value) (hcf : ∀ W, (callFunc F caps).run Tryz.prog W = .ok (.enter F caps) W) (f : Dr → Dr)
    (hF : e = 0 → ∀ d1 w1, d1.files = d.files → d1.quota = d.quota → d1.Ok N → IsDrive w1 g d1 fp → Touch w w1 fp fp → Calls Tryz.prog F caps w1 fun x w2 => x = .returned (.tuple #[]) ∧ Then w1 g (f d1) fp w2) :
    Calls Tryz.prog 142 #[.pointer (some ⟨g, 0, none⟩), .int .i64 e, .func (.func F) #[] caps] w fun x w' => x = .returned (.int .i64 (d.deed e f).2) ∧ Then w g (d.deed e f).1 fp w' :=
  deed_any h hok.left.2 e F caps hcf f fun h0 _ w1 h1 h2 => hF h0 (d.may 0).1 w1 (may_files d 0).1 (may_files d 0).2 (hok.may 0) h1 h2
theorem Caps.drewN {w : World} {g pb nb : Nat} {name : Key} {fp : Nat → Prop} (h : Caps w g pb nb name fp) : Caps w.drew g pb nb name fp := ⟨h.cp, h.cn, h.hp, h.hn, h.np, h.nn⟩

theorem drive_Sync {w : World} {g : Nat} {d : Dr} {fp : Nat → Prop} {N : Nat} (h : IsDrive w g d fp) (hok : d.Ok N) (hN : N ≤ 1000000000) (name : Key) (hl : name.length ≤ 1000000) :
    Calls Tryz.prog 81 #[.pointer (some ⟨g, 0, none⟩), .string (S name)] w fun x w' => x = .returned (.int .i64 (d.sync name).2) ∧ Then w g (d.sync name).1 fp w' := by
  have hlt := h.lt
  generalize hW : ((w.alloc (.cells #[.pointer (some ⟨g, 0, none⟩)] 23)).alloc (.cells #[.string (S name)] 9)) = W
  have b0 : Below w.heap.size w W := by rw [← hW]; exact ((Below.refl _ _).alloc (Nat.le_refl _) _).alloc (by simp) _
  have hC : Caps W g w.heap.size (w.heap.size + 1) name fp := by
    rw [← hW]
    exact ⟨by simp [World.cell?_alloc_past, go_sem], by simp [World.cell?_alloc_past, go_sem], by simp; omega, by simp, fun hk => by have := hlt _ hk; omega, fun hk => by have := hlt _ hk; omega⟩
  have hD : ∀ (W : World) (hW : Below w.heap.size w W) (hC : Caps W g w.heap.size (w.heap.size + 1) name fp),
      Calls Tryz.prog 142 #[.pointer (some ⟨g, 0, none⟩), .int .i64 (d.thereE name), .func (.func 145) #[] #[.pointer (some ⟨w.heap.size, 0, none⟩), .pointer (some ⟨w.heap.size + 1, 0, none⟩)]] W fun x w' => x = .returned (.int .i64 (d.sync name).2) ∧ Then w g (d.sync name).1 fp w' ∧ w'.cell? ⟨w.heap.size, 0, none⟩ = some (.pointer (some ⟨g, 0, none⟩)) ∧ w'.cell? ⟨w.heap.size + 1, 0, none⟩ = some (.string (S name)) := by
    intro W hW hC
    refine (deed_with (h.below hW) hok (d.thereE name) 145 #[.pointer (some ⟨w.heap.size, 0, none⟩), .pointer (some ⟨w.heap.size + 1, 0, none⟩)]
      (fun W => Go.MuLone.run_callFunc_enter Tryz.func145 (by kernel_rfl) rfl _ W) (fun d => { d with files := kput d.files name ⟨(fileOf d name).all, []⟩ })
      (fun h0 d1 w1 e1 e2 ok1 h1 h2 => ?_)).mono ?_
    · cases hk : kget d.files name with
      | none => simp [Dr.thereE, hk] at h0
      | some f =>
        have hk1 : kget d1.files name = some f := by rw [e1]; exact hk
        have hfo : fileOf d1 name = f := by simp [fileOf, hk1]
        simp only [hfo]
        exact sync_closure h1 ok1 hN (hC.touch h2) hl hk1
    · rintro x w2 ⟨hx, ht⟩
      obtain ⟨fp', ht1, ht2⟩ := ht
      have hC2 := hC.touch ht2
      exact ⟨hx, Then.of_below hW ⟨fp', ht1, ht2⟩ hlt, hC2.cp, hC2.cn⟩
  have D := hid (hD W.drew b0.drew hC.drewN)
  clear hD
  have h1 : IsDrive W.drew g d fp := h.below b0.drew
  have T := hid (drive_there h1 name hl)
  have hcp := hC.cp
  have hcn := hC.cn
  clear h1 hC b0 hlt hok h
  generalize hE : d.thereE name = e at D T
  clear hE
  go_enter Tryz.func81, Tryz.ntmps81
  go_wp2
  go_region_held3 (fun w' => w'.cell? ⟨w.heap.size, 0, none⟩ = some (.pointer (some ⟨g, 0, none⟩)) ∧ w'.cell? ⟨w.heap.size + 1, 0, none⟩ = some (.string (S name))) (simp [*, go_sem, World.cell?_alloc_past])
    (first | (go_at_call 144; refine T.out.mono ?_; rintro x w1 ⟨rfl, rfl⟩) | (go_at_call 142; refine D.out.mono ?_; rintro x w2 ⟨rfl, ht, k0, k1⟩))
  all_goals
    go_wp2
    go_ret
    exact ⟨rfl, ht⟩
end Go.Proofs.YtiabfngiibabcaaGreatDoor
