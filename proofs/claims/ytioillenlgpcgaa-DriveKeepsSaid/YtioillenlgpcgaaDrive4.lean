/- Walks of package drive: Read, Create. -/
import Derived.Test.YtioillenlgpcgaaAll
set_option linter.unusedVariables false
set_option linter.unusedSimpArgs false
set_option maxHeartbeats 1600000
set_option maxRecDepth 100000
attribute [local go_sem ↓] Go.wp_at_zero Go.wp_at_succ
namespace Go.Proofs.Ytioillenlgpcgaa
open Go.RowKit

theorem used_all {d : Dr} {name : Key} {f : File} (h : kget d.files name = some f) : (f.all.length : Int) ≤ d.used := by
  have hm := kget_some h
  unfold Dr.used
  have : ∀ (l : List (Key × File)), (name, f) ∈ l → f.all.length ≤ (l.map fun p => p.2.all.length).sum := by
    intro l hl
    induction l with
    | nil => simp at hl
    | cons p l ih =>
      rcases List.mem_cons.1 hl with h | h
      · subst h; simp
      · have := ih h
        simp; omega
  have := this d.files hm
  omega
theorem file_get {w : World} {fp : Nat → Prop} {mb : Nat} {d : Dr} {rs : List (Key × FileR)} {name : Key} {r : FileR} {N : Nat} (hf : HasFiles w fp mb rs) (hd : d.files = kmap FileR.f rs) (hok : d.Ok N) (hN : N ≤ 1000000000) (hk : kget rs name = some r) :
    IsFile w fp r ∧ kget d.files name = some r.f ∧ r.f.pieces.length ≤ 1000000000 ∧ r.f.all.length ≤ 1000000000000 := by
  have h1 : kget d.files name = some r.f := by rw [hd, kget_map, hk]; rfl
  have h2 := used_all h1
  have h3 := hok.used
  have h4 : r.f.pieces.length ≤ N := hok.few _ (kget_some h1)
  exact ⟨hf.each _ (kget_some hk), h1, by omega, by omega⟩

def ReadPost (w : World) (d : Dr) (name : Key) (e : Ending) (w' : World) : Prop := ∃ v, e = .returned (.tuple #[v, .int .i64 (d.readE name)]) ∧ w'.ownsRow w.heap.size 5 1 v (d.read name).length ((d.read name).map B8) ∧ Below w.heap.size w w'

theorem drive_Read {w : World} {g : Nat} {d : Dr} {fp : Nat → Prop} {N : Nat} (h : IsDrive w g d fp) (hok : d.Ok N) (hN : N ≤ 1000000000) (name : Key) (hl : name.length ≤ 1000000) : Calls Try.prog 16 #[.pointer (some ⟨g, 0, none⟩), .string (S name)] w (ReadPost w d name) := by
  have T := hid (drive_there h name hl)
  obtain ⟨mb, aft, rs, hb, ha, hf, hd⟩ := h.has
  have c0 := hb.cell 0
  have c4 := hb.cell 4
  simp [driveCells] at c0 c4
  have hz : (zeroValue 64).run Try.prog w = .ok (.pointer none) w := by kernel_rfl
  have L := hf.map.look (t := 58) (e := 64) (by kernel_rfl) (by kernel_rfl) hz name hl
  rw [kget_map] at L
  cases hdn : d.down with
  | true =>
    have H := hid (show ReadPost w d name (.returned (.tuple #[.slice none 0 0, .int .i64 13])) w from ⟨.slice none 0 0, by simp [Dr.readE, hdn], by simp [Dr.read, Dr.readE, hdn]; exact World.ownsRow_nil _ _ _ _, Below.refl _ _⟩)
    rw [hdn] at c4
    clear hdn hz L hb ha hf hd h
    go_enter Try.func16, Try.ntmps16
    go_wp2
    go_ret2
    exact H.out
  | false =>
    rw [hdn] at c4
    cases hk : kget rs name with
    | none =>
      have hk2 : kget d.files name = none := by rw [hd, kget_map, hk]; rfl
      have H := hid (show ReadPost w d name (.returned (.tuple #[.slice none 0 0, .int .i64 10])) w from ⟨.slice none 0 0, by simp [Dr.readE, Dr.thereE, hdn, hk2], by simp [Dr.read, Dr.readE, Dr.thereE, hdn, hk2]; exact World.ownsRow_nil _ _ _ _, Below.refl _ _⟩)
      rw [show d.thereE name = 10 by simp [Dr.thereE, hk2]] at T
      clear hdn hz L hb ha hf hd h hk hk2
      go_enter Try.func16, Try.ntmps16
      go_wp2_with fail
      refine T.out.mono ?_
      rintro e w1 ⟨rfl, rfl⟩
      go_wp2
      go_ret2
      exact H.out
    | some r =>
      obtain ⟨hF, hk2, hp, ha2⟩ := file_get hf hd hok hN hk
      have A := hid (file_all hF hp ha2)
      have H := hid (show ∀ v w', w'.ownsRow w.heap.size 5 1 v r.f.all.length (r.f.all.map B8) → Below w.heap.size w w' → ReadPost w d name (.returned (.tuple #[v, .int .i64 0])) w' from fun v w' h1 h2 => ⟨v, by simp [Dr.readE, Dr.thereE, hdn, hk2], by simpa [Dr.read, Dr.readE, Dr.thereE, hdn, hk2, fileOf] using h1, h2⟩)
      rw [show d.thereE name = 0 by simp [Dr.thereE, hk2]] at T
      rw [hk] at L
      simp [ptrOf] at L
      clear hdn hz hb ha hf hd h hk hk2 hF hp ha2
      go_enter Try.func16, Try.ntmps16
      go_wp2_with fail
      refine T.out.mono ?_
      rintro e w1 ⟨rfl, rfl⟩
      go_wp2_with fail
      refine A.out.mono ?_
      rintro e w2 ⟨v, rfl, ho, hb2⟩
      go_wp2
      go_ret2
      exact H.out _ _ ho hb2
end Go.Proofs.Ytioillenlgpcgaa
