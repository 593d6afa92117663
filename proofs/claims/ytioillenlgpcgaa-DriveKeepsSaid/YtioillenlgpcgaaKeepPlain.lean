/- One's own file on a drive, whatever is asked of other files. Plain. -/
import Derived.Test.YtioillenlgpcgaaDBMore
set_option linter.unusedVariables false
set_option linter.unusedSimpArgs false
namespace Go.Proofs.Ytioillenlgpcgaa
open Go.RowKit

def mineK : Key := [109, 105, 110, 101]
structure MineSt (d : Dr) (s : List UInt8) (ps : List (List UInt8)) : Prop where
  files : d.files = [(mineK, ⟨s, ps⟩)]
  quota : d.quota = 100000
  down : d.down = false
  left : d.left = -1
theorem may_live {d : Dr} (h1 : d.down = false) (h2 : d.left = -1) : d.may 0 = ({ d with left := -1, deeds := wrap1 d.deeds }, 0) := by
  unfold Dr.may
  rw [h1, h2]
  rfl
theorem MineSt.get {d : Dr} {s : List UInt8} {ps : List (List UInt8)} (h : MineSt d s ps) : kget d.files mineK = some ⟨s, ps⟩ := by
  rw [h.files]
  rfl
theorem MineSt.there {d : Dr} {s : List UInt8} {ps : List (List UInt8)} (h : MineSt d s ps) : d.thereE mineK = 0 := by
  unfold Dr.thereE
  rw [h.get]
  rfl
theorem mine_create : MineSt ((Dr.new 100000).create mineK).1 [] [] := by
  have he : (Dr.new 100000).createE mineK = 0 := by
    unfold Dr.createE
    rw [if_neg (by decide)]
    rfl
  have h : (Dr.new 100000).create mineK = ({ ({ (Dr.new 100000) with left := -1, deeds := wrap1 (Dr.new 100000).deeds } : Dr) with files := kput (Dr.new 100000).files mineK ⟨[], []⟩ }, 0) := by
    unfold Dr.create Dr.deed
    rw [he, may_live rfl rfl]
    rfl
  rw [h]
  exact ⟨rfl, rfl, rfl, rfl⟩
theorem mine_append {d : Dr} {s : List UInt8} {ps : List (List UInt8)} (h : MineSt d s ps) (data : List UInt8) (hsz : s.length + ps.flatten.length + data.length ≤ 100000) : MineSt (d.append mineK data).1 s (ps ++ [data]) := by
  have hu : d.used = ((s.length + ps.flatten.length : Nat) : Int) := by
    unfold Dr.used
    rw [h.files]
    simp [File.all]
  have he : d.appendE mineK data.length = 0 := by
    unfold Dr.appendE
    rw [if_neg (fun hx => by have := hx.2; rw [hu, h.quota] at this; omega), h.there]
  have hf : fileOf ({ d with left := -1, deeds := wrap1 d.deeds } : Dr) mineK = ⟨s, ps⟩ := by
    show (kget d.files mineK).getD _ = _
    rw [h.get]
    rfl
  have e : d.append mineK data = ({ ({ d with left := -1, deeds := wrap1 d.deeds } : Dr) with files := kset d.files mineK ⟨s, ps ++ [data]⟩ }, 0) := by
    unfold Dr.append Dr.deed
    rw [he, may_live h.down h.left]
    simp only [if_true]
    rw [hf]
  rw [e]
  refine ⟨?_, h.quota, h.down, rfl⟩
  show kset d.files mineK _ = _
  rw [h.files]
  rfl
theorem mine_sync {d : Dr} {s : List UInt8} {ps : List (List UInt8)} (h : MineSt d s ps) : MineSt (d.sync mineK).1 (s ++ ps.flatten) [] := by
  have hf : fileOf ({ d with left := -1, deeds := wrap1 d.deeds } : Dr) mineK = ⟨s, ps⟩ := by
    show (kget d.files mineK).getD _ = _
    rw [h.get]
    rfl
  have e : d.sync mineK = ({ ({ d with left := -1, deeds := wrap1 d.deeds } : Dr) with files := kput d.files mineK ⟨s ++ ps.flatten, []⟩ }, 0) := by
    unfold Dr.sync Dr.deed
    rw [h.there, may_live h.down h.left]
    simp only [if_true]
    rw [hf]
    rfl
  rw [e]
  refine ⟨?_, h.quota, h.down, rfl⟩
  show kput d.files mineK _ = _
  rw [h.files]
  rfl

def KeepSt (d : Dr) (s : List UInt8) (ps : List (List UInt8)) (gn : Bool) : Prop :=
  kget d.files mineK = some ⟨s, ps⟩ ∨ (gn = true ∧ ∃ j, j ≤ ps.length ∧ kget d.files mineK = some ⟨s ++ (ps.take j).flatten, []⟩)
theorem KeepSt.same {d d' : Dr} {s : List UInt8} {ps : List (List UInt8)} {gn gn' : Bool} (h : KeepSt d s ps gn) (hk : kget d'.files mineK = kget d.files mineK) (hg : gn = true → gn' = true) : KeepSt d' s ps gn' := by
  unfold KeepSt
  rw [hk]
  rcases h with h | ⟨h1, h2⟩
  · exact .inl h
  · exact .inr ⟨hg h1, h2⟩
theorem kget_cons {α : Type} (p : Key × α) (m : List (Key × α)) (k : Key) : kget (p :: m) k = if p.1 = k then some p.2 else kget m k := by
  unfold kget
  rw [List.find?_cons]
  by_cases h : p.1 = k
  · rw [if_pos h, beq_iff_eq.2 h]; rfl
  · rw [if_neg h, (by simpa using h : (p.1 == k) = false)]
theorem kget_upF (keep : List Int) (k : Key) : ∀ (m : List (Key × File)) (i : Nat), ∃ i', kget (upF keep i m) k = (kget m k).map fun f => if f.pieces = [] then f else cutF keep i' f
  | [], i => ⟨0, rfl⟩
  | p :: r, i => by
    unfold upF
    by_cases hp : p.2.pieces = []
    · rw [if_pos hp]
      obtain ⟨i', hi⟩ := kget_upF keep k r i
      refine ⟨i', ?_⟩
      rw [kget_cons, kget_cons]
      by_cases hk : p.1 = k
      · rw [if_pos hk, if_pos hk, Option.map_some, if_pos hp]
      · rw [if_neg hk, if_neg hk, hi]
    · rw [if_neg hp]
      by_cases hk : p.1 = k
      · refine ⟨i, ?_⟩
        rw [kget_cons, kget_cons, if_pos hk, if_pos hk, Option.map_some, if_neg hp]
      · obtain ⟨i', hi⟩ := kget_upF keep k r (i + 1)
        refine ⟨i', ?_⟩
        rw [kget_cons, kget_cons, if_neg hk, if_neg hk, hi]
theorem keep_up {d : Dr} {s : List UInt8} {ps : List (List UInt8)} {gn : Bool} (h : KeepSt d s ps gn) (keep : List Int) : KeepSt (d.up keep) s ps (gn || d.down) := by
  unfold Dr.up
  cases hd : d.down with
  | false => exact h.same rfl (by simp)
  | true =>
    obtain ⟨i', hi⟩ := kget_upF keep mineK d.files 0
    simp only [if_true, Bool.or_true]
    rcases h with h | ⟨h1, j, hj, h⟩
    · rw [h, Option.map_some] at hi
      by_cases hp : ps = []
      · left
        show kget (upF keep 0 d.files) mineK = _
        rw [hi, if_pos hp]
      · refine .inr ⟨rfl, keptN keep i' ps.length, keptN_le _ _ _, ?_⟩
        show kget (upF keep 0 d.files) mineK = _
        rw [hi, if_neg hp]
        rfl
    · rw [h, Option.map_some] at hi
      refine .inr ⟨rfl, j, hj, ?_⟩
      show kget (upF keep 0 d.files) mineK = _
      rw [hi, if_pos rfl]
theorem deed_get {d : Dr} {e : Int} {f : Dr → Dr} {k : Key} (hf : ∀ d1 : Dr, d1.files = d.files → kget (f d1).files k = kget d1.files k) : kget (d.deed e f).1.files k = kget d.files k := by
  rcases deed_cases d e f with ⟨he, d1, h1, h2, h3, h4, -, -⟩ | ⟨h1, h2, h3⟩
  · rw [h1, ← h2]
    exact hf d1 h2
  · rw [h1]
theorem keep_does {d : Dr} {N : Nat} (hok : d.Ok N) {s : List UInt8} {ps : List (List UInt8)} {gn : Bool} (h : KeepSt d s ps gn) (x : VDeed) (h7 : x.kind ≠ 7) (ha : x.a.take 70 ≠ mineK) (hb : x.b.take 70 ≠ mineK) :
    KeepSt (doD d x) s ps (gn || (x.kind == 6 && d.down)) := by
  have hr := hok.rising
  have hor : gn = true → (gn || (x.kind == 6 && d.down)) = true := fun h => by rw [h]; rfl
  have ha' := Ne.symm ha
  have hb' := Ne.symm hb
  unfold doD
  split
  · exact h.same (deed_get fun d1 h1 => kget_put_other (by rw [h1]; exact hr) _ ha') hor
  · split
    · exact h.same (deed_get fun d1 h1 => kget_set_other (by rw [h1]; exact hr) _ ha') hor
    · split
      · exact h.same (deed_get fun d1 h1 => kget_put_other (by rw [h1]; exact hr) _ ha') hor
      · split
        · exact h.same (deed_get fun d1 h1 => (kget_put_other (Rising.del (by rw [h1]; exact hr) _) _ hb').trans (kget_del_other (by rw [h1]; exact hr) ha')) hor
        · split
          · exact h.same (deed_get fun d1 h1 => kget_del_other (by rw [h1]; exact hr) ha') hor
          · split
            · exact h.same rfl hor
            · split
              · rename_i h6
                rw [h6]
                exact keep_up h x.keep
              · exact h.same rfl hor
def mayL (s : List UInt8) (ps : List (List UInt8)) : List (List UInt8) := (List.range (ps.length + 1)).map fun j => s ++ (ps.take j).flatten
theorem mayL_nil (s : List UInt8) : mayL s [] = [s] := by simp [mayL]
theorem mayL_len (s : List UInt8) (ps : List (List UInt8)) : (mayL s ps).length = ps.length + 1 := by simp [mayL]
theorem mayL_snoc (s : List UInt8) (ps : List (List UInt8)) (p : List UInt8) : mayL s (ps ++ [p]) = mayL s ps ++ [s ++ ps.flatten ++ p] := by
  unfold mayL
  rw [List.length_append, List.length_singleton, List.range_succ, List.map_append]
  congr 1
  · refine List.map_congr_left fun j hj => ?_
    rw [List.mem_range] at hj
    rw [List.take_append_of_le_length (by omega)]
  · have h : (ps ++ [p]).take (ps.length + 1) = ps ++ [p] := List.take_of_length_le (by simp)
    rw [List.map_singleton, h]
    simp
theorem up_alive (d : Dr) (keep : List Int) : (d.up keep).down = false := by
  unfold Dr.up
  split
  · rfl
  · rename_i hd
    simpa using hd
theorem keep_read {d : Dr} {s : List UInt8} {ps : List (List UInt8)} {gn : Bool} (h : KeepSt d s ps gn) (hd : d.down = false) : d.readE mineK = 0 ∧ (gn = false → d.read mineK = s ++ ps.flatten) ∧ ∃ j, ∃ hj : j < (mayL s ps).length, (mayL s ps)[j] = d.read mineK := by
  have gets : ∀ f, kget d.files mineK = some f → d.readE mineK = 0 ∧ d.read mineK = f.all := fun f hf => by
    have h0 : d.readE mineK = 0 := by unfold Dr.readE Dr.thereE; rw [hd, hf]; rfl
    refine ⟨h0, ?_⟩
    unfold Dr.read fileOf
    rw [if_pos h0, hf]
    rfl
  rcases h with h | ⟨h1, j, hj, h⟩
  · obtain ⟨q1, q2⟩ := gets _ h
    refine ⟨q1, fun _ => q2, ps.length, by rw [mayL_len]; omega, ?_⟩
    rw [q2]
    simp [mayL, File.all]
  · obtain ⟨q1, q2⟩ := gets _ h
    refine ⟨q1, (fun h0 => by rw [h0] at h1; cases h1), j, by rw [mayL_len]; omega, ?_⟩
    rw [q2]
    simp [mayL, File.all]
end Go.Proofs.Ytioillenlgpcgaa
