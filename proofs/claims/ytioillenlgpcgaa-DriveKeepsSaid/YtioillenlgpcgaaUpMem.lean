/- The power is there again, in plain Lean. The power is there again: what a round leaves in memory. The power is there again: a round's facts. -/
import Derived.Test.YtioillenlgpcgaaDrOk
import Derived.Test.YtioillenlgpcgaaDrive11
import Derived.Test.YtioillenlgpcgaaDrive4
set_option linter.unusedVariables false
set_option linter.unusedSimpArgs false
namespace Go.Proofs.Ytioillenlgpcgaa
open Go.RowKit Go.WideMaps Go.ChangeMaps Go.WideAt Go.WideShapes

/-- How many of so many pieces the i-th file keeps. -/
def keptN (keep : List Int) (i many : Nat) : Nat :=
  match keep[i % keep.length]? with
  | none => 0
  | some n => ((if n < 0 then -(n + 1) else n) % ((many : Int) + 1)).toNat
theorem keptN_le (keep : List Int) (i many : Nat) : keptN keep i many ≤ many := by
  unfold keptN
  split
  · omega
  · rename_i n _
    have h1 : 0 ≤ (if n < 0 then -(n + 1) else n) % ((many : Int) + 1) := Int.emod_nonneg _ (by omega)
    have h2 : (if n < 0 then -(n + 1) else n) % ((many : Int) + 1) < (many : Int) + 1 := Int.emod_lt_of_pos _ (by omega)
    omega
def cutF (keep : List Int) (i : Nat) (f : File) : File := ⟨f.safe ++ (f.pieces.take (keptN keep i f.pieces.length)).flatten, []⟩
def upF (keep : List Int) : Nat → List (Key × File) → List (Key × File)
  | _, [] => []
  | i, p :: r => if p.2.pieces = [] then p :: upF keep i r else (p.1, cutF keep i p.2) :: upF keep (i + 1) r
def Dr.up (d : Dr) (keep : List Int) : Dr := if d.down then { d with down := false, left := -1, files := upF keep 0 d.files } else { d with left := -1 }

theorem flatten_take_le (l : List (List UInt8)) (n : Nat) : (l.take n).flatten.length ≤ l.flatten.length := by
  have h : l.flatten = (l.take n).flatten ++ (l.drop n).flatten := by rw [← List.flatten_append, List.take_append_drop]
  rw [h, List.length_append]
  omega
theorem cutF_le (keep : List Int) (i : Nat) (f : File) : (cutF keep i f).all.length ≤ f.all.length := by
  have := flatten_take_le f.pieces (keptN keep i f.pieces.length)
  simp [cutF, File.all] at this ⊢
  omega
theorem keys_upF (keep : List Int) (m : List (Key × File)) : ∀ i, (upF keep i m).map (·.1) = m.map (·.1) := by
  induction m with
  | nil => intro i; rfl
  | cons p r ih =>
    intro i
    unfold upF
    split
    · simp [ih]
    · simp [ih]
theorem sum_upF (keep : List Int) (m : List (Key × File)) : ∀ i, ksum (fun f : File => f.all.length) (upF keep i m) ≤ ksum (fun f : File => f.all.length) m := by
  induction m with
  | nil => intro i; exact Nat.le_refl _
  | cons p r ih =>
    intro i
    unfold upF
    split
    · have := ih i
      simp only [ksum, List.map_cons, List.sum_cons] at this ⊢
      omega
    · have := ih (i + 1)
      have h2 := cutF_le keep i p.2
      simp only [ksum, List.map_cons, List.sum_cons] at this ⊢
      omega
theorem few_upF (keep : List Int) (m : List (Key × File)) (N : Nat) (h : ∀ p ∈ m, p.2.pieces.length ≤ N) : ∀ i, ∀ p ∈ upF keep i m, p.2.pieces.length ≤ N := by
  induction m with
  | nil => intro i p hp; simp [upF] at hp
  | cons q r ih =>
    intro i p hp
    have h1 := ih (fun p hp => h p (by simp [hp]))
    unfold upF at hp
    split at hp
    · rcases List.mem_cons.1 hp with rfl | hp
      · exact h _ (by simp)
      · exact h1 _ _ hp
    · rcases List.mem_cons.1 hp with rfl | hp
      · simp [cutF]
      · exact h1 _ _ hp
theorem rising_keys {α β : Type} {m : List (Key × α)} {m' : List (Key × β)} (h : m'.map (·.1) = m.map (·.1)) (hr : Rising m) : Rising m' := by
  have h1 : (m.map (·.1)).Pairwise fun a b => bytesBefore a b = true := List.pairwise_map.2 hr
  rw [← h] at h1
  exact List.pairwise_map.1 h1
theorem Dr.Ok.up {N : Nat} {d : Dr} (h : d.Ok N) (keep : List Int) : (d.up keep).Ok N := by
  unfold Dr.up
  split
  · have hk := keys_upF keep d.files 0
    refine ⟨h.q0, h.q1, ?_, ?_, ?_, rising_keys hk h.rising, few_upF keep d.files N h.few 0, ⟨by simp, by simp⟩⟩
    · have := sum_upF keep d.files 0
      have hu := h.used
      rw [Dr.used_eq] at hu ⊢
      simp only at *
      omega
    · have := congrArg List.length hk
      simp at this
      have hf := h.files
      simp only
      omega
    · intro p hp
      have : p.1 ∈ d.files.map (·.1) := by
        rw [← hk]
        exact List.mem_map_of_mem hp
      obtain ⟨q, hq, he⟩ := List.mem_map.1 this
      rw [← he]
      exact h.keys q hq
  · exact ⟨h.q0, h.q1, h.used, h.files, h.keys, h.rising, h.few, ⟨by simp, by simp⟩⟩

/-- What stands in the middle is put anew. -/
theorem kput_mid {α : Type} (a b : List (Key × α)) (k : Key) (v u : α) (h : Rising (a ++ (k, v) :: b)) : kput (a ++ (k, v) :: b) k u = a ++ (k, u) :: b := by
  induction a with
  | nil =>
    have h1 := List.pairwise_cons.1 h.ne
    have hd : kdel ((k, v) :: b) k = b := by
      unfold kdel
      simp only [List.filter_cons, beq_self_eq_true, Bool.not_true]
      rw [if_neg (by simp), List.filter_eq_self]
      intro p hp
      have := h1.1 p hp
      simpa using Ne.symm this
    show kins k u (kdel ((k, v) :: b) k) = (k, u) :: b
    rw [hd]
    have h2 := List.pairwise_cons.1 h
    cases b with
    | nil => rfl
    | cons y r =>
      unfold kins
      rw [if_pos (h2.1 y (by simp))]
  | cons x a ih =>
    have h2 := List.pairwise_cons.1 h
    have h3 := List.pairwise_cons.1 h.ne
    have hx : bytesBefore x.1 k = true := h2.1 (k, v) (by simp)
    have hne : x.1 ≠ k := h3.1 (k, v) (by simp)
    have hd : kdel (x :: (a ++ (k, v) :: b)) k = x :: kdel (a ++ (k, v) :: b) k := by
      unfold kdel
      rw [List.filter_cons, if_pos (by simpa using hne)]
    have hno : ¬ bytesBefore k x.1 = true := fun hc => by
      have := bytes_trans _ _ _ hx hc
      rw [bytes_irrefl] at this
      cases this
    show kins k u (kdel (x :: (a ++ (k, v) :: b)) k) = x :: (a ++ (k, u) :: b)
    rw [hd]
    show (if bytesBefore k x.1 then _ else x :: kins k u (kdel (a ++ (k, v) :: b) k)) = _
    rw [if_neg hno]
    congr 1
    exact ih h2.2
theorem kget_mid {α : Type} (a b : List (Key × α)) (k : Key) (v : α) (h : Rising (a ++ (k, v) :: b)) : kget (a ++ (k, v) :: b) k = some v := kget_of_mem h (by simp)
end Go.Proofs.Ytioillenlgpcgaa

set_option linter.unusedVariables false
set_option linter.unusedSimpArgs false
set_option maxHeartbeats 800000
set_option maxRecDepth 100000
namespace Go.Proofs.Ytioillenlgpcgaa
open Go.RowKit

/-- A file whose pieces were cut in place. -/
theorem IsFile.cut {w : World} {fp : Nat → Prop} {r : FileR} (h : IsFile w fp r) (k : Nat) (hk : k ≤ r.f.pieces.length) {b n2 c2 : Nat} (hpv : r.pv = .slice (some ⟨b, 0, none⟩) n2 c2) :
    IsFile (w.setCell ⟨r.blk, 1, none⟩ (.slice (some ⟨b, 0, none⟩) k c2)) fp ⟨r.blk, r.sv, .slice (some ⟨b, 0, none⟩) k c2, ⟨r.f.safe, r.f.pieces.take k⟩⟩ := by
  have hfb : w.heap[r.blk]? = some (.cells #[r.sv, r.pv] 68 (0, 0)) := h.blk
  have hty : ∀ (k' : Nat) (cs : Array Value) (t : TypeId), t ≠ 68 → w.heap[k']? = some (.cells cs t (0, 0)) → (w.setCell ⟨r.blk, 1, none⟩ (.slice (some ⟨b, 0, none⟩) k c2)).heap[k']? = w.heap[k']? := fun k' cs t ht hc => by
    refine set_other _ _ _ _ k' ?_
    rintro rfl
    rw [hfb] at hc
    injection hc with hc
    injection hc with _ hc
    exact ht hc.symm
  have hu8 : ∀ (k' : Nat) (cs : Array Value), fp k' → w.heap[k']? = some (.cells cs 5 (0, 0)) → (w.setCell ⟨r.blk, 1, none⟩ (.slice (some ⟨b, 0, none⟩) k c2)).heap[k']? = w.heap[k']? := fun k' cs _ hc => hty k' cs _ (by decide) hc
  obtain ⟨vs, hv⟩ := h.pieces
  refine ⟨?_, h.own, h.safe.keep hu8 (fun _ h => h), vs.take k, ?_, ?_, ?_, ?_⟩
  · have := h.blk.set_ 1 (.slice (some ⟨b, 0, none⟩) k c2)
    exact this
  · rcases hv.row.2 with ⟨h1, _⟩ | ⟨g, cap, cur, h1, hb, hh, hnc, hm, hsz, htk⟩
    · rw [hpv] at h1; simp at h1
    · rw [hpv] at h1
      simp only [Value.slice.injEq, Option.some.injEq] at h1
      obtain ⟨h1, rfl, rfl⟩ := h1
      injection h1 with h1
      subst h1
      have hlen : (r.f.pieces.take k).length = k := by simp; omega
      refine ⟨?_, .inr ⟨b, c2, cur, by rw [hlen], Nat.zero_le _, (hty b cur _ (by decide) hh).trans hh, by rw [hlen]; omega, hm, hsz, ?_⟩⟩
      · rw [hlen]
        simp [hv.len]
        omega
      · rw [hlen, ← htk, List.take_take]
        congr 1
        omega
  · intro k' hk'
    refine hv.own k' ?_
    rw [hpv]
    exact hk'
  · simp [hv.len]
  · intro i hi
    have hi' : i < k ∧ i < r.f.pieces.length := by simp at hi; omega
    obtain ⟨u, hu, hb⟩ := hv.each i hi'.2
    refine ⟨u, ?_, ?_⟩
    · rw [List.getElem?_take, if_pos hi'.1]; exact hu
    · have : (r.f.pieces.take k)[i] = r.f.pieces[i] := by simp
      show BytesRow _ fp u (r.f.pieces.take k)[i]
      rw [this]
      exact hb.keep hu8 (fun _ h => h)

/-- Behind a round: a file's place is taken by a new one without pieces. -/
theorem up_mem {w w2 : World} {g mb nb : Nat} {d d' : Dr} {fp : Nat → Prop} {cs : Array Value} {aft : Int} {rs : List (Key × FileR)} {name : Key} {r : FileR} {v : Value} {l : List UInt8} (h : IsDrive w g d fp) (hb : Blk w g 60 cs)
    (hf : HasFiles w fp mb rs) (hd : d.files = kmap FileR.f rs) (hr : Rising rs) (hk2 : kget rs name = some r) (hs : w.heap.size ≤ w2.heap.size) (hos : w2.os = w.os) (htape : w2.tape = w.tape) (hout : w2.output = w.output)
    (hkeep : ∀ k, k < w.heap.size → k ≠ mb → k ≠ g → k ≠ r.blk → w2.heap[k]? = w.heap[k]?) (hnb : w.heap.size ≤ nb) (hblkn : Blk w2 nb 68 #[v, .slice none 0 0]) (hrow : w2.ownsRow w.heap.size 5 1 v l.length (l.map B8))
    (hm2 : OwnM Try.prog 9 w2 mb (kput (kmap FileR.blk rs) name nb)) (hB2 : Blk w2 g 60 (driveCells d' mb aft)) (ha : 0 ≤ d'.left → aft = d'.left) (hd' : d'.files = kput d.files name ⟨l, []⟩) : Then w g d' fp w2 := by
  have hmem := kget_some hk2
  have hF := hf.each _ hmem
  simp only at hF
  obtain ⟨es0, cl0, hmb⟩ := hf.map.isMap
  have hb' : w.heap[g]? = some (.cells cs 60 (0, 0)) := hb
  have hfb' : w.heap[r.blk]? = some (.cells #[r.sv, r.pv] 68 (0, 0)) := hF.blk
  have hty : ∀ {k : Nat} {c1 c2 : Array Value} {t1 t2 : TypeId}, w.heap[k]? = some (.cells c1 t1 (0, 0)) → w.heap[k]? = some (.cells c2 t2 (0, 0)) → t1 = t2 := by
    intro k c1 c2 t1 t2 h1 h2
    rw [h1] at h2
    injection h2 with h2
    injection h2
  have hvown : ∀ k, v.ownBlock = some k → w.heap.size ≤ k ∧ k < w2.heap.size := fun k hk => by
    obtain ⟨cs, hcs⟩ := row_heap hrow hk
    refine ⟨?_, (Array.getElem?_eq_some_iff.1 hcs).1⟩
    rcases hrow.2 with ⟨rfl, _⟩ | ⟨g', cap, cur, rfl, hb', _⟩
    · simp [Value.ownBlock] at hk
    · have : g' = k := by simpa [Value.ownBlock] using hk
      omega
  refine ⟨fun k => fp k ∨ (w.heap.size ≤ k ∧ k < w2.heap.size), ⟨?_, .inl h.own, mb, aft, kput rs name ⟨nb, v, .slice none 0 0, ⟨l, []⟩⟩, hB2, ha, ⟨?_, .inl hf.own, ?_, ?_⟩, ?_⟩, ⟨hos, htape, hout, hs, ?_, ?_⟩⟩
  · rintro k (hk | ⟨_, hk⟩)
    · have := h.lt k hk; omega
    · exact hk
  · rw [kmap_put]; exact hm2
  · intro p hp
    rcases mem_kput.1 hp with rfl | ⟨hp, hpn⟩
    · exact ⟨hblkn, .inr ⟨hnb, hblkn.lt⟩, ⟨row_base hrow (Nat.zero_le _), fun k hk => .inr (hvown k hk)⟩, [], ⟨World.ownsRow_nil _ _ _ _, by simp [Value.ownBlock], rfl, by simp⟩⟩
    · have hP := hf.each p hp
      have hap : FApart p (name, r) := pairwise_two (fun a b hab => hab.symm) hf.apart hp hmem (by rintro rfl; exact hpn rfl)
      have hpb : w.heap[p.2.blk]? = some (.cells #[p.2.sv, p.2.pv] 68 (0, 0)) := hP.blk
      obtain ⟨vs, hv⟩ := hP.pieces
      have hcell : ∀ (k : Nat) (cs' : Array Value) (t : TypeId), fp k → t ≠ 60 → k ≠ r.blk → w.heap[k]? = some (.cells cs' t (0, 0)) → w2.heap[k]? = w.heap[k]? := fun k cs' t hk ht hne hc => hkeep k (h.lt k hk)
        (by rintro rfl; rw [hmb] at hc; cases hc) (by rintro rfl; exact ht (hty hc hb')) hne
      refine hP.keep (fun k cs' hk hc => hcell k cs' _ hk (by decide) (by rintro rfl; exact absurd (hty hc hfb') (by decide)) hc) (fun k hk => ?_) (hcell _ _ _ hP.own (by decide) hap.1 hpb) (fun k hk => .inl hk)
      obtain ⟨cs', hc⟩ := row_heap hv.row hk
      exact hcell k cs' _ (hv.own k hk) (by decide) (by rintro rfl; exact absurd (hty hc hfb') (by decide)) hc
  · refine pairwise_kput (fun a b hab => hab.symm) hf.apart (fun p hp _ => ⟨?_, fun k hk => ?_⟩)
    · have := h.lt _ (hf.each p hp).own
      show nb ≠ p.2.blk
      omega
    · simp [Value.ownBlock] at hk
  · rw [hd', hd, kmap_put]
  · intro k hk hnf
    exact hkeep k hk (by rintro rfl; exact hnf hf.own) (by rintro rfl; exact hnf h.own) (by rintro rfl; exact hnf hF.own)
  · rintro k (hk | hk)
    · exact .inl hk
    · exact .inr hk.1
end Go.Proofs.Ytioillenlgpcgaa

set_option linter.unusedVariables false
set_option linter.unusedSimpArgs false
set_option maxHeartbeats 800000
set_option maxRecDepth 100000
namespace Go.Proofs.Ytioillenlgpcgaa
open Go.RowKit Go.WideMaps Go.ChangeMaps Go.WideAt Go.WideShapes

/-- A file's face at a drive. -/
structure Face (w : World) (g : Nat) (d : Dr) (fp : Nat → Prop) (nm : Key) (f : File) (mb : Nat) (aft : Int) (rs : List (Key × FileR)) (r : FileR) : Prop where
  hb : Blk w g 60 (driveCells d mb aft)
  ha : 0 ≤ d.left → aft = d.left
  hf : HasFiles w fp mb rs
  hd : d.files = kmap FileR.f rs
  hk : kget rs nm = some r
  fr : r.f = f
  file : IsFile w fp r
  np : r.f.pieces.length ≤ 1000000000
  nl : r.f.all.length ≤ 1000000000000
  hr : Rising rs
  nmLen : nm.length ≤ 1000000
theorem face_of {w : World} {g : Nat} {d : Dr} {fp : Nat → Prop} {N : Nat} {nm : Key} {f : File} (h : IsDrive w g d fp) (hok : d.Ok N) (hN : N ≤ 1000000000) (hg : kget d.files nm = some f) : ∃ mb aft rs r, Face w g d fp nm f mb aft rs r := by
  obtain ⟨mb, aft, rs, hb, ha, hf, hd⟩ := h.has
  have hg2 : (kget rs nm).map FileR.f = some f := by rw [← kget_map, ← hd]; exact hg
  obtain ⟨r, hr1, hr2⟩ := Option.map_eq_some_iff.1 hg2
  obtain ⟨hF, hk3, hp, ha2⟩ := file_get hf hd hok hN hr1
  have hrs : Rising rs := by
    have := hok.rising
    rw [hd] at this
    exact Rising.of_kmap this
  have hnm : namedB nm = true := hok.keys _ (kget_some hg)
  have hl : nm.length ≤ 60 := by
    unfold namedB at hnm
    simp at hnm
    omega
  exact ⟨mb, aft, rs, r, hb, ha, hf, hd, hr1, hr2, hF, hp, ha2, hrs, by omega⟩
section
variable {w : World} {g : Nat} {d : Dr} {fp : Nat → Prop} {nm : Key} {f : File} {mb : Nat} {aft : Int} {rs : List (Key × FileR)} {r : FileR}
theorem Face.look (F : Face w g d fp nm f mb aft rs r) (W : World) (hW : W.heap[mb]? = w.heap[mb]?) :
    (Instr.lookup 58 (.map (some mb)) (.string (S nm)) false).run Try.prog W = .ok (.pointer (some ⟨r.blk, 0, none⟩)) W := by
  have hm : OwnM Try.prog 9 W mb (kmap FileR.blk rs) := F.hf.map.kept hW
  have L := hm.look (t := 58) (e := 64) (by kernel_rfl) (by kernel_rfl) (by kernel_rfl) nm F.nmLen
  rw [kget_map, F.hk] at L
  exact L
theorem Face.ne (F : Face w g d fp nm f mb aft rs r) : g ≠ mb ∧ r.blk ≠ mb ∧ r.blk ≠ g := by
  obtain ⟨es0, cl0, hmb⟩ := F.hf.map.isMap
  have hb' : w.heap[g]? = some (.cells (driveCells d mb aft) 60 (0, 0)) := F.hb
  have hfb' : w.heap[r.blk]? = some (.cells #[r.sv, r.pv] 68 (0, 0)) := F.file.blk
  refine ⟨?_, ?_, ?_⟩
  · rintro rfl; rw [hmb] at hb'; cases hb'
  · rintro e; rw [e, hmb] at hfb'; cases hfb'
  · rintro e
    rw [e, hb'] at hfb'
    injection hfb' with h1
    injection h1 with _ h1
    exact absurd h1 (by decide)

/-- What is there behind the new file's put. -/
def Tail (w : World) (g : Nat) (d d' : Dr) (fp : Nat → Prop) (nm : Key) (mb : Nat) (u' : Int) (A : Option Addr) (n c : Nat) (w4 w5 : World) : Prop :=
  w5.cell? ⟨g, 0, none⟩ = some (.map (some mb)) ∧ w5.cell? ⟨g, 2, none⟩ = some (.int .i64 d.used) ∧ w5.frozen? ⟨g, 2, none⟩ = false ∧
  (∀ W, W.heap[mb]? = w5.heap[mb]? → (Instr.lookup 58 (.map (some mb)) (.string (S nm)) false).run Try.prog W = .ok (.pointer (some ⟨w4.heap.size, 0, none⟩)) W) ∧
  w5.cell? ⟨w4.heap.size, 0, none⟩ = some (.slice A n c) ∧ Then w g d' fp (w5.drew.setCell ⟨g, 2, none⟩ (.int .i64 u'))

theorem up_tail (F : Face w g d fp nm f mb aft rs r) (h : IsDrive w g d fp) {N : Nat} (hok : d.Ok N) {w1 : World} (b1 : Below w.heap.size w w1) {pb n2 c2 : Nat} (hpv : r.pv = .slice (some ⟨pb, 0, none⟩) n2 c2) (kk : Nat) (hkk : kk ≤ f.pieces.length)
    (d' : Dr) (hd' : d'.files = kput d.files nm ⟨(File.mk f.safe (f.pieces.take kk)).all, []⟩) (hq : d'.quota = d.quota) (hde : d'.deeds = d.deeds) (hdn : d'.down = d.down) (hle : d'.left = d.left) (u' : Int) (hu' : u' = d'.used) (w3 : World) (hw3 : w3 = (w1.drew.setCell ⟨r.blk, 1, none⟩ (.slice (some ⟨pb, 0, none⟩) kk c2)).drew) :
    Calls Try.prog 35 #[.pointer (some ⟨r.blk, 0, none⟩)] w3 fun e w4 =>
      ∃ A c, e = .returned (.slice A (File.mk f.safe (f.pieces.take kk)).all.length c) ∧ w4.cell? ⟨g, 0, none⟩ = some (.map (some mb)) ∧
        ∃ w5, (Instr.mapUpdate 58 (.map (some mb)) (.string (S nm)) (.pointer (some ⟨w4.heap.size, 0, none⟩))).run Try.prog (w4.alloc (.cells #[.slice A (File.mk f.safe (f.pieces.take kk)).all.length c, .slice none 0 0] 68)) = .ok () w5 ∧
          Tail w g d d' fp nm mb u' A (File.mk f.safe (f.pieces.take kk)).all.length c w4 w5 := by
  subst hu'
  have hfr := F.fr
  subst hfr
  obtain ⟨hgm, hfm, hfg⟩ := F.ne
  have hglt := F.hb.lt
  have hmlt : mb < w.heap.size := h.lt mb F.hf.own
  have hflt : r.blk < w.heap.size := h.lt _ F.file.own
  have hs1 := b1.size
  have hblk1 : ∀ k, k < w.heap.size → w1.heap[k]? = w.heap[k]? := fun k hk => b1.block k hk
  have hs3 : w3.heap.size = w1.heap.size := by rw [hw3]; exact set_size _ _ _
  have hblk3 : ∀ k, k < w.heap.size → k ≠ r.blk → w3.heap[k]? = w.heap[k]? := fun k hk hne => by
    rw [hw3]
    exact (set_other _ _ _ _ k hne).trans (hblk1 k hk)
  have ho3 : w3.os = w.os ∧ w3.tape = w.tape ∧ w3.output = w.output := by
    rw [hw3]
    exact ⟨b1.os, b1.tape, b1.output⟩
  have hF1 : IsFile w1.drew fp r := F.file.keepAll (fun k cs t hk _ _ => hblk1 k (h.lt k hk)) (fun _ h => h)
  have hF3 : IsFile w3 fp ⟨r.blk, r.sv, .slice (some ⟨pb, 0, none⟩) kk c2, ⟨r.f.safe, r.f.pieces.take kk⟩⟩ := by
    have := hF1.cut kk hkk hpv
    rw [hw3]
    exact this.keepAll (fun _ _ _ _ _ _ => rfl) (fun _ h => h)
  have hnp := F.np
  have hnl := F.nl
  have hal : (File.mk r.f.safe (r.f.pieces.take kk)).all.length ≤ r.f.all.length := by
    have := flatten_take_le r.f.pieces kk
    simp [File.all] at this ⊢
    omega
  have A := file_all hF3 (by simp; omega) (by show (File.mk r.f.safe (r.f.pieces.take kk)).all.length ≤ _; omega)
  refine A.mono ?_
  rintro e w4 ⟨v, rfl, hrow, hb4⟩
  obtain ⟨A', c', rfl⟩ := row_form hrow
  have hs4 := hb4.size
  have hblk4 : ∀ k, k < w.heap.size → k ≠ r.blk → w4.heap[k]? = w.heap[k]? := fun k hk hne => (hb4.block k (by omega)).trans (hblk3 k hk hne)
  have hB4 : Blk w4 g 60 (driveCells d mb aft) := (hblk4 g hglt (Ne.symm hfg)).trans F.hb
  have hrl : (kmap FileR.blk rs).length ≤ 65536 := by
    have : d.files.length = rs.length := by rw [F.hd]; simp [kmap]
    have := hok.files
    simp [kmap]; omega
  have hm4 : OwnM Try.prog 9 (w4.alloc (.cells #[.slice A' (File.mk r.f.safe (r.f.pieces.take kk)).all.length c', .slice none 0 0] 68)) mb (kmap FileR.blk rs) := F.hf.map.kept ((heap_alloc_old w4 _ (by omega)).trans (hblk4 mb hmlt (Ne.symm hfm)))
  obtain ⟨w5, hrun, hm5, hg5⟩ := hm4.put (t := 58) (e := 64) (by kernel_rfl) (by kernel_rfl) (by omega) nm F.nmLen w4.heap.size
  have hs5 := hg5.size
  simp at hs5
  have hblk5 : ∀ k, k < w4.heap.size → k ≠ mb → w5.heap[k]? = w4.heap[k]? := fun k hk hne => (hg5.block k (by simp; omega) (by simpa using hne)).trans (heap_alloc_old w4 _ hk)
  have hB5 : Blk w5 g 60 (driveCells d mb aft) := (hblk5 g (by omega) hgm).trans hB4
  have hN5 : Blk w5 w4.heap.size 68 #[.slice A' (File.mk r.f.safe (r.f.pieces.take kk)).all.length c', .slice none 0 0] := (hg5.block w4.heap.size (by simp) (by simp; omega)).trans (heap_alloc_new w4 _)
  have hg0 := hB4.cell 0
  have hg50 := hB5.cell 0
  have hg52 := hB5.cell 2
  simp [driveCells] at hg0 hg50 hg52
  have hn0 := hN5.cell 0
  simp at hn0
  refine ⟨A', c', rfl, hg0, w5, hrun, hg50, hg52, hB5.frozen 2, fun W hW => ?_, hn0, ?_⟩
  · have hm : OwnM Try.prog 9 W mb (kput (kmap FileR.blk rs) nm w4.heap.size) := hm5.kept hW
    have L := hm.look (t := 58) (e := 64) (by kernel_rfl) (by kernel_rfl) (by kernel_rfl) nm F.nmLen
    have hrm : Rising (kmap FileR.blk rs) := by
      have := F.hr
      unfold Rising kmap
      rw [List.pairwise_map]
      exact this
    rw [kget_put_self hrm] at L
    exact L
  · generalize hw6 : w5.drew.setCell ⟨g, 2, none⟩ (.int .i64 d'.used) = w6
    have hs6 : w6.heap.size = w5.heap.size := by rw [← hw6]; exact set_size _ _ _
    have ho : ∀ k, k ≠ g → w6.heap[k]? = w5.heap[k]? := fun k hk => by
      rw [← hw6]
      exact set_other _ _ _ _ k hk
    have ho6 : w6.os = w.os ∧ w6.tape = w.tape ∧ w6.output = w.output := by
      rw [← hw6]
      exact ⟨hg5.os.trans (hb4.os.trans ho3.1), hg5.tape.trans (hb4.tape.trans ho3.2.1), hg5.output.trans (hb4.output.trans ho3.2.2)⟩
    have hmb5 : mb ≠ g := Ne.symm hgm
    have hn6 : w4.heap.size ≠ g := by omega
    have hB6 : Blk w6 g 60 (driveCells d' mb aft) := by
      have h6 := hB5.drew.set_ 2 (.int .i64 d'.used)
      rw [hw6] at h6
      have e : driveCells d' mb aft = (driveCells d mb aft).setIfInBounds 2 (.int .i64 d'.used) := by
        unfold driveCells
        rw [hq, hde, hdn, hle]
        rfl
      rw [e]
      exact h6
    refine up_mem (nb := w4.heap.size) h F.hb F.hf F.hd F.hr F.hk (by omega) ho6.1 ho6.2.1 ho6.2.2 (fun k hk h1 h2 h3 => ?_) (by omega) ((ho _ hn6).trans hN5) ?_ (hm5.kept (ho mb hmb5)) hB6 (fun h0 => ?_) hd'
    · exact (ho k h2).trans ((hblk5 k (by omega) h1).trans (hblk4 k hk h3))
    · refine row_keep (row_base hrow (by omega)) fun k hk => ?_
      obtain ⟨cs, hcs⟩ := row_heap hrow hk
      have hklt : k < w4.heap.size := (Array.getElem?_eq_some_iff.1 hcs).1
      have hkge : w3.heap.size ≤ k := by
        rcases hrow.2 with ⟨h1, _⟩ | ⟨g', cap, cur, h1, hb', _⟩
        · rw [h1] at hk; simp [Value.ownBlock] at hk
        · rw [h1] at hk
          have : g' = k := by simpa [Value.ownBlock] using hk
          omega
      exact (ho k (by omega)).trans (hblk5 k hklt (by omega))
    · rw [hle] at h0 ⊢
      exact F.ha h0
end
end Go.Proofs.Ytioillenlgpcgaa
