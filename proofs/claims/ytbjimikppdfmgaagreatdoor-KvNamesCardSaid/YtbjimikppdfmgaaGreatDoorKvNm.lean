/- Two stores on one drive; names; a drive's files by name. -/
import Derived.Test.YtbjimikppdfmgaaGreatDoorKvSp
set_option linter.unusedVariables false
set_option linter.unusedSimpArgs false
set_option maxHeartbeats 6400000
set_option maxRecDepth 100000
namespace Go.Proofs.YtbjimikppdfmgaaGreatDoor
open Go.RowKit Go.WideMaps Go.ChangeMaps Go.WideAt Go.WideShapes

/-! names -/
theorem mem_dropWhile {α : Type} {p : α → Bool} {l : List α} (h : l.dropWhile p = []) : ∀ c ∈ l, p c = true := by
  induction l with
  | nil => simp
  | cons a r ih =>
    rw [List.dropWhile_cons] at h
    cases hp : p a with
    | false => rw [hp] at h; cases h
    | true =>
      rw [hp] at h
      intro c hc
      rcases List.mem_cons.1 hc with rfl | hc
      · exact hp
      · exact ih h c hc
theorem trimS_nil {l : List UInt8} (h : Lib.trimS l abcT = []) : ∀ c ∈ l, abcT.contains c = true := by
  unfold Lib.trimS at h
  have h1 := mem_dropWhile h
  have h2 : Lib.trimRightS l abcT = [] := by
    unfold Lib.trimRightS at h1 ⊢
    cases hd : l.reverse.dropWhile (fun c => abcT.contains c) with
    | nil => rfl
    | cons a r =>
      exfalso
      have ha := h1 a (by rw [hd]; simp)
      have := List.head?_dropWhile_not (fun c => abcT.contains c) l.reverse
      rw [hd] at this
      simp at this
      simp at ha
      exact this ha
  unfold Lib.trimRightS at h2
  rw [List.reverse_eq_nil_iff] at h2
  have h3 := mem_dropWhile h2
  intro c hc
  exact h3 c (List.mem_reverse.2 hc)
def lettB (c : UInt8) : Bool := decide (97 ≤ c.toNat) && decide (c.toNat ≤ 122)
theorem lett_abc (c : UInt8) : abcT.contains c = lettB c := by
  have h : ∀ n : Fin 256, abcT.contains (UInt8.ofNat n.1) = lettB (UInt8.ofNat n.1) := by decide
  have := h ⟨c.toNat, c.toNat_lt⟩
  simpa using this
theorem lett_sign {c : UInt8} (h : lettB c = true) : signB c = true ∧ c ≠ 46 := by
  simp only [lettB, Bool.and_eq_true, decide_eq_true_eq] at h
  refine ⟨?_, ?_⟩
  · unfold signB
    simp [h.1, h.2]
  · rintro rfl
    simp at h
theorem fileN_named {nm en : Key} (h : ∀ c ∈ nm, lettB c = true) (hl : nm.length ≤ 20) (he : en.all signB = true) (hel : en.length ≤ 10) : namedB (fileN nm en) = true := by
  unfold namedB fileN
  have h1 : nm.all signB = true := List.all_eq_true.2 fun c hc => (lett_sign (h c hc)).1
  rw [List.all_append, List.all_cons, h1, he, show signB 46 = true from by decide, decide_eq_true (show 1 ≤ (nm ++ 46 :: en).length by simp; omega), decide_eq_true (show (nm ++ 46 :: en).length ≤ 60 by simp; omega)]
  rfl
theorem fileN_inj {n1 n2 e1 e2 : Key} (h1 : ∀ c ∈ n1, lettB c = true) (h2 : ∀ c ∈ n2, lettB c = true) (h : fileN n1 e1 = fileN n2 e2) : n1 = n2 ∧ e1 = e2 := by
  unfold fileN at h
  induction n1 generalizing n2 with
  | nil =>
    cases n2 with
    | nil => simpa using h
    | cons c r =>
      simp at h
      exact absurd h.1.symm (lett_sign (h2 c (by simp))).2
  | cons a r ih =>
    cases n2 with
    | nil =>
      simp at h
      exact absurd h.1 (lett_sign (h1 a (by simp))).2
    | cons c t =>
      simp at h
      obtain ⟨rfl, h⟩ := h
      obtain ⟨rfl, q⟩ := ih (fun x hx => h1 x (List.mem_cons_of_mem _ hx)) (fun x hx => h2 x (List.mem_cons_of_mem _ hx)) h
      exact ⟨rfl, q⟩
/-! files by name -/
section
variable {fs : Fs} {n j : Key} {f : File}
theorem usedF_ins (n : Key) (f : File) (fs : Fs) : usedF (kins n f fs) = f.all.length + usedF fs := by
  induction fs with
  | nil => simp [usedF, kins]
  | cons y r ih =>
    unfold kins
    split
    · simp [usedF]
    · simp only [usedF, List.map_cons, List.sum_cons] at ih ⊢; omega
theorem usedF_del (n : Key) (fs : Fs) : usedF (kdel fs n) ≤ usedF fs := by
  induction fs with
  | nil => simp [usedF, kdel]
  | cons y r ih =>
    unfold kdel at ih ⊢
    rw [List.filter_cons]
    split
    · simp only [usedF, List.map_cons, List.sum_cons] at ih ⊢; omega
    · simp only [usedF, List.map_cons, List.sum_cons] at ih ⊢; omega
theorem usedF_put (n : Key) (f : File) (fs : Fs) : usedF (kput fs n f) ≤ usedF fs + f.all.length := by
  unfold kput
  rw [usedF_ins]
  have := usedF_del n fs
  omega
theorem usedF_set {n : Key} {u : File} (f : File) {fs : Fs} (hr : Rising fs) (hg : kget fs n = some u) : usedF (kset fs n f) ≤ usedF fs + f.all.length := by
  have h := ksum_set (f := fun x : File => x.all.length) hr (v := f) hg
  have h1 : usedF (kset fs n f) = ksum (fun x : File => x.all.length) (kset fs n f) := rfl
  have h2 : usedF (kdel fs n) = ksum (fun x : File => x.all.length) (kdel fs n) := rfl
  have h3 := usedF_del n fs
  omega
theorem length_kdel (n : Key) (fs : Fs) : (kdel fs n).length ≤ fs.length := List.length_filter_le _ _
theorem length_kset' (n : Key) (f : File) (fs : Fs) : (kset fs n f).length = fs.length := by simp [kset]
/-- What is appended to a file, and synced. -/
def addF (fs : Fs) (n : Key) (safe x : List UInt8) : Fs := kput (kset fs n ⟨safe, [] ++ [x]⟩) n ⟨safe ++ x, []⟩
theorem addF_ok {q k : Int} {safe x : List UInt8} (hr : Rising fs) (hg : kget fs n = some ⟨safe, []⟩) (hu : ((usedF fs + x.length : Nat) : Int) ≤ q) :
    ((U fs q k).append n x).2 = 0 ∧ (((U fs q k).append n x).1.sync n).2 = 0 ∧ (((U fs q k).append n x).1.sync n).1 = U (addF fs n safe x) q (wrap1 (wrap1 k)) := by
  have e1 := U_append (k := k) hg hu
  have e2 := U_sync (q := q) (k := wrap1 k) (kget_set_self hr (⟨safe, [] ++ [x]⟩ : File) hg)
  rw [show File.all ⟨safe, [] ++ [x]⟩ = safe ++ x by simp [File.all]] at e2
  rw [e1, e2]
  exact ⟨rfl, rfl, rfl⟩
theorem addF_rising (hr : Rising fs) (safe x : List UInt8) : Rising (addF fs n safe x) := (hr.set _ _).put _ _
theorem addF_self (hr : Rising fs) (safe x : List UInt8) : kget (addF fs n safe x) n = some ⟨safe ++ x, []⟩ := kget_put_self (hr.set _ _) _ _
theorem addF_other (hr : Rising fs) (safe x : List UInt8) (hne : j ≠ n) : kget (addF fs n safe x) j = kget fs j := by
  unfold addF
  rw [kget_put_other (hr.set _ _) _ hne, kget_set_other hr _ hne]
theorem addF_len (safe x : List UInt8) : (addF fs n safe x).length ≤ fs.length + 1 := by
  unfold addF
  have := length_kput_le n (⟨safe ++ x, []⟩ : File) (kset fs n ⟨safe, [] ++ [x]⟩)
  rw [length_kset'] at this
  exact this
theorem addF_used (hr : Rising fs) {safe : List UInt8} (x : List UInt8) (hg : kget fs n = some ⟨safe, []⟩) : usedF (addF fs n safe x) ≤ usedF fs + 2 * (safe.length + x.length) := by
  unfold addF
  have h1 := usedF_put n ⟨safe ++ x, []⟩ (kset fs n ⟨safe, [] ++ [x]⟩)
  have h2 := usedF_set (⟨safe, [] ++ [x]⟩ : File) hr hg
  rw [show File.all ⟨safe, [] ++ [x]⟩ = safe ++ x by simp [File.all]] at h2
  rw [show File.all ⟨safe ++ x, []⟩ = safe ++ x by simp [File.all]] at h1
  rw [List.length_append] at h1 h2
  omega
/-- What replace makes of the files. -/
def repF (fs : Fs) (t e : Key) (data : List UInt8) : Fs := kput (kdel (kput (kset (kput fs t ⟨[], []⟩) t ⟨[], [data]⟩) t ⟨data, []⟩) t) e ⟨data, []⟩
theorem repF_rising (hr : Rising fs) (t e : Key) (data : List UInt8) : Rising (repF fs t e data) := ((((hr.put _ _).set _ _).put _ _).del _).put _ _
theorem repF_other (hr : Rising fs) {t e : Key} (data : List UInt8) (h1 : j ≠ t) (h2 : j ≠ e) : kget (repF fs t e data) j = kget fs j := by
  unfold repF
  rw [kget_put_other ((((hr.put _ _).set _ _).put _ _).del _) _ h2, kget_del_other (((hr.put _ _).set _ _).put _ _) h1, kget_put_other ((hr.put _ _).set _ _) _ h1, kget_set_other (hr.put _ _) _ h1, kget_put_other hr _ h1]
theorem repF_tmp (hr : Rising fs) {t e : Key} (data : List UInt8) (h : t ≠ e) : kget (repF fs t e data) t = none := by
  unfold repF
  rw [kget_put_other ((((hr.put _ _).set _ _).put _ _).del _) _ h, kget_del]
theorem repF_len (t e : Key) (data : List UInt8) : (repF fs t e data).length ≤ fs.length + 3 := by
  unfold repF
  have h1 := length_kput_le t (⟨[], []⟩ : File) fs
  have h2 := length_kset' t ⟨[], [data]⟩ (kput fs t ⟨[], []⟩)
  have h3 := length_kput_le t (⟨data, []⟩ : File) (kset (kput fs t ⟨[], []⟩) t ⟨[], [data]⟩)
  have h4 := length_kdel t (kput (kset (kput fs t ⟨[], []⟩) t ⟨[], [data]⟩) t ⟨data, []⟩)
  have h5 := length_kput_le e (⟨data, []⟩ : File) (kdel (kput (kset (kput fs t ⟨[], []⟩) t ⟨[], [data]⟩) t ⟨data, []⟩) t)
  omega
theorem repF_used (hr : Rising fs) (t e : Key) (data : List UInt8) : usedF (repF fs t e data) ≤ usedF fs + 3 * data.length := by
  unfold repF
  have h1 := usedF_put t ⟨[], []⟩ fs
  have h2 := usedF_set (⟨[], [data]⟩ : File) (hr.put t ⟨[], []⟩) (kget_put_self hr t (⟨[], []⟩ : File))
  have h3 := usedF_put t ⟨data, []⟩ (kset (kput fs t ⟨[], []⟩) t ⟨[], [data]⟩)
  have h4 := usedF_del t (kput (kset (kput fs t ⟨[], []⟩) t ⟨[], [data]⟩) t ⟨data, []⟩)
  have h5 := usedF_put e ⟨data, []⟩ (kdel (kput (kset (kput fs t ⟨[], []⟩) t ⟨[], [data]⟩) t ⟨data, []⟩) t)
  rw [show File.all ⟨[], [data]⟩ = data by simp [File.all]] at h2
  rw [show File.all ⟨data, []⟩ = data by simp [File.all]] at h3 h5
  rw [show File.all ⟨[], []⟩ = [] by rfl, List.length_nil] at h1
  omega
end
/-! two stores on one drive -/
structure Duo (w0 W : World) (g : Nat) (d : Dr) (N : Nat) (n1 : Key) (sb1 mb1 : Nat) (m1 : KM) (n2 : Key) (sb2 mb2 : Nat) (m2 : KM) (Z : Nat → Prop) : Prop where
  s : St W g d N n1 sb1 mb1 m1 Z
  t : St W g d N n2 sb2 mb2 m2 Z
  ne : sb1 ≠ sb2
  nm : mb1 ≠ mb2
  ls : ∀ k, foot Z sb1 mb1 k → w0.heap.size ≤ k
  lt : w0.heap.size ≤ sb2 ∧ w0.heap.size ≤ mb2
  bel : Below w0.heap.size w0 W
section
variable {w0 W W' : World} {g N sb1 mb1 sb2 mb2 : Nat} {d : Dr} {n1 n2 : Key} {m1 m2 : KM} {Z : Nat → Prop}
theorem Duo.swap (h : Duo w0 W g d N n1 sb1 mb1 m1 n2 sb2 mb2 m2 Z) : Duo w0 W g d N n2 sb2 mb2 m2 n1 sb1 mb1 m1 Z :=
  ⟨h.t, h.s, h.ne.symm, h.nm.symm, fun k hk => by
    rcases hk with hk | rfl | rfl
    · exact h.ls k (.inl hk)
    · exact h.lt.1
    · exact h.lt.2, ⟨h.ls _ (.inr (.inl rfl)), h.ls _ (.inr (.inr rfl))⟩, h.bel⟩
theorem Duo.below (h : Duo w0 W g d N n1 sb1 mb1 m1 n2 sb2 mb2 m2 Z) (hb : Below W.heap.size W W') : Duo w0 W' g d N n1 sb1 mb1 m1 n2 sb2 mb2 m2 Z :=
  ⟨h.s.keep (Turn.of_below hb (fun _ => False)) (fun _ _ hh => hh), h.t.keep (Turn.of_below hb (fun _ => False)) (fun _ _ hh => hh), h.ne, h.nm, h.ls, h.lt, bt h.bel hb⟩
theorem Duo.afterS (h : Duo w0 W g d N n1 sb1 mb1 m1 n2 sb2 mb2 m2 Z) {d' : Dr} {N' mb' : Nat} {m' : KM} {Z' : Nat → Prop} (hs : St W' g d' N' n1 sb1 mb' m' Z') (ht : Turn (foot Z sb1 mb1) W W') (hf : ∀ k, foot Z' sb1 mb' k → foot Z sb1 mb1 k ∨ W.heap.size ≤ k) :
    Duo w0 W' g d' N' n1 sb1 mb' m' n2 sb2 mb2 m2 Z' := by
  have q1 : ¬ foot Z sb1 mb1 sb2 := by
    rintro (hk | hk | hk)
    · exact h.t.nsb hk
    · exact h.ne hk.symm
    · exact h.s.map.not_blk h.t.blk hk
  have q2 : ¬ foot Z sb1 mb1 mb2 := by
    rintro (hk | hk | hk)
    · exact h.t.nmb hk
    · exact h.t.map.not_blk h.s.blk hk.symm
    · exact h.nm hk.symm
  refine ⟨hs, h.t.other hs ht q1 q2 hf, h.ne, fun e => ?_, fun k hk => ?_, h.lt, ht.below h.bel h.ls⟩
  · rcases hf mb' (.inr (.inr rfl)) with hh | hh
    · rw [e] at hh; exact q2 hh
    · rw [e] at hh; have := h.t.map.lt; omega
  · rcases hf k hk with hh | hh
    · exact h.ls k hh
    · exact Nat.le_trans h.bel.size hh
theorem Duo.afterT (h : Duo w0 W g d N n1 sb1 mb1 m1 n2 sb2 mb2 m2 Z) {d' : Dr} {N' mb' : Nat} {m' : KM} {Z' : Nat → Prop} (hs : St W' g d' N' n2 sb2 mb' m' Z') (ht : Turn (foot Z sb2 mb2) W W') (hf : ∀ k, foot Z' sb2 mb' k → foot Z sb2 mb2 k ∨ W.heap.size ≤ k) :
    Duo w0 W' g d' N' n1 sb1 mb1 m1 n2 sb2 mb' m' Z' := (h.swap.afterS hs ht hf).swap
end
end Go.Proofs.YtbjimikppdfmgaaGreatDoor
