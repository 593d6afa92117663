/- Blanks behind a text change nothing for JSON's reader. No program in it. -/
import Derived.Test.YtbjimikppdfmgaaDoorJsP
set_option linter.unusedVariables false
set_option linter.unusedSimpArgs false
namespace Go.Proofs.YtbjimikppdfmgaaDoor
open Go.RowKit

def AllBl (b : List UInt8) : Prop := ∀ c ∈ b, blankB c = true
theorem blank_cases {c : UInt8} (h : blankB c = true) : c = 32 ∨ c = 9 ∨ c = 10 ∨ c = 13 := by
  simpa [blankB] using h
theorem skip_bl {b : List UInt8} (h : AllBl b) : skipP b = [] := by
  induction b with
  | nil => rfl
  | cons c r ih =>
    have := h c List.mem_cons_self
    simp only [skipP, List.dropWhile_cons, this, if_true]
    exact ih fun c hc => h c (List.mem_cons_of_mem _ hc)
theorem skip_app {b : List UInt8} (h : AllBl b) : ∀ s : List UInt8, ∃ b', AllBl b' ∧ skipP (s ++ b) = skipP s ++ b' ∧ (skipP s = [] → b' = [])
  | [] => ⟨[], fun c hc => by simp at hc, by rw [List.nil_append, skip_bl h]; rfl, fun _ => rfl⟩
  | c :: r => by
    by_cases hc : blankB c = true
    · obtain ⟨b', h1, h2, h3⟩ := skip_app h r
      have e1 : skipP (c :: r) = skipP r := by simp [skipP, hc]
      have e2 : skipP (c :: r ++ b) = skipP (r ++ b) := by simp [skipP, hc]
      exact ⟨b', h1, by rw [e2, e1, h2], fun h => h3 (by rw [← e1]; exact h)⟩
    · have e1 : skipP (c :: r) = c :: r := by simp [skipP, hc]
      have e2 : skipP (c :: r ++ b) = c :: r ++ b := by simp [skipP, hc]
      exact ⟨b, h, by rw [e2, e1], fun h => by rw [e1] at h; cases h⟩
theorem sign_app {b : List UInt8} (h : AllBl b) (c : UInt8) (s : List UInt8) : ∃ b', AllBl b' ∧ signP c (s ++ b) = ((signP c s).1 ++ b', (signP c s).2) := by
  obtain ⟨b1, h1, h2, h3⟩ := skip_app h s
  unfold signP
  rw [h2]
  cases hs : skipP s with
  | nil => rw [h3 hs]; exact ⟨[], fun c hc => by simp at hc, rfl⟩
  | cons x r =>
    simp only [List.cons_append]
    by_cases hx : x = c
    · obtain ⟨b2, g1, g2, g3⟩ := skip_app h1 r
      rw [if_pos hx, if_pos hx]
      exact ⟨b2, g1, by rw [g2]⟩
    · rw [if_neg hx, if_neg hx]
      exact ⟨b1, h1, rfl⟩
theorem scan_bl : ∀ {b : List UInt8} (h : AllBl b) (out : List UInt8), scanP b out = none
  | [], _, _ => by rw [scanP.eq_def]
  | c :: r, h, out => by
    have hr : AllBl r := fun c hc => h c (List.mem_cons_of_mem _ hc)
    rw [scanP.eq_def]
    rcases blank_cases (h c List.mem_cons_self) with rfl | rfl | rfl | rfl
    · simp [scan_bl hr]
    · simp
    · simp
    · simp
theorem scan_app {b : List UInt8} (h : AllBl b) : ∀ (n : Nat) (s out : List UInt8), s.length ≤ n → scanP (s ++ b) out = (scanP s out).map fun p => (p.1, p.2 ++ b)
  | _, [], out, _ => by rw [List.nil_append, scan_bl h, scanP.eq_def]; rfl
  | 0, c :: r, out, hn => by simp at hn
  | n + 1, c :: r, out, hn => by
    simp only [List.length_cons] at hn
    rw [scanP.eq_def, scanP.eq_def (c :: r)]
    simp only [List.cons_append]
    split
    · rfl
    · split
      · rfl
      · split
        · cases r with
          | nil =>
            cases b with
            | nil => rfl
            | cons d q =>
              rcases blank_cases (h d List.mem_cons_self) with rfl | rfl | rfl | rfl <;> simp
          | cons d q =>
            simp only [List.cons_append]
            split
            · exact scan_app h n q _ (by simp at hn; omega)
            · rfl
        · exact scan_app h n r _ (by omega)
theorem text_app {b : List UInt8} (h : AllBl b) (s : List UInt8) : ∃ b', AllBl b' ∧ textP (s ++ b) = (textP s).map fun p => (p.1, p.2 ++ b') := by
  obtain ⟨b1, h1, h2, h3⟩ := skip_app h s
  unfold textP
  rw [h2]
  cases hs : skipP s with
  | nil => rw [h3 hs]; exact ⟨[], fun c hc => by simp at hc, rfl⟩
  | cons x r =>
    simp only [List.cons_append]
    by_cases hx : x = 34
    · rw [if_pos hx, if_pos hx]
      exact ⟨b1, h1, scan_app h1 _ r [] (Nat.le_refl _)⟩
    · rw [if_neg hx, if_neg hx]
      exact ⟨b1, h1, rfl⟩
theorem dig_blank {c : UInt8} (h : blankB c = true) : digB c = false := by
  rcases blank_cases h with rfl | rfl | rfl | rfl <;> rfl
theorem num_app {b : List UInt8} (h : AllBl b) (s : List UInt8) : numP (s ++ b) = (numP s).map fun p => (p.1, p.2 ++ b) := by
  have e : (s ++ b).takeWhile digB = s.takeWhile digB ∧ (s ++ b).dropWhile digB = s.dropWhile digB ++ b := by
    induction s with
    | nil =>
      cases b with
      | nil => simp
      | cons c q => simp [dig_blank (h c List.mem_cons_self)]
    | cons x r ih =>
      by_cases hx : digB x = true
      · simp [hx, ih.1, ih.2]
      · simp [hx]
  unfold numP
  rw [e.1, e.2]
  cases Lib.atoiAll (s.takeWhile digB)
  · simp only []; split <;> simp
  · rfl
  · rfl

def Apps {β : Type} (f : List UInt8 → Option (β × List UInt8)) : Prop := ∀ (s b : List UInt8), AllBl b → ∃ b', AllBl b' ∧ f (s ++ b) = (f s).map fun p => (p.1, p.2 ++ b')
def Apps3 {σ : Type} (tk : σ → List UInt8 → Option (Jv × σ × List UInt8)) : Prop := ∀ (a : σ) (s b : List UInt8), AllBl b → ∃ b', AllBl b' ∧ tk a (s ++ b) = (tk a s).map fun p => (p.1, p.2.1, p.2.2 ++ b')
theorem nilBl : AllBl [] := fun c hc => by simp at hc
theorem loop_app {σ : Type} {tk : σ → List UInt8 → Option (Jv × σ × List UInt8)} (ht : Apps3 tk) (fin : UInt8) : ∀ (f : Nat) (a : σ) (s b : List UInt8), AllBl b → ∃ b', AllBl b' ∧ loopP tk fin f a (s ++ b) = (loopP tk fin f a s).map fun p => (p.1, p.2.1, p.2.2 ++ b')
  | 0, a, s, b, h => ⟨[], nilBl, rfl⟩
  | f + 1, a, s, b, h => by
    obtain ⟨b1, h1, e1⟩ := ht a s b h
    rw [loopP, loopP, e1]
    cases hk : tk a s with
    | none => exact ⟨[], nilBl, rfl⟩
    | some p =>
      obtain ⟨j, a1, s1⟩ := p
      simp only [Option.map_some]
      obtain ⟨b2, h2, e2⟩ := sign_app h1 fin s1
      rw [e2]
      simp only []
      split
      · exact ⟨b2, h2, rfl⟩
      · obtain ⟨b3, h3, e3⟩ := sign_app h2 44 (signP fin s1).1
        rw [e3]
        simp only []
        split
        · obtain ⟨b4, h4, e4⟩ := loop_app ht fin f a1 (signP 44 (signP fin s1).1).1 b3 h3
          rw [e4]
          refine ⟨b4, h4, ?_⟩
          cases loopP tk fin f a1 (signP 44 (signP fin s1).1).1 <;> rfl
        · exact ⟨[], nilBl, rfl⟩
theorem items_app {σ : Type} {tk : σ → List UInt8 → Option (Jv × σ × List UInt8)} (ht : Apps3 tk) (fin : UInt8) (N : Nat) (a : σ) (s b : List UInt8) (h : AllBl b) : ∃ b', AllBl b' ∧ itemsP tk fin N a (s ++ b) = (itemsP tk fin N a s).map fun p => (p.1, p.2.1, p.2.2 ++ b') := by
  obtain ⟨b2, h2, e2⟩ := sign_app h fin s
  unfold itemsP
  rw [e2]
  simp only []
  split
  · exact ⟨b2, h2, rfl⟩
  · exact loop_app ht fin N a _ b2 h2
theorem kidL_app {v : List UInt8 → Option (Jv × List UInt8)} (hv : Apps v) : Apps3 (kidL v) := fun a s b h => by
  obtain ⟨b', h', e⟩ := hv s b h
  refine ⟨b', h', ?_⟩
  unfold kidL
  rw [e]
  cases v s <;> rfl
theorem kidM_app {v : List UInt8 → Option (Jv × List UInt8)} (hv : Apps v) : Apps3 (kidM v) := fun ns s b h => by
  obtain ⟨b1, h1, e1⟩ := text_app h s
  unfold kidM
  rw [e1]
  cases textP s with
  | none => exact ⟨[], nilBl, rfl⟩
  | some p =>
    obtain ⟨n, s1⟩ := p
    simp only [Option.map_some]
    split
    · exact ⟨[], nilBl, rfl⟩
    · obtain ⟨b2, h2, e2⟩ := sign_app h1 58 s1
      rw [e2]
      simp only []
      split
      · obtain ⟨b3, h3, e3⟩ := hv (signP 58 s1).1 b2 h2
        rw [e3]
        refine ⟨b3, h3, ?_⟩
        cases v (signP 58 s1).1 <;> rfl
      · exact ⟨[], nilBl, rfl⟩
theorem end_app {β : Type} {f : List UInt8 → Option (β × List UInt8)} {g : β → Jv} {s s' : List UInt8} {b : List UInt8} (h : AllBl b) (he : f s' = (f s).map fun p => (p.1, p.2 ++ b)) :
    ∃ b', AllBl b' ∧ ((f s').map fun p => (g p.1, skipP p.2)) = ((f s).map fun p => (g p.1, skipP p.2)).map fun p => (p.1, p.2 ++ b') := by
  rw [he]
  cases f s with
  | none => exact ⟨[], nilBl, rfl⟩
  | some p =>
    obtain ⟨b', h1, h2, _⟩ := skip_app h p.2
    exact ⟨b', h1, by simp [h2]⟩
theorem end_app3 {σ : Type} {r r' : Option (List Jv × σ × List UInt8)} {g : List Jv → σ → Jv} {b : List UInt8} (h : AllBl b) (he : r' = r.map fun p => (p.1, p.2.1, p.2.2 ++ b)) :
    ∃ b', AllBl b' ∧ (r'.map fun p => (g p.1 p.2.1, skipP p.2.2)) = (r.map fun p => (g p.1 p.2.1, skipP p.2.2)).map fun p => (p.1, p.2 ++ b') := by
  subst he
  cases r with
  | none => exact ⟨[], nilBl, rfl⟩
  | some p =>
    obtain ⟨b', h1, h2, _⟩ := skip_app h p.2.2
    exact ⟨b', h1, by simp [h2]⟩
theorem head_app {s b b1 : List UInt8} (e1 : skipP (s ++ b) = skipP s ++ b1) (z1 : skipP s = [] → b1 = []) : (skipP (s ++ b)).head? = (skipP s).head? := by
  rw [e1]
  cases hs : skipP s with
  | nil => rw [z1 hs]; rfl
  | cons x r => rfl
theorem val_app (N : Nat) : ∀ n : Nat, Apps (valP N n) := by
  intro n
  induction n with
  | zero =>
    intro s b h
    obtain ⟨b1, h1, e1, z1⟩ := skip_app h s
    have hh := head_app e1 z1
    rw [valP, valP, hh]
    by_cases hq : (skipP s).head? = some 34
    · rw [if_pos hq, if_pos hq, e1]
      obtain ⟨b2, h2, e2⟩ := text_app h1 (skipP s)
      exact end_app (f := textP) (g := fun t => .mk 1 t 0 [] []) h2 e2
    · rw [if_neg hq, if_neg hq, e1]
      obtain ⟨b2, h2, e2⟩ := sign_app h1 91 (skipP s)
      obtain ⟨b3, h3, e3⟩ := sign_app h2 123 (signP 91 (skipP s)).1
      rw [e2]
      simp only []
      split
      · exact ⟨[], nilBl, rfl⟩
      · rw [e3]
        simp only []
        split
        · exact ⟨[], nilBl, rfl⟩
        · exact end_app (f := numP) (g := fun k => .mk 2 [] k [] []) h3 (num_app h3 _)
  | succ n ih =>
    intro s b h
    obtain ⟨b1, h1, e1, z1⟩ := skip_app h s
    have hh := head_app e1 z1
    rw [valP, valP, hh]
    by_cases hq : (skipP s).head? = some 34
    · rw [if_pos hq, if_pos hq, e1]
      obtain ⟨b2, h2, e2⟩ := text_app h1 (skipP s)
      exact end_app (f := textP) (g := fun t => .mk 1 t 0 [] []) h2 e2
    · rw [if_neg hq, if_neg hq, e1]
      obtain ⟨b2, h2, e2⟩ := sign_app h1 91 (skipP s)
      obtain ⟨b3, h3, e3⟩ := sign_app h2 123 (signP 91 (skipP s)).1
      rw [e2]
      simp only []
      split
      · obtain ⟨b4, h4, e4⟩ := items_app (kidL_app ih) 93 N () (signP 91 (skipP s)).1 b2 h2
        exact end_app3 (g := fun js _ => .mk 3 [] 0 [] js) h4 e4
      · rw [e3]
        simp only []
        split
        · obtain ⟨b4, h4, e4⟩ := items_app (kidM_app ih) 125 N [] (signP 123 (signP 91 (skipP s)).1).1 b3 h3
          exact end_app3 (g := fun js ns => .mk 4 [] 0 ns js) h4 e4
        · exact end_app (f := numP) (g := fun k => .mk 2 [] k [] []) h3 (num_app h3 _)
/-- A value's rest has no blank ahead. -/
theorem skip_skip (s : List UInt8) : skipP (skipP s) = skipP s := by
  induction s with
  | nil => rfl
  | cons c r ih =>
    by_cases hc : blankB c = true
    · have e1 : skipP (c :: r) = skipP r := by simp [skipP, hc]
      rw [e1, ih]
    · have e1 : skipP (c :: r) = c :: r := by simp [skipP, hc]
      rw [e1, e1]
theorem val_skipped (N n : Nat) (s : List UInt8) (p) (h : valP N n s = some p) : skipP p.2 = p.2 := by
  cases n with
  | zero =>
    rw [valP] at h
    split at h
    · simp at h; obtain ⟨a, b, -, rfl⟩ := h; exact skip_skip _
    · split at h
      · simp at h
      · split at h
        · simp at h
        · simp at h; obtain ⟨a, b, -, rfl⟩ := h; exact skip_skip _
  | succ n =>
    rw [valP] at h
    split at h
    · simp at h; obtain ⟨a, b, -, rfl⟩ := h; exact skip_skip _
    · split at h
      · simp at h; obtain ⟨a, c, b, -, rfl⟩ := h; exact skip_skip _
      · split at h
        · simp at h; obtain ⟨a, c, b, -, rfl⟩ := h; exact skip_skip _
        · simp at h; obtain ⟨a, b, -, rfl⟩ := h; exact skip_skip _
/-- Blanks behind a text change nothing. -/
theorem read_behind (s b : List UInt8) (h : AllBl b) : readP (s ++ b) = readP s := by
  obtain ⟨b', h1, e⟩ := val_app 70000 5 s b h
  unfold readP
  have hs := val_skipped 70000 5 (s ++ b)
  cases hv : valP 70000 5 s with
  | none => rw [e, hv]; rfl
  | some p =>
    obtain ⟨j, r⟩ := p
    rw [hv] at e
    have h2 := hs _ e
    rw [e]
    simp only [Option.map_some] at h2 ⊢
    cases r with
    | nil =>
      rw [List.nil_append, skip_bl h1] at h2
      rw [← h2]; rfl
    | cons c q => rfl
theorem val_ahead (N n : Nat) (b s : List UInt8) (h : AllBl b) : valP N n (b ++ s) = valP N n s := by
  have e : skipP (b ++ s) = skipP s := by
    induction b with
    | nil => rfl
    | cons c r ih =>
      have := h c List.mem_cons_self
      have e1 : skipP (c :: r ++ s) = skipP (r ++ s) := by simp [skipP, this]
      rw [e1]
      exact ih fun c hc => h c (List.mem_cons_of_mem _ hc)
  cases n <;> rw [valP, valP, e]
theorem read_ahead (b s : List UInt8) (h : AllBl b) : readP (b ++ s) = readP s := by
  unfold readP
  rw [val_ahead 70000 5 b s h]
end Go.Proofs.YtbjimikppdfmgaaDoor
