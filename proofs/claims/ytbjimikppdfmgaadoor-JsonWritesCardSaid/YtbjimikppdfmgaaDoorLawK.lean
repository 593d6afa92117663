/- A region that draws its order and ends with a store: what the store will turn may be read first. -/
import Derived.Test.YtbjimikppdfmgaaDoorBase
import Derived.OrdersHeld
set_option linter.unusedVariables false
set_option linter.unusedSimpArgs false
set_option maxHeartbeats 800000
namespace Go.Proofs.YtbjimikppdfmgaaDoor

open Go.RowKit
section
variable {P : Program} {ops : Array Oper} {Q : Exit → Act → World → Prop} {md : Region.Mode} {S : World → Prop} {k : Nat}

/-- S is asked behind each operation as long as number k has not come up. -/
def anyK (P : Program) (md : Region.Mode) (ops : Array Oper) (Q : Exit → Act → World → Prop) (S : World → Prop) (k : Nat) : Nat → Array Bool → Act → World → Prop
  | 0, listed, a, w => Region.ready md ops listed = [] ∧ Q .normal a w
  | fuel + 1, listed, a, w => (Region.ready md ops listed = [] → Q .normal a w) ∧
      ∀ i ∈ Region.ready md ops listed, wpOp P ops Q i (fun a' w' => ((listed.setIfInBounds i true).getD k true = false → S w') ∧ anyK P md ops Q S k fuel (listed.setIfInBounds i true) a' w') a w

theorem any_of_anyK : ∀ (fuel : Nat) (listed : Array Bool) (a : Act) (w : World), anyK P md ops Q S k fuel listed a w → wpAny P md ops Q fuel listed a w
  | 0, _, _, _, h => h
  | fuel + 1, _, _, _, h => ⟨h.1, fun i hi => wpOp_mono (fun a' w' h' => any_of_anyK fuel _ a' w' h'.2) (h.2 i hi)⟩

/-- What has come up waited for nobody who has not. -/
def ClosedL (md : Region.Mode) (ops : Array Oper) (listed : Array Bool) : Prop := ∀ (m : Nat) (o : Oper), ops[m]? = some o → listed.getD m false = true → ∀ e ∈ o.after, Region.binds md e = true → listed.getD e.on false = true
def closedB (md : Region.Mode) (ops : Array Oper) (listed : Array Bool) : Bool := (List.range ops.size).all fun m => !listed.getD m false || ((ops[m]?).map fun o => o.after.all fun e => !Region.binds md e || listed.getD e.on false).getD true
theorem closed_spec {listed : Array Bool} (h : closedB md ops listed = true) : ClosedL md ops listed := by
  intro m o ho hm e he hb
  unfold closedB at h
  rw [List.all_eq_true] at h
  have hlt : m < ops.size := (Array.getElem?_eq_some_iff.1 ho).1
  have h1 := h m (List.mem_range.2 hlt)
  simp only [hm, ho, Bool.not_true, Bool.false_or, Option.map_some, Option.getD_some] at h1
  have h2 := Array.all_eq_true_iff_forall_mem.1 h1 e he
  simpa [hb] using h2
theorem getD_true_of {listed : Array Bool} {i : Nat} {b : Bool} (h : listed.getD i true = b) (hlt : i < listed.size) : listed.getD i false = b := by
  simp [hlt] at h ⊢
  exact h
theorem closed_set {listed : Array Bool} (h : ClosedL md ops listed) {j : Nat} (hj : j ∈ Region.ready md ops listed) : ClosedL md ops (listed.setIfInBounds j true) := by
  intro m o ho hm e he hb
  by_cases hmj : m = j
  · subst hmj
    obtain ⟨_, o', ho', hall⟩ := mem_ready.1 hj
    rw [ho] at ho'
    injection ho' with ho'
    subst ho'
    exact getD_set_true (hall e he hb)
  · rw [getD_set_ne false (Ne.symm hmj)] at hm
    exact getD_set_true (h m o ho hm e he hb)
/-- A chain of operations each of which waits for the next. -/
def chainB (md : Region.Mode) (ops : Array Oper) : List Nat → Bool
  | a :: b :: r => (((ops[a]?).map fun o => o.after.any fun e => Region.binds md e && e.on == b).getD false) && chainB md ops (b :: r)
  | _ => true
theorem chain_spec {listed : Array Bool} (hc : ClosedL md ops listed) : ∀ (r : List Nat) (a : Nat), chainB md ops (a :: r) = true → (∀ o, ops[a]? = some o → ∀ e ∈ o.after, Region.binds md e = true → listed.getD e.on false = true) → ∀ x ∈ r, listed.getD x false = true
  | [], _, _, _ => by simp
  | b :: r, a, h, ha => by
    unfold chainB at h
    rw [Bool.and_eq_true] at h
    obtain ⟨h1, h2⟩ := h
    cases ho : ops[a]? with
    | none => rw [ho] at h1; simp at h1
    | some o =>
      rw [ho] at h1
      simp only [Option.map_some, Option.getD_some, Array.any_eq_true] at h1
      obtain ⟨t, ht, h3⟩ := h1
      rw [Bool.and_eq_true, beq_iff_eq] at h3
      have hb : listed.getD b false = true := by
        have := ha o ho (o.after[t]) (Array.getElem_mem ht) h3.1
        rwa [h3.2] at this
      intro x hx
      rcases List.mem_cons.1 hx with rfl | hx
      · exact hb
      · exact chain_spec hc r b h2 (fun o' ho' => hc b o' ho' hb) x hx

theorem k_waits {listed : Array Bool} {i : Nat} {r : List Nat} (hc : ClosedL md ops listed) (hch : chainB md ops (k :: r) = true) (hir : i ∈ r) (hun : listed.getD i true = false) : k ∉ Region.ready md ops listed := by
  intro hk
  obtain ⟨_, o, ho, hall⟩ := mem_ready.1 hk
  have h1 := chain_spec hc r k hch (fun o' ho' => by
    rw [ho] at ho'
    injection ho' with ho'
    subst ho'
    exact hall) i hir
  rcases Nat.lt_or_ge i listed.size with h | h
  · simp [h] at h1 hun
    rw [hun] at h1; cases h1
  · simp [Array.getElem?_eq_none h] at h1

theorem anyK_first {i : Nat} {oi : Oper} {v : Value} {r : List Nat} (hi : ops[i]? = some oi) (hsel : ∀ (j : Nat) (o : Oper) cs b, ops[j]? = some o → o.op ≠ .select cs b) (hQ : ∀ c a w, Q (.panic c) (a.put oi.dst v) w → Q (.panic c) a w)
    (hch : chainB md ops (k :: r) = true) (hir : i ∈ r) (hik : i ≠ k) : ∀ (fuel : Nat) (listed : Array Bool) (a : Act) (w : World),
      (∀ j oj, ops[j]? = some oj → j ≠ i → listed.getD j true = false → (∀ e ∈ oj.after, Region.binds md e = true → e.on ≠ i) → oi.apart ops oj = true) → ClosedL md ops listed → listed.getD k true = false →
      i ∈ Region.ready md ops listed → YieldsIf P ops S oi v a → S w → anyK P md ops Q S k fuel (listed.setIfInBounds i true) (a.put oi.dst v) w → anyK P md ops Q S k (fuel + 1) listed a w := by
  intro fuel
  induction fuel with
  | zero =>
    intro listed a w _ _ _ hr hy hS H
    refine ⟨fun h => (by rw [h] at hr; cases hr), fun j hj => ?_⟩
    by_cases hji : j = i
    · subst hji; exact hy.wpOp hi hS ⟨fun _ => hS, H⟩
    · have := ready_mono hj hji
      rw [H.1] at this
      cases this
  | succ fuel ih =>
    intro listed a w hfree hcl hkl hr hy hS H
    refine ⟨fun h => (by rw [h] at hr; cases hr), fun j hj => ?_⟩
    by_cases hji : j = i
    · subst hji; exact hy.wpOp hi hS ⟨fun _ => hS, H⟩
    · have hun := (mem_ready.1 hr).1
      have hjk : j ≠ k := by
        rintro rfl
        exact k_waits hcl hch hir hun hj
      have h1 := H.2 j (ready_mono hj hji)
      obtain ⟨hjun, oj, hoj, hall⟩ := mem_ready.1 hj
      have hnot : ∀ e ∈ oj.after, Region.binds md e = true → e.on ≠ i := fun e he hb heq => by
        have h1 := hall e he hb
        rw [heq] at h1
        rcases Nat.lt_or_ge i listed.size with h' | h'
        · simp [h'] at hun h1; rw [hun] at h1; cases h1
        · simp [Array.getElem?_eq_none h'] at h1
      have h2 := wpOp_putIf hoj (hfree j oj hoj hji hjun hnot) (fun cs b => hsel i oi cs b hi) (fun cs b => hsel j oj cs b hoj) hQ hy h1
      have hfree' : ∀ m om, ops[m]? = some om → m ≠ i → (listed.setIfInBounds j true).getD m true = false → (∀ e ∈ om.after, Region.binds md e = true → e.on ≠ i) → oi.apart ops om = true := fun m om hm hmi hmu hno => by
        refine hfree m om hm hmi ?_ hno
        by_cases hjm : j = m
        · subst hjm; exact hjun
        · rw [getD_set_ne true hjm] at hmu; exact hmu
      have hkl' : (listed.setIfInBounds j true).getD k true = false := by rw [getD_set_ne true hjk]; exact hkl
      have hkl2 : ((listed.setIfInBounds i true).setIfInBounds j true).getD k true = false := by rw [getD_set_ne true hjk, getD_set_ne true hik]; exact hkl
      refine wpOp_mono (fun a' w' h3 => ⟨fun _ => h3.2.1 hkl2, ih (listed.setIfInBounds j true) a' w' hfree' (closed_set hcl hj) hkl' (ready_mono hr (Ne.symm hji)) h3.1 (h3.2.1 hkl2) ?_⟩) h2
      rw [Array.setIfInBounds_comm _ _ hji]
      exact h3.2.2

/-! ### the moves -/
/-- Number i first. r: a chain from k down to i. -/
theorem anyK_take (i : Nat) (r : List Nat) {oi : Oper} {v : Value} {fuel : Nat} {listed : Array Bool} {a : Act} {w : World} (hi : ops[i]? = some oi) (hs : Region.noSelect ops = true)
    (hf : (Region.free md ops listed i && ((Region.ready md ops listed).contains i && (closedB md ops listed && (chainB md ops (k :: r) && (r.contains i && (!(i == k) && !listed.getD k true)))))) = true)
    (hQ : ∀ c a w, Q (.panic c) (a.put oi.dst v) w → Q (.panic c) a w) (hy : YieldsIf P ops S oi v a) (hS : S w) (h : anyK P md ops Q S k fuel (listed.setIfInBounds i true) (a.put oi.dst v) w) : anyK P md ops Q S k (fuel + 1) listed a w := by
  simp only [Bool.and_eq_true, Bool.not_eq_true', beq_eq_false_iff_ne, List.contains_iff_mem] at hf
  obtain ⟨f1, f2, f3, f4, f5, f6, f7⟩ := hf
  exact anyK_first hi (Region.noSelect_spec hs) hQ f4 f5 f6 fuel listed a w (Region.free_spec hi f1) (closed_spec f3) f7 f2 hy hS h
/-- Just one may come up. -/
theorem anyK_only (i : Nat) {o : Oper} {fuel : Nat} {listed : Array Bool} {a : Act} {w : World} (hr : Region.ready md ops listed = [i]) (ho : ops[i]? = some o)
    (h : ∀ K : Act → World → Prop, Hid (∀ a' w', S w' → (S w' → anyK P md ops Q S k fuel (listed.setIfInBounds i true) a' w') → K a' w') → (if Region.wanted o (yielded ops a.tmps) = true then Oper.wp P o a w K Q else K (a.put o.dst undef) w)) : anyK P md ops Q S k (fuel + 1) listed a w := by
  refine ⟨fun h0 => absurd (hr ▸ h0) (by simp), ?_⟩
  rw [hr]
  intro j hj
  obtain rfl := List.mem_singleton.1 hj
  have h1 := h (fun a' w' => ((listed.setIfInBounds j true).getD k true = false → S w') ∧ anyK P md ops Q S k fuel (listed.setIfInBounds j true) a' w') (fun a' w' h1 h2 => ⟨fun _ => h1, h2 h1⟩)
  unfold wpOp
  simp only [ho]
  split
  · rename_i hw; rw [if_pos hw] at h1; exact .inl h1
  · rename_i hw; rw [if_neg hw] at h1; exact h1
/-- The last: number k itself. -/
theorem anyK_last {o : Oper} {fuel : Nat} {listed : Array Bool} {a : Act} {w : World} (hr : Region.ready md ops listed = [k]) (ho : ops[k]? = some o) (hsz : decide (k < listed.size) = true)
    (h : ∀ K : Act → World → Prop, Hid (∀ a' w', anyK P md ops Q S k fuel (listed.setIfInBounds k true) a' w' → K a' w') → (if Region.wanted o (yielded ops a.tmps) = true then Oper.wp P o a w K Q else K (a.put o.dst undef) w)) : anyK P md ops Q S k (fuel + 1) listed a w := by
  refine ⟨fun h0 => absurd (hr ▸ h0) (by simp), ?_⟩
  rw [hr]
  intro j hj
  obtain rfl := List.mem_singleton.1 hj
  have h2 : (listed.setIfInBounds j true).getD j true = true := by
    have := of_decide_eq_true hsz
    simp [this]
  have h1 := h (fun a' w' => ((listed.setIfInBounds j true).getD j true = false → S w') ∧ anyK P md ops Q S j fuel (listed.setIfInBounds j true) a' w') (fun a' w' h1 => ⟨fun h3 => absurd (h2.symm.trans h3) (by simp), h1⟩)
  unfold wpOp
  simp only [ho]
  split
  · rename_i hw; rw [if_pos hw] at h1; exact .inl h1
  · rename_i hw; rw [if_neg hw] at h1; exact h1
theorem anyK_done {listed : Array Bool} {a : Act} {w : World} (hr : Region.ready md ops listed = []) (h : Q .normal a w) : ∀ fuel, anyK P md ops Q S k fuel listed a w
  | 0 => ⟨hr, h⟩
  | _ + 1 => ⟨fun _ => h, by rw [hr]; simp⟩
theorem region_anyK (S : World → Prop) (k : Nat) {id : Nat} {a : Act} {w : World} (hm : P.follows .mixedOrders = true) (hS : S w.drew) (h : S w.drew → anyK P .any ops Q S k ops.size (Array.replicate ops.size false) a w.drew) : (Code.region id ops true).wp P Q a w :=
  wp_region_any hm (any_of_anyK _ _ _ _ (h hS))
end
end Go.Proofs.YtbjimikppdfmgaaDoor
