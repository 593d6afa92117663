/- A region that draws its order and ends with a store: what the store will turn may be read first. Walks of package drive: Remove. Walks of package drive: Append. -/
import Derived.Test.YtiabfngiibabcaaGreatDoorM01
import Derived.OrdersHeld
import Derived.Test.YtiabfngiibabcaaGreatDoorM06
import Derived.Deep.DeepCutAuto
set_option linter.unusedVariables false
set_option linter.unusedSimpArgs false
set_option maxHeartbeats 800000
namespace Go.Proofs.YtiabfngiibabcaaGreatDoor

open Go.RowKit
section
variable {P : Program} {ops : Array Oper} {Q : Exit → Act → World → Prop} {md : Region.Mode} {S : World → Prop} {k : Nat}

/-- S is asked behind each operation as long as number k has not come up. -/
def anyK (P : Program) (md : Region.Mode) (ops : Array Oper) (Q : Exit → Act → World → Prop) (S : World → Prop) (k : Nat) : Nat → Array Bool → Act → World → Prop
  | 0, listed, a, w => Region.ready md ops listed = [] ∧ Q .normal a w
  | fuel + 1, listed, a, w => (Region.ready md ops listed = [] → Q .normal a w) ∧
      ∀ i ∈ Region.ready md ops listed, wpOp P ops Q i (fun a' w' => ((listed.setIfInBounds i true).getD k true = false → S w') ∧ anyK P md ops Q S k fuel (listed.setIfInBounds i true) a' w') a w

theorem any_of_anyK : ∀ (fuel : Nat) (listed : Array Bool) (a : Act) (w : World), anyK P md ops Q S k fuel listed a w → wpAny P md ops Q fuel listed a w
  | 0, _, _, _, h => h
  | fuel + 1, _, _, _, h => ⟨h.1, fun i hi => wpOp_mono (fun a' w' h' => any_of_anyK fuel _ a' w' h'.2) (h.2 i hi)⟩

/-- What has come up waited for nobody who has not. -/
def ClosedL (md : Region.Mode) (ops : Array Oper) (listed : Array Bool) : Prop := ∀ (m : Nat) (o : Oper), ops[m]? = some o → listed.getD m false = true → ∀ e ∈ o.after, Region.binds md e = true → listed.getD e.on false = true
def closedB (md : Region.Mode) (ops : Array Oper) (listed : Array Bool) : Bool := (List.range ops.size).all fun m => !listed.getD m false || ((ops[m]?).map fun o => o.after.all fun e => !Region.binds md e || listed.getD e.on false).getD true
theorem closed_spec {listed : Array Bool} (h : closedB md ops listed = true) : ClosedL md ops listed := by
  intro m o ho hm e he hb
  unfold closedB at h
  rw [List.all_eq_true] at h
  have hlt : m < ops.size := (Array.getElem?_eq_some_iff.1 ho).1
  have h1 := h m (List.mem_range.2 hlt)
  simp only [hm, ho, Bool.not_true, Bool.false_or, Option.map_some, Option.getD_some] at h1
  have h2 := Array.all_eq_true_iff_forall_mem.1 h1 e he
  simpa [hb] using h2
theorem getD_true_of {listed : Array Bool} {i : Nat} {b : Bool} (h : listed.getD i true = b) (hlt : i < listed.size) : listed.getD i false = b := by
  simp [hlt] at h ⊢
  exact h
theorem closed_set {listed : Array Bool} (h : ClosedL md ops listed) {j : Nat} (hj : j ∈ Region.ready md ops listed) : ClosedL md ops (listed.setIfInBounds j true) := by
  intro m o ho hm e he hb
  by_cases hmj : m = j
  · subst hmj
    obtain ⟨_, o', ho', hall⟩ := mem_ready.1 hj
    rw [ho] at ho'
    injection ho' with ho'
    subst ho'
    exact getD_set_true (hall e he hb)
  · rw [getD_set_ne false (Ne.symm hmj)] at hm
    exact getD_set_true (h m o ho hm e he hb)
/-- A chain of operations each of which waits for the next. -/
def chainB (md : Region.Mode) (ops : Array Oper) : List Nat → Bool
  | a :: b :: r => (((ops[a]?).map fun o => o.after.any fun e => Region.binds md e && e.on == b).getD false) && chainB md ops (b :: r)
  | _ => true
theorem chain_spec {listed : Array Bool} (hc : ClosedL md ops listed) : ∀ (r : List Nat) (a : Nat), chainB md ops (a :: r) = true → (∀ o, ops[a]? = some o → ∀ e ∈ o.after, Region.binds md e = true → listed.getD e.on false = true) → ∀ x ∈ r, listed.getD x false = true
  | [], _, _, _ => by simp
  | b :: r, a, h, ha => by
    unfold chainB at h
    rw [Bool.and_eq_true] at h
    obtain ⟨h1, h2⟩ := h
    cases ho : ops[a]? with
    | none => rw [ho] at h1; simp at h1
    | some o =>
      rw [ho] at h1
      simp only [Option.map_some, Option.getD_some, Array.any_eq_true] at h1
      obtain ⟨t, ht, h3⟩ := h1
      rw [Bool.and_eq_true, beq_iff_eq] at h3
      have hb : listed.getD b false = true := by
        have := ha o ho (o.after[t]) (Array.getElem_mem ht) h3.1
        rwa [h3.2] at this
      intro x hx
      rcases List.mem_cons.1 hx with rfl | hx
      · exact hb
      · exact chain_spec hc r b h2 (fun o' ho' => hc b o' ho' hb) x hx

theorem k_waits {listed : Array Bool} {i : Nat} {r : List Nat} (hc : ClosedL md ops listed) (hch : chainB md ops (k :: r) = true) (hir : i ∈ r) (hun : listed.getD i true = false) : k ∉ Region.ready md ops listed := by
  intro hk
  obtain ⟨_, o, ho, hall⟩ := mem_ready.1 hk
  have h1 := chain_spec hc r k hch (fun o' ho' => by
    rw [ho] at ho'
    injection ho' with ho'
    subst ho'
    exact hall) i hir
  rcases Nat.lt_or_ge i listed.size with h | h
  · simp [h] at h1 hun
    rw [hun] at h1; cases h1
  · simp [Array.getElem?_eq_none h] at h1

theorem anyK_first {i : Nat} {oi : Oper} {v : Value} {r : List Nat} (hi : ops[i]? = some oi) (hsel : ∀ (j : Nat) (o : Oper) cs b, ops[j]? = some o → o.op ≠ .select cs b) (hQ : ∀ c a w, Q (.panic c) (a.put oi.dst v) w → Q (.panic c) a w)
    (hch : chainB md ops (k :: r) = true) (hir : i ∈ r) (hik : i ≠ k) : ∀ (fuel : Nat) (listed : Array Bool) (a : Act) (w : World),
      (∀ j oj, ops[j]? = some oj → j ≠ i → listed.getD j true = false → (∀ e ∈ oj.after, Region.binds md e = true → e.on ≠ i) → oi.apart ops oj = true) → ClosedL md ops listed → listed.getD k true = false →
      i ∈ Region.ready md ops listed → YieldsIf P ops S oi v a → S w → anyK P md ops Q S k fuel (listed.setIfInBounds i true) (a.put oi.dst v) w → anyK P md ops Q S k (fuel + 1) listed a w := by
  intro fuel
  induction fuel with
  | zero =>
    intro listed a w _ _ _ hr hy hS H
    refine ⟨fun h => (by rw [h] at hr; cases hr), fun j hj => ?_⟩
    by_cases hji : j = i
    · subst hji; exact hy.wpOp hi hS ⟨fun _ => hS, H⟩
    · have := ready_mono hj hji
      rw [H.1] at this
      cases this
  | succ fuel ih =>
    intro listed a w hfree hcl hkl hr hy hS H
    refine ⟨fun h => (by rw [h] at hr; cases hr), fun j hj => ?_⟩
    by_cases hji : j = i
    · subst hji; exact hy.wpOp hi hS ⟨fun _ => hS, H⟩
    · have hun := (mem_ready.1 hr).1
      have hjk : j ≠ k := by
        rintro rfl
        exact k_waits hcl hch hir hun hj
      have h1 := H.2 j (ready_mono hj hji)
      obtain ⟨hjun, oj, hoj, hall⟩ := mem_ready.1 hj
      have hnot : ∀ e ∈ oj.after, Region.binds md e = true → e.on ≠ i := fun e he hb heq => by
        have h1 := hall e he hb
        rw [heq] at h1
        rcases Nat.lt_or_ge i listed.size with h' | h'
        · simp [h'] at hun h1; rw [hun] at h1; cases h1
        · simp [Array.getElem?_eq_none h'] at h1
      have h2 := wpOp_putIf hoj (hfree j oj hoj hji hjun hnot) (fun cs b => hsel i oi cs b hi) (fun cs b => hsel j oj cs b hoj) hQ hy h1
      have hfree' : ∀ m om, ops[m]? = some om → m ≠ i → (listed.setIfInBounds j true).getD m true = false → (∀ e ∈ om.after, Region.binds md e = true → e.on ≠ i) → oi.apart ops om = true := fun m om hm hmi hmu hno => by
        refine hfree m om hm hmi ?_ hno
        by_cases hjm : j = m
        · subst hjm; exact hjun
        · rw [getD_set_ne true hjm] at hmu; exact hmu
      have hkl' : (listed.setIfInBounds j true).getD k true = false := by rw [getD_set_ne true hjk]; exact hkl
      have hkl2 : ((listed.setIfInBounds i true).setIfInBounds j true).getD k true = false := by rw [getD_set_ne true hjk, getD_set_ne true hik]; exact hkl
      refine wpOp_mono (fun a' w' h3 => ⟨fun _ => h3.2.1 hkl2, ih (listed.setIfInBounds j true) a' w' hfree' (closed_set hcl hj) hkl' (ready_mono hr (Ne.symm hji)) h3.1 (h3.2.1 hkl2) ?_⟩) h2
      rw [Array.setIfInBounds_comm _ _ hji]
      exact h3.2.2

/-- Number i first, whatever it waits for: what it gives hangs on no world. -/
theorem anyK_firstW {i : Nat} {oi : Oper} {v : Value} (hi : ops[i]? = some oi) (hsel : ∀ (j : Nat) (o : Oper) cs b, ops[j]? = some o → o.op ≠ .select cs b) (hQ : ∀ c a w, Q (.panic c) (a.put oi.dst v) w → Q (.panic c) a w)
    (hik : i ≠ k) : ∀ (fuel : Nat) (listed : Array Bool) (a : Act) (w : World),
      (∀ j oj, ops[j]? = some oj → j ≠ i → listed.getD j true = false → (∀ e ∈ oj.after, Region.binds md e = true → e.on ≠ i) → oi.apart ops oj = true) → 
      i ∈ Region.ready md ops listed → YieldsIf P ops (fun _ => True) oi v a → (listed.getD k true = false → S w) → anyK P md ops Q S k fuel (listed.setIfInBounds i true) (a.put oi.dst v) w → anyK P md ops Q S k (fuel + 1) listed a w := by
  intro fuel
  induction fuel with
  | zero =>
    intro listed a w _ hr hy hS H
    refine ⟨fun h => (by rw [h] at hr; cases hr), fun j hj => ?_⟩
    by_cases hji : j = i
    · subst hji; exact hy.wpOp hi trivial ⟨fun h => hS (by rw [getD_set_ne true hik] at h; exact h), H⟩
    · have := ready_mono hj hji
      rw [H.1] at this
      cases this
  | succ fuel ih =>
    intro listed a w hfree hr hy hS H
    refine ⟨fun h => (by rw [h] at hr; cases hr), fun j hj => ?_⟩
    by_cases hji : j = i
    · subst hji; exact hy.wpOp hi trivial ⟨fun h => hS (by rw [getD_set_ne true hik] at h; exact h), H⟩
    · have hun := (mem_ready.1 hr).1
      have h1 := H.2 j (ready_mono hj hji)
      obtain ⟨hjun, oj, hoj, hall⟩ := mem_ready.1 hj
      have hnot : ∀ e ∈ oj.after, Region.binds md e = true → e.on ≠ i := fun e he hb heq => by
        have h1 := hall e he hb
        rw [heq] at h1
        rcases Nat.lt_or_ge i listed.size with h' | h'
        · simp [h'] at hun h1; rw [hun] at h1; cases h1
        · simp [Array.getElem?_eq_none h'] at h1
      have h2 := wpOp_putIf hoj (hfree j oj hoj hji hjun hnot) (fun cs b => hsel i oi cs b hi) (fun cs b => hsel j oj cs b hoj) hQ hy h1
      have hfree' : ∀ m om, ops[m]? = some om → m ≠ i → (listed.setIfInBounds j true).getD m true = false → (∀ e ∈ om.after, Region.binds md e = true → e.on ≠ i) → oi.apart ops om = true := fun m om hm hmi hmu hno => by
        refine hfree m om hm hmi ?_ hno
        by_cases hjm : j = m
        · subst hjm; exact hjun
        · rw [getD_set_ne true hjm] at hmu; exact hmu
      have hkl : ((listed.setIfInBounds i true).setIfInBounds j true).getD k true = (listed.setIfInBounds j true).getD k true := by
        rw [Array.setIfInBounds_comm _ _ (Ne.symm hji), getD_set_ne true hik]
      refine wpOp_mono (fun a' w' h3 => ⟨fun hk => h3.2.1 (hkl.trans hk), ih (listed.setIfInBounds j true) a' w' hfree' (ready_mono hr (Ne.symm hji)) h3.1 (fun hk => h3.2.1 (hkl.trans hk)) ?_⟩) h2
      rw [Array.setIfInBounds_comm _ _ hji]
      exact h3.2.2

/-! ### the moves -/
theorem anyK_takeW (i : Nat) {oi : Oper} {v : Value} {fuel : Nat} {listed : Array Bool} {a : Act} {w : World} (hi : ops[i]? = some oi) (hs : Region.noSelect ops = true)
    (hf : (Region.free md ops listed i && ((Region.ready md ops listed).contains i && !(i == k))) = true)
    (hQ : ∀ c a w, Q (.panic c) (a.put oi.dst v) w → Q (.panic c) a w) (hy : YieldsIf P ops (fun _ => True) oi v a) (hS : S w) (h : anyK P md ops Q S k fuel (listed.setIfInBounds i true) (a.put oi.dst v) w) : anyK P md ops Q S k (fuel + 1) listed a w := by
  simp only [Bool.and_eq_true, Bool.not_eq_true', beq_eq_false_iff_ne, List.contains_iff_mem] at hf
  obtain ⟨f1, f2, f3⟩ := hf
  exact anyK_firstW hi (Region.noSelect_spec hs) hQ f3 fuel listed a w (Region.free_spec hi f1) f2 hy (fun _ => hS) h

/-- Number i first. r: a chain from k down to i. -/
theorem anyK_take (i : Nat) (r : List Nat) {oi : Oper} {v : Value} {fuel : Nat} {listed : Array Bool} {a : Act} {w : World} (hi : ops[i]? = some oi) (hs : Region.noSelect ops = true)
    (hf : (Region.free md ops listed i && ((Region.ready md ops listed).contains i && (closedB md ops listed && (chainB md ops (k :: r) && (r.contains i && (!(i == k) && !listed.getD k true)))))) = true)
    (hQ : ∀ c a w, Q (.panic c) (a.put oi.dst v) w → Q (.panic c) a w) (hy : YieldsIf P ops S oi v a) (hS : S w) (h : anyK P md ops Q S k fuel (listed.setIfInBounds i true) (a.put oi.dst v) w) : anyK P md ops Q S k (fuel + 1) listed a w := by
  simp only [Bool.and_eq_true, Bool.not_eq_true', beq_eq_false_iff_ne, List.contains_iff_mem] at hf
  obtain ⟨f1, f2, f3, f4, f5, f6, f7⟩ := hf
  exact anyK_first hi (Region.noSelect_spec hs) hQ f4 f5 f6 fuel listed a w (Region.free_spec hi f1) (closed_spec f3) f7 f2 hy hS h
/-- Just one may come up. -/
theorem anyK_only (i : Nat) {o : Oper} {fuel : Nat} {listed : Array Bool} {a : Act} {w : World} (hr : Region.ready md ops listed = [i]) (ho : ops[i]? = some o)
    (h : ∀ K : Act → World → Prop, Hid (∀ a' w', S w' → (S w' → anyK P md ops Q S k fuel (listed.setIfInBounds i true) a' w') → K a' w') → (if Region.wanted o (yielded ops a.tmps) = true then Oper.wp P o a w K Q else K (a.put o.dst undef) w)) : anyK P md ops Q S k (fuel + 1) listed a w := by
  refine ⟨fun h0 => absurd (hr ▸ h0) (by simp), ?_⟩
  rw [hr]
  intro j hj
  obtain rfl := List.mem_singleton.1 hj
  have h1 := h (fun a' w' => ((listed.setIfInBounds j true).getD k true = false → S w') ∧ anyK P md ops Q S k fuel (listed.setIfInBounds j true) a' w') (fun a' w' h1 h2 => ⟨fun _ => h1, h2 h1⟩)
  unfold wpOp
  simp only [ho]
  split
  · rename_i hw; rw [if_pos hw] at h1; exact .inl h1
  · rename_i hw; rw [if_neg hw] at h1; exact h1
/-- Just two may come up. -/
theorem anyK_two (i j : Nat) {oi oj : Oper} {fuel : Nat} {listed : Array Bool} {a : Act} {w : World} (hr : Region.ready md ops listed = [i, j]) (hi : ops[i]? = some oi) (hj : ops[j]? = some oj)
    (h1 : ∀ K : Act → World → Prop, Hid (∀ a' w', S w' → (S w' → anyK P md ops Q S k fuel (listed.setIfInBounds i true) a' w') → K a' w') → (if Region.wanted oi (yielded ops a.tmps) = true then Oper.wp P oi a w K Q else K (a.put oi.dst undef) w))
    (h2 : ∀ K : Act → World → Prop, Hid (∀ a' w', S w' → (S w' → anyK P md ops Q S k fuel (listed.setIfInBounds j true) a' w') → K a' w') → (if Region.wanted oj (yielded ops a.tmps) = true then Oper.wp P oj a w K Q else K (a.put oj.dst undef) w)) : anyK P md ops Q S k (fuel + 1) listed a w := by
  refine ⟨fun h0 => absurd (hr ▸ h0) (by simp), ?_⟩
  have go : ∀ (m : Nat) (o : Oper), ops[m]? = some o → (∀ K : Act → World → Prop, Hid (∀ a' w', S w' → (S w' → anyK P md ops Q S k fuel (listed.setIfInBounds m true) a' w') → K a' w') → (if Region.wanted o (yielded ops a.tmps) = true then Oper.wp P o a w K Q else K (a.put o.dst undef) w)) → wpOp P ops Q m (fun a' w' => ((listed.setIfInBounds m true).getD k true = false → S w') ∧ anyK P md ops Q S k fuel (listed.setIfInBounds m true) a' w') a w := by
    intro m o ho h
    have h1 := h (fun a' w' => ((listed.setIfInBounds m true).getD k true = false → S w') ∧ anyK P md ops Q S k fuel (listed.setIfInBounds m true) a' w') (fun a' w' h1 h2 => ⟨fun _ => h1, h2 h1⟩)
    unfold wpOp
    simp only [ho]
    split
    · rename_i hw; rw [if_pos hw] at h1; exact .inl h1
    · rename_i hw; rw [if_neg hw] at h1; exact h1
  rw [hr]
  intro m hm
  rcases List.mem_cons.1 hm with rfl | hm
  · exact go _ _ hi h1
  · obtain rfl := List.mem_singleton.1 hm
    exact go _ _ hj h2
/-- The last: number k itself. -/
theorem anyK_last {o : Oper} {fuel : Nat} {listed : Array Bool} {a : Act} {w : World} (hr : Region.ready md ops listed = [k]) (ho : ops[k]? = some o) (hsz : decide (k < listed.size) = true)
    (h : ∀ K : Act → World → Prop, Hid (∀ a' w', anyK P md ops Q S k fuel (listed.setIfInBounds k true) a' w' → K a' w') → (if Region.wanted o (yielded ops a.tmps) = true then Oper.wp P o a w K Q else K (a.put o.dst undef) w)) : anyK P md ops Q S k (fuel + 1) listed a w := by
  refine ⟨fun h0 => absurd (hr ▸ h0) (by simp), ?_⟩
  rw [hr]
  intro j hj
  obtain rfl := List.mem_singleton.1 hj
  have h2 : (listed.setIfInBounds j true).getD j true = true := by
    have := of_decide_eq_true hsz
    simp [this]
  have h1 := h (fun a' w' => ((listed.setIfInBounds j true).getD j true = false → S w') ∧ anyK P md ops Q S j fuel (listed.setIfInBounds j true) a' w') (fun a' w' h1 => ⟨fun h3 => absurd (h2.symm.trans h3) (by simp), h1⟩)
  unfold wpOp
  simp only [ho]
  split
  · rename_i hw; rw [if_pos hw] at h1; exact .inl h1
  · rename_i hw; rw [if_neg hw] at h1; exact h1
/-- Behind number k: just one may come up. -/
theorem anyK_past (i : Nat) {o : Oper} {fuel : Nat} {listed : Array Bool} {a : Act} {w : World} (hr : Region.ready md ops listed = [i]) (ho : ops[i]? = some o) (hk : listed.getD k true = true)
    (h : ∀ K : Act → World → Prop, Hid (∀ a' w', anyK P md ops Q S k fuel (listed.setIfInBounds i true) a' w' → K a' w') → (if Region.wanted o (yielded ops a.tmps) = true then Oper.wp P o a w K Q else K (a.put o.dst undef) w)) : anyK P md ops Q S k (fuel + 1) listed a w := by
  refine ⟨fun h0 => absurd (hr ▸ h0) (by simp), ?_⟩
  rw [hr]
  intro j hj
  obtain rfl := List.mem_singleton.1 hj
  have h2 : (listed.setIfInBounds j true).getD k true = true := by
    by_cases hjk : j = k
    · subst hjk
      rcases Nat.lt_or_ge j listed.size with h' | h' <;> simp [h']
    · rw [getD_set_ne true hjk]; exact hk
  have h1 := h (fun a' w' => ((listed.setIfInBounds j true).getD k true = false → S w') ∧ anyK P md ops Q S k fuel (listed.setIfInBounds j true) a' w') (fun a' w' h1 => ⟨fun h3 => absurd (h2.symm.trans h3) (by simp), h1⟩)
  unfold wpOp
  simp only [ho]
  split
  · rename_i hw; rw [if_pos hw] at h1; exact .inl h1
  · rename_i hw; rw [if_neg hw] at h1; exact h1
theorem anyK_done {listed : Array Bool} {a : Act} {w : World} (hr : Region.ready md ops listed = []) (h : Q .normal a w) : ∀ fuel, anyK P md ops Q S k fuel listed a w
  | 0 => ⟨hr, h⟩
  | _ + 1 => ⟨fun _ => h, by rw [hr]; simp⟩
theorem region_anyK (S : World → Prop) (k : Nat) {id : Nat} {a : Act} {w : World} (hm : P.follows .mixedOrders = true) (hS : S w.drew) (h : S w.drew → anyK P .any ops Q S k ops.size (Array.replicate ops.size false) a w.drew) : (Code.region id ops true).wp P Q a w :=
  wp_region_any hm (any_of_anyK _ _ _ _ (h hS))
end
end Go.Proofs.YtiabfngiibabcaaGreatDoor

set_option linter.unusedVariables false
set_option linter.unusedSimpArgs false
set_option maxHeartbeats 1600000
set_option maxRecDepth 100000
attribute [local go_sem ↓] Go.wp_at_zero Go.wp_at_succ
namespace Go.Proofs.YtiabfngiibabcaaGreatDoor
open Go.RowKit

/-- The cells that a closure of two captured variables reads. -/
structure Three (w : World) (g mb pb nb : Nat) (name : Key) (u : Int) : Prop where
  c0 : w.cell? ⟨pb, 0, none⟩ = some (.pointer (some ⟨g, 0, none⟩))
  c1 : w.cell? ⟨nb, 0, none⟩ = some (.string (S name))
  c2 : w.cell? ⟨g, 0, none⟩ = some (.map (some mb))
  c3 : w.cell? ⟨g, 2, none⟩ = some (.int .i64 u)
  f2 : w.frozen? ⟨g, 2, none⟩ = false

theorem pairwise_two {α : Type} {R : α → α → Prop} (hs : ∀ a b, R a b → R b a) {l : List α} (h : l.Pairwise R) {a b : α} (ha : a ∈ l) (hb : b ∈ l) (hne : a ≠ b) : R a b := by
  induction l with
  | nil => simp at ha
  | cons x r ih =>
    have h1 := List.pairwise_cons.1 h
    rcases List.mem_cons.1 ha with h2 | h2
    · rcases List.mem_cons.1 hb with h3 | h3
      · exact absurd (h2.trans h3.symm) hne
      · rw [h2]; exact h1.1 _ h3
    · rcases List.mem_cons.1 hb with h3 | h3
      · rw [h3]; exact hs _ _ (h1.1 _ h2)
      · exact ih h1.2 h2 h3
/-- A drive's map was turned, and its own block: its files are some of those that it had. -/
theorem IsDrive.turn {w w2 : World} {g mb : Nat} {d d' : Dr} {fp : Nat → Prop} {aft : Int} {rs rs' : List (Key × FileR)} (h : IsDrive w g d fp) (hb : Blk w g 78 (driveCells d mb aft)) (hf : HasFiles w fp mb rs)
    (hs : w.heap.size ≤ w2.heap.size) (hk : ∀ k, k < w.heap.size → k ≠ mb → k ≠ g → w2.heap[k]? = w.heap[k]?) (hm2 : OwnM Tryz.prog 9 w2 mb (kmap FileR.blk rs')) (hsub : ∀ p ∈ rs', ∃ q ∈ rs, q.2 = p.2) (hap : rs'.Pairwise FApart)
    (hb2 : Blk w2 g 78 (driveCells d' mb aft)) (ha : 0 ≤ d'.left → aft = d'.left) (hd : d'.files = kmap FileR.f rs') : IsDrive w2 g d' fp := by
  refine ⟨fun k hk => Nat.lt_of_lt_of_le (h.lt k hk) hs, h.own, mb, aft, rs', hb2, ha, ⟨hm2, hf.own, fun p hp => ?_, hap⟩, hd⟩
  obtain ⟨q, hq, he⟩ := hsub p hp
  have hF := hf.each q hq
  rw [he] at hF
  obtain ⟨es0, cl0, hmb⟩ := hf.map.isMap
  refine hF.keepAll (fun k cs t h1 h2 h3 => hk k (h.lt k h1) ?_ ?_) (fun _ h => h)
  · rintro rfl
    rw [hmb] at h3; cases h3
  · rintro rfl
    have hb' : w.heap[k]? = _ := hb
    rw [hb'] at h3
    injection h3 with h3
    injection h3 with _ h4
    exact h2 h4.symm

theorem used_del {d : Dr} {name : Key} {f : File} (hr : Rising d.files) (hk : kget d.files name = some f) : ({ d with files := kdel d.files name } : Dr).used = d.used - f.all.length := by
  have h1 : d.used = ((ksum (fun f : File => f.all.length) d.files : Nat) : Int) := d.used_eq
  have h2 : ({ d with files := kdel d.files name } : Dr).used = ((ksum (fun f : File => f.all.length) (kdel d.files name) : Nat) : Int) := Dr.used_eq _
  rw [h1, h2, ksum_del _ hr hk]
  omega
theorem used_nonneg (d : Dr) : 0 ≤ d.used := by rw [Dr.used_eq]; omega
theorem wrap_small {n : Int} (h0 : -9223372036854775808 ≤ n) (h1 : n ≤ 9223372036854775807) : IntKind.i64.wrap n = n := by
  unfold IntKind.wrap
  simp [IntKind.bits, IntKind.signed]
  omega

end Go.Proofs.YtiabfngiibabcaaGreatDoor

set_option linter.unusedVariables false
set_option linter.unusedSimpArgs false
set_option maxHeartbeats 3200000
set_option maxRecDepth 100000
attribute [local go_sem ↓] Go.wp_at_zero Go.wp_at_succ
namespace Go.Proofs.YtiabfngiibabcaaGreatDoor
open Go.RowKit

/-- What the closure of an append reads. -/
structure Four (w : World) (g mb pb nb db fb : Nat) (name : Key) (u : Int) (A : Option Addr) (n c : Nat) (pv : Value) : Prop where
  c0 : w.cell? ⟨pb, 0, none⟩ = some (.pointer (some ⟨g, 0, none⟩))
  c1 : w.cell? ⟨nb, 0, none⟩ = some (.string (S name))
  c2 : w.cell? ⟨db, 0, none⟩ = some (.slice A n c)
  c3 : w.cell? ⟨g, 0, none⟩ = some (.map (some mb))
  c4 : w.cell? ⟨g, 2, none⟩ = some (.int .i64 u)
  c5 : w.cell? ⟨fb, 1, none⟩ = some pv
  f2 : w.frozen? ⟨g, 2, none⟩ = false
  f3 : w.frozen? ⟨fb, 1, none⟩ = false
  L : (Instr.lookup 76 (.map (some mb)) (.string (S name)) false).run Tryz.prog w = .ok (.pointer (some ⟨fb, 0, none⟩)) w

theorem append_walk {w : World} {g mb pb nb db fb : Nat} {name : Key} {u : Int} {A pA : Option Addr} {n c pn pc : Nat} (hT : Four w.drew g mb pb nb db fb name u A n c (.slice pA pn pc)) (R : World → Prop)
    (hA : Calls Tryz.prog 163 #[.slice A n c] w.drew fun e w1 => ∃ A1 n1 c1, e = .returned (.slice A1 n1 c1) ∧ Four w1 g mb pb nb db fb name u A n c (.slice pA pn pc) ∧ Four (w1.alloc (.cells #[.slice A1 n1 c1] 85)) g mb pb nb db fb name u A n c (.slice pA pn pc) ∧
      ∃ A2 n2 c2 w2, (Builtin.append_ #[176, 176] 176 #[.slice pA pn pc, .slice (some ⟨w1.heap.size, 0, none⟩) 1 1]).run Tryz.prog (w1.alloc (.cells #[.slice A1 n1 c1] 85)) = .ok (.slice A2 n2 c2) w2 ∧
        Four w2 g mb pb nb db fb name u A n c (.slice pA pn pc) ∧ Four (w2.setCell ⟨fb, 1, none⟩ (.slice A2 n2 c2)) g mb pb nb db fb name u A n c (.slice A2 n2 c2) ∧ Four ((w2.setCell ⟨fb, 1, none⟩ (.slice A2 n2 c2)).drew.setCell ⟨g, 2, none⟩ (.int .i64 (IntKind.i64.wrap (u + n)))) g mb pb nb db fb name (IntKind.i64.wrap (u + n)) A n c (.slice A2 n2 c2) ∧
        R ((w2.setCell ⟨fb, 1, none⟩ (.slice A2 n2 c2)).drew.setCell ⟨g, 2, none⟩ (.int .i64 (IntKind.i64.wrap (u + n))))) :
    Calls Tryz.prog 162 #[.pointer (some ⟨pb, 0, none⟩), .pointer (some ⟨nb, 0, none⟩), .pointer (some ⟨db, 0, none⟩)] w fun e w' => e = .returned (.tuple #[]) ∧ R w' := by
  have HA := hid hA
  clear hA
  obtain ⟨cp, cn, cd, cg, cu, cf, fu, ff, L⟩ := hT
  go_enter Tryz.func162, Tryz.ntmps162
  go_upto_region 0 with fail
  go_cut [] (fun wx => ∃ v, Four wx g mb pb nb db fb name u A n c v ∧ Four (wx.drew.setCell ⟨g, 2, none⟩ (.int .i64 (IntKind.i64.wrap (u + n)))) g mb pb nb db fb name (IntKind.i64.wrap (u + n)) A n c v ∧ R (wx.drew.setCell ⟨g, 2, none⟩ (.int .i64 (IntKind.i64.wrap (u + n)))))
  case first =>
    refine region_anyK (fun w' => w'.cell? ⟨pb, 0, none⟩ = some (.pointer (some ⟨g, 0, none⟩)) ∧ w'.cell? ⟨nb, 0, none⟩ = some (.string (S name)) ∧ w'.cell? ⟨db, 0, none⟩ = some (.slice A n c) ∧ w'.cell? ⟨g, 0, none⟩ = some (.map (some mb)) ∧ w'.cell? ⟨fb, 1, none⟩ = some (.slice pA pn pc) ∧ (Instr.lookup 76 (.map (some mb)) (.string (S name)) false).run Tryz.prog w' = .ok (.pointer (some ⟨fb, 0, none⟩)) w') 21 (by kernel_rfl) (by ((try dsimp only); simp [*, go_sem, World.cell?_alloc_past])) (fun hSk => ?_)
    refine anyK_take 0 [0] (v := ?_) rfl (by kernel_rfl) (by kernel_rfl) (fun _ _ _ h => h) (Or.inl ⟨by rfl, ?_⟩) hSk ?_
    rotate_left
    · intro w' hSw; (try dsimp only at hSw); go_simp; try with_reducible rfl
    try simp only [Act.put, List.setIfInBounds_toArray, List.set_cons_zero, List.set_cons_succ]
    refine anyK_take 1 [1] (v := ?_) rfl (by kernel_rfl) (by kernel_rfl) (fun _ _ _ h => h) (Or.inl ⟨by rfl, ?_⟩) hSk ?_
    rotate_left
    · intro w' hSw; (try dsimp only at hSw); go_simp; try with_reducible rfl
    try simp only [Act.put, List.setIfInBounds_toArray, List.set_cons_zero, List.set_cons_succ]
    refine anyK_take 2 [2] (v := ?_) rfl (by kernel_rfl) (by kernel_rfl) (fun _ _ _ h => h) (Or.inl ⟨by rfl, ?_⟩) hSk ?_
    rotate_left
    · intro w' hSw; (try dsimp only at hSw); go_simp; try with_reducible rfl
    try simp only [Act.put, List.setIfInBounds_toArray, List.set_cons_zero, List.set_cons_succ]
    refine anyK_take 3 [3] (v := ?_) rfl (by kernel_rfl) (by kernel_rfl) (fun _ _ _ h => h) (Or.inl ⟨by rfl, ?_⟩) hSk ?_
    rotate_left
    · intro w' hSw; (try dsimp only at hSw); go_simp; try with_reducible rfl
    try simp only [Act.put, List.setIfInBounds_toArray, List.set_cons_zero, List.set_cons_succ]
    refine anyK_take 4 [4] (v := ?_) rfl (by kernel_rfl) (by kernel_rfl) (fun _ _ _ h => h) (Or.inl ⟨by rfl, ?_⟩) hSk ?_
    rotate_left
    · intro w' hSw; (try dsimp only at hSw); go_simp; try with_reducible rfl
    try simp only [Act.put, List.setIfInBounds_toArray, List.set_cons_zero, List.set_cons_succ]
    refine anyK_take 5 [5] (v := ?_) rfl (by kernel_rfl) (by kernel_rfl) (fun _ _ _ h => h) (Or.inl ⟨by rfl, ?_⟩) hSk ?_
    rotate_left
    · intro w' hSw; (try dsimp only at hSw); go_simp; try with_reducible rfl
    try simp only [Act.put, List.setIfInBounds_toArray, List.set_cons_zero, List.set_cons_succ]
    refine anyK_take 6 [6] (v := ?_) rfl (by kernel_rfl) (by kernel_rfl) (fun _ _ _ h => h) (Or.inl ⟨by rfl, ?_⟩) hSk ?_
    rotate_left
    · intro w' hSw; (try dsimp only at hSw); go_simp; try with_reducible rfl
    try simp only [Act.put, List.setIfInBounds_toArray, List.set_cons_zero, List.set_cons_succ]
    refine anyK_take 7 [7] (v := ?_) rfl (by kernel_rfl) (by kernel_rfl) (fun _ _ _ h => h) (Or.inl ⟨by rfl, ?_⟩) hSk ?_
    rotate_left
    · intro w' hSw; (try dsimp only at hSw); go_simp; try with_reducible rfl
    try simp only [Act.put, List.setIfInBounds_toArray, List.set_cons_zero, List.set_cons_succ]
    refine anyK_take 8 [8] (v := ?_) rfl (by kernel_rfl) (by kernel_rfl) (fun _ _ _ h => h) (Or.inl ⟨by rfl, ?_⟩) hSk ?_
    rotate_left
    · intro w' hSw; (try dsimp only at hSw); go_simp; try with_reducible rfl
    try simp only [Act.put, List.setIfInBounds_toArray, List.set_cons_zero, List.set_cons_succ]
    refine anyK_take 9 [9] (v := ?_) rfl (by kernel_rfl) (by kernel_rfl) (fun _ _ _ h => h) (Or.inl ⟨by rfl, ?_⟩) hSk ?_
    rotate_left
    · intro w' hSw; (try dsimp only at hSw); go_simp; try with_reducible rfl
    try simp only [Act.put, List.setIfInBounds_toArray, List.set_cons_zero, List.set_cons_succ]
    refine anyK_take 10 [10] (v := ?_) rfl (by kernel_rfl) (by kernel_rfl) (fun _ _ _ h => h) (Or.inl ⟨by rfl, ?_⟩) hSk ?_
    rotate_left
    · intro w' hSw; (try dsimp only at hSw); go_simp; try with_reducible rfl
    try simp only [Act.put, List.setIfInBounds_toArray, List.set_cons_zero, List.set_cons_succ]
    refine anyK_take 11 [11] (v := ?_) rfl (by kernel_rfl) (by kernel_rfl) (fun _ _ _ h => h) (Or.inl ⟨by rfl, ?_⟩) hSk ?_
    rotate_left
    · intro w' hSw; (try dsimp only at hSw); go_simp; try with_reducible rfl
    try simp only [Act.put, List.setIfInBounds_toArray, List.set_cons_zero, List.set_cons_succ]
    refine anyK_take 12 [12] (v := ?_) rfl (by kernel_rfl) (by kernel_rfl) (fun _ _ _ h => h) (Or.inl ⟨by rfl, ?_⟩) hSk ?_
    rotate_left
    · intro w' hSw; (try dsimp only at hSw); go_simp; try with_reducible rfl
    try simp only [Act.put, List.setIfInBounds_toArray, List.set_cons_zero, List.set_cons_succ]
    refine anyK_take 13 [13] (v := ?_) rfl (by kernel_rfl) (by kernel_rfl) (fun _ _ _ h => h) (Or.inl ⟨by rfl, ?_⟩) hSk ?_
    rotate_left
    · intro w' hSw; (try dsimp only at hSw); go_simp; try with_reducible rfl
    try simp only [Act.put, List.setIfInBounds_toArray, List.set_cons_zero, List.set_cons_succ]
    refine anyK_take 14 [14] (v := ?_) rfl (by kernel_rfl) (by kernel_rfl) (fun _ _ _ h => h) (Or.inl ⟨by rfl, ?_⟩) hSk ?_
    rotate_left
    · intro w' hSw; (try dsimp only at hSw); go_simp; try with_reducible rfl
    try simp only [Act.put, List.setIfInBounds_toArray, List.set_cons_zero, List.set_cons_succ]
    refine anyK_take 15 [15] (v := ?_) rfl (by kernel_rfl) (by kernel_rfl) (fun _ _ _ h => h) (Or.inl ⟨by rfl, ?_⟩) hSk ?_
    rotate_left
    · intro w' hSw; (try dsimp only at hSw); go_simp; try with_reducible rfl
    try simp only [Act.put, List.setIfInBounds_toArray, List.set_cons_zero, List.set_cons_succ]
    refine anyK_only 16 (by kernel_rfl) rfl (fun K hK => ?_)
    (first | (refine step_append_run rfl _ _ _ (by rfl) _ _ _ _ (by rfl) (by rfl) hrun ?_) | (rw [if_pos (by rfl)]; go_simp; go_at_call 163; refine HA.out.mono ?_; rintro e w1 ⟨A1, n1, c1, rfl, ⟨p0, p1, p2, p3, p4, p5, p6, p7, p8⟩, ⟨q0, q1, q2, q3, q4, q5, q6, q7, q8⟩, A2, n2, c2, w2, hrun, ⟨r0, r1, r2, r3, r4, r5, r6, r7, r8⟩, ⟨s0, s1, s2, s3, s4, s5, s6, s7, s8⟩, ⟨t0, t1, t2, t3, t4, t5, t6, t7, t8⟩, hR⟩; go_wp2_with fail) | go_simp)
    clear hSk
    refine hK.out _ _ (by ((try dsimp only); simp [*, go_sem, World.cell?_alloc_past])) (fun hSk => ?_)
    clear hK K
    try simp only [Act.put, List.setIfInBounds_toArray, List.set_cons_zero, List.set_cons_succ]
    refine anyK_only 17 (by kernel_rfl) rfl (fun K hK => ?_)
    (first | (refine step_append_run rfl _ _ _ (by rfl) _ _ _ _ (by rfl) (by rfl) hrun ?_) | (rw [if_pos (by rfl)]; go_simp; go_at_call 163; refine HA.out.mono ?_; rintro e w1 ⟨A1, n1, c1, rfl, ⟨p0, p1, p2, p3, p4, p5, p6, p7, p8⟩, ⟨q0, q1, q2, q3, q4, q5, q6, q7, q8⟩, A2, n2, c2, w2, hrun, ⟨r0, r1, r2, r3, r4, r5, r6, r7, r8⟩, ⟨s0, s1, s2, s3, s4, s5, s6, s7, s8⟩, ⟨t0, t1, t2, t3, t4, t5, t6, t7, t8⟩, hR⟩; go_wp2_with fail) | go_simp)
    clear hSk
    refine hK.out _ _ (by ((try dsimp only); simp [*, go_sem, World.cell?_alloc_past])) (fun hSk => ?_)
    clear hK K
    try simp only [Act.put, List.setIfInBounds_toArray, List.set_cons_zero, List.set_cons_succ]
    refine anyK_only 18 (by kernel_rfl) rfl (fun K hK => ?_)
    (first | (refine step_append_run rfl _ _ _ (by rfl) _ _ _ _ (by rfl) (by rfl) hrun ?_) | (rw [if_pos (by rfl)]; go_simp; go_at_call 163; refine HA.out.mono ?_; rintro e w1 ⟨A1, n1, c1, rfl, ⟨p0, p1, p2, p3, p4, p5, p6, p7, p8⟩, ⟨q0, q1, q2, q3, q4, q5, q6, q7, q8⟩, A2, n2, c2, w2, hrun, ⟨r0, r1, r2, r3, r4, r5, r6, r7, r8⟩, ⟨s0, s1, s2, s3, s4, s5, s6, s7, s8⟩, ⟨t0, t1, t2, t3, t4, t5, t6, t7, t8⟩, hR⟩; go_wp2_with fail) | go_simp)
    clear hSk
    refine hK.out _ _ (by ((try dsimp only); simp [*, go_sem, World.cell?_alloc_past])) (fun hSk => ?_)
    clear hK K
    try simp only [Act.put, List.setIfInBounds_toArray, List.set_cons_zero, List.set_cons_succ]
    refine anyK_take 19 [20, 19] (v := ?_) rfl (by kernel_rfl) (by kernel_rfl) (fun _ _ _ h => h) (Or.inl ⟨by rfl, ?_⟩) hSk ?_
    rotate_left
    · intro w' hSw; (try dsimp only at hSw); go_simp; try with_reducible rfl
    try simp only [Act.put, List.setIfInBounds_toArray, List.set_cons_zero, List.set_cons_succ]
    refine anyK_take 20 [20] (v := ?_) rfl (by kernel_rfl) (by kernel_rfl) (fun _ _ _ h => h) (Or.inl ⟨by rfl, ?_⟩) hSk ?_
    rotate_left
    · intro w' hSw; (try dsimp only at hSw); go_simp; try with_reducible rfl
    try simp only [Act.put, List.setIfInBounds_toArray, List.set_cons_zero, List.set_cons_succ]
    refine anyK_last (by kernel_rfl) rfl (by kernel_rfl) (fun K hK => ?_)
    go_simp
    refine hK.out _ _ ?_
    clear hK K
    try simp only [Act.put, List.setIfInBounds_toArray, List.set_cons_zero, List.set_cons_succ]
    refine anyK_done (by kernel_rfl) ?_ _
    clear hSk
    all_goals (go_wp2_with fail; go_meet; exact ⟨_, ⟨s0, s1, s2, s3, s4, s5, s6, s7, s8⟩, ⟨t0, t1, t2, t3, t4, t5, t6, t7, t8⟩, hR⟩)
  case rest =>
    obtain ⟨v, ⟨s0, s1, s2, s3, s4, s5, s6, s7, s8⟩, ⟨t0, t1, t2, t3, t4, t5, t6, t7, t8⟩, hR⟩ := hcut
    clear HA
    go_wp2
    refine region_anyK (fun w' => w'.cell? ⟨pb, 0, none⟩ = some (.pointer (some ⟨g, 0, none⟩)) ∧ w'.cell? ⟨db, 0, none⟩ = some (.slice A n c) ∧ w'.cell? ⟨g, 2, none⟩ = some (.int .i64 u)) 9 (by kernel_rfl) (by ((try dsimp only); simp [*, go_sem, World.cell?_alloc_past])) (fun hSk => ?_)
    refine anyK_take 0 [0] (v := ?_) rfl (by kernel_rfl) (by kernel_rfl) (fun _ _ _ h => h) (Or.inl ⟨by rfl, ?_⟩) hSk ?_
    rotate_left
    · intro w' hSw; (try dsimp only at hSw); go_simp; try with_reducible rfl
    try simp only [Act.put, List.setIfInBounds_toArray, List.set_cons_zero, List.set_cons_succ]
    refine anyK_take 1 [1] (v := ?_) rfl (by kernel_rfl) (by kernel_rfl) (fun _ _ _ h => h) (Or.inl ⟨by rfl, ?_⟩) hSk ?_
    rotate_left
    · intro w' hSw; (try dsimp only at hSw); go_simp; try with_reducible rfl
    try simp only [Act.put, List.setIfInBounds_toArray, List.set_cons_zero, List.set_cons_succ]
    refine anyK_take 2 [2] (v := ?_) rfl (by kernel_rfl) (by kernel_rfl) (fun _ _ _ h => h) (Or.inl ⟨by rfl, ?_⟩) hSk ?_
    rotate_left
    · intro w' hSw; (try dsimp only at hSw); go_simp; try with_reducible rfl
    try simp only [Act.put, List.setIfInBounds_toArray, List.set_cons_zero, List.set_cons_succ]
    refine anyK_take 3 [3] (v := ?_) rfl (by kernel_rfl) (by kernel_rfl) (fun _ _ _ h => h) (Or.inl ⟨by rfl, ?_⟩) hSk ?_
    rotate_left
    · intro w' hSw; (try dsimp only at hSw); go_simp; try with_reducible rfl
    try simp only [Act.put, List.setIfInBounds_toArray, List.set_cons_zero, List.set_cons_succ]
    refine anyK_take 4 [4] (v := ?_) rfl (by kernel_rfl) (by kernel_rfl) (fun _ _ _ h => h) (Or.inl ⟨by rfl, ?_⟩) hSk ?_
    rotate_left
    · intro w' hSw; (try dsimp only at hSw); go_simp; try with_reducible rfl
    try simp only [Act.put, List.setIfInBounds_toArray, List.set_cons_zero, List.set_cons_succ]
    refine anyK_take 5 [5] (v := ?_) rfl (by kernel_rfl) (by kernel_rfl) (fun _ _ _ h => h) (Or.inl ⟨by rfl, ?_⟩) hSk ?_
    rotate_left
    · intro w' hSw; (try dsimp only at hSw); go_simp; try with_reducible rfl
    try simp only [Act.put, List.setIfInBounds_toArray, List.set_cons_zero, List.set_cons_succ]
    refine anyK_take 6 [6] (v := ?_) rfl (by kernel_rfl) (by kernel_rfl) (fun _ _ _ h => h) (Or.inl ⟨by rfl, ?_⟩) hSk ?_
    rotate_left
    · intro w' hSw; (try dsimp only at hSw); go_simp; try with_reducible rfl
    try simp only [Act.put, List.setIfInBounds_toArray, List.set_cons_zero, List.set_cons_succ]
    refine anyK_take 7 [8, 7] (v := ?_) rfl (by kernel_rfl) (by kernel_rfl) (fun _ _ _ h => h) (Or.inl ⟨by rfl, ?_⟩) hSk ?_
    rotate_left
    · intro w' hSw; (try dsimp only at hSw); go_simp; try with_reducible rfl
    try simp only [Act.put, List.setIfInBounds_toArray, List.set_cons_zero, List.set_cons_succ]
    refine anyK_take 8 [8] (v := ?_) rfl (by kernel_rfl) (by kernel_rfl) (fun _ _ _ h => h) (Or.inl ⟨by rfl, ?_⟩) hSk ?_
    rotate_left
    · intro w' hSw; (try dsimp only at hSw); go_simp; try with_reducible rfl
    try simp only [Act.put, List.setIfInBounds_toArray, List.set_cons_zero, List.set_cons_succ]
    refine anyK_last (by kernel_rfl) rfl (by kernel_rfl) (fun K hK => ?_)
    go_simp
    refine hK.out _ _ ?_
    clear hK K
    try simp only [Act.put, List.setIfInBounds_toArray, List.set_cons_zero, List.set_cons_succ]
    refine anyK_done (by kernel_rfl) ?_ _
    clear hSk
    all_goals
      go_wp2
      go_end0
      exact ⟨rfl, hR⟩
end Go.Proofs.YtiabfngiibabcaaGreatDoor
