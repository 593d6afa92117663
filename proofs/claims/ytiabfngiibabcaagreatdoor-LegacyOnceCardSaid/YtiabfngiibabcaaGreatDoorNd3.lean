/-
  Walk of nodes.Grow: the nodes that a tree has more.
-/
import Derived.Test.YtiabfngiibabcaaGreatDoorNd2
import Derived.Lib.RabinKarpLaws
set_option linter.unusedVariables false
set_option linter.unusedSimpArgs false
set_option maxHeartbeats 6400000
set_option maxRecDepth 100000
namespace Go.Proofs.YtiabfngiibabcaaGreatDoor
open Go.RowKit

/-! ### plainly -/
def climbP : Nat → Nat → Nat → List (List UInt8) → List UInt8 → List Wr × List (List UInt8) × List UInt8
  | 0, _, _, tops, h => ([], tops, h)
  | f + 1, lv, n, tops, h => if n / 2 ^ (lv - 1) % 2 = 1 then
      let r := climbP f (lv + 1) n tops.dropLast (nodeH (tops.getLastD []) h)
      (⟨nK lv (n / 2 ^ lv), nodeH (tops.getLastD []) h, false⟩ :: r.1, r.2)
    else ([], tops, h)
def growP (n : Nat) (tops : List (List UInt8)) : List (List UInt8) → List Wr × List (List UInt8)
  | [] => ([], tops)
  | h :: r =>
    let c := climbP 12 1 n tops h
    let g := growP (n + 1) (c.2.1 ++ [c.2.2]) r
    (⟨nK 0 n, h, false⟩ :: (c.1 ++ g.1), g.2)
def popN (n : Nat) : Nat := popC 11 n
theorem popC_more : ∀ (f n : Nat), n < 2 ^ f → popC (f + 1) n = popC f n
  | 0, n, h => by
    obtain rfl : n = 0 := by simpa using h
    rfl
  | f + 1, n, h => by
    rw [Nat.pow_succ] at h
    have := popC_more f (n / 2) (by omega)
    rw [popC, this]
    rfl
theorem popC_le : ∀ f n, popC f n ≤ f
  | 0, _ => Nat.le_refl _
  | f + 1, n => by
    have := popC_le f (n / 2)
    have e : popC (f + 1) n = n % 2 + popC f (n / 2) := rfl
    omega
theorem popN_step {n : Nat} (h : n < 2048) : popN n = n % 2 + popN (n / 2) := by
  unfold popN
  have := popC_more 10 (n / 2) (by simp; omega)
  rw [this]
  rfl
theorem popN_pow (m : Nat) : ∀ k, m * 2 ^ k < 2048 → popN (m * 2 ^ k) = popN m
  | 0, _ => by simp
  | k + 1, h => by
    rw [Nat.pow_succ] at h ⊢
    rw [← Nat.mul_assoc] at h ⊢
    rw [popN_step h, show m * 2 ^ k * 2 % 2 = 0 by omega, show m * 2 ^ k * 2 / 2 = m * 2 ^ k by omega, popN_pow m k (by omega), Nat.zero_add]
theorem step_odd {nk lv : Nat} (h : 1 ≤ lv) (hm : nk = nk / 2 ^ (lv - 1) * 2 ^ (lv - 1) + (2 ^ (lv - 1) - 1)) (ho : nk / 2 ^ (lv - 1) % 2 = 1) :
    nk / 2 ^ lv = nk / 2 ^ (lv - 1) / 2 ∧ nk = nk / 2 ^ lv * 2 ^ lv + (2 ^ lv - 1) ∧ 2 ^ lv ≤ nk + 1 := by
  obtain ⟨p, rfl⟩ : ∃ p, lv = p + 1 := ⟨lv - 1, by omega⟩
  simp only [Nat.add_sub_cancel] at *
  have e : nk / 2 ^ (p + 1) = nk / 2 ^ p / 2 := by rw [Nat.pow_succ, Nat.div_div_eq_div_mul]
  have hp : 0 < 2 ^ p := Nat.two_pow_pos p
  rw [e, Nat.pow_succ]
  generalize nk / 2 ^ p = m at *
  generalize 2 ^ p = P at *
  obtain ⟨q, rfl⟩ : ∃ q, m = 2 * q + 1 := ⟨m / 2, by omega⟩
  have e1 : (2 * q + 1) * P = q * (P * 2) + P := by rw [Nat.add_mul, Nat.one_mul, Nat.mul_comm 2 q, Nat.mul_assoc, Nat.mul_comm 2 P]
  have e2 : (2 * q + 1) / 2 = q := by omega
  rw [e2]
  refine ⟨rfl, by omega, ?_⟩
  have : 0 ≤ q * (P * 2) := Nat.zero_le _
  omega
theorem step_even {nk lv : Nat} (h : 1 ≤ lv) (hm : nk = nk / 2 ^ (lv - 1) * 2 ^ (lv - 1) + (2 ^ (lv - 1) - 1)) :
    nk + 1 = (nk / 2 ^ (lv - 1) + 1) * 2 ^ (lv - 1) := by
  have hp : 0 < 2 ^ (lv - 1) := Nat.two_pow_pos _
  generalize nk / 2 ^ (lv - 1) = m at *
  generalize 2 ^ (lv - 1) = P at *
  rw [Nat.add_mul, Nat.one_mul]
  omega
theorem lv_lt {nk lv : Nat} (h : nk < 2047) (h2 : 2 ^ lv ≤ nk + 1) : lv ≤ 10 := by
  rcases Nat.lt_or_ge 10 lv with h3 | h3
  · have : 2 ^ 11 ≤ 2 ^ lv := Nat.pow_le_pow_right (by omega) h3
    omega
  · exact h3
theorem lg_CloneT {w : World} {base : Nat} {A : Option Addr} (l : List (List UInt8)) (c : Nat) (h : w.ownsRow base 9 1 (.slice A l.length c) l.length (l.map tV)) (hn : l.length ≤ 1000000) :
    Calls Tryz.prog 52 #[.slice A l.length c] w fun e w' => ∃ A' c', e = .returned (.slice A' l.length c') ∧ w'.ownsRow w.heap.size 9 1 (.slice A' l.length c') l.length (l.map tV) ∧ Below w.heap.size w w' := by
  rcases h.2 with ⟨h1, h2⟩ | ⟨g, cap, cur, hv, hb, hh, r1, r2, r3, r4⟩
  · simp only [Value.slice.injEq] at h1
    obtain ⟨rfl, -, rfl⟩ := h1
    obtain rfl := List.eq_nil_of_length_eq_zero h2
    refine (AnyE.slices_Clone_nil layCloneT 0 0 w).mono ?_
    rintro e w' ⟨rfl, rfl⟩
    exact ⟨none, 0, rfl, World.ownsRow_nil _ _ _ _, Below.refl _ _⟩
  · simp only [Value.slice.injEq] at hv
    obtain ⟨rfl, -, rfl⟩ := hv
    obtain ⟨i, hi, hz, hsz, hby⟩ := info_tx
    refine (AnyE.slices_Clone layCloneT i _ 1 16 hi hz hsz hby rfl (by decide) (fun w => by kernel_rfl) g 0 l.length c (l.map tV) w (by simp) (by unfold maxLen; omega) (by omega) (fun j u hu => ?_) (fun u hu => ?_)).mono ?_
    · rw [Nat.zero_add, ← hu]
      obtain ⟨hj, -⟩ := List.getElem?_eq_some_iff.1 hu
      exact h.cellAt j (by simpa using hj)
    · obtain ⟨x, -, rfl⟩ := List.mem_map.1 hu
      rfl
    · rintro e w' ⟨v', rfl, hr, -, hb⟩
      obtain ⟨A', c', rfl⟩ := row_form hr
      exact ⟨A', c', rfl, hr, hb⟩
/-- Two rows of one's own: texts, and writes. -/
structure GW (W wr : World) (ts : List (List UInt8)) (A : Option Addr) (c : Nat) (ws : List Wr) (Ao : Option Addr) (co : Nat) : Prop where
  tx : wr.ownsRow W.heap.size 9 1 (.slice A ts.length c) ts.length (ts.map tV)
  wx : wr.ownsRow W.heap.size 104 3 (.slice Ao ws.length co) ws.length (ws.flatMap wCells)
  be : Below W.heap.size W wr
section
variable {W wr w2 : World} {ts : List (List UInt8)} {A Ao : Option Addr} {c co : Nat} {ws : List Wr}
theorem row_lt {w : World} {base n c : Nat} {e : TypeId} {size : Nat} {A : Option Addr} {xs : List Value} (h : w.ownsRow base e size (.slice A n c) n xs) {k : Nat} (hk : OwnBy (.slice A n c) k) : k < w.heap.size := by
  obtain ⟨cs, hcs⟩ := row_heap h hk
  exact (Array.getElem?_eq_some_iff.1 hcs).1
theorem row_under {w w' : World} {base n c : Nat} {e : TypeId} {size : Nat} {A : Option Addr} {xs : List Value} (h : w.ownsRow base e size (.slice A n c) n xs) (hb : Below w.heap.size w w') : w'.ownsRow base e size (.slice A n c) n xs := row_keep h fun k hk => hb.block k (row_lt h hk)
theorem row_apart {w : World} {base n c base' n' c' : Nat} {e e' : TypeId} {size size' : Nat} {A A' : Option Addr} {xs ys : List Value} (h : w.ownsRow base e size (.slice A n c) n xs) (h' : w.ownsRow base' e' size' (.slice A' n' c') n' ys) (hne : e ≠ e') {k : Nat} (hk : OwnBy (.slice A n c) k) : ¬ OwnBy (.slice A' n' c') k := fun hk' => by
  obtain ⟨cs, hcs⟩ := row_heap h hk
  obtain ⟨cs', hcs'⟩ := row_heap h' hk'
  rw [hcs] at hcs'
  injection hcs' with q
  injection q with _ q
  exact hne q
theorem GW.below (h : GW W wr ts A c ws Ao co) (hb : Below wr.heap.size wr w2) : GW W w2 ts A c ws Ao co := ⟨row_under h.tx hb, row_under h.wx hb, h.be.trans (hb.mono h.be.size)⟩
theorem below_touch {p q : Nat → Prop} {w0 : World} (h : Below w0.heap.size w0 wr) (ht : Touch wr w2 p q) (hp : ∀ k, p k → w0.heap.size ≤ k) : Below w0.heap.size w0 w2 :=
  ⟨ht.os.trans h.os, ht.tape.trans h.tape, ht.output.trans h.output, Nat.le_trans h.size ht.size, fun k hk => (ht.block k (Nat.lt_of_lt_of_le hk h.size) fun hh => by have := hp k hh; omega).trans (h.block k hk)⟩
theorem GW.addW (h : GW W wr ts A c ws Ao co) (y : Wr) (hl : ws.length ≤ 1000000) : ∃ A' c' w', (Builtin.append_ #[105, 105] 105 #[.slice Ao ws.length co, .slice (some ⟨wr.heap.size, 0, none⟩) 1 1]).run Tryz.prog (wr.alloc (.cells #[.string (S y.key), .string (S y.val), .bool y.gone] 104)) = .ok (.slice A' (ws.length + 1) c') w' ∧ GW W w' ts A c (ws ++ [y]) A' c' := by
  obtain ⟨A', c', w', hrun, hr, ht⟩ := append_wr wr y h.wx hl h.be.size
  exact ⟨A', c', w', hrun, row_keep h.tx fun k hk => ht.block k (row_lt h.tx hk) (row_apart h.tx h.wx (by decide) hk), hr, below_touch h.be ht fun k hk => row_base_le h.wx hk⟩
theorem GW.addT (h : GW W wr ts A c ws Ao co) (y : List UInt8) (hl : ts.length ≤ 1000000) : ∃ A' c' w', (Builtin.append_ #[39, 39] 39 #[.slice A ts.length c, .slice (some ⟨wr.heap.size, 0, none⟩) 1 1]).run Tryz.prog (wr.alloc (.cells #[.string (S y)] 9)) = .ok (.slice A' (ts.length + 1) c') w' ∧ GW W w' (ts ++ [y]) A' c' ws Ao co := by
  obtain ⟨A', c', w', hrun, hr, ht⟩ := append_tx wr y h.tx hl h.be.size
  exact ⟨A', c', w', hrun, hr, row_keep h.wx fun k hk => ht.block k (row_lt h.wx hk) (row_apart h.wx h.tx (by decide) hk), below_touch h.be ht fun k hk => row_base_le h.tx hk⟩
theorem GW.dropLast (h : GW W wr ts A c ws Ao co) : GW W wr ts.dropLast A c ws Ao co := by
  refine ⟨?_, h.wx, h.be⟩
  have := row_take h.tx (ts.length - 1) (by omega)
  rw [Nat.mul_one, ← List.map_take, ← List.dropLast_eq_take] at this
  rw [List.length_dropLast]
  exact this
theorem GW.last (h : GW W wr ts A c ws Ao co) (hne : ts ≠ []) : ∃ g, A = some ⟨g, 0, none⟩ ∧ g < wr.heap.size ∧ ts.length ≤ c ∧ wr.cell? ⟨g, ts.length - 1, none⟩ = some (.string (S (ts.getLastD []))) := by
  have hl : 0 < ts.length := List.length_pos_iff.2 hne
  rcases h.tx.2 with ⟨h1, h2⟩ | ⟨g, cap, cur, hv, hb, hh, r⟩
  · omega
  · simp only [Value.slice.injEq] at hv
    obtain ⟨rfl, -, rfl⟩ := hv
    refine ⟨g, rfl, (Array.getElem?_eq_some_iff.1 hh).1, by have := r.1; omega, ?_⟩
    refine (h.tx.cellAt (ts.length - 1) (by omega)).trans ?_
    rw [List.getElem?_map, List.getLastD_eq_getLast?, List.getLast?_eq_getElem?]
    rw [List.getElem?_eq_getElem (by omega)]
    rfl
theorem size_tx (W : World) : (sizeOf 9).run Tryz.prog W = .ok 1 W := by kernel_rfl
theorem slice_tx_h (W : World) (b o L c h : Nat) (h2 : h ≤ c) : (Instr.slice 39 (.slice (some ⟨b, o, none⟩) L c) none (some (.int .i64 h)) none).run Tryz.prog W = .ok (.slice (some ⟨b, o, none⟩) h c) W := by
  rw [Go.run_slice_h (P := Tryz.prog) (w := W) _ _ _ _ (by kernel_rfl) .i64 (h : Int) (by omega) (by omega)]
  rw [show (Tryz.prog).elem 39 = 9 by kernel_rfl, size_tx]
  simp [Result.andThen, sliced, add_plain']
theorem row_str {w : World} {base c : Nat} {A : Option Addr} {l : List (List UInt8)} (h : w.ownsRow base 9 1 (.slice A l.length c) l.length (l.map tV)) (k : Nat) (hk : k < l.length) : ∃ g, A = some ⟨g, 0, none⟩ ∧ g < w.heap.size ∧ w.cell? ⟨g, k, none⟩ = some (.string (S l[k])) := by
  rcases h.2 with ⟨h1, h2⟩ | ⟨g, cap, cur, hv, hb, hh, r⟩
  · omega
  · simp only [Value.slice.injEq] at hv
    obtain ⟨rfl, -, rfl⟩ := hv
    refine ⟨g, rfl, (Array.getElem?_eq_some_iff.1 hh).1, ?_⟩
    refine (h.cellAt k (by omega)).trans ?_
    rw [List.getElem?_map, List.getElem?_eq_getElem hk]
    rfl
theorem nodes_Grow (W : World) (n : Nat) (ts hs : List (List UInt8)) (A Ah : Option Addr) (c ch bt' bh : Nat) (hT : W.ownsRow bt' 9 1 (.slice A ts.length c) ts.length (ts.map tV)) (hH : W.ownsRow bh 9 1 (.slice Ah hs.length ch) hs.length (hs.map tV)) (hn : n + hs.length < 2047) (htl : ts.length = popN n) (h1 : ∀ t ∈ ts, t.length ≤ 100) (h2 : ∀ t ∈ hs, t.length ≤ 100) (hL : LibL W) :
    Calls Tryz.prog 109 #[.int .i64 n, .slice A ts.length c, .slice Ah hs.length ch] W fun e w' => ∃ A1 c1 A2 c2, e = .returned (.tuple #[.slice A1 (growP n ts hs).1.length c1, .slice A2 (growP n ts hs).2.length c2]) ∧ GW W w' (growP n ts hs).2 A2 c2 (growP n ts hs).1 A1 c1 := by
  have OC := hid (fun w => bits_OnesCount n (by omega) w)
  have CL := hid (fun (w : World) (hr : w.ownsRow bt' 9 1 (.slice A ts.length c) ts.length (ts.map tV)) => lg_CloneT ts c hr (by have := popC_le 11 n; unfold popN at htl; omega))
  have HT := hid hT
  have hnz : decide ((n : Int) < 0) = false := by simp
  have hnp : popC 11 n = ts.length := by rw [htl]; rfl
  rw [hnp] at OC
  have hu : IntKind.u64.wrap (n : Int) = n := IntWalk.u64_in _ (by omega)
  have HLL := hid hL
  have HTL := hid htl
  have HHH := hid hH
  have H1 := hid h1
  have H2 := hid h2
  clear hL htl hH h1 h2 hnp hT
  go_enter Tryz.func109, Tryz.ntmps109
  go_wp2_with (first
    | (go_at_call 167; refine (OC.out _).mono ?_; rintro e w2 ⟨rfl, hw2⟩; rw [hw2]; clear hw2 w2)
    | (go_at_call 52; refine (CL.out _ HT.out).mono ?_; rintro e w3 ⟨A3, c3, rfl, hr3, hb3⟩))
  have G0 : GW W w3 ts A3 c3 [] none 0 := ⟨hr3, World.ownsRow_nil _ _ _ _, hb3⟩
  have HG := hid G0
  clear hr3 hb3 G0 CL OC HT
  go_loopw [0, 1, 8, 10, 11, 12, 27] (fun n' t' o' _ _ _ i wr => ∃ (k : Nat) (tk : List (List UInt8)) (ok : List Wr) (At : Option Addr) (ct : Nat) (Ao : Option Addr) (co : Nat), k ≤ hs.length ∧ n' = .int .i64 ((n + k : Nat) : Int) ∧ t' = .slice At tk.length ct ∧ o' = .slice Ao ok.length co ∧ i = .int .i64 k ∧ Hid (GW W wr tk At ct ok Ao co) ∧ Hid (growP n ts hs = (ok ++ (growP (n + k) tk (hs.drop k)).1, (growP (n + k) tk (hs.drop k)).2)) ∧ Hid (tk.length = popN (n + k)) ∧ Hid (∀ t ∈ tk, t.length ≤ 100) ∧ ok.length ≤ 13 * k) (fun _ _ _ _ _ _ i _ => hs.length - (intOf i).toNat)
  case atStart => exact ⟨0, ts, [], A3, c3, none, 0, Nat.zero_le _, rfl, rfl, rfl, rfl, HG, rfl, HTL, H1, Nat.zero_le _⟩
  case round =>
    obtain ⟨k, tk, ok, At, ct, Ao, co, hk, rfl, rfl, rfl, rfl, hG, hgr, hpo, htk, hokl⟩ := hrel
    by_cases hlt : k < hs.length
    · obtain ⟨gh, rfl, hgl, hcl⟩ := row_str HHH.out k hlt
      have hc1 : wr.cell? ⟨gh, k, none⟩ = some (.string (S hs[k])) := (hG.out.be.cell hgl).trans hcl
      have hx100 : hs[k].length ≤ 100 := H2.out _ (List.getElem_mem hlt)
      have hdr : hs.drop k = hs[k] :: hs.drop (k + 1) := List.drop_eq_getElem_cons hlt
      have ND := hid (nodes_Node 0 (n + k) (by omega) (by omega) wr (HLL.out.below hG.out.be))
      have HNN := hid (show n + k < 2047 by omega)
      rw [hdr] at hgr
      have HX := hid (show ∃ x, x = hs[k] from ⟨_, rfl⟩)
      generalize hs[k] = x at *
      generalize hnk : n + k = nk at *
      have HNK := hid hnk
      have HHX := hid hx100
      clear hnk hcl hdr hgl hx100
      go_wp2_with (first
        | (go_at_call 51; refine ND.out.mono ?_; rintro e w2 ⟨rfl, hb2⟩; obtain ⟨A4, c4, w4, hrun4, hG4⟩ := (hG.out.below hb2).addW ⟨nK 0 nk, x, false⟩ (by omega); have HG4 := hid hG4; clear hG4 hb2)
        | (at_builtin; refine wpList_append_run rfl _ _ _ (by rfl) _ _ _ _ (by rfl) (by rfl) hrun4 ?_))
      have HPO := hid (show tk.length = popN (nk / 2 ^ 0) by simpa using hpo.out)
      have HTK := hid htk.out
      clear hc1 hG hpo htk ND hrun4
      obtain ⟨os0, hos0⟩ : ∃ os0, os0 = ok ++ [⟨nK 0 nk, x, false⟩] := ⟨_, rfl⟩
      rw [← hos0] at HG4
      have hl0 : os0.length = ok.length + 1 := by rw [hos0]; simp
      have HOS := hid hos0
      rw [← hl0]
      have HD0 := hid (show ∃ dn : List Wr, os0 = ok ++ [⟨nK 0 nk, x, false⟩] ++ dn ∧ dn.length + 1 = 1 ∧ climbP 12 1 nk tk x = (dn ++ (climbP (13 - 1) 1 nk tk x).1, (climbP (13 - 1) 1 nk tk x).2) from ⟨[], by rw [hos0]; simp, rfl, by simp⟩)
      clear hos0 hl0
      go_loopw [1, 8, 10, 11, 12] (fun t' o' h' lv' _ wr => ∃ (lv : Nat) (t2 : List (List UInt8)) (os : List Wr) (h2 : List UInt8) (A2 : Option Addr) (c2 : Nat) (A5 : Option Addr) (c5 : Nat), 1 ≤ lv ∧ lv ≤ 11 ∧ t' = .slice A2 t2.length c2 ∧ o' = .slice A5 os.length c5 ∧ h' = .string (S h2) ∧ lv' = .int .i64 lv ∧ Hid (GW W wr t2 A2 c2 os A5 c5) ∧ Hid (∃ dn : List Wr, os = ok ++ [⟨nK 0 nk, x, false⟩] ++ dn ∧ dn.length + 1 = lv ∧ climbP 12 1 nk tk x = (dn ++ (climbP (13 - lv) lv nk t2 h2).1, (climbP (13 - lv) lv nk t2 h2).2)) ∧ Hid (t2.length = popN (nk / 2 ^ (lv - 1))) ∧ Hid (∀ t ∈ t2, t.length ≤ 100) ∧ Hid (h2.length ≤ 100) ∧ Hid (nk = nk / 2 ^ (lv - 1) * 2 ^ (lv - 1) + (2 ^ (lv - 1) - 1))) (fun _ _ _ lv' _ _ => 13 - (intOf lv').toNat)
      case atStart => exact ⟨1, tk, os0, x, At, ct, A4, c4, Nat.le_refl _, by omega, rfl, rfl, rfl, rfl, HG4, HD0, HPO, HTK, HHX, hid (by simp)⟩
      case round =>
        obtain ⟨lv, t2, os, h2, A2, c2, A5, c5, hl1, hl2, rfl, rfl, rfl, rfl, hG, hcl, hpo, htk, hhl, hnm⟩ := hrel
        have hosl : os.length = ok.length + lv := by
          obtain ⟨dn, h1, h2, -⟩ := hcl.out
          rw [h1]
          simp
          omega
        have hosl2 : os.length ≤ 1000000 := by rw [hosl]; omega
        have HOL := hid hosl
        clear hosl
        have w1 : IntKind.i64.wrap ((lv : Int) - 1) = ((lv - 1 : Nat) : Int) := by rw [IntWalk.i64_in _ (by omega)]; omega
        have w2 : (lv : Int) - 1 = ((lv - 1 : Nat) : Int) := by omega
        have hbit := and_one (nk / 2 ^ (lv - 1)) (by have := Nat.div_le_self nk (2 ^ (lv - 1)); have := HNN.out; omega)
        have hc1 : ((nk / 2 ^ (lv - 1) : Nat) : Int) = (nk : Int) / 2 ^ (lv - 1) := by simp
        rw [hc1] at hbit
        clear hc1
        by_cases hod : nk / 2 ^ (lv - 1) % 2 = 1
        · rw [hod] at hbit
          obtain ⟨e1, e2, e3⟩ := step_odd hl1 hnm.out hod
          have hlv := lv_lt HNN.out e3
          have hmm : nk / 2 ^ (lv - 1) < 2048 := by have := Nat.div_le_self nk (2 ^ (lv - 1)); have := HNN.out; omega
          have hpp := popN_step hmm
          rw [hod, ← e1] at hpp
          obtain ⟨tn, htn⟩ : ∃ tn, tn = popN (nk / 2 ^ lv) := ⟨_, rfl⟩
          rw [← htn] at hpp
          have htl2 : t2.length = tn + 1 := by rw [hpo.out, hpp, Nat.add_comm]
          have htn100 : tn ≤ 100 := by have := popC_le 11 (nk / 2 ^ lv); unfold popN at htn; omega
          have hne : t2 ≠ [] := by intro h; rw [h] at htl2; simp at htl2
          obtain ⟨g2, rfl, hg2, hcap, hlc⟩ := hG.out.last hne
          rw [htl2] at hcap hlc ⊢
          rw [Nat.add_sub_cancel] at hlc
          have hml : t2.getLastD [] ∈ t2 := by rw [List.getLastD_eq_getLast?, List.getLast?_eq_some_getLast hne]; exact List.getLast_mem hne
          have htl100 := htk.out _ hml
          have hsl : ∀ W, (Instr.slice 39 (.slice (some ⟨g2, 0, none⟩) (tn + 1) c2) none (some (.int .i64 tn)) none).run Tryz.prog W = .ok (.slice (some ⟨g2, 0, none⟩) tn c2) W := fun W => slice_tx_h W g2 0 (tn + 1) c2 tn (by omega)
          have NH := hid (fun (w' : World) (hb : Below wr.heap.size wr w') => by
            have hL' : LibL w' := HLL.out.below (hG.out.be.trans (hb.mono hG.out.be.size))
            exact peaks_NodeHash w' (t2.getLastD []) h2 (by have := hhl.out; omega) hL'.k hL'.b)
          have HG5 := hid (fun (w' : World) (hb : Below wr.heap.size wr w') => (hG.out.below hb).dropLast)
          have HLB := hid (fun (w' : World) (hb : Below wr.heap.size wr w') => HLL.out.below (hG.out.be.trans (hb.mono hG.out.be.size)))
          have HDL := hid (show t2.dropLast.length = tn by rw [List.length_dropLast, htl2]; omega)
          have HT2 := hid (show ∀ t ∈ t2.dropLast, t.length ≤ 100 from fun t ht => htk.out t (List.dropLast_subset _ ht))
          have HN2 := hid (show (nodeH (t2.getLastD []) h2).length ≤ 100 by rw [nodeH_len]; omega)
          have HCL := hid (show ∃ dn : List Wr, os ++ [⟨nK lv (nk / 2 ^ lv), nodeH (t2.getLastD []) h2, false⟩] = ok ++ [⟨nK 0 nk, x, false⟩] ++ dn ∧ dn.length + 1 = lv + 1 ∧ climbP 12 1 nk tk x = (dn ++ (climbP (13 - (lv + 1)) (lv + 1) nk t2.dropLast (nodeH (t2.getLastD []) h2)).1, (climbP (13 - (lv + 1)) (lv + 1) nk t2.dropLast (nodeH (t2.getLastD []) h2)).2) by
            obtain ⟨dn, h3, h4, h5⟩ := hcl.out
            refine ⟨dn ++ [⟨nK lv (nk / 2 ^ lv), nodeH (t2.getLastD []) h2, false⟩], by rw [h3]; simp, by simp; omega, ?_⟩
            rw [h5, show 13 - lv = (13 - (lv + 1)) + 1 by omega, climbP, if_pos hod]
            simp)
          have HE2 := hid (show nk = nk / 2 ^ (lv + 1 - 1) * 2 ^ (lv + 1 - 1) + (2 ^ (lv + 1 - 1) - 1) by rw [Nat.add_sub_cancel]; exact e2)
          have HPP := hid (show t2.dropLast.length = popN (nk / 2 ^ (lv + 1 - 1)) by rw [Nat.add_sub_cancel, HDL.out]; exact htn)
          have hc2 : ((nk / 2 ^ lv : Nat) : Int) = (nk : Int) / 2 ^ lv := by simp
          have ND := hid (fun (w' : World) (hb : Below wr.heap.size wr w') => by
            have := nodes_Node lv (nk / 2 ^ lv) (by omega) (by have := Nat.div_le_self nk (2 ^ lv); have := HNN.out; omega) w' (HLB.out w' hb)
            rw [hc2] at this
            exact this)
          have w3 : IntKind.i64.wrap (tn : Int) = tn := IntWalk.i64_in _ (by omega)
          have hix0 : (0 : Int) ≤ (tn : Int) := by omega
          have hix1 : (tn : Int) < (tn : Int) + 1 := by omega
          have hix2 : (tn : Int) < ((tn + 1 : Nat) : Int) := by omega
          generalize nodeH (t2.getLastD []) h2 = nh at *
          generalize t2.getLastD [] = tl at *
          generalize t2.dropLast = td at *
          generalize nk / 2 ^ lv = nl at *
          clear hG hcl hpo htk hhl hnm e1 e2 e3 hmm hpp htn htl2 hne hml htl100 hod hc2
          go_wp2
          go_region_held3 (fun w' => w'.cell? ⟨g2, tn, none⟩ = some (.string (S tl))) (simp [*, go_sem, World.cell?_alloc_past]) (first
            | (go_at_call 54; refine (NH.out _ (below_drewN (Below.refl _ _) 1)).mono ?_; rintro e w2 ⟨rfl, hb2⟩; have HB2 := hid (below_from (n := 1) hb2); have hlc2 : w2.cell? ⟨g2, tn, none⟩ = some (.string (S tl)) := (HB2.out.cell hg2).trans hlc; clear hb2))
          go_wp2_with (first
            | (go_at_call 51; refine (ND.out _ HB2.out).mono ?_; rintro e w5 ⟨rfl, hb5⟩; obtain ⟨A7, c7, w7, hrun7, hG7⟩ := (HG5.out _ (bt HB2.out hb5)).addW ⟨nK lv nl, nh, false⟩ hosl2; have HG7 := hid hG7; clear hG7 hb5)
            | (at_builtin; refine wpList_append_run rfl _ _ _ (by rfl) _ _ _ _ (by rfl) (by rfl) hrun7 ?_))
          go_roundw
          case rel => exact ⟨lv + 1, td, os ++ [⟨nK lv nl, nh, false⟩], nh, some ⟨g2, 0, none⟩, c2, A7, c7, by omega, by omega, by rw [HDL.out], by rw [List.length_append]; rfl, rfl, by go_num, HG7, HCL, HPP, HT2, HN2, HE2⟩
          case measure => simp [intOf]; omega
        · have hod0 : nk / 2 ^ (lv - 1) % 2 = 0 := by omega
          rw [hod0] at hbit
          have hkn : nk < 2047 := HNN.out
          have HGR := hid (show growP n ts hs = (os ++ (growP (nk + 1) (t2 ++ [h2]) (hs.drop (k + 1))).1, (growP (nk + 1) (t2 ++ [h2]) (hs.drop (k + 1))).2) by
            obtain ⟨dn, h3, h4, h5⟩ := hcl.out
            have hz : climbP (13 - lv) lv nk t2 h2 = ([], t2, h2) := by rw [show 13 - lv = (12 - lv) + 1 by omega, climbP, if_neg hod]
            rw [hz, List.append_nil] at h5
            rw [hgr.out, growP, h5, h3]
            simp)
          have hev := step_even hl1 hnm.out
          have hmm : nk / 2 ^ (lv - 1) ≤ nk := Nat.div_le_self _ _
          have HPN := hid (show (t2 ++ [h2]).length = popN (nk + 1) by
            have a1 := popN_step (n := nk / 2 ^ (lv - 1)) (by omega)
            have a2 := popN_step (n := nk / 2 ^ (lv - 1) + 1) (by omega)
            have a3 := popN_pow (nk / 2 ^ (lv - 1) + 1) (lv - 1) (by omega)
            rw [← hev] at a3
            rw [List.length_append, hpo.out, a3, a2, a1, List.length_singleton]
            rw [show (nk / 2 ^ (lv - 1) + 1) / 2 = nk / 2 ^ (lv - 1) / 2 by omega]
            omega)
          have htl2 : t2.length ≤ 1000000 := by rw [hpo.out]; have := popC_le 11 (nk / 2 ^ (lv - 1)); unfold popN; omega
          have HT2 := hid (show ∀ t ∈ t2 ++ [h2], t.length ≤ 100 from fun t ht => by
            rcases List.mem_append.1 ht with ht | ht
            · exact htk.out t ht
            · rw [List.mem_singleton.1 ht]; exact hhl.out)
          obtain ⟨A6, c6, w6, hrun6, hG6⟩ := hG.out.addT h2 htl2
          have HG6 := hid hG6
          have hosk : os.length ≤ 13 * (k + 1) := by have := HOL.out; omega
          have HKS := hid hosk
          clear hG hcl hpo htk hhl hnm hev hmm htl2 hG6 hosk hod hod0 hgr
          go_wp2_with (at_builtin; refine wpList_append_run rfl _ _ _ (by rfl) _ _ _ _ (by rfl) (by rfl) hrun6 ?_)
          go_roundw
          case rel => exact ⟨k + 1, t2 ++ [h2], os, A6, c6, A5, c5, by omega, by rw [show n + (k + 1) = nk + 1 by have := HNK.out; omega]; go_num, by rw [List.length_append]; rfl, rfl, by go_num, HG6, by rw [show n + (k + 1) = nk + 1 by have := HNK.out; omega]; exact HGR, by rw [show n + (k + 1) = nk + 1 by have := HNK.out; omega]; exact HPN, HT2, HKS.out⟩
          case measure => simp [intOf]; omega
    · have hk' : k = hs.length := by omega
      subst hk'
      have HF := hid (show growP n ts hs = (ok, tk) by rw [hgr.out, List.drop_length, growP]; simp)
      have HG9 := hid hG.out
      clear hG hgr hpo htk hokl
      go_wp2
      go_ret2
      exact ⟨Ao, co, At, ct, by rw [HF.out]; rfl, by rw [HF.out]; exact HG9.out⟩
end
end Go.Proofs.YtiabfngiibabcaaGreatDoor
