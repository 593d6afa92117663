/- Rows of writes and of texts, and what append does with them; a row's first part (printed from genRows.py's pattern). Walks of package digest: a turned word, a number. Walk of package digest: a block. Walk of digest.blocks: whole blocks, handed on one by one. -/
import Derived.Test.YtiabfngiibabcaaGreatDoorM15
import Derived.Test.YtiabfngiibabcaaGreatDoorM09
import Derived.Test.YtiabfngiibabcaaGreatDoorM01
import Derived.Test.YtiabfngiibabcaaGreatDoorM14
import Derived.Laws.Shifts
import Derived.Laws.ShiftsVarLaws
import Derived.Laws.BitsAllLaws
import Derived.IntWalk
import Derived.Test.YtiabfngiibabcaaGreatDoorM03
import Derived.Lib.LaidTab
import Derived.Deep.QuietTactic
import Derived.BigQuiet
import Derived.BigRegion
import Derived.ChangeAlike
import Derived.Deep.RegionHeld3
import Derived.Test.YtiabfngiibabcaaGreatDoorM04
set_option linter.unusedVariables false
set_option linter.unusedSimpArgs false
set_option maxHeartbeats 3200000
set_option maxRecDepth 100000
namespace Go.Proofs.YtiabfngiibabcaaGreatDoor
open Go.RowKit

theorem append_wr (W : World) {base : Nat} {A : Option Addr} {c : Nat} {os : List Wr} (y : Wr) (hown : W.ownsRow base 104 3 (.slice A os.length c) os.length (os.flatMap wCells)) (hl : os.length ≤ 1000000) (hbase : base ≤ W.heap.size) :
    ∃ A' c' w', (Builtin.append_ #[105, 105] 105 #[.slice A os.length c, .slice (some ⟨W.heap.size, 0, none⟩) 1 1]).run Tryz.prog (W.alloc (.cells #[.string (S y.key), .string (S y.val), .bool y.gone] 104)) = .ok (.slice A' (os.length + 1) c') w' ∧
      w'.ownsRow base 104 3 (.slice A' (os ++ [y]).length c') (os ++ [y]).length ((os ++ [y]).flatMap wCells) ∧ Touch W w' (OwnBy (.slice A os.length c)) (OwnBy (.slice A' (os.length + 1) c')) := by
  obtain ⟨i, hi, hz, hsz, hby⟩ := info_write
  have b0 : Below W.heap.size W (W.alloc (.cells #[.string (S y.key), .string (S y.val), .bool y.gone] 104)) := (Below.refl _ _).alloc (Nat.le_refl _) _
  have hB := Blk.new W 104 #[.string (S y.key), .string (S y.val), .bool y.gone]
  obtain ⟨v', w', hrun, hown1, hgrow, hat⟩ := run_append_row (P := Tryz.prog) _ base 105 105 104 i _ 3 40 (by kernel_rfl) hi hz hsz hby rfl (by decide) _ _ _ (row_alloc hown (.cells #[.string (S y.key), .string (S y.val), .bool y.gone] 104)) (some ⟨W.heap.size, 0, none⟩) 1 1 (wCells y) (by simp [wCells]) (fun h => by cases h)
    (fun ad had j u hu => by
      injection had with had
      subst had
      rw [add_plain', Nat.zero_add, hB.cell j, ← hu]
      simp [wCells])
    (fun u hu => by
      simp only [wCells, List.mem_cons, List.not_mem_nil, or_false] at hu
      rcases hu with rfl | rfl | rfl <;> rfl)
    (by unfold maxLen; omega) (by omega) (by simp; omega)
  have hlen : (os ++ [y]).length = os.length + 1 := by simp
  have hfl : (os ++ [y]).flatMap wCells = os.flatMap wCells ++ wCells y := by simp
  obtain ⟨A', c', rfl⟩ := row_form hown1
  refine ⟨A', c', w', hrun, ?_, (Touch.of_below b0 _).trans ((Touch.of_grown hgrow fun k hk => hk).more fun k hk => ?_)⟩
  · rw [hlen, hfl]
    exact hown1
  · rcases hat with h | h
    · exact .inl (h ▸ hk)
    · rw [OwnBy, h] at hk
      injection hk with hk
      exact .inr (by rw [← hk]; simp)

def tV (x : List UInt8) : Value := .string (S x)
theorem info_tx : ∃ i, (Tryz.prog).info? 9 = some i ∧ i.zero = some (.string ByteArray.empty) ∧ i.size = 1 ∧ i.bytes = 16 := by
  have h : ((Tryz.prog).info? 9).map (fun i => (i.zero, i.size, i.bytes)) = some (some (.string ByteArray.empty), 1, 16) := by kernel_rfl
  obtain ⟨i, hi, he⟩ := Option.map_eq_some_iff.1 h
  simp only [Prod.mk.injEq] at he
  exact ⟨i, hi, he.1, he.2.1, he.2.2⟩
theorem append_tx (W : World) {base : Nat} {A : Option Addr} {c : Nat} {os : List (List UInt8)} (y : (List UInt8)) (hown : W.ownsRow base 9 1 (.slice A os.length c) os.length (os.map tV)) (hl : os.length ≤ 1000000) (hbase : base ≤ W.heap.size) :
    ∃ A' c' w', (Builtin.append_ #[39, 39] 39 #[.slice A os.length c, .slice (some ⟨W.heap.size, 0, none⟩) 1 1]).run Tryz.prog (W.alloc (.cells #[.string (S y)] 9)) = .ok (.slice A' (os.length + 1) c') w' ∧
      w'.ownsRow base 9 1 (.slice A' (os ++ [y]).length c') (os ++ [y]).length ((os ++ [y]).map tV) ∧ Touch W w' (OwnBy (.slice A os.length c)) (OwnBy (.slice A' (os.length + 1) c')) := by
  obtain ⟨i, hi, hz, hsz, hby⟩ := info_tx
  have b0 : Below W.heap.size W (W.alloc (.cells #[.string (S y)] 9)) := (Below.refl _ _).alloc (Nat.le_refl _) _
  have hB := Blk.new W 9 #[.string (S y)]
  obtain ⟨v', w', hrun, hown1, hgrow, hat⟩ := run_append_row (P := Tryz.prog) _ base 39 39 9 i _ 1 16 (by kernel_rfl) hi hz hsz hby rfl (by decide) _ _ _ (row_alloc hown (.cells #[.string (S y)] 9)) (some ⟨W.heap.size, 0, none⟩) 1 1 [tV y] (by simp) (fun h => by cases h)
    (fun ad had j u hu => by
      injection had with had
      subst had
      rw [add_plain', Nat.zero_add, hB.cell j, ← hu]
      simp [tV])
    (fun u hu => by
      simp only [List.mem_cons, List.not_mem_nil, or_false] at hu
      rcases hu with rfl <;> rfl)
    (by unfold maxLen; omega) (by omega) (by simp; omega)
  have hlen : (os ++ [y]).length = os.length + 1 := by simp
  have hfl : (os ++ [y]).map tV = os.map tV ++ [tV y] := by simp
  obtain ⟨A', c', rfl⟩ := row_form hown1
  refine ⟨A', c', w', hrun, ?_, (Touch.of_below b0 _).trans ((Touch.of_grown hgrow fun k hk => hk).more fun k hk => ?_)⟩
  · rw [hlen, hfl]
    exact hown1
  · rcases hat with h | h
    · exact .inl (h ▸ hk)
    · rw [OwnBy, h] at hk
      injection hk with hk
      exact .inr (by rw [← hk]; simp)

/-- A row's first part. -/
theorem row_take {w : World} {base n c : Nat} {e : TypeId} {size : Nat} {A : Option Addr} {xs : List Value} (h : w.ownsRow base e size (.slice A n c) n xs) (k : Nat) (hk : k ≤ n) : w.ownsRow base e size (.slice A k c) k (xs.take (k * size)) := by
  obtain ⟨h1, h2⟩ := h
  have hm : k * size ≤ n * size := Nat.mul_le_mul_right _ hk
  refine ⟨by rw [List.length_take, h1]; exact Nat.min_eq_left hm, ?_⟩
  rcases h2 with ⟨h3, h4⟩ | ⟨g, cap, cur, hv, hb, hh, r1, r2, r3, r4⟩
  · simp only [Value.slice.injEq] at h3
    obtain ⟨rfl, -, rfl⟩ := h3
    obtain rfl : k = 0 := by omega
    exact .inl ⟨rfl, rfl⟩
  · simp only [Value.slice.injEq] at hv
    obtain ⟨rfl, -, rfl⟩ := hv
    refine .inr ⟨g, c, cur, rfl, hb, hh, by omega, r2, r3, ?_⟩
    rw [← r4, List.take_take, Nat.min_eq_left hm]
end Go.Proofs.YtiabfngiibabcaaGreatDoor

set_option linter.unusedVariables false
set_option linter.unusedSimpArgs false
set_option maxHeartbeats 3200000
set_option maxRecDepth 100000
namespace Go.Proofs.YtiabfngiibabcaaGreatDoor
open Go.RowKit

theorem bits_rotl (x : Int) (k : Int) (s : Nat) (hs : s ≤ 31) (h1 : 1 ≤ s) (hk : k = (s : Int) - 32) (w : World) :
    Calls Tryz.prog 253 #[.int .u32 x, .int .i64 k] w fun e w' => e = .returned (.int .u32 (rolP x s)) ∧ w' = w := by
  have hand : bits .and .u64 (IntKind.u64.wrap k) 31 = (s : Int) := by
    subst hk
    have : ∀ s : Fin 32, bits .and .u64 (IntKind.u64.wrap (((s.val : Nat) : Int) - 32)) 31 = ((s.val : Nat) : Int) := by decide +kernel
    exact this ⟨s, by omega⟩
  have h32 : IntKind.u64.wrap (32 - (s : Int)) = ((32 - s : Nat) : Int) := by
    rw [show (32 : Int) - (s : Int) = ((32 - s : Nat) : Int) by omega, IntKind.wrap_u64]
    omega
  clear hk
  have h0 : (0 : Int) ≤ s := by omega
  have hs32 : ¬ (s : Int) < 0 := by omega
  go_enter Tryz.func253, Tryz.ntmps253
  go_wp2
  go_ret
  exact ⟨rfl, rfl⟩
theorem bits_or_u64_nat (a b : Nat) (ha : a < 18446744073709551616) (hb : b < 18446744073709551616) : bits .or .u64 (a : Int) (b : Int) = ((a ||| b : Nat) : Int) := by
  have hx : a ||| b < 2 ^ 64 := Nat.or_lt_two_pow (by omega) (by omega)
  have h1 : (BitVec.ofInt 64 (a : Int)).toNat = a := by
    rw [BitVec.ofInt_natCast, BitVec.toNat_ofNat]; exact Nat.mod_eq_of_lt (by omega)
  have h2 : (BitVec.ofInt 64 (b : Int)).toNat = b := by
    rw [BitVec.ofInt_natCast, BitVec.toNat_ofNat]; exact Nat.mod_eq_of_lt (by omega)
  show IntKind.u64.wrap ((BitVec.ofInt 64 (a : Int) ||| BitVec.ofInt 64 (b : Int)).toNat : Int) = _
  rw [BitVec.toNat_or, h1, h2, IntKind.wrap_u64]
  omega
theorem number_stepH (a x : Nat) (ha : a < 72057594037927936) (hx : x < 256) : bits .or .u64 ((a : Int) * 2 ^ 8 % 18446744073709551616) (x : Int) = ((a * 256 + x : Nat) : Int) := by
  rw [show (a : Int) * 2 ^ 8 % 18446744073709551616 = ((a * 2 ^ 8 : Nat) : Int) by omega, bits_or_u64_nat _ _ (by omega) (by omega)]
  congr 1
  rw [Nat.mul_comm, ← Nat.two_pow_add_eq_or_of_lt (i := 8) (by omega) a]
theorem digest_number (w : World) (A : Option Addr) (l : List UInt8) (c : Nat) (hB : BytesAt w A l) (hl : l.length ≤ 8) :
    Calls Tryz.prog 252 #[.slice A l.length c] w fun e w' => e = .returned (.int .u64 (numH l)) ∧ w' = w := by
  go_enter Tryz.func252, Tryz.ntmps252
  go_wp2
  go_loop [3, 8] (fun n i => ∃ k : Nat, k ≤ l.length ∧ i = .int .i64 k ∧ n = .int .u64 (numH (l.take k))) (fun _ i => l.length - (intOf i).toNat)
  case atStart => exact ⟨0, Nat.zero_le _, rfl, rfl⟩
  case round =>
    obtain ⟨k, hk, rfl, rfl⟩ := hrel
    by_cases h : k < l.length
    · obtain ⟨b, off, rfl, hb, hc⟩ := hB (by omega)
      have c1 : w.cell? ⟨b, off + k, none⟩ = some (.int .u8 l[k].toNat) := hc k h
      have HS := hid (show numH (l.take (k + 1)) = numH (l.take k) * 256 + l[k].toNat by rw [List.take_succ_eq_append_getElem h, numH_snoc])
      have hlt := numH_lt (l.take k)
      rw [List.length_take, Nat.min_eq_left (by omega)] at hlt
      have hp : (256 : Nat) ^ k ≤ 256 ^ 7 := Nat.pow_le_pow_right (by omega) (by omega)
      have hlt2 := l[k].toNat_lt
      have hst := number_stepH (numH (l.take k)) l[k].toNat (by omega) hlt2
      generalize l[k] = x at *
      generalize numH (l.take k) = a at *
      rw [← HS.out] at hst
      clear hc hlt hp
      go_wp2
      go_round
      case rel => exact ⟨k + 1, by omega, by go_num, by first | rfl | (congr 1)⟩
      case measure => simp [intOf]; omega
    · have hk' : k = l.length := by omega
      subst hk'
      rw [List.take_length]
      go_wp2
      go_ret
      exact ⟨rfl, rfl⟩
end Go.Proofs.YtiabfngiibabcaaGreatDoor

set_option linter.unusedVariables false
set_option linter.unusedSimpArgs false
set_option maxHeartbeats 6400000
set_option maxRecDepth 100000
namespace Go.Proofs.YtiabfngiibabcaaGreatDoor
open Go.RowKit

theorem bits_rotl' (x : Int) (k : Int) (hk : -31 ≤ k ∧ k ≤ -1) (w : World) :
    Calls Tryz.prog 253 #[.int .u32 x, .int .i64 k] w fun e w' => e = .returned (.int .u32 (rolP x (k + 32).toNat)) ∧ w' = w :=
  bits_rotl x k (k + 32).toNat (by omega) (by omega) (by omega) w
def W32 (z : Int) : Value := .int .u32 z
def cells8 (s : St8) : Array Value := #[.int .u32 s.a, .int .u32 s.b, .int .u32 s.c, .int .u32 s.d, .int .u32 s.e, .int .u32 s.f, .int .u32 s.g, .int .u32 s.h]
theorem box8 {W : World} {x : Nat} {t : TypeId} {a b c d e f g h : Value} (hB : Blk W x t #[a, b, c, d, e, f, g, h]) : W.cell? ⟨x, 0, none⟩ = some a ∧ W.cell? ⟨x, 1, none⟩ = some b ∧ W.cell? ⟨x, 2, none⟩ = some c ∧ W.cell? ⟨x, 3, none⟩ = some d ∧ W.cell? ⟨x, 4, none⟩ = some e ∧ W.cell? ⟨x, 5, none⟩ = some f ∧ W.cell? ⟨x, 6, none⟩ = some g ∧ W.cell? ⟨x, 7, none⟩ = some h :=
  ⟨hB.cell 0, hB.cell 1, hB.cell 2, hB.cell 3, hB.cell 4, hB.cell 5, hB.cell 6, hB.cell 7⟩
theorem frozen8 {W : World} {x : Nat} {t : TypeId} {cs : Array Value} (hB : Blk W x t cs) : W.frozen? ⟨x, 0, none⟩ = false ∧ W.frozen? ⟨x, 1, none⟩ = false ∧ W.frozen? ⟨x, 2, none⟩ = false ∧ W.frozen? ⟨x, 3, none⟩ = false ∧ W.frozen? ⟨x, 4, none⟩ = false ∧ W.frozen? ⟨x, 5, none⟩ = false ∧ W.frozen? ⟨x, 6, none⟩ = false ∧ W.frozen? ⟨x, 7, none⟩ = false :=
  ⟨hB.frozen 0, hB.frozen 1, hB.frozen 2, hB.frozen 3, hB.frozen 4, hB.frozen 5, hB.frozen 6, hB.frozen 7⟩
def arrW (l : List UInt8) (k : Nat) : Array Value := ((schedP l k).map W32 ++ List.replicate (64 - k) (W32 0)).toArray
theorem arrW_at (l : List UInt8) (k i : Nat) (h : i < k) : (arrW l k)[i]? = some (W32 ((schedP l k).getD i 0)) := by
  have hl := schedP_len l k
  have hi : i < (schedP l k).length := by omega
  rw [arrW, List.getElem?_toArray, List.getElem?_append_left (by simpa using hi), List.getElem?_map, List.getElem?_eq_getElem hi]
  simp [List.getD, List.getElem?_eq_getElem hi]
theorem arrW_zero (l : List UInt8) (k : Nat) (h : k < 64) : (arrW l k)[k]? = some (W32 0) := by
  have hl := schedP_len l k
  rw [arrW, List.getElem?_toArray, List.getElem?_append_right (by simp [hl]), List.length_map, hl, Nat.sub_self, List.getElem?_replicate, if_pos (by omega)]
theorem arrW_set (l : List UInt8) (k : Nat) (h : k < 64) : (arrW l k).setIfInBounds k (W32 (nextP (schedP l k) l k)) = arrW l (k + 1) := by
  have hl := schedP_len l k
  have e : 64 - k = (64 - (k + 1)) + 1 := by omega
  unfold arrW
  rw [List.setIfInBounds_toArray, e, List.replicate_succ, List.set_append_right _ _ (by simp [hl])]
  simp [hl, schedP]
def z8 : Array Value := #[.int .u32 0, .int .u32 0, .int .u32 0, .int .u32 0, .int .u32 0, .int .u32 0, .int .u32 0, .int .u32 0]
/-- What lies there while a block is mixed: the words, the state, the result's place. -/
structure Mix (w : World) (aW aS : Array Value) (W : World) : Prop where
  ws : Blk W (w.heap.size + 1 + 1) 287 aW
  st : Blk W w.heap.size 256 aS
  res : Blk W (w.heap.size + 1) 256 z8
  bel : Below w.heap.size w W
section
variable {w W : World} {aW aS : Array Value}
theorem Mix.drewN (h : Mix w aW aS W) (n : Nat) : Mix w aW aS (W.drewN n) := ⟨h.ws, h.st, h.res, below_drewN h.bel n⟩
theorem Mix.setW (h : Mix w aW aS W) (k : Nat) (v : Value) : Mix w (aW.setIfInBounds k v) aS (W.setCell ⟨w.heap.size + 1 + 1, k, none⟩ v) :=
  ⟨h.ws.set_ k v, h.st.far (p := ⟨w.heap.size + 1 + 1, k, none⟩) (show w.heap.size ≠ w.heap.size + 1 + 1 by omega) v, h.res.far (p := ⟨w.heap.size + 1 + 1, k, none⟩) (show w.heap.size + 1 ≠ w.heap.size + 1 + 1 by omega) v, h.bel.setCell (p := ⟨w.heap.size + 1 + 1, k, none⟩) (show w.heap.size ≤ w.heap.size + 1 + 1 by omega) v⟩
theorem Mix.setS (h : Mix w aW aS W) (k : Nat) (v : Value) : Mix w aW (aS.setIfInBounds k v) (W.setCell ⟨w.heap.size, k, none⟩ v) :=
  ⟨h.ws.far (p := ⟨w.heap.size, k, none⟩) (show w.heap.size + 1 + 1 ≠ w.heap.size by omega) v, h.st.set_ k v, h.res.far (p := ⟨w.heap.size, k, none⟩) (show w.heap.size + 1 ≠ w.heap.size by omega) v, h.bel.setCell (p := ⟨w.heap.size, k, none⟩) (Nat.le_refl _) v⟩
theorem Mix.alloc (h : Mix w aW aS W) (o : Obj) : Mix w aW aS (W.alloc o) := ⟨h.ws.alloc o, h.st.alloc o, h.res.alloc o, h.bel.alloc h.bel.size o⟩
theorem Mix.set8 {a b c d e f g i : Value} (h : Mix w aW #[a, b, c, d, e, f, g, i] W) (v0 v1 v2 v3 v4 v5 v6 v7 : Value) :
    Mix w aW #[v0, v1, v2, v3, v4, v5, v6, v7] ((((((((W.setCell ⟨w.heap.size, 0, none⟩ v0).setCell ⟨w.heap.size, 1, none⟩ v1).setCell ⟨w.heap.size, 2, none⟩ v2).setCell ⟨w.heap.size, 3, none⟩ v3).setCell ⟨w.heap.size, 4, none⟩ v4).setCell ⟨w.heap.size, 5, none⟩ v5).setCell ⟨w.heap.size, 6, none⟩ v6).setCell ⟨w.heap.size, 7, none⟩ v7) :=
  (((((((h.setS 0 v0).setS 1 v1).setS 2 v2).setS 3 v3).setS 4 v4).setS 5 v5).setS 6 v6).setS 7 v7
theorem Blk.set8 {x : Nat} {t : TypeId} {a b c d e f g i : Value} (h : Blk W x t #[a, b, c, d, e, f, g, i]) (v0 v1 v2 v3 v4 v5 v6 v7 : Value) :
    Blk ((((((((W.setCell ⟨x, 0, none⟩ v0).setCell ⟨x, 1, none⟩ v1).setCell ⟨x, 2, none⟩ v2).setCell ⟨x, 3, none⟩ v3).setCell ⟨x, 4, none⟩ v4).setCell ⟨x, 5, none⟩ v5).setCell ⟨x, 6, none⟩ v6).setCell ⟨x, 7, none⟩ v7) x t #[v0, v1, v2, v3, v4, v5, v6, v7] :=
  (((((((h.set_ 0 v0).set_ 1 v1).set_ 2 v2).set_ 3 v3).set_ 4 v4).set_ 5 v5).set_ 6 v6).set_ 7 v7
theorem below_set8 {B y : Nat} {w0 : World} (h : Below B w0 W) (hn : B ≤ y) (v0 v1 v2 v3 v4 v5 v6 v7 : Value) :
    Below B w0 ((((((((W.setCell ⟨y, 0, none⟩ v0).setCell ⟨y, 1, none⟩ v1).setCell ⟨y, 2, none⟩ v2).setCell ⟨y, 3, none⟩ v3).setCell ⟨y, 4, none⟩ v4).setCell ⟨y, 5, none⟩ v5).setCell ⟨y, 6, none⟩ v6).setCell ⟨y, 7, none⟩ v7) :=
  (((((((h.setCell (p := ⟨y, 0, none⟩) hn v0).setCell (p := ⟨y, 1, none⟩) hn v1).setCell (p := ⟨y, 2, none⟩) hn v2).setCell (p := ⟨y, 3, none⟩) hn v3).setCell (p := ⟨y, 4, none⟩) hn v4).setCell (p := ⟨y, 5, none⟩) hn v5).setCell (p := ⟨y, 6, none⟩) hn v6).setCell (p := ⟨y, 7, none⟩) hn v7
theorem Blk.far8 {x y : Nat} {t : TypeId} {cs : Array Value} (h : Blk W x t cs) (hn : x ≠ y) (v0 v1 v2 v3 v4 v5 v6 v7 : Value) :
    Blk ((((((((W.setCell ⟨y, 0, none⟩ v0).setCell ⟨y, 1, none⟩ v1).setCell ⟨y, 2, none⟩ v2).setCell ⟨y, 3, none⟩ v3).setCell ⟨y, 4, none⟩ v4).setCell ⟨y, 5, none⟩ v5).setCell ⟨y, 6, none⟩ v6).setCell ⟨y, 7, none⟩ v7) x t cs :=
  (((((((h.far (p := ⟨y, 0, none⟩) hn v0).far (p := ⟨y, 1, none⟩) hn v1).far (p := ⟨y, 2, none⟩) hn v2).far (p := ⟨y, 3, none⟩) hn v3).far (p := ⟨y, 4, none⟩) hn v4).far (p := ⟨y, 5, none⟩) hn v5).far (p := ⟨y, 6, none⟩) hn v6).far (p := ⟨y, 7, none⟩) hn v7
end
/-- The sums, so many of them. -/
def partL (r s : St8) (k : Nat) : List Int := (List.zipWith add32 r.toL s.toL).take k ++ r.toL.drop k
def partA (r s : St8) (k : Nat) : Array Value := ((partL r s k).map W32).toArray
theorem partA_at (r s : St8) : ∀ k, k < 8 → (partA r s k)[k]? = some (.int .u32 (r.toL.getD k 0)) ∧ (cells8 s)[k]? = some (.int .u32 (s.toL.getD k 0)) ∧ (partA r s k).setIfInBounds k (.int .u32 ((r.toL.getD k 0 + s.toL.getD k 0) % 4294967296)) = partA r s (k + 1)
  | 0, _ => ⟨rfl, rfl, rfl⟩
  | 1, _ => ⟨rfl, rfl, rfl⟩
  | 2, _ => ⟨rfl, rfl, rfl⟩
  | 3, _ => ⟨rfl, rfl, rfl⟩
  | 4, _ => ⟨rfl, rfl, rfl⟩
  | 5, _ => ⟨rfl, rfl, rfl⟩
  | 6, _ => ⟨rfl, rfl, rfl⟩
  | 7, _ => ⟨rfl, rfl, rfl⟩
  | k + 8, h => absurd h (by omega)
section
set_option maxHeartbeats 12800000
theorem digest_mix32 (w : World) (s : St8) (A : Option Addr) (l : List UInt8) (c : Nat) (hB : BytesAt w A l) (hl : l.length = 64) (hc : 64 ≤ c) (hcm : (c : Int) ≤ 9223372036854775807) (hk : Lib.TabIs Tryz.prog w "pantile/digest.k" .u64 kTab) :
    Calls Tryz.prog 216 #[.agg (cells8 s), .slice A 64 c] w fun e w' => e = .returned (.agg (cells8 (mixP s l))) ∧ Below w.heap.size w w' := by
  obtain ⟨bk, off, rfl, hlt, hcl⟩ := hB (by omega)
  have HB := hid hB
  have HK := hid hk
  clear hB hcl hk
  have hM0 : Mix w (arrW l 0) (cells8 s) (((w.alloc (.cells (cells8 s) 256)).alloc (.cells z8 256)).alloc (.cells (arrW l 0) 287)) := by
    refine ⟨?_, ((Blk.new w _ _).alloc _).alloc _, ?_, (((Below.refl _ _).alloc (Nat.le_refl _) _).alloc (by simp) _).alloc (by simp; omega) _⟩
    · simpa using Blk.new ((w.alloc (.cells (cells8 s) 256)).alloc (.cells z8 256)) 287 (arrW l 0)
    · simpa using (Blk.new (w.alloc (.cells (cells8 s) 256)) 256 z8).alloc (.cells (arrW l 0) 287)
  have HM0 : Hid (Mix w (arrW l 0) (cells8 s) (((w.alloc (.cells #[.int .u32 s.a, .int .u32 s.b, .int .u32 s.c, .int .u32 s.d, .int .u32 s.e, .int .u32 s.f, .int .u32 s.g, .int .u32 s.h] 256)).alloc (.cells #[.int .u32 0, .int .u32 0, .int .u32 0, .int .u32 0, .int .u32 0, .int .u32 0, .int .u32 0, .int .u32 0] 256)).alloc (.cells ((List.replicate 64 (Value.int .u32 0)).toArray) 287))) := hM0
  simp only [List.replicate] at HM0
  clear hM0
  have HR8 := hid (show Ending.returned (.agg (cells8 (mixP s l))) = .returned (.agg (partA (runP s (schedP l 64) 64) s 8)) from rfl)
  rw [HR8.out]
  unfold cells8
  go_enter Tryz.func216, Tryz.ntmps216
  go_wp2
  go_loopw [6, 7, 8, 9, 10, 18] (fun _ _ _ _ _ i wr => ∃ k : Nat, k ≤ 64 ∧ i = .int .i64 k ∧ Hid (Mix w (arrW l k) (cells8 s) wr)) (fun _ _ _ _ _ i _ => 64 - (intOf i).toNat)
  case atStart => exact ⟨0, by omega, rfl, HM0⟩
  case round =>
    obtain ⟨k, hk, rfl, hM⟩ := hrel
    by_cases h : k < 64
    · by_cases h16 : k < 16
      · have hll : ((l.drop (4 * k)).take 4).length = 4 := by rw [List.length_take, List.length_drop]; omega
        have HBr := HB.out.below hM.out.bel
        have NB := hid (digest_number wr (some ⟨bk, off + 4 * k, none⟩) ((l.drop (4 * k)).take 4) (c - 4 * k) (HBr.part rfl) (by omega))
        rw [hll] at NB
        have s1 : ∀ W, (Instr.slice 85 (.slice (some ⟨bk, off, none⟩) 64 c) (some (.int .i64 (4 * (k : Int)))) (some (.int .i64 (4 * (k : Int) + 4))) none).run Tryz.prog W = .ok (.slice (some ⟨bk, off + 4 * k, none⟩) 4 (c - 4 * k)) W := fun W => by
          have := slice_u8_lh W bk off 64 c (4 * k) 4 (4 * (k : Int) + 4) (by push_cast; rfl) (by omega) (by omega)
          rw [← this]
          congr 4
        have ck := (hM.out.ws.cell k).trans (arrW_zero l k h)
        have fk := hM.out.ws.frozen k
        have NX := hid (show nextP (schedP l k) l k = (numH ((l.drop (4 * k)).take 4) : Int) % 4294967296 from if_pos h16)
        have hk63 : (k : Int) < 64 := by omega
        have HM2 : Hid (Mix w (arrW l (k + 1)) (cells8 s) (wr.setCell ⟨w.heap.size + 1 + 1, k, none⟩ (.int .u32 (nextP (schedP l k) l k)))) := by
          have := hM.out.setW k (W32 (nextP (schedP l k) l k))
          rw [arrW_set l k h] at this
          exact this
        rw [NX.out] at HM2
        generalize numH ((l.drop (4 * k)).take 4) = nv at *
        clear hll HBr hM
        unfold W32 at ck
        go_wp2_with (go_at_call 252; refine NB.out.mono ?_; rintro e w' ⟨rfl, rfl⟩)
        go_roundw
        case rel => exact ⟨k + 1, by omega, by go_num, HM2⟩
        case measure => simp [intOf]; omega
      · have z15 : ((k : Int) - 15).toNat = k - 15 := by omega
        have z2 : ((k : Int) - 2).toNat = k - 2 := by omega
        have z7 : ((k : Int) - 7).toNat = k - 7 := by omega
        have z16 : ((k : Int) - 16).toNat = k - 16 := by omega
        have c15 := (hM.out.ws.cell (k - 15)).trans (arrW_at l k (k - 15) (by omega))
        have c2 := (hM.out.ws.cell (k - 2)).trans (arrW_at l k (k - 2) (by omega))
        have c7 := (hM.out.ws.cell (k - 7)).trans (arrW_at l k (k - 7) (by omega))
        have c16 := (hM.out.ws.cell (k - 16)).trans (arrW_at l k (k - 16) (by omega))
        have ck := (hM.out.ws.cell k).trans (arrW_zero l k h)
        have fk := hM.out.ws.frozen k
        have NX := hid (show nextP (schedP l k) l k = (sig1 ((schedP l k).getD (k - 2) 0) + (schedP l k).getD (k - 7) 0 + sig0 ((schedP l k).getD (k - 15) 0) + (schedP l k).getD (k - 16) 0) % 4294967296 from if_neg h16)
        have HM2 : Hid (Mix w (arrW l (k + 1)) (cells8 s) (wr.setCell ⟨w.heap.size + 1 + 1, k, none⟩ (.int .u32 (nextP (schedP l k) l k))).drew.drew) := by
          have := hM.out.setW k (W32 (nextP (schedP l k) l k))
          rw [arrW_set l k h] at this
          exact this.drewN 2
        rw [NX.out] at HM2
        clear NX hM
        generalize (schedP l k).getD (k - 15) 0 = x15 at *
        generalize (schedP l k).getD (k - 2) 0 = x2 at *
        generalize (schedP l k).getD (k - 7) 0 = x7 at *
        generalize (schedP l k).getD (k - 16) 0 = x16 at *
        unfold W32 at c15 c2 c7 c16 ck
        have hk15 : (15 : Int) ≤ k := by omega
        have hk63 : (k : Int) < 64 := by omega
        go_wp2
        go_region
        go_wp2_with (go_at_call 253; refine (bits_rotl' _ _ (by decide) _).mono ?_; rintro e w' ⟨rfl, rfl⟩)
        go_region
        go_wp2
        go_roundw
        case rel => exact ⟨k + 1, by omega, by go_num, HM2⟩
        case measure => simp [intOf]; omega
    · have hk' : k = 64 := by omega
      subst hk'
      obtain ⟨e0, e1, e2, e3, e4, e5, e6, e7⟩ := box8 hM.out.st
      have HS11 := hid ((Blk.new wr 256 (cells8 s)))
      have HM2 := hid (hM.out.alloc (.cells (cells8 s) 256))
      have hz : w.heap.size + 1 + 1 < wr.heap.size := hM.out.ws.lt
      clear hM
      obtain ⟨b11, HE⟩ : ∃ b, Hid (wr.heap.size = b) := ⟨_, rfl⟩
      rw [HE.out] at HS11
      have hz : w.heap.size + 1 + 1 < b11 := by rw [← HE.out]; exact hz
      unfold cells8 at *
      go_wp2
      rw [HE.out]
      go_loopw [12, 13, 14, 15, 16, 75] (fun _ _ _ _ _ i wx => ∃ t : Nat, t ≤ 64 ∧ i = .int .i64 t ∧ Hid (Mix w (arrW l 64) (cells8 (runP s (schedP l 64) t)) wx) ∧ Hid (Blk wx b11 256 (cells8 s))) (fun _ _ _ _ _ i _ => 64 - (intOf i).toNat)
      case atStart => exact ⟨0, by omega, rfl, HM2, HS11⟩
      case round =>
        obtain ⟨t, ht, rfl, hM, hT⟩ := hrel
        by_cases h : t < 64
        · have ht63 : (t : Int) < 64 := by omega
          have cw := (hM.out.ws.cell t).trans (arrW_at l 64 t h)
          have ck0 := Lib.TabIs.cell HK.out (g := 4) (by kernel_rfl) t (by rw [kTab_len]; omega)
          have ck := (hM.out.bel.cell (World.block_lt_of_cell? w _ ck0)).trans ck0
          have RN := hid (show runP s (schedP l 64) (t + 1) = roundP (runP s (schedP l 64) t) (kTab.getD t 0) ((schedP l 64).getD t 0) from rfl)
          obtain ⟨e0, e1, e2, e3, e4, e5, e6, e7⟩ := box8 hM.out.st
          generalize (schedP l 64).getD t 0 = ww at *
          generalize kTab.getD t 0 = kk at *
          generalize runP s (schedP l 64) t = st at *
          clear ck0
          unfold W32 at cw
          go_wp2
          go_quiet (fail)
          have hM1 := hid (hM.out.drewN nq)
          have hT1 := hid (hT.out.drewN nq)
          have cw1 : (wr.drewN nq).cell? ⟨w.heap.size + 1 + 1, t, none⟩ = some (.int .u32 ww) := cw
          have ck1 : (wr.drewN nq).cell? ⟨4, t, none⟩ = some (.int .u64 kk) := ck
          clear e0 e1 e2 e3 e4 e5 e6 e7 hM hT cw ck
          generalize wr.drewN nq = wx1 at *
          obtain ⟨e0, e1, e2, e3, e4, e5, e6, e7⟩ := box8 hM1.out.st
          go_wp2
          go_quiet ((go_at_call 253; exact Calls.quiet_of_same (bits_rotl' _ _ (by decide) _)))
          have hM2 := hid (hM1.out.drewN nq)
          have hT2 := hid (hT1.out.drewN nq)
          have cw2 : (wx1.drewN nq).cell? ⟨w.heap.size + 1 + 1, t, none⟩ = some (.int .u32 ww) := cw1
          have ck2 : (wx1.drewN nq).cell? ⟨4, t, none⟩ = some (.int .u64 kk) := ck1
          clear e0 e1 e2 e3 e4 e5 e6 e7 hM1 hT1 cw1 ck1
          generalize wx1.drewN nq = wx2 at *
          obtain ⟨e0, e1, e2, e3, e4, e5, e6, e7⟩ := box8 hM2.out.st
          go_wp2
          go_quiet ((go_at_call 253; exact Calls.quiet_of_same (bits_rotl' _ _ (by decide) _)))
          have hM3 := hid (hM2.out.drewN nq)
          have hT3 := hid (hT2.out.drewN nq)
          have cw3 : (wx2.drewN nq).cell? ⟨w.heap.size + 1 + 1, t, none⟩ = some (.int .u32 ww) := cw2
          have ck3 : (wx2.drewN nq).cell? ⟨4, t, none⟩ = some (.int .u64 kk) := ck2
          clear e0 e1 e2 e3 e4 e5 e6 e7 hM2 hT2 cw2 ck2
          generalize wx2.drewN nq = wx3 at *
          obtain ⟨e0, e1, e2, e3, e4, e5, e6, e7⟩ := box8 hM3.out.st
          obtain ⟨f0, f1, f2, f3, f4, f5, f6, f7⟩ := frozen8 hM3.out.st
          have HX := hid (show xP st kk ww = ((st.h + bits .xor .u32 (bits .xor .u32 (rolP st.e 26) (rolP st.e 21)) (rolP st.e 7) + bits .xor .u32 st.g (bits .and .u32 st.e (bits .xor .u32 st.f st.g)) + kk / 4294967296) % 4294967296 + ww) % 4294967296 from rfl)
          have HY := hid (show yP st = (bits .xor .u32 (bits .xor .u32 (rolP st.a 30) (rolP st.a 19)) (rolP st.a 10) + bits .or .u32 (bits .and .u32 st.a st.b) (bits .and .u32 st.c (bits .or .u32 st.a st.b))) % 4294967296 from rfl)
          have RN2 := hid (show roundP st kk ww = ⟨(xP st kk ww + yP st) % 4294967296, st.a, st.b, st.c, (st.d + xP st kk ww) % 4294967296, st.e, st.f, st.g⟩ from rfl)
          rw [← HX.out, ← HY.out]
          clear HX HY
          rw [RN2.out] at RN
          clear RN2
          generalize xP st kk ww = xx at *
          generalize yP st = yy at *
          have HM4 := hid (hM3.out.set8 (.int .u32 ((xx + yy) % 4294967296)) (.int .u32 st.a) (.int .u32 st.b) (.int .u32 st.c) (.int .u32 ((st.d + xx) % 4294967296)) (.int .u32 st.e) (.int .u32 st.f) (.int .u32 st.g))
          have HT4 := hid (hT3.out.far8 (y := w.heap.size) (by omega) (.int .u32 ((xx + yy) % 4294967296)) (.int .u32 st.a) (.int .u32 st.b) (.int .u32 st.c) (.int .u32 ((st.d + xx) % 4294967296)) (.int .u32 st.e) (.int .u32 st.f) (.int .u32 st.g))
          go_wp2
          go_roundw
          case rel => exact ⟨t + 1, by omega, by go_num, by rw [RN.out]; exact HM4, HT4⟩
          case measure => simp [intOf]; omega
        · have ht' : t = 64 := by omega
          subst ht'
          obtain ⟨r, HR⟩ : ∃ r, Hid (runP s (schedP l 64) 64 = r) := ⟨_, rfl⟩
          rw [HR.out] at hM
          have HM3 : Hid (Mix w (arrW l 64) (partA r s 0) wr) := hM
          clear hM HM0 HM2 HS11
          go_wp2
          go_loopw [17, 156] (fun _ i wx => ∃ k : Nat, k ≤ 8 ∧ i = .int .i64 k ∧ Hid (Mix w (arrW l 64) (partA r s k) wx) ∧ Hid (Blk wx b11 256 (cells8 s))) (fun _ i _ => 8 - (intOf i).toNat)
          case atStart => exact ⟨0, by omega, rfl, HM3, hT⟩
          case round =>
            obtain ⟨k, hk8, rfl, hM, hT⟩ := hrel
            by_cases h8 : k < 8
            · obtain ⟨p1, p2, p3⟩ := partA_at r s k h8
              have ca := (hM.out.st.cell k).trans p1
              have cb := (hT.out.cell k).trans p2
              have fk := hM.out.st.frozen k
              have hk7 : (k : Int) < 8 := by omega
              have HM4 := hid ((hM.out.setS k (.int .u32 ((r.toL.getD k 0 + s.toL.getD k 0) % 4294967296))).drewN 1)
              rw [p3] at HM4
              have HT4 := hid ((hT.out.far (p := ⟨w.heap.size, k, none⟩) (show _ ≠ w.heap.size by omega) (.int .u32 ((r.toL.getD k 0 + s.toL.getD k 0) % 4294967296))).drew)
              generalize r.toL.getD k 0 = ra at *
              generalize s.toL.getD k 0 = sa at *
              clear p1 p2 p3
              go_wp2
              go_region
              go_wp2
              go_roundw
              case rel => exact ⟨k + 1, by omega, by go_num, HM4, HT4⟩
              case measure => simp [intOf]; omega
            · have hk' : k = 8 := by omega
              subst hk'
              obtain ⟨e0, e1, e2, e3, e4, e5, e6, e7⟩ := box8 (a := .int .u32 (add32 r.a s.a)) (b := .int .u32 (add32 r.b s.b)) (c := .int .u32 (add32 r.c s.c)) (d := .int .u32 (add32 r.d s.d)) (e := .int .u32 (add32 r.e s.e)) (f := .int .u32 (add32 r.f s.f)) (g := .int .u32 (add32 r.g s.g)) (h := .int .u32 (add32 r.h s.h)) hM.out.st
              obtain ⟨g0, g1, g2, g3, g4, g5, g6, g7⟩ := box8 hM.out.res
              obtain ⟨f0, f1, f2, f3, f4, f5, f6, f7⟩ := frozen8 hM.out.res
              have HF := hid (hM.out.res.set8 (.int .u32 (add32 r.a s.a)) (.int .u32 (add32 r.b s.b)) (.int .u32 (add32 r.c s.c)) (.int .u32 (add32 r.d s.d)) (.int .u32 (add32 r.e s.e)) (.int .u32 (add32 r.f s.f)) (.int .u32 (add32 r.g s.g)) (.int .u32 (add32 r.h s.h)))
              have HBF := hid (below_set8 hM.out.bel (y := w.heap.size + 1) (by omega) (.int .u32 (add32 r.a s.a)) (.int .u32 (add32 r.b s.b)) (.int .u32 (add32 r.c s.c)) (.int .u32 (add32 r.d s.d)) (.int .u32 (add32 r.e s.e)) (.int .u32 (add32 r.f s.f)) (.int .u32 (add32 r.g s.g)) (.int .u32 (add32 r.h s.h)))
              have HPA := hid (show partA r s 8 = #[.int .u32 (add32 r.a s.a), .int .u32 (add32 r.b s.b), .int .u32 (add32 r.c s.c), .int .u32 (add32 r.d s.d), .int .u32 (add32 r.e s.e), .int .u32 (add32 r.f s.f), .int .u32 (add32 r.g s.g), .int .u32 (add32 r.h s.h)] from rfl)
              clear hM hT
              go_wp2
              obtain ⟨q0, q1, q2, q3, q4, q5, q6, q7⟩ := box8 HF.out
              refine bodyPost_ret (v := .agg #[.int .u32 (add32 r.a s.a), .int .u32 (add32 r.b s.b), .int .u32 (add32 r.c s.c), .int .u32 (add32 r.d s.d), .int .u32 (add32 r.e s.e), .int .u32 (add32 r.f s.f), .int .u32 (add32 r.g s.g), .int .u32 (add32 r.h s.h)]) (by simp [results, Tryz.results216, go_sem, q0, q1, q2, q3, q4, q5, q6, q7]) rfl ⟨by rw [HR.out, HPA.out], HBF.out⟩
end
end Go.Proofs.YtiabfngiibabcaaGreatDoor

set_option linter.unusedVariables false
set_option linter.unusedSimpArgs false
set_option maxHeartbeats 6400000
set_option maxRecDepth 100000
namespace Go.Proofs.YtiabfngiibabcaaGreatDoor
open Go Go.RowKit

theorem digest_blocks (A : Option Addr) (n c : Nat) (w : World) : Calls Tryz.prog 215 #[.slice A n c, .int .i64 64] w fun e w' => e = .returned (.func (.func 251) #[] #[.pointer (some ⟨w.heap.size, 0, none⟩), .pointer (some ⟨w.heap.size + 1, 0, none⟩)]) ∧ w' = (w.alloc (.cells #[.slice A n c] 85)).alloc (.cells #[.int .i64 64] 3) := by
  have hmf : ∀ (fn : Fn) (first cap : Array Value) (w : World), (Instr.makeFunc fn first cap).run Tryz.prog w = .ok (.func fn first cap) w := fun _ _ _ _ => rfl
  go_enter Tryz.func215, Tryz.ntmps215
  go_wp2
  go_ret
  exact ⟨rfl, rfl⟩
def bEnc (dk off c i : Nat) : Array Value := #[.slice (some ⟨dk, off + 64 * i, none⟩) 64 (c - 64 * i)]
def BKp (bb sx : Nat) (A C : World) : Prop := A.heap.size ≤ C.heap.size ∧ C.heap[bb]? = A.heap[bb]? ∧ C.heap[sx]? = A.heap[sx]?
theorem slice_u8_h (W : World) (b o L c h : Nat) (h2 : h ≤ c) : (Instr.slice 85 (.slice (some ⟨b, o, none⟩) L c) none (some (.int .i64 h)) none).run Tryz.prog W = .ok (.slice (some ⟨b, o, none⟩) h c) W := by
  rw [Go.run_slice_h (P := Tryz.prog) (w := W) _ _ _ _ (by kernel_rfl) .i64 (h : Int) (by omega) (by omega)]
  rw [show (Tryz.prog).elem 85 = 5 by kernel_rfl, size_u8]
  simp [Result.andThen, sliced, add_plain']
theorem part_l' (dk o L c l : Nat) (lI : Int) (hl : lI = l) (h2 : l ≤ L) (h3 : L ≤ c) :
    ∃ o', (∀ W, (Instr.slice 85 (.slice (some ⟨dk, o, none⟩) L c) (some (.int .i64 lI)) none none).run Tryz.prog W = .ok (.slice (some ⟨dk, o', none⟩) (L - l) (c - l)) W) ∧ (l < c → o' = o + l) := by
  subst hl
  by_cases hc : l = c
  · refine ⟨o, fun W => ?_, fun h => absurd h (by omega)⟩
    rw [Go.run_slice_l (P := Tryz.prog) (w := W) _ _ _ _ (by kernel_rfl) .i64 (l : Int) (by omega) (by omega)]
    rw [show (Tryz.prog).elem 85 = 5 by kernel_rfl, size_u8]
    simp [Result.andThen, sliced, hc, add_plain']
  · exact ⟨o + l, fun W => slice_u8_l W dk o L c l h2 hc, fun _ => rfl⟩
theorem digest_blocks1 (bb sx dk off c n : Nat) (A : Option Addr) (hA : 64 ≤ n → A = some ⟨dk, off, none⟩) (W : World) (hb : Blk W bb 85 #[.slice A n c]) (hs : Blk W sx 3 #[.int .i64 64]) (hne : sx ≠ bb) (hn : n ≤ c) (hc : (c : Int) ≤ 9223372036854775807) (m : Nat) :
    SeqRun Fence.wide m Tryz.prog 251 #[.pointer (some ⟨bb, 0, none⟩), .pointer (some ⟨sx, 0, none⟩)] (bEnc dk off c) bb (BKp bb sx) (fun xs => xs = List.range (n / 64)) (fun _ => True) (fun pre x => x = pre.length ∧ pre.length < n / 64) W := by
  intro l J Jx hJ hJx hY h0
  have HA := hid hA
  have HB := hid hb
  have HSX := hid hs
  have HJ := hid hJ
  have HJx := hid hJx
  have HYH := hid hY
  have HJ0 := hid h0
  clear hA hb hs hJ hJx hY h0
  refine callsIn_of_wp Tryz.func251 rfl trivial ?_ rfl
  simp only [Tryz.ntmps251, List.size_toArray, List.length_cons, List.length_nil, Nat.reduceAdd, Nat.reduceSub, Array.replicate_succ, Array.replicate_zero, List.push_toArray, List.append_toArray, List.nil_append, List.cons_append]
  gi_wp2
  gi_loopw [4] (fun _ wr => ∃ (i : Nat) (A' : Option Addr), 64 * i ≤ n ∧ Hid (Blk wr bb 85 #[.slice A' (n - 64 * i) (c - 64 * i)]) ∧ Hid (64 ≤ n - 64 * i → A' = some ⟨dk, off + 64 * i, none⟩) ∧ Hid (Blk wr sx 3 #[.int .i64 64]) ∧ Hid (J (List.range i) wr)) (fun _ wr => sliceLen ((wr.cell? ⟨bb, 0, none⟩).getD .nilFunc))
  case atStart => exact ⟨0, A, by omega, HB, HA, HSX, HJ0⟩
  case round =>
    obtain ⟨i, A', hi, hB, hA', hS, hj⟩ := hrel
    have hc0 : wr.cell? ⟨bb, 0, none⟩ = some (.slice A' (n - 64 * i) (c - 64 * i)) := hB.out.cell 0
    have hc1 : wr.cell? ⟨sx, 0, none⟩ = some (.int .i64 64) := hS.out.cell 0
    by_cases hge : 64 ≤ n - 64 * i
    · obtain rfl := hA'.out hge
      have hif : i < n / 64 := by omega
      have hfz := hB.out.frozen 0
      have HNX : i = (List.range i).length ∧ (List.range i).length < n / 64 := by simp; omega
      obtain ⟨fn, tmps, assign, body, hy, hR⟩ := HYH.out _ i _ hj.out HNX
      have HRR := hid hR
      clear hR HNX
      dsimp only [bEnc] at hy
      have s1 := fun W => slice_u8_h W dk (off + 64 * i) (n - 64 * i) (c - 64 * i) 64 (by omega)
      obtain ⟨o4, s4, ho4⟩ := part_l' dk (off + 64 * i) (n - 64 * i) (c - 64 * i) 64 64 rfl hge (by omega)
      have e1 : n - 64 * i - 64 = n - 64 * (i + 1) := by omega
      have e2 : c - 64 * i - 64 = c - 64 * (i + 1) := by omega
      rw [e1, e2] at s4
      have HO4 := hid (show 64 ≤ n - 64 * (i + 1) → some (⟨dk, o4, none⟩ : Addr) = some ⟨dk, off + 64 * (i + 1), none⟩ from fun h => by rw [ho4 (by omega)]; rfl)
      have HBX := hid hB.out
      clear ho4
      have d1 : decide ((64 : Int) ≤ ((n - 64 * i : Nat) : Int)) = true := by simp; omega
      generalize hL : n - 64 * i = L at *
      generalize hC : c - 64 * i = C at *
      have HLC := hid (And.intro hL hC)
      clear hL hC
      have HML := hid (show sliceLen ((wr.cell? ⟨bb, 0, none⟩).getD .nilFunc) = L by rw [hc0]; rfl)
      have q4 : (64 : Int) ≤ C := by have := HLC.out; omega
      have q0 : ¬ C = 0 := by omega
      clear hA' hB
      have hfd : Fence.wide.depth.isSome = false := rfl
      gi_wp2_with fail
      refine HRR.out.mono ?_
      rintro e W' (⟨rfl, hJ', hk⟩ | ⟨rfl, hJx'⟩)
      · have hb2 : Blk W' bb 85 #[.slice (some ⟨dk, off + 64 * i, none⟩) L C] := hk.2.1.trans HBX.out
        have hs2 : Blk W' sx 3 #[.int .i64 64] := hk.2.2.trans hS.out
        have cc0 : W'.cell? ⟨bb, 0, none⟩ = some (.slice (some ⟨dk, off + 64 * i, none⟩) L C) := hb2.cell 0
        have cc1 : W'.cell? ⟨sx, 0, none⟩ = some (.int .i64 64) := hs2.cell 0
        have ff0 := hb2.frozen 0
        have HJ2 := hid (HJ.out _ _ _ hJ' (Itr.setCell W' 0 (.slice (some ⟨dk, o4, none⟩) (n - 64 * (i + 1)) (c - 64 * (i + 1)))))
        have HB2 := hid (show Blk (W'.setCell ⟨bb, 0, none⟩ (.slice (some ⟨dk, o4, none⟩) (n - 64 * (i + 1)) (c - 64 * (i + 1)))) bb 85 #[.slice (some ⟨dk, o4, none⟩) (n - 64 * (i + 1)) (c - 64 * (i + 1))] by simpa using hb2.set_ 0 (.slice (some ⟨dk, o4, none⟩) (n - 64 * (i + 1)) (c - 64 * (i + 1))))
        have HS2 := hid (show Blk (W'.setCell ⟨bb, 0, none⟩ (.slice (some ⟨dk, o4, none⟩) (n - 64 * (i + 1)) (c - 64 * (i + 1)))) sx 3 #[.int .i64 64] from hs2.far (p := ⟨bb, 0, none⟩) hne _)
        have HM2 := hid (show sliceLen (((W'.setCell ⟨bb, 0, none⟩ (.slice (some ⟨dk, o4, none⟩) (n - 64 * (i + 1)) (c - 64 * (i + 1)))).cell? ⟨bb, 0, none⟩).getD .nilFunc) < L by rw [HB2.out.cell 0]; show n - 64 * (i + 1) < L; omega)
        have HRN := hid (show List.range (i + 1) = List.range i ++ [i] from List.range_succ)
        clear hk hJ' hb2 hs2
        gi_wp2
        go_roundw
        case rel => exact ⟨i + 1, some ⟨dk, o4, none⟩, by omega, HB2, HO4, HS2, by rw [HRN.out]; exact HJ2⟩
        case measure => rw [HML.out]; exact HM2.out
      · have HJ6 := hid hJx'
        clear hJx'
        gi_wp2
        refine bodyPost_ret (results_none rfl _ _ _) rfl ?_
        exact ⟨⟨_, rfl⟩, .inr ⟨_, trivial, HJ6.out⟩⟩
    · have hie : i = n / 64 := by omega
      have d1 : decide ((64 : Int) ≤ ((n - 64 * i : Nat) : Int)) = false := by simp; omega
      generalize n - 64 * i = L at *
      generalize c - 64 * i = C at *
      gi_wp2
      go_end0
      refine ⟨⟨_, rfl⟩, .inl ⟨_, by rw [hie], hj.out⟩⟩
end Go.Proofs.YtiabfngiibabcaaGreatDoor
