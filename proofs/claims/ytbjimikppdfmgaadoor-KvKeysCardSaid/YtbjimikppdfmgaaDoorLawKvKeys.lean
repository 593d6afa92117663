/- Walk of pantilelaw14.KvKeys. -/
import Derived.Test.YtbjimikppdfmgaaDoorLives14
import Derived.Test.YtbjimikppdfmgaaDoorRef14c
set_option linter.unusedVariables false
set_option linter.unusedSimpArgs false
set_option maxHeartbeats 6400000
set_option maxRecDepth 100000
namespace Go.Proofs.YtbjimikppdfmgaaDoor
open Go.RowKit

def kk14d : Dr := ((Dr.new 100000).create (fileN [97] logN)).1
/-- The keys counted so far. -/
def cntA (al : List Wr) (pre : List UInt8) (k : Nat) : Nat := ((al.take k).filter fun x => hasP x.key pre).length
def keysA (al : List Wr) (pre : List UInt8) : List (List UInt8) := (al.filter fun x => hasP x.key pre).map (·.key)
theorem preK_A (m : KM) (pre : List UInt8) : preK m pre = keysA (m.map wOf) pre := by
  unfold preK keysA
  rw [List.filter_map, List.filter_map, List.map_map]
  rfl
theorem cntA_at {al : List Wr} {pre : List UInt8} {k : Nat} (h : k < al.length) (hp : hasP al[k].key pre = true) : cntA al pre k < (keysA al pre).length ∧ (keysA al pre)[cntA al pre k]? = some al[k].key := by
  have := filter_at (fun x : Wr => hasP x.key pre) al k h hp
  unfold cntA keysA
  rw [List.length_map, List.getElem?_map, this.2]
  exact ⟨this.1, rfl⟩
theorem cntA_next {al : List Wr} {pre : List UInt8} {k : Nat} (h : k < al.length) : cntA al pre (k + 1) = cntA al pre k + if hasP al[k].key pre = true then 1 else 0 := filter_next (fun x : Wr => hasP x.key pre) al k h
theorem cntA_end (al : List Wr) (pre : List UInt8) : cntA al pre al.length = (keysA al pre).length := by unfold cntA keysA; rw [List.take_length, List.length_map]
theorem cntA_le (al : List Wr) (pre : List UInt8) (k : Nat) : cntA al pre k ≤ k := by
  unfold cntA
  have h1 := List.length_filter_le (fun x : Wr => hasP x.key pre) (al.take k)
  rw [List.length_take] at h1
  omega
/-- A row of texts, element by element. -/
theorem strs_row {w : World} {base c : Nat} {A : Option Addr} {K : List (List UInt8)} (h : w.ownsRow base 9 1 (.slice A K.length c) K.length (K.map fun x => Value.string (S x))) :
    ∀ i x, K[i]? = some x → ∃ b, A = some ⟨b, 0, none⟩ ∧ w.cell? ⟨b, i, none⟩ = some (.string (S x)) := fun i x hx => by
  rcases h.2 with ⟨h1, h2⟩ | ⟨g, cap, cur, hv, hb, hh, r⟩
  · have := (List.getElem?_eq_some_iff.1 hx).1
    omega
  · simp only [Value.slice.injEq] at hv
    obtain ⟨rfl, -, rfl⟩ := hv
    refine ⟨g, rfl, ?_⟩
    rw [h.cellAt i (by have := (List.getElem?_eq_some_iff.1 hx).1; simpa using this), List.getElem?_map, hx]
    rfl
theorem cut_facts (b : List Wr) : (bodyB (cutB b)).length ≤ 800000 ∧ (frameB (cutB b)).length ≤ 2000 := by
  have h1 := bodyB_le (b := cutB b) (k := 210) (v := 100) fun x hx => cutB_mem hx
  have h2 := cutB_len b
  have h3 := frameB_len (cutB b)
  have : (cutB b).length * (7 + 210 + 100) ≤ 5 * (7 + 210 + 100) := Nat.mul_le_mul_right _ h2
  omega
theorem kk14_append (b : List Wr) : (kk14d.append (fileN [97] logN) (frameB (cutB b))).2 = 0 := by
  have h := (cut_facts b).2
  have hA : kk14d.appendE (fileN [97] logN) (frameB (cutB b)).length = 0 := by
    unfold Dr.appendE
    have e1 : kk14d.thereE (fileN [97] logN) = 0 := rfl
    have e2 : kk14d.quota = 100000 := rfl
    have e3 : kk14d.used = 0 := rfl
    rw [e1, e2, e3, if_neg (by omega)]
  unfold Dr.append Dr.deed Dr.may
  have d1 : kk14d.down = false := rfl
  have d2 : kk14d.left = -1 := rfl
  rw [hA, d1, d2]
  rfl
theorem kk14_sync (b : List Wr) : ((kk14d.append (fileN [97] logN) (frameB (cutB b))).1.sync (fileN [97] logN)).2 = 0 := by
  have hA : kk14d.appendE (fileN [97] logN) (frameB (cutB b)).length = 0 := by
    have h := (cut_facts b).2
    unfold Dr.appendE
    have e1 : kk14d.thereE (fileN [97] logN) = 0 := rfl
    have e2 : kk14d.quota = 100000 := rfl
    have e3 : kk14d.used = 0 := rfl
    rw [e1, e2, e3, if_neg (by omega)]
  unfold Dr.append Dr.deed Dr.may
  have d1 : kk14d.down = false := rfl
  have d2 : kk14d.left = -1 := rfl
  rw [hA, d1, d2]
  rfl
theorem law_KvKeys (A : Option Addr) (c : Nat) (b : List Wr) (pre : List UInt8) (w : World) (hws : WsAt w A b) (hpl : pre.length ≤ 9223372036854775807) :
    Calls Tryd.prog 3 #[.slice A b.length c, .string (S pre)] w fun e w' => e = .returned (.bool true) ∧ Below w.heap.size w w' := by
  have N0 := hid (FW.new (Fr.all w) 100000 rfl w (Fr.kept_self _))
  have HWS := hid hws
  clear hws
  cases hmay : mayB (cutB b) with
  | true =>
    go_enter Tryd.func3, Tryd.ntmps3
    go_wp2_with fail
    refine N0.out.mono ?_
    rintro e w1 ⟨g, rfl, -, -, h1⟩
    have OP := hid (kv_Open_new (name := [97]) h1 (by omega) (by decide) (by decide) (by decide) rfl rfl rfl rfl)
    have HZ := hid h1.bel.size
    clear h1 N0
    go_wp2_with fail
    refine OP.out.mono ?_
    rintro e w2 ⟨sb, mb, rfl, hsb, h2⟩
    have hsblt := (h2.blk (x := (sb, 60, storeCells g [97] mb false)) (by simp)).lt
    simp only [] at hsblt
    have HF := hid ((Fr.all w).free_new (Nat.le_trans HZ.out hsb))
    have CU := hid (ref14_Cut w2 A c b (HWS.out.below (Fr.all_below h2.bel)))
    have H2 := hid h2
    clear h2 OP hsb HZ
    go_wp2_with fail
    refine CU.out.mono ?_
    rintro e w3 ⟨A3, c3, rfl, hr3, hb3⟩
    obtain ⟨X1, hX1, hW1⟩ := ws_row_blk hr3
    have M3 := (H2.out.pushL hb3 hX1).sub (Y := (sb, 60, storeCells g [97] mb false) :: X1) (fun x hx => by
      rcases List.mem_cons.1 hx with rfl | hx
      · simp
      · simp [hx])
    have AP := hid (kv_Apply_ok M3 HF.out (fun x hx => by have := (hX1 x hx).1; omega) rfl A3 c3 (cutB b) hW1 (by have := cutB_len b; omega) hmay (cut_facts b).1 (by simp) (by omega) (by decide) (kk14_append b) (kk14_sync b))
    have HW1 := hid hW1
    clear hr3 hb3 hX1 hW1 M3 H2 CU HF hsblt
    go_wp2_with fail
    refine AP.out.mono ?_
    rintro e w4 ⟨rfl, mb4, h4⟩
    have H4 := hid h4
    have DO := ref14_Do w4 none A3 0 c3 [] (cutB b) (fun h => absurd h (by simp)) (HW1.out w4 fun x hx => h4.blk (by simp [hx])) (by have := cutB_len b; simp; omega)
    have hdo := (doR_do (cutB b) [] List.Pairwise.nil).1
    rw [List.map_nil] at hdo
    rw [hdo] at DO
    have hlen := doB_len [] (cutB b)
    have hcl := cutB_len b
    have hris := doB_rising (cutB b)
    generalize doB [] (cutB b) = m at *
    have HRI := hid hris
    have hml : m.length ≤ 5 := by simp at hlen; omega
    obtain ⟨al, hal0⟩ : ∃ al : List Wr, al = m.map wOf := ⟨_, rfl⟩
    rw [← hal0] at DO
    have hal : al.length ≤ 5 := by rw [hal0]; simpa using hml
    have HAL := hid hal0
    clear hal0
    have DOH := hid DO
    clear h4 AP DO hdo hlen hcl hris hmay
    go_wp2_with fail
    refine DOH.out.mono ?_
    rintro e w5 ⟨A5, c5, rfl, hw5, hb5⟩
    have H5 := hid (H4.out.below hb5)
    have b5 := H5.out.blk (x := (sb, 60, storeCells g [97] mb4 false)) (by simp)
    have KY := hid (kv_Keys (store4 b5).2.2.1 b5.lt H5.out.map HRI.out (by omega) pre)
    have HW5 := hid hw5
    clear hw5 hb5 H4 DOH b5
    go_wp2_with fail
    refine KY.out.mono ?_
    rintro e w6 ⟨v, rfl, hr6, hb6⟩
    rw [preK_A, ← HAL.out] at hr6
    have HW6 := hid (HW5.out.below hb6)
    have HB6 := hid (Fr.all_below (H5.out.below hb6).bel)
    have hkl : (keysA al pre).length ≤ al.length := by rw [← cntA_end]; exact cntA_le _ _ _
    obtain ⟨A6, c6, rfl⟩ := row_form hr6
    have HR6 := hid (strs_row hr6)
    have HCN := hid (fun k (h : k < al.length) => And.intro (cntA_at (pre := pre) h) (cntA_next (pre := pre) h))
    have HCE := hid (cntA_end al pre)
    have HC0 := hid (show cntA al pre 0 = 0 from rfl)
    have HCL := hid (cntA_le al pre)
    have LV := hid (fun W => law14_lives W)
    clear hr6 hb6 H5 KY HW5 hml HRI HW1
    generalize keysA al pre = K at *
    generalize hcf : cntA al pre = cf at *
    clear hcf
    go_wp2
    go_loop [10, 11] (fun a i => ∃ k : Nat, k ≤ al.length ∧ i = .int .i64 k ∧ a = .int .i64 (cf k)) (fun _ i => al.length - (intOf i).toNat)
    case atStart => exact ⟨0, Nat.zero_le _, rfl, by rw [HC0.out]; rfl⟩
    case round =>
      obtain ⟨k, hk, rfl, rfl⟩ := hrel
      by_cases h : k < al.length
      · obtain ⟨bb, off, rfl, hbb, hc⟩ := HW6.out (by omega)
        obtain ⟨e0, -, -⟩ := hc k h
        have hck := HCL.out k
        obtain ⟨q1, q2⟩ := HCN.out k h
        clear hc
        generalize al[k].key = x at *
        have Q1 := hid q1
        have Q2 := hid q2
        clear q1 q2
        by_cases hl : pre.length ≤ x.length
        · by_cases he : x.take pre.length = pre
          · have hh : hasP x pre = true := by unfold hasP; rw [he]; simp [hl]
            obtain ⟨p1, p2⟩ := Q1.out hh
            obtain ⟨kb, rfl, ck⟩ := HR6.out _ _ p2
            have Q3 := Q2.out
            rw [if_pos hh] at Q3
            have Q3H := hid Q3
            have hq := S_beq (x.take pre.length) pre
            rw [he] at hq
            simp only [beq_self_eq_true] at hq
            clear p2 Q3 Q1 Q2 hh HR6 HCN HCE HC0 HCL
            generalize cf k = a at *
            generalize hp' : pre.length = n at *
            go_wp2
            go_round
            case rel => exact ⟨k + 1, by omega, by go_num, by rw [Q3H.out]; first | rfl | go_num⟩
            case measure => simp [intOf]; omega
          · have hh : hasP x pre = false := by unfold hasP; simp [he]
            have Q3 := Q2.out
            rw [if_neg (by rw [hh]; decide)] at Q3
            have Q3H := hid Q3
            have hq := S_beq (x.take pre.length) pre
            have he' : (x.take pre.length == pre) = false := by simpa using he
            rw [he'] at hq
            clear Q3 Q1 Q2 hh HR6 HCN HCE HC0 HCL
            generalize cf k = a at *
            generalize hp' : pre.length = n at *
            go_wp2
            go_round
            case rel => exact ⟨k + 1, by omega, by go_num, by rw [Q3H.out]; first | rfl | go_num⟩
            case measure => simp [intOf]; omega
        · have hh : hasP x pre = false := by unfold hasP; simp [hl]
          have Q3 := Q2.out
          rw [if_neg (by rw [hh]; decide)] at Q3
          have Q3H := hid Q3
          clear Q3 Q1 Q2 hh HR6 HCN HCE HC0 HCL
          generalize cf k = a at *
          go_wp2
          go_round
          case rel => exact ⟨k + 1, by omega, by go_num, by rw [Q3H.out]; first | rfl | go_num⟩
          case measure => simp [intOf]; omega
      · have hk' : k = al.length := by omega
        subst hk'
        rw [HCE.out]
        go_wp2_with fail
        refine (LV.out _).mono ?_
        rintro e w7 ⟨rfl, hb7⟩
        go_wp2
        go_ret
        exact ⟨rfl, bt HB6.out hb7⟩
  | false =>
    go_enter Tryd.func3, Tryd.ntmps3
    go_wp2_with fail
    refine N0.out.mono ?_
    rintro e w1 ⟨g, rfl, -, -, h1⟩
    have OP := hid (kv_Open_new (name := [97]) h1 (by omega) (by decide) (by decide) (by decide) rfl rfl rfl rfl)
    clear h1 N0
    go_wp2_with fail
    refine OP.out.mono ?_
    rintro e w2 ⟨sb, mb, rfl, hsb, h2⟩
    have CU := hid (ref14_Cut w2 A c b (HWS.out.below (Fr.all_below h2.bel)))
    have H2 := hid h2
    clear h2 OP hsb
    go_wp2_with fail
    refine CU.out.mono ?_
    rintro e w3 ⟨A3, c3, rfl, hr3, hb3⟩
    have AP := hid (kv_Apply_arg (H2.out.below hb3) rfl A3 c3 (cutB b) (ws_row hr3) (by have := cutB_len b; omega) hmay)
    clear hr3 hb3 H2 CU
    go_wp2_with fail
    refine AP.out.mono ?_
    rintro e w4 ⟨rfl, h4⟩
    have H4 := hid h4
    have b4 := h4.blk (x := (sb, 60, storeCells g [97] mb false)) (by simp)
    have KY := hid (kv_Keys (store4 b4).2.2.1 b4.lt h4.map List.Pairwise.nil (by simp) pre)
    have LV := hid (fun W => law14_lives W)
    clear h4 AP b4 hmay
    go_wp2_with fail
    refine KY.out.mono ?_
    rintro e w6 ⟨v, rfl, hr6, hb6⟩
    have HB6 := hid (Fr.all_below (H4.out.below hb6).bel)
    rw [show preK [] pre = [] from rfl] at hr6
    obtain ⟨A6, c6, rfl⟩ := row_form hr6
    clear hr6 hb6 H4 KY
    go_wp2
    go_loop [10, 11] (fun a i => a = .int .i64 0 ∧ i = .int .i64 0) (fun _ i => 0)
    case atStart => exact ⟨rfl, rfl⟩
    case round =>
      obtain ⟨rfl, rfl⟩ := hrel
      go_wp2_with fail
      refine (LV.out _).mono ?_
      rintro e w7 ⟨rfl, hb7⟩
      go_wp2
      go_ret
      exact ⟨rfl, bt HB6.out hb7⟩
theorem row_KvKeys (A : Option Addr) (n c : Nat) (b : List Wr) (pre : ByteArray) (w : World) (h : n = b.length ∧ b.length ≤ c ∧ (c : Int) ≤ 9223372036854775807 ∧ WsAt w A b) (hp : pre.size ≤ maxLen) :
    Calls Tryd.prog 3 #[.slice A n c, .string pre] w fun e w' => e = .returned (.bool true) ∧ Below w.heap.size w w' := by
  obtain ⟨rfl, h1, h2, h3⟩ := h
  unfold maxLen at hp
  rw [← S_of pre]
  exact law_KvKeys A c b pre.data.toList w h3 (by rw [← S_size, S_of]; omega)
end Go.Proofs.YtbjimikppdfmgaaDoor
