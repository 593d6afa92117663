/- The law DriveOwns. -/
import Derived.Test.YtjmcnhpffpcboaaLawNames
import Derived.Lib.AppendStr
import Derived.Test.YtjmcnhpffpcboaaOpen
set_option linter.unusedVariables false
set_option linter.unusedSimpArgs false
set_option maxHeartbeats 3200000
set_option maxRecDepth 100000
namespace Go.Proofs.Ytjmcnhpffpcboaa
open Go.RowKit

/-- append of two types, by the equation on its run. -/
theorem wpList_append_run2 {P : Program} {w : World} {ops : Array Oper} {rest : List Oper} {o : Oper} {a : Act} {Q : Exit → Act → World → Prop} (hgd : o.guard = none) (s x : Operand) (t u : TypeId)
    (ho : o.op = .call { callee := .builtin .append, args := #[s, x], argTypes := #[t, u] }) (v1 v2 v' : Value) (w' : World) (hs : a.eval s = v1) (hx : a.eval x = v2)
    (hrun : (Builtin.append_ #[t, u] o.type #[v1, v2]).run P w = .ok v' w') (h : wpList P ops Q rest (a.put o.dst v') w') : wpList P ops Q (o :: rest) a w :=
  wpList_plain hgd fun K hK => by
    unfold Oper.wp execOp
    simp only [ho, resolve, invoke, builtin, Sem.run_bind, Sem.run_pure, Result.andThen_ok, List.map_toArray, List.map_cons, List.map_nil, hs, hx, hrun]
    exact hK _ _ h

theorem conv_arg (w : World) (A : Option Addr) (l : List UInt8) (c : Nat) (h : BytesAt w A l) : (convert 47 9 (.slice A l.length c)).run Try.prog w = .ok (.string (S l)) w := by
  have h1 : (Try.prog).underlying 47 = some (.slice 5) := by kernel_rfl
  have h2 : (Try.prog).underlying 9 = some .string := by kernel_rfl
  have h3 : (Try.prog).underlying 5 = some (.int .u8) := by kernel_rfl
  by_cases h0 : 0 < l.length
  · obtain ⟨b, off, rfl, hb, hc⟩ := h h0
    exact run_string_of w 47 5 h1 h3 b off _ c l rfl hc 9 h2
  · have hl : l = [] := List.eq_nil_of_length_eq_zero (by omega)
    subst hl
    cases A with
    | none => exact run_convert_bytes_nil w 47 5 h1 h3 0 c 9 h2
    | some p =>
      rw [run_convert_bytes_string w _ _ _ _ _ c h1 h3 h2]
      exact run_bytesToString w p 0 c [] (run_loadCells_list (P := Try.prog) w p [] (fun j v hj => by simp at hj))
theorem strCells_S (t : List UInt8) : Lib.strCells (S t) = t.map B8 := by
  simp [Lib.strCells, S_toList]
  intro a _
  rfl
theorem append_str (t : List UInt8) (hl : t.length ≤ 1000000) (W : World) : ∃ v W', (Builtin.append_ #[47, 9] 47 #[.slice none 0 0, .string (S t)]).run Try.prog W = .ok v W' ∧ W'.ownsRow W.heap.size 5 1 v t.length (t.map B8) ∧ Below W.heap.size W W' ∧ (t = [] → v = .slice none 0 0) := by
  have h : ((Try.prog).info? 5).map (fun i => (i.zero, i.size, i.bytes)) = some (some (.int .u8 0), 1, 1) := by kernel_rfl
  obtain ⟨i, hi, he⟩ := Option.map_eq_some_iff.1 h
  simp only [Prod.mk.injEq] at he
  obtain ⟨v, W', hrun, hown, hg, hn⟩ := Lib.run_append_own_string (P := Try.prog) (w := W) W.heap.size 47 9 47 5 i (by kernel_rfl) (by kernel_rfl) hi he.1 he.2.1 he.2.2 (.slice none 0 0) 0 [] (World.ownsRow_nil _ _ _ _) (S t) (by rw [S_size]; unfold maxLen; omega) (by rw [S_size]; omega) (Nat.le_refl _)
  rw [S_size, strCells_S, Nat.zero_add, List.nil_append] at hown
  exact ⟨v, W', hrun, hown, (Below.refl _ _).grown hg (Nat.le_refl _) (fun k hk => by simp [Value.ownBlock] at hk), fun h0 => hn.2 ⟨rfl, by subst h0; rfl⟩⟩
theorem owns_plain (t : List UInt8) (hl : t.length ≤ 70) : (((Dr.new 1000).create [97]).1.append [97] t).1.read [97] = t ∧ (((Dr.new 1000).create [97]).1.append [97] t).1.readE [97] = 0 ∧
    ((((Dr.new 1000).create [97]).1.append [97] t).1.sync [97]).1.read [97] = t ∧ ((((Dr.new 1000).create [97]).1.append [97] t).1.sync [97]).1.readE [97] = 0 := by
  have e1 : ((Dr.new 1000).create [97]).1 = ⟨[([97], ⟨[], []⟩)], 1000, wrap1 0, false, -1⟩ := rfl
  rw [e1]
  have e2 : (⟨[([97], ⟨[], []⟩)], 1000, wrap1 0, false, -1⟩ : Dr).appendE [97] t.length = 0 := by
    unfold Dr.appendE
    rw [if_neg]
    · rfl
    · rintro ⟨-, h⟩
      have : (⟨[([97], ⟨[], []⟩)], 1000, wrap1 0, false, -1⟩ : Dr).used = 0 := rfl
      rw [this] at h
      simp at h
      omega
  have e3 : ((⟨[([97], ⟨[], []⟩)], 1000, wrap1 0, false, -1⟩ : Dr).append [97] t).1 = ⟨[([97], ⟨[], [t]⟩)], 1000, wrap1 (wrap1 0), false, -1⟩ := by
    unfold Dr.append
    rw [e2]
    rfl
  rw [e3]
  have e4 : ((⟨[([97], ⟨[], [t]⟩)], 1000, wrap1 (wrap1 0), false, -1⟩ : Dr).sync [97]).1 = ⟨[([97], ⟨[] ++ [t].flatten, []⟩)], 1000, wrap1 (wrap1 (wrap1 0)), false, -1⟩ := rfl
  rw [e4]
  refine ⟨?_, rfl, ?_, rfl⟩
  · show [] ++ [t].flatten = t
    simp
  · show ([] ++ [t].flatten) ++ [].flatten = t
    simp
theorem DW.readX {w0 W : World} {g N : Nat} {d : Dr} {X : List Xc} (h : DW w0 g d N X W) (hN : N ≤ 1000000000) (name : Key) (hl : name.length ≤ 1000000) : Calls Try.prog 37 #[.pointer (some ⟨g, 0, none⟩), .string (S name)] W fun e w' => ∃ v, e = .returned (.tuple #[v, .int .i64 (d.readE name)]) ∧ w'.ownsRow W.heap.size 5 1 v (d.read name).length ((d.read name).map B8) ∧ DW w0 g d N X w' ∧
    ∀ b, v.ownBlock = some b → ∃ cs, DW w0 g d N ((b, 5, cs) :: X) w' := by
  refine (h.read hN name hl).mono ?_
  rintro e w' ⟨v, rfl, hr, hb, h2⟩
  refine ⟨v, rfl, hr, h2, fun b hvb => ?_⟩
  obtain ⟨cs, hcs⟩ := row_heap hr hvb
  exact ⟨cs, h.push hb (row_base_le hr hvb) hcs⟩

/-- A row of bytes beside the drive. -/
def RowX (w0 W : World) (g : Nat) (d : Dr) (N : Nat) (A : Option Addr) (n : Nat) (p : Nat → Value → Prop) : Prop :=
  ∃ Y, DW w0 g d N Y W ∧ (∀ a, A = some a → 0 < n → ∃ x ∈ Y, x.1 = a.block) ∧ (0 < n → ∃ q cs, A = some ⟨q, 0, none⟩ ∧ Y = [(q, 5, cs)] ∧ w0.heap.size ≤ q ∧ ∀ j, j < n → ∃ v, cs[j]? = some v ∧ p j v)
theorem RowX.weaken {w0 W : World} {g : Nat} {d : Dr} {N : Nat} {A : Option Addr} {n : Nat} {p p' : Nat → Value → Prop} (h : RowX w0 W g d N A n p) (hp : ∀ j v, j < n → p j v → p' j v) : RowX w0 W g d N A n p' := by
  obtain ⟨Y, h1, h2, h3⟩ := h
  refine ⟨Y, h1, h2, fun h0 => ?_⟩
  obtain ⟨q, cs, e1, e2, e3, e4⟩ := h3 h0
  exact ⟨q, cs, e1, e2, e3, fun j hj => by obtain ⟨v, hv, hpv⟩ := e4 j hj; exact ⟨v, hv, hp j v hj hpv⟩⟩
theorem RowX.cell {w0 W : World} {g : Nat} {d : Dr} {N : Nat} {A : Option Addr} {n : Nat} {p : Nat → Value → Prop} (h : RowX w0 W g d N A n p) {k : Nat} (hk : k < n) : ∃ q v, A = some ⟨q, 0, none⟩ ∧ W.cell? ⟨q, k, none⟩ = some v ∧ W.frozen? ⟨q, k, none⟩ = false ∧ p k v ∧
    ∀ u, p k u → RowX w0 (W.setCell ⟨q, k, none⟩ u) g d N A n p := by
  obtain ⟨Y, h1, h2, h3⟩ := h
  obtain ⟨q, cs, e1, rfl, e3, e4⟩ := h3 (by omega)
  obtain ⟨v, hv, hpv⟩ := e4 k hk
  have hb := h1.blk (x := (q, 5, cs)) (by simp)
  refine ⟨q, v, e1, (hb.cell k).trans hv, hb.frozen k, hpv, fun u hu => ⟨_, h1.set_ e3 k u, fun a ha h0 => ?_, fun h0 => ⟨q, _, e1, rfl, e3, fun j hj => ?_⟩⟩⟩
  · rw [e1] at ha
    injection ha with ha
    subst ha
    exact ⟨_, List.mem_singleton.2 rfl, rfl⟩
  · obtain ⟨v', hv', hp'⟩ := e4 j hj
    by_cases hjk : j = k
    · subst hjk
      have hlt : j < cs.size := (Array.getElem?_eq_some_iff.1 hv).1
      exact ⟨u, by simp [hlt], hu⟩
    · exact ⟨v', by rw [Array.getElem?_setIfInBounds_ne (Ne.symm hjk)]; exact hv', hp'⟩
theorem RowX.of {w0 W W' : World} {g : Nat} {d : Dr} {N : Nat} {A : Option Addr} {c : Nat} {t : List UInt8} (h : DW w0 g d N [] W) (hb : Below W.heap.size W W') (hr : W'.ownsRow W.heap.size 5 1 (.slice A t.length c) t.length (t.map B8)) :
    RowX w0 W' g d N A t.length (fun j v => v = B8 (t.getD j 0)) := by
  by_cases h0 : 0 < t.length
  · rcases hr.2 with ⟨h1, h2⟩ | ⟨gg, cp, cur, h1, h2, h3, _⟩
    · omega
    · simp only [Value.slice.injEq] at h1
      obtain ⟨rfl, _, rfl⟩ := h1
      have hB : Blk W' gg 5 cur := h3
      refine ⟨[(gg, 5, cur)], h.push hb h2 hB, fun a ha _ => ?_, fun _ => ⟨gg, cur, rfl, rfl, Nat.le_trans h.bel.size h2, fun j hj => ?_⟩⟩
      · injection ha with ha
        subst ha
        exact ⟨_, List.mem_singleton.2 rfl, rfl⟩
      · have := hr.cellAt j (by omega)
        rw [hB.cell j] at this
        rw [this]
        refine ⟨_, by rw [List.getElem?_map, List.getElem?_eq_getElem hj]; rfl, by show B8 t[j] = B8 (t.getD j 0); rw [List.getD_eq_getElem?_getD, List.getElem?_eq_getElem hj]; rfl⟩
  · exact ⟨[], h.below hb, fun _ _ h => absurd h h0, fun h => absurd h h0⟩
/-- A call that turned the drive and left the row. -/
theorem RowX.call {w0 W : World} {g : Nat} {d : Dr} {N : Nat} {A : Option Addr} {n : Nat} {p : Nat → Value → Prop} (h : RowX w0 W g d N A n p) : ∃ Y, DW w0 g d N Y W ∧ (∀ a, A = some a → 0 < n → ∃ x ∈ Y, x.1 = a.block) ∧ ∀ W' d' N', DW w0 g d' N' Y W' → RowX w0 W' g d' N' A n p := by
  obtain ⟨Y, h1, h2, h3⟩ := h
  exact ⟨Y, h1, h2, fun W' d' N' h' => ⟨Y, h', h2, h3⟩⟩
theorem RowX.bytes {w0 W : World} {g : Nat} {d : Dr} {N : Nat} {A : Option Addr} {t : List UInt8} (h : RowX w0 W g d N A t.length (fun j v => v = B8 (t.getD j 0))) : BytesAt W A t := fun h0 => by
  obtain ⟨q, v, e1, e2, _⟩ := h.cell h0
  refine ⟨q, 0, e1, World.block_lt_of_cell? W _ e2, fun i hi => ?_⟩
  obtain ⟨q', v', e1', e2', _, e3', _⟩ := h.cell hi
  rw [e1] at e1'
  injection e1' with e1'
  injection e1' with e1'
  subst e1'
  rw [Nat.zero_add, e2', e3', List.getD_eq_getElem?_getD, List.getElem?_eq_getElem hi]
  rfl

theorem law_DriveOwns (A : Option Addr) (l : List UInt8) (c : Nat) (w : World) (hB : BytesAt w A l) :
    Calls Try.prog 10 #[.slice A l.length c] w fun e w' => e = .returned (.bool true) ∧ Below w.heap.size w w' := by
  have Fw := hid (fun W => law13_few l W)
  have hlen : (l.take 70).length ≤ 70 := by simp; omega
  generalize l.take 70 = t at *
  obtain ⟨p1, p2, p3, p4⟩ := owns_plain t hlen
  generalize hd1 : ((Dr.new 1000).create [97]).1 = d1 at *
  generalize hd2 : (d1.append [97] t).1 = d2 at *
  generalize hd3 : (d2.sync [97]).1 = d3 at *
  have P1 := hid p1
  have P2 := hid p2
  have P3 := hid p3
  have P4 := hid p4
  have D1 := hid hd1
  have D2 := hid hd2
  have D3 := hid hd3
  clear p1 p2 p3 p4 hd1 hd2 hd3
  have N0 := hid (DW.new 1000 rfl w)
  have HB := hid hB
  have Lv := hid law13_lives
  clear hB
  go_enter Try.func10, Try.ntmps10
  go_wp2_with fail
  refine N0.out.mono ?_
  rintro e w1 ⟨g, rfl, h1⟩
  have cv := conv_arg w1 A l c (HB.out.below h1.bel)
  have H1 := hid h1
  clear h1 N0 HB
  go_wp2_with fail
  refine (Fw.out _).mono ?_
  rintro e w2 ⟨rfl, hw⟩
  have hw' := hw.symm
  subst hw'
  obtain ⟨v, w2, hrun, hown, hb2, hnil⟩ := append_str t (by omega) w1
  obtain ⟨Ao, co, rfl⟩ := row_form hown
  have cs2 := run_string_row w2 hown
  have HX := hid (RowX.of H1.out hb2 hown)
  have HN := hid hnil
  clear Fw cv hown hb2 hnil H1
  go_wp2_with (at_builtin; refine wpList_append_run2 rfl _ _ _ _ rfl _ _ _ _ rfl rfl hrun ?_)
  obtain ⟨Y, y1, y2, y3⟩ := HX.out.call
  have C1 := hid (y1.create [97] (by decide))
  have CX := hid (fun W d' N' (h : DW w g d' N' Y W) => y3 W d' N' h)
  have HY := hid y2
  clear y1 y2 y3 hrun cs2 HX
  rw [D1.out] at C1
  refine C1.out.mono ?_
  rintro e w3 ⟨rfl, h3⟩
  have R3 := hid (CX.out _ _ _ h3)
  have AY : ∀ p, Ao = some p → p.block < w.heap.size ∨ ∃ x ∈ Y, x.1 = p.block := fun p hp => by
    by_cases h0 : 0 < t.length
    · exact .inr (HY.out p hp h0)
    · have ht : t = [] := List.eq_nil_of_length_eq_zero (by omega)
      have := HN.out ht
      injection this with e1
      rw [hp] at e1
      cases e1
  have C2 := hid (h3.append (by omega) [97] (by decide) Ao t co R3.out.bytes AY (by omega))
  rw [D2.out] at C2
  clear h3 C1 HY AY
  go_wp2_with fail
  refine C2.out.mono ?_
  rintro e w4 ⟨rfl, h4⟩
  have R4 := hid ((CX.out _ _ _ h4).weaken (p' := fun _ v => ∃ x : Int, 0 ≤ x ∧ x < 256 ∧ v = .int .u8 x) (fun j v hj hv => ⟨_, by omega, by have := (t.getD j 0).toNat_lt; omega, hv⟩))
  clear h4 C2 R3 CX
  go_wp2
  go_loopw [6] (fun i wr => ∃ k : Nat, k ≤ t.length ∧ i = .int .i64 k ∧ Hid (RowX w wr g d2 1 Ao t.length fun _ v => ∃ x : Int, 0 ≤ x ∧ x < 256 ∧ v = .int .u8 x)) (fun i _ => t.length - (intOf i).toNat)
  case atStart => exact ⟨0, Nat.zero_le _, rfl, R4⟩
  case round =>
    obtain ⟨k, hk, rfl, hR⟩ := hrel
    by_cases h : k < t.length
    · obtain ⟨q, v, rfl, c1, f1, ⟨x, x0, x1, rfl⟩, hset⟩ := hR.out.cell h
      have HS := hid hset
      clear hset hR R4
      go_wp2
      go_roundw
      case rel => exact ⟨k + 1, by omega, by go_num, HS.out _ ⟨_, by omega, by omega, rfl⟩⟩
      case measure => simp [intOf]; omega
    · have hk' : k = t.length := by omega
      subst hk'
      obtain ⟨Y, y1, -, -⟩ := hR.out.call
      have C3 := hid (y1.drop.read (by omega) [97] (by decide))
      rw [P1.out, P2.out] at C3
      have Y1 := hid y1.drop
      clear y1 hR R4
      go_wp2_with fail
      refine C3.out.mono ?_
      rintro e w5 ⟨v, rfl, hrow, hb5, -⟩
      obtain ⟨Ab, cb, rfl⟩ := row_form hrow
      have cs5 := run_string_row w5 hrow
      have R5 := hid ((RowX.of Y1.out hb5 hrow).weaken (p' := fun _ _ => True) (fun _ _ _ _ => trivial))
      clear hrow hb5 C3 Y1
      go_wp2
      clear cs5
      go_loopw [10] (fun i wr => ∃ k : Nat, k ≤ t.length ∧ i = .int .i64 k ∧ Hid (RowX w wr g d2 1 Ab t.length fun _ _ => True)) (fun i _ => t.length - (intOf i).toNat)
      case atStart => exact ⟨0, Nat.zero_le _, rfl, R5⟩
      case round =>
        obtain ⟨k, hk, rfl, hR⟩ := hrel
        by_cases h : k < t.length
        · obtain ⟨q, v, rfl, c1, f1, -, hset⟩ := hR.out.cell h
          have HS := hid hset
          clear hset hR R5
          go_wp2
          go_roundw
          case rel => exact ⟨k + 1, by omega, by go_num, HS.out _ trivial⟩
          case measure => simp [intOf]; omega
        · have hk' : k = t.length := by omega
          subst hk'
          obtain ⟨Y, y1, -, -⟩ := hR.out.call
          have C6 := hid (y1.drop.sync (by omega) [97] (by decide))
          rw [D3.out] at C6
          clear y1 hR R5
          go_wp2_with fail
          refine C6.out.mono ?_
          rintro e w6 ⟨rfl, h6⟩
          have C7 := hid (h6.read (by omega) [97] (by decide))
          rw [P3.out, P4.out] at C7
          clear h6 C6
          go_wp2_with fail
          refine C7.out.mono ?_
          rintro e w7 ⟨v, rfl, hrow, -, h7⟩
          obtain ⟨Ac, cc, rfl⟩ := row_form hrow
          have cs7 := run_string_row w7 hrow
          have B7 := hid h7.bel
          clear hrow h7 C7
          go_wp2_with fail
          refine (Lv.out _).mono ?_
          rintro e w8 ⟨rfl, hb8⟩
          have B8' := hid (bt B7.out hb8)
          clear hb8
          go_wp2
          go_ret
          exact ⟨rfl, B8'.out⟩

open Go.ChangeShapes Go.WideShapes in
theorem open_bytes {H : Type} {enc : TypeId × Value → H} {w : World} {base : Nat} {spare : Nat → Bool} {held : Bool} {A : Option Addr} {n cap : Nat} {d : DataW H} {ps : List MemPlace}
    (h : DataW.Trod enc Try.prog w base spare held 47 (.slice A n cap) d ps) : ∃ l : List UInt8, n = l.length ∧ l.length ≤ cap ∧ (cap : Int) ≤ 9223372036854775807 ∧ BytesAt w A l := by
  have hC : (Try.prog).cellsOf 5 = 1 := by kernel_rfl
  obtain ⟨h1, h2, h3⟩ := open_slice_any Try.underlying47 (by rw [hC]; omega) h
  rw [hC] at h3
  rcases Nat.eq_zero_or_pos n with h0 | h0
  · exact ⟨[], by simpa using h0, by simp, h2, fun h => absurd h (by simp)⟩
  · obtain ⟨b, off, hA, hb, hi⟩ := h3 h0
    obtain ⟨l, hl, hp⟩ := choose_list n (fun i (q : UInt8) => w.cell? ⟨b, off + i, none⟩ = some (B8 q)) 0 (fun i hin => by
      obtain ⟨cs, m, y, hlen, hcell, ht⟩ := hi i hin
      obtain ⟨v, c0, -, hwf⟩ := DataW.trod_int Try.underlying5 ht
      subst c0
      have := hcell 0 (by omega)
      rw [Nat.add_zero, Nat.mul_one] at this
      have hv : 0 ≤ v ∧ v ≤ 255 := by
        have hmin : IntKind.u8.min = 0 := rfl
        have hmax : IntKind.u8.max = 255 := rfl
        simp only [Lit.wf, Bool.and_eq_true, decide_eq_true_eq] at hwf
        omega
      refine ⟨UInt8.ofNat v.toNat, ?_⟩
      rw [this]
      unfold B8
      have e : (UInt8.ofNat v.toNat).toNat = v.toNat := by
        rw [UInt8.toNat_ofNat']
        omega
      rw [e]
      have : ((v.toNat : Nat) : Int) = v := by omega
      rw [this]
      rfl)
    exact ⟨l, hl.symm, by omega, h2, fun _ => ⟨b, off, hA, hb, hp⟩⟩
theorem row_DriveOwns (A : Option Addr) (n cap : Nat) (l : List UInt8) (w : World) (h : n = l.length ∧ l.length ≤ cap ∧ (cap : Int) ≤ 9223372036854775807 ∧ BytesAt w A l) :
    Calls Try.prog 10 #[.slice A n cap] w fun e w' => e = .returned (.bool true) ∧ Below w.heap.size w w' := by
  obtain ⟨rfl, h1, h2, h3⟩ := h
  exact law_DriveOwns A l cap w h3
end Go.Proofs.Ytjmcnhpffpcboaa
