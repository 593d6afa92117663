/- The law JsonLong. -/
import Derived.Test.YtbjimikppdfmgaaDoorJsL
import Derived.Test.YtbjimikppdfmgaaDoorJsB
import Derived.Test.YtbjimikppdfmgaaDoorKv1
import Derived.Deep.DeepCutAuto
set_option linter.unusedVariables false
set_option linter.unusedSimpArgs false
set_option maxHeartbeats 16000000
set_option maxRecDepth 100000
namespace Go.Proofs.YtbjimikppdfmgaaDoor
open Go.RowKit

theorem js_ReadAny (s : List UInt8) (hs : s.length ≤ 1000000) (W : World) (hL : ∀ W', Below W.heap.size W W' → LibW W') : Calls Tryd.prog 20 #[.string (S s)] W (ReadPost s W) := by
  by_cases h : 65536 < s.length
  · exact js_Read_long s W h hs
  · exact js_Read s W h hL
theorem ar5 {w : World} {b : Nat} {x : J5} (h : Blk w b 40 x.ar) : w.cell? ⟨b, 0, none⟩ = some (.int .i64 x.kind) ∧ w.cell? ⟨b, 1, none⟩ = some (.string (S x.text)) ∧ w.cell? ⟨b, 2, none⟩ = some (.int .i64 x.num) ∧ w.cell? ⟨b, 3, none⟩ = some (.slice x.nA x.nn x.nc) ∧ w.cell? ⟨b, 4, none⟩ = some (.slice x.kA x.kn x.kc) :=
  ⟨(h.cell 0).trans rfl, (h.cell 1).trans rfl, (h.cell 2).trans rfl, (h.cell 3).trans rfl, (h.cell 4).trans rfl⟩
theorem kind_of {w : World} {ok : Nat → Prop} {j : Jv} {x : J5} (h : JAt w ok j x) : x.kind = j.kind := by
  cases h; rfl
theorem wpList_app2 {P : Program} {w : World} {ops : Array Oper} {rest : List Oper} {o : Oper} {a : Act} {Q : Exit → Act → World → Prop} (hgd : o.guard = none) (s x : Operand) (t tn : TypeId)
    (ho : o.op = .call { callee := .builtin .append, args := #[s, x], argTypes := #[t, tn] }) (v1 v2 v' : Value) (w' : World) (hs : a.eval s = v1) (hx : a.eval x = v2)
    (hrun : (Builtin.append_ #[t, tn] o.type #[v1, v2]).run P w = .ok v' w') (h : wpList P ops Q rest (a.put o.dst v') w') : wpList P ops Q (o :: rest) a w :=
  wpList_plain hgd fun K hK => by
    unfold Oper.wp execOp
    simp only [ho, resolve, invoke, builtin, Sem.run_bind, Sem.run_pure, Result.andThen_ok, List.map_toArray, List.map_cons, List.map_nil, hs, hx, hrun]
    exact hK _ _ h
def lenV : Value → Nat
  | .slice _ n _ => n
  | _ => 0
theorem law_JsonLong (s : List UInt8) (n : Int) (hn0 : -9223372036854775808 ≤ n) (hn1 : n ≤ 9223372036854775807) (hs : (s.length : Int) ≤ 9223372036854775807) (W : World) (hL : LibW W) :
    Calls Tryd.prog 5 #[.string (S s), .int .i64 n] W fun e w' => e = .returned (.bool true) ∧ Below W.heap.size W w' := by
  have HL := hid (fun W' (hb : Below W.heap.size W W') => hL.below hb)
  clear hL
  go_enter Tryd.func5, Tryd.ntmps5
  go_upto_if 13 with fail
  go_cut [0] (fun v wr => Hid (wr = W) ∧ v = .string (S (s.take 100)))
  case first =>
    by_cases h : s.length ≤ 100
    · have h1 : ¬ (100 : Int) < s.length := by omega
      go_wp2_with fail
      go_meet
      exact ⟨(by first | exact hid rfl | exact hid trivial), by rw [List.take_of_length_le h]⟩
    · have h1 : (100 : Int) < s.length := by omega
      have h2 : (100 : Int) ≤ s.length := by omega
      have h3 : (s.drop 0).take (100 - 0) = s.take 100 := by simp
      go_wp2_with fail
      go_meet
      exact ⟨(by first | exact hid rfl | exact hid trivial), by simp⟩
  case rest =>
    obtain ⟨hw, rfl⟩ := hcut
    obtain rfl := hw.out
    clear hw
    have hq : (s.take 100).length ≤ 100 := by simp; omega
    generalize s.take 100 = q at *
    go_upto_if 17 with fail
    go_cut [1] (fun v wr => Hid (wr = wc) ∧ ∃ m : Int, 0 ≤ m ∧ m ≤ 9223372036854775807 ∧ v = .int .i64 m)
    case first =>
      by_cases hneg : n < 0
      · go_wp2_with fail
        go_meet
        exact ⟨(by first | exact hid rfl | exact hid trivial), -(n + 1), by omega, by omega, by go_num⟩
      · go_wp2_with fail
        go_meet
        exact ⟨(by first | exact hid rfl | exact hid trivial), n, by omega, by omega, rfl⟩
    case rest =>
      obtain ⟨hw, m, hm0, hm1, rfl⟩ := hcut
      obtain rfl := hw.out
      clear hw hn0 hn1 hs
      have r0 : 0 ≤ m % 41 := by omega
      have r1 : m % 41 ≤ 40 := by omega
      obtain ⟨A1, c1, w1, hrun1, hrow1, hg1⟩ := append_text wc (base := wc.heap.size) (m := 0) (c := 0) (A := none) (xs := []) q (World.ownsRow_nil _ _ _ _) (Nat.le_refl _) (by omega) 47
      rw [Nat.zero_add, List.nil_append] at hrow1
      have hb1 : Below wc.heap.size wc w1 := (Below.refl _ _).grown hg1 (Nat.le_refl _) (fun k hk => by cases hk)
      have HR1 := hid hrow1
      have HB1 := hid hb1
      rw [Nat.zero_add] at hrun1
      clear hrow1 hb1 hg1
      go_wp2_with (first | (at_builtin; refine wpList_app2 rfl _ _ _ _ (by rfl) _ _ _ _ (by rfl) (by rfl) hrun1 ?_))
      go_loopw [5] (fun o wr => ∃ (A : Option Addr) (c : Nat) (os : List UInt8), o = .slice A os.length c ∧ os.length ≤ 65600 ∧ Hid (∃ k, os = q ++ List.replicate k 32) ∧ Hid ((os.length : Int) ≤ 65516 + m % 41) ∧ Hid (wr.ownsRow wc.heap.size 5 1 (.slice A os.length c) os.length (os.map B8)) ∧ Hid (Below wc.heap.size wc wr)) (fun o _ => 70000 - lenV o)
      case atStart => exact ⟨A1, c1, q, rfl, by omega, ⟨0, by simp⟩, (by show (q.length : Int) ≤ _; omega), HR1, HB1⟩
      case round =>
        obtain ⟨A, c, os, rfl, hle, hos, hlt0, hrow, hb⟩ := hrel
        by_cases hlt : (os.length : Int) < 65516 + m % 41
        · obtain ⟨A2, c2', w', hrun0, hrow2, hb2⟩ := append_byte wr 32 (A := A) (c := c) (os := os) hrow.out (by omega) hb.out.size
          rw [show (((32 : UInt8).toNat : Nat) : Int) = 32 from rfl] at hrun0
          have HRW := hid hrow2
          have HBW := hid (hb.out.trans hb2)
          have HOS := hid (show ∃ k, os ++ [32] = q ++ List.replicate k 32 from by
            obtain ⟨k, hk⟩ := hos.out
            exact ⟨k + 1, by rw [hk, List.replicate_succ', List.append_assoc]⟩)
          have HLT := hid (show (((os ++ [32]).length : Nat) : Int) ≤ 65516 + m % 41 by simp; omega)
          have hle2 : (os ++ [32]).length ≤ 65600 := by simp; omega
          clear hrow2 hb2 hrow hb hos hlt0
          go_wp2_with (first | (at_builtin; refine wpList_append_run rfl _ _ _ (by rfl) _ _ _ _ (by rfl) (by rfl) hrun0 ?_))
          go_roundw
          case rel => exact ⟨A2, c2', os ++ [32], by simp, hle2, HOS, HLT, HRW, HBW⟩
          case measure => simp [lenV]; omega
        · have HEQ := hid (show (os.length : Int) = 65516 + m % 41 by have := hlt0.out; omega)
          obtain ⟨kk, hkk⟩ := hos.out
          have hcv := run_string_row _ hrow.out
          have RA := hid (js_ReadAny os (by omega) wr (fun W' h => HL.out W' (bt hb.out h)))
          have RQ := hid (fun (w1 : World) (h : Below wc.heap.size wc w1) => js_ReadAny q (by omega) w1 (fun W' h2 => HL.out W' (bt h h2)))
          have LV := hid (fun (w1 : World) (h : Below wc.heap.size wc w1) => js_lives w1 (fun W' h2 => HL.out W' (bt h h2)))
          have HRP := hid (show readP os = readP q by rw [hkk]; exact read_behind q _ (fun c hc => by rw [List.eq_of_mem_replicate hc]; rfl))
          have HB0 := hid hb.out
          clear hos hlt0 hrow hb hkk
          go_wp2_with fail
          refine RA.out.mono ?_
          rintro e w2 ⟨x, rfl, jx, b2⟩
          have X2 := hid (Blk.new w2 40 x.ar)
          have HX := hid jx
          have HB2 := hid (bt HB0.out b2)
          have HB3 := hid (bt HB2.out ((Below.refl w2.heap.size w2).alloc (Nat.le_refl _) (.cells x.ar 40)))
          have KX := hid (kind_of jx)
          obtain ⟨k0, k1, k2, k3, k4, k5, k6, k7, k8⟩ := x
          simp only [] at KX
          clear jx b2 RA HB0
          go_wp2_with fail
          refine (RQ.out _ HB3.out).mono ?_
          rintro e w4 ⟨y, rfl, jy, b4⟩
          have X4 := hid (X2.out.below b4 X2.out.lt)
          have HX4 := hid ((HX.out.belowW ((Below.refl w2.heap.size w2).alloc (Nat.le_refl _) _)).belowW b4)
          have HY := hid jy
          have HB4 := hid (bt HB3.out b4)
          have HB5 := hid (bt HB4.out ((Below.refl w4.heap.size w4).alloc (Nat.le_refl _) (.cells y.ar 40)))
          obtain ⟨x0, x1, x2, x3, x4⟩ := ar5 X4.out
          have xl : w2.heap.size < w4.heap.size := X4.out.lt
          have BA := hid ((Below.refl w4.heap.size w4).alloc (Nat.le_refl _) (.cells y.ar 40))
          obtain ⟨l0, l1, l2, l3, l4, l5, l6, l7, l8⟩ := y
          simp only [] at x0 x1 x2 x3 x4
          clear jy b4 RQ HB3 HX X2
          by_cases hbig : 65536 < os.length
          · have hb1 : (65536 : Int) < os.length := by omega
            have e1 : readS os = (none, 5) := by unfold readS; rw [if_pos hbig]
            have hk0 := KX.out
            rw [e1] at hk0 ⊢
            obtain rfl : k0 = 0 := hk0
            clear e1 KX HX4
            go_wp2_with fail
            refine (LV.out _ HB5.out).mono ?_
            rintro e w6 ⟨rfl, b6⟩
            have HF := hid (bt HB5.out b6)
            clear b6
            go_wp2
            go_ret
            exact ⟨rfl, HF.out⟩
          · have hb1 : ¬ (65536 : Int) < os.length := by omega
            have e1 : readS os = readS q := by unfold readS; rw [if_neg hbig, if_neg (by omega), HRP.out]
            have SM := hid (ref06_Same (e1 ▸ HX4.out) HY.out _ BA.out)
            have E1 := hid e1
            rw [e1]
            have hr2 : (readS q).2 = 0 ∨ (readS q).2 = 2 := by
              unfold readS
              rw [if_neg (by omega)]
              cases readP q with
              | none => exact .inr rfl
              | some j => exact .inl rfl
            clear e1 KX HX4 HY
            generalize (readS q).2 = rr at *
            go_wp2_with fail
            refine SM.out.mono ?_
            rintro e w6 ⟨rfl, b6⟩
            have HB6 := hid (bt HB5.out b6)
            clear b6
            rcases hr2 with rfl | rfl
            all_goals
              go_wp2_with fail
              refine (LV.out _ HB6.out).mono ?_
              rintro e w7 ⟨rfl, b7⟩
              have HF := hid (bt HB6.out b7)
              clear b7
              go_wp2
              go_ret
              exact ⟨rfl, HF.out⟩
theorem row_JsonLong (s : ByteArray) (n : Int) (w : World) (hs : s.size ≤ maxLen) (hn : (Lit.int .i64 n).wf = true) (hL : LibW w) :
    Calls Tryd.prog 5 #[.string s, .int .i64 n] w fun e w' => e = .returned (.bool true) ∧ Below w.heap.size w w' := by
  have hr := wf64 hn
  unfold maxLen at hs
  rw [← S_of s]
  exact law_JsonLong s.data.toList n hr.1 hr.2 (by rw [← S_size, S_of]; omega) w hL
end Go.Proofs.YtbjimikppdfmgaaDoor
