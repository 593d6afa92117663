/- The law DriveNames. -/
import Derived.Test.YtioillenlgpcgaaLives13
import Derived.Test.YtioillenlgpcgaaList
set_option linter.unusedVariables false
set_option linter.unusedSimpArgs false
set_option maxHeartbeats 3200000
set_option maxRecDepth 100000
namespace Go.Proofs.Ytioillenlgpcgaa
open Go.RowKit

theorem DW.list {w0 W : World} {g N : Nat} {d : Dr} {X : List Xc} (h : DW w0 g d N X W) (pre : List UInt8) : Calls Try.prog 19 #[.pointer (some ⟨g, 0, none⟩), .string (S pre)] W fun e w' => ∃ v, e = .returned v ∧ w'.ownsRow W.heap.size 9 1 v (d.list pre).length ((d.list pre).map fun x => Value.string (S x)) ∧ DW w0 g d N X w' ∧
    ∀ b, v.ownBlock = some b → ∃ cs, DW w0 g d N ((b, 9, cs) :: X) w' := by
  have h' := h
  obtain ⟨fp, h1, h2, h3, h4, h5⟩ := h
  refine (drive_List h1 h2 pre).mono ?_
  rintro e w' ⟨v, rfl, hr, hb⟩
  refine ⟨v, rfl, hr, h'.below hb, fun b hvb => ?_⟩
  obtain ⟨cs, hcs⟩ := row_heap hr hvb
  exact ⟨cs, h'.push hb (row_base_le hr hvb) hcs⟩

theorem ref13_Named (l : List UInt8) (hl : l.length ≤ 1000000) (w : World) : Calls Try.prog 18 #[.string (S l)] w fun e w' => e = .returned (.bool (namedB l)) ∧ w' = w := by
  go_enter Try.func18, Try.ntmps18
  go_wp2
  go_loopw [3] (fun i wr => ∃ k : Nat, k ≤ l.length ∧ i = .int .i64 k ∧ Hid (∀ j, (h : j < l.length) → j < k → signB l[j] = true) ∧ wr = w) (fun i _ => l.length - (intOf i).toNat)
  case atStart => exact ⟨0, Nat.zero_le _, rfl, fun j _ h => absurd h (by omega), rfl⟩
  case round =>
    obtain ⟨k, hk, rfl, hlow, rfl⟩ := hrel
    by_cases h : k < l.length
    · have hc := l[k].toNat_lt
      have hc' : (l[k].toNat : Int) < 256 := by omega
      cases hs : signB l[k] with
      | true =>
        have hlow' := hid (show ∀ j, (h : j < l.length) → j < k + 1 → signB l[j] = true from fun j hj hjk => by
          rcases Nat.lt_or_ge j k with h1 | h1
          · exact hlow.out j hj h1
          · obtain rfl : j = k := by omega
            exact hs)
        have hx : (97 ≤ l[k].toNat ∧ l[k].toNat ≤ 122) ∨ (48 ≤ l[k].toNat ∧ l[k].toNat ≤ 57) ∨ l[k].toNat = 46 ∨ l[k].toNat = 47 ∨ l[k].toNat = 45 ∨ l[k].toNat = 95 := by
          simp [signB] at hs
          omega
        clear hs
        rcases hx with ⟨a1, a2⟩ | hx
        · have b1 : (97 : Int) ≤ l[k].toNat := by omega
          have b2 : (l[k].toNat : Int) ≤ 122 := by omega
          go_wp2
          go_roundw
          case rel => exact ⟨k + 1, by omega, by go_num, hlow', by first | rfl | trivial⟩
          case measure => simp [intOf]; omega
        · rcases hx with ⟨a1, a2⟩ | hx
          · have b1 : (48 : Int) ≤ l[k].toNat := by omega
            have b2 : (l[k].toNat : Int) ≤ 57 := by omega
            have b3 : (l[k].toNat : Int) < 97 := by omega
            go_wp2
            go_roundw
            case rel => exact ⟨k + 1, by omega, by go_num, hlow', by first | rfl | trivial⟩
            case measure => simp [intOf]; omega
          · rcases hx with hx | hx | hx | hx <;>
            · go_wp2
              go_roundw
              case rel => exact ⟨k + 1, by omega, by go_num, hlow', by first | rfl | trivial⟩
              case measure => simp [intOf]; omega
      | false =>
        have H := hid (named_not h hs)
        have hx : ¬ (97 ≤ l[k].toNat ∧ l[k].toNat ≤ 122) ∧ ¬ (48 ≤ l[k].toNat ∧ l[k].toNat ≤ 57) ∧ l[k].toNat ≠ 46 ∧ l[k].toNat ≠ 47 ∧ l[k].toNat ≠ 45 ∧ l[k].toNat ≠ 95 := by
          simp [signB] at hs
          omega
        clear hs hlow
        obtain ⟨x1, x2, x3, x4, x5, x6⟩ := hx
        have y3 : ((l[k].toNat : Int) != 46) = true := by simp; omega
        have y4 : ((l[k].toNat : Int) != 47) = true := by simp; omega
        have y5 : ((l[k].toNat : Int) != 45) = true := by simp; omega
        have y6 : ((l[k].toNat : Int) != 95) = true := by simp; omega
        by_cases z1 : (l[k].toNat : Int) < 48
        · have z2 : (l[k].toNat : Int) < 97 := by omega
          clear x1 x2
          go_wp2
          go_ret
          exact ⟨by rw [H.out]; rfl, rfl⟩
        · by_cases z2 : (l[k].toNat : Int) < 97
          · have z3 : decide ((l[k].toNat : Int) ≤ 57) = false := by simp; omega
            clear x1 x2
            go_wp2
            go_ret
            exact ⟨by rw [H.out]; rfl, rfl⟩
          · have z3 : decide ((l[k].toNat : Int) ≤ 122) = false := by simp; omega
            have z4 : decide ((l[k].toNat : Int) ≤ 57) = false := by simp; omega
            clear x1 x2
            go_wp2
            go_ret
            exact ⟨by rw [H.out]; rfl, rfl⟩
    · have hk' : k = l.length := by omega
      subst hk'
      have hall : l.all signB = true := by
        rw [List.all_eq_true]
        intro x hx
        obtain ⟨j, hj, rfl⟩ := List.mem_iff_getElem.1 hx
        exact hlow.out j hj hj
      by_cases h1 : 1 ≤ l.length
      · have H := hid (show namedB l = decide ((l.length : Int) ≤ 60) by
          unfold namedB; rw [hall, show decide (1 ≤ l.length) = true from decide_eq_true h1]; rw [Bool.true_and, Bool.true_and, Bool.eq_iff_iff, decide_eq_true_eq, decide_eq_true_eq]; omega)
        clear hall
        go_wp2
        go_ret
        exact ⟨by rw [H.out]; rfl, rfl⟩
      · have H := hid (show namedB l = false by unfold namedB; simp [h1])
        go_wp2
        go_ret
        exact ⟨by rw [H.out]; rfl, rfl⟩

/-- The first 70 bytes. -/
theorem law13_few (l : List UInt8) (w : World) : Calls Try.prog 9 #[.string (S l)] w fun e w' => e = .returned (.string (S (l.take 70))) ∧ w' = w := by
  by_cases h : 70 < l.length
  · go_enter Try.func9, Try.ntmps9
    go_wp2
    go_ret
    exact ⟨rfl, rfl⟩
  · have H := hid (show l.take 70 = l from List.take_of_length_le (by omega))
    go_enter Try.func9, Try.ntmps9
    go_wp2
    go_ret
    exact ⟨by rw [H.out]; rfl, rfl⟩

theorem names_yes {nm : Key} (h : namedB nm = true) : ((Dr.new 10).create nm).2 = 0 ∧ ((Dr.new 10).create nm).1.list [] = [nm] ∧ (((Dr.new 10).create nm).1.create nm).2 = 11 := by
  have e0 : (Dr.new 10).createE nm = 0 := by unfold Dr.createE; rw [h]; rfl
  have e1 : (Dr.new 10).create nm = (⟨[(nm, ⟨[], []⟩)], 10, wrap1 0, false, -1⟩, 0) := by unfold Dr.create; rw [e0]; rfl
  have e2 : (⟨[(nm, ⟨[], []⟩)], 10, wrap1 0, false, -1⟩ : Dr).createE nm = 11 := by
    unfold Dr.createE
    rw [h]
    have : kget [(nm, (⟨[], []⟩ : File))] nm = some ⟨[], []⟩ := by simp [kget]
    simp [this]
  rw [e1]
  refine ⟨rfl, ?_, ?_⟩
  · simp [Dr.list, hasP]
  · unfold Dr.create
    rw [e2]
    rfl
theorem names_no {nm : Key} (h : namedB nm = false) : ((Dr.new 10).create nm).2 = 1 ∧ ((Dr.new 10).create nm).1.list [] = [] := by
  have e0 : (Dr.new 10).createE nm = 1 := by unfold Dr.createE; rw [h]; rfl
  have e1 : (Dr.new 10).create nm = (Dr.new 10, 1) := by unfold Dr.create; rw [e0]; rfl
  rw [e1]
  exact ⟨rfl, rfl⟩
theorem law_DriveNames (l : List UInt8) (w : World) : Calls Try.prog 4 #[.string (S l)] w fun e w' => e = .returned (.bool true) ∧ Below w.heap.size w w' := by
  have Fw := hid (law13_few l w)
  have hlen : (l.take 70).length ≤ 70 := by simp; omega
  generalize l.take 70 = nm at *
  have N0 := hid (DW.new 10 rfl w)
  have Nm := hid (fun W => ref13_Named nm (by omega) W)
  have Lv := hid law13_lives
  cases hn : namedB nm with
  | false =>
    obtain ⟨p1, p2⟩ := names_no hn
    have HP2 := hid p2
    rw [hn] at Nm
    clear hn p2
    go_enter Try.func4, Try.ntmps4
    go_wp2_with fail
    refine Fw.out.mono ?_
    rintro e w1 ⟨rfl, hw⟩
    have hw' := hw.symm
    subst hw'
    go_wp2_with fail
    refine N0.out.mono ?_
    rintro e w1 ⟨g, rfl, h1⟩
    have C1 := hid (h1.create nm (by omega))
    rw [p1] at C1
    clear h1 N0 Fw
    go_wp2_with fail
    refine C1.out.mono ?_
    rintro e w2 ⟨rfl, h2⟩
    have C2 := hid (h2.list [])
    rw [HP2.out] at C2
    clear h2 C1
    go_wp2_with fail
    refine (Nm.out _).mono ?_
    rintro e w3 ⟨rfl, hw⟩
    have hw' := hw.symm
    subst hw'
    go_wp2_with fail
    refine C2.out.mono ?_
    rintro e w3 ⟨v, rfl, hrow, h3, -⟩
    obtain ⟨A, c, rfl⟩ := row_form hrow
    have B3 := hid h3.bel
    clear hrow h3 C2
    go_wp2_with fail
    refine (Lv.out _).mono ?_
    rintro e w4 ⟨rfl, hb4⟩
    have B4 := hid (bt B3.out hb4)
    clear hb4
    go_wp2
    go_ret
    exact ⟨rfl, B4.out⟩
  | true =>
    obtain ⟨p1, p2, p3⟩ := names_yes hn
    have HP2 := hid p2
    have HP3 := hid p3
    rw [hn] at Nm
    clear hn p2 p3
    go_enter Try.func4, Try.ntmps4
    go_wp2_with fail
    refine Fw.out.mono ?_
    rintro e w1 ⟨rfl, hw⟩
    have hw' := hw.symm
    subst hw'
    go_wp2_with fail
    refine N0.out.mono ?_
    rintro e w1 ⟨g, rfl, h1⟩
    have C1 := hid (h1.create nm (by omega))
    rw [p1] at C1
    clear h1 N0 Fw
    go_wp2_with fail
    refine C1.out.mono ?_
    rintro e w2 ⟨rfl, h2⟩
    have C2 := hid (h2.list [])
    rw [HP2.out] at C2
    clear h2 C1
    go_wp2_with fail
    refine (Nm.out _).mono ?_
    rintro e w3 ⟨rfl, hw⟩
    have hw' := hw.symm
    subst hw'
    go_wp2_with fail
    refine C2.out.mono ?_
    rintro e w3 ⟨v, rfl, hrow, -, hX⟩
    obtain ⟨b, c, rfl⟩ : ∃ b c, v = .slice (some ⟨b, 0, none⟩) 1 c := by
      rcases hrow.2 with ⟨h1, h2⟩ | ⟨gg, cp, cur, h1, _⟩
      · simp at h2
      · exact ⟨gg, cp, h1⟩
    have hc0 := hrow.cellAt 0 (by simp)
    simp only [List.map_cons, List.map_nil, List.getElem?_cons_zero] at hc0
    obtain ⟨cs, h3⟩ := hX b rfl
    have hcs := (h3.blk (x := (b, 9, cs)) (by simp)).cell 0
    simp only at hcs
    rw [hc0] at hcs
    have C3 := hid (h3.create nm (by omega))
    rw [HP3.out] at C3
    have XB := hid (fun (W : World) (d : Dr) (h : DW w g d 0 [(b, 9, cs)] W) => ((h.blk (x := (b, 9, cs)) (by simp)).cell 0).trans hcs.symm)
    have B3 := hid h3.bel
    clear hrow h3 C2 hX hcs
    go_wp2_with fail
    refine C3.out.mono ?_
    rintro e w4 ⟨rfl, h4⟩
    have c4 := XB.out _ _ h4
    have B4 := hid h4.bel
    clear h4 C3 XB hc0 B3
    go_wp2_with fail
    refine (Lv.out _).mono ?_
    rintro e w5 ⟨rfl, hb5⟩
    have B5 := hid (bt B4.out hb5)
    clear hb5
    go_wp2
    go_ret
    exact ⟨rfl, B5.out⟩
theorem row_DriveNames (s : ByteArray) (w : World) (hs : s.size ≤ maxLen) : Calls Try.prog 4 #[.string s] w fun e w' => e = .returned (.bool true) ∧ Below w.heap.size w w' := by
  rw [← S_of s]
  exact law_DriveNames s.data.toList w
end Go.Proofs.Ytioillenlgpcgaa
