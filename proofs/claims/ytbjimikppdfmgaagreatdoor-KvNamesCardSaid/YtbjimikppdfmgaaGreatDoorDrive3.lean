/- Walks of package drive: New, Alive, Used, Deeds, Arm, Quota. Walks of package drive: named, there, deed. Walks of package drive: deed. -/
import Derived.Test.YtbjimikppdfmgaaGreatDoorDrPlain
import Derived.Lib.Bytealg
set_option linter.unusedVariables false
set_option linter.unusedSimpArgs false
set_option maxHeartbeats 800000
set_option maxRecDepth 100000
namespace Go.Proofs.YtbjimikppdfmgaaGreatDoor
open Go.RowKit

theorem drive_quotable (n : Int) (w : World) : Calls Tryz.prog 17 #[.int .i64 n] w fun e w' => e = .returned (.bool (quotableB n)) ∧ w' = w := by
  by_cases h : 0 ≤ n
  · go_enter Tryz.func17, Tryz.ntmps17
    go_wp2
    go_ret
    exact ⟨by simp [quotableB, h], rfl⟩
  · go_enter Tryz.func17, Tryz.ntmps17
    go_wp2
    go_ret
    exact ⟨by simp [quotableB]; omega, rfl⟩

theorem drive_Alive {w : World} {g : Nat} {d : Dr} {fp : Nat → Prop} (h : IsDrive w g d fp) : Calls Tryz.prog 19 #[.pointer (some ⟨g, 0, none⟩)] w fun e w' => e = .returned (.bool (!d.down)) ∧ w' = w := by
  obtain ⟨mb, aft, rs, hb, ha, hf, hd⟩ := h.has
  have c4 := hb.cell 4
  simp [driveCells] at c4
  have hnot : ∀ (x : Bool) (w : World), (Op.unary .not (.bool x)).run Tryz.prog w = .ok (.bool (!x)) w := fun _ _ => rfl
  clear hb ha hf hd h
  go_enter Tryz.func19, Tryz.ntmps19
  go_wp2
  go_ret
  exact ⟨rfl, rfl⟩

theorem drive_Used {w : World} {g : Nat} {d : Dr} {fp : Nat → Prop} (h : IsDrive w g d fp) : Calls Tryz.prog 16 #[.pointer (some ⟨g, 0, none⟩)] w fun e w' => e = .returned (.int .i64 d.used) ∧ w' = w := by
  obtain ⟨mb, aft, rs, hb, ha, hf, hd⟩ := h.has
  have c4 := hb.cell 2
  simp [driveCells] at c4
  clear hb ha hf hd h
  go_enter Tryz.func16, Tryz.ntmps16
  go_wp2
  go_ret
  exact ⟨rfl, rfl⟩

theorem drive_New_no (q : Int) (hq : quotableB q = false) (w : World) : Calls Tryz.prog 6 #[.int .i64 q] w fun e w' => e = .returned (.pointer none) ∧ w' = w := by
  have Q := hid (drive_quotable q)
  rw [hq] at Q
  clear hq
  go_enter Tryz.func6, Tryz.ntmps6
  go_wp2_with fail
  refine (Q.out _).mono ?_
  rintro e w1 ⟨rfl, rfl⟩
  go_wp2
  go_ret
  exact ⟨rfl, rfl⟩

theorem drive_New (q : Int) (hq : quotableB q = true) (w : World) : Calls Tryz.prog 6 #[.int .i64 q] w fun e w' => ∃ g fp, e = .returned (.pointer (some ⟨g, 0, none⟩)) ∧ IsDrive w' g (Dr.new q) fp ∧ Below w.heap.size w w' ∧ ∀ k, fp k → w.heap.size ≤ k := by
  have Q := hid (drive_quotable q)
  rw [hq] at Q
  clear hq
  have hmm := @run_makeMap Tryz.prog
  go_enter Tryz.func6, Tryz.ntmps6
  go_wp2_with fail
  refine (Q.out _).mono ?_
  rintro e w1 ⟨rfl, rfl⟩
  go_wp2
  go_ret
  have hB : Below w1.heap.size w1 (w1.alloc (.map #[] 0)) := (Below.refl _ _).alloc (Nat.le_refl _) _
  refine ⟨w1.heap.size + 1, fun k => k = w1.heap.size ∨ k = w1.heap.size + 1, rfl, ⟨?_, .inr rfl, w1.heap.size, 0, [], ?_, fun h => absurd h (by simp [Dr.new]), ⟨?_, .inl rfl, by simp, List.Pairwise.nil⟩, rfl⟩, hB.alloc (by simp) _, ?_⟩
  · intro k hk
    simp
    omega
  · have := Blk.new (w1.alloc (.map #[] 0)) 48 (driveCells (Dr.new q) w1.heap.size 0)
    simpa [driveCells, Dr.new, Dr.used] using this
  · exact (OwnM.made w1).kept (Below.heap_alloc _ _ _ (by simp))
  · intro k hk
    omega

end Go.Proofs.YtbjimikppdfmgaaGreatDoor

set_option linter.unusedVariables false
set_option linter.unusedSimpArgs false
set_option maxHeartbeats 800000
set_option maxRecDepth 100000
namespace Go.Proofs.YtbjimikppdfmgaaGreatDoor
open Go.RowKit

theorem run_indexByteS (l : List UInt8) (c : UInt8) (w : World) : (callFunc 101 #[.string (S l), .int .u8 c.toNat]).run Tryz.prog w = .ok (.value (.int .i64 (Lib.indexByte l c))) w := by
  rw [run_callFunc_extern Tryz.func101 (by kernel_rfl) (by kernel_rfl) (by kernel_rfl) (e := Extern.BytealgIndexByte.indexByte) (by kernel_rfl), Lib.run_indexByteString]
  simp [Result.andThen, S_toList]

theorem strings_IndexByte (l : List UInt8) (c : UInt8) (w : World) : Calls Tryz.prog 81 #[.string (S l), .int .u8 c.toNat] w fun e w' => e = .returned (.int .i64 (Lib.indexByte l c)) ∧ w' = w := by
  have hx := run_indexByteS l c
  go_enter Tryz.func81, Tryz.ntmps81
  go_wp2
  go_ret
  exact ⟨rfl, rfl⟩

theorem signs_index (c : UInt8) : (signB c = true ∧ ¬ Lib.indexByte [46, 47, 45, 95] c < 0) ∨ (signB c = false ∧ Lib.indexByte [46, 47, 45, 95] c = -1) ∨ (97 ≤ c.toNat ∧ c.toNat ≤ 122) ∨ (48 ≤ c.toNat ∧ c.toNat ≤ 57) := by
  by_cases h1 : c = 46
  · subst h1; exact .inl (by decide)
  · by_cases h2 : c = 47
    · subst h2; exact .inl (by decide)
    · by_cases h3 : c = 45
      · subst h3; exact .inl (by decide)
      · by_cases h4 : c = 95
        · subst h4; exact .inl (by decide)
        · by_cases h5 : 97 ≤ c.toNat ∧ c.toNat ≤ 122
          · exact .inr (.inr (.inl h5))
          · by_cases h6 : 48 ≤ c.toNat ∧ c.toNat ≤ 57
            · exact .inr (.inr (.inr h6))
            · refine .inr (.inl ⟨?_, ?_⟩)
              · have n1 : c.toNat ≠ 46 := fun h => h1 (UInt8.toNat_inj.1 h)
                have n2 : c.toNat ≠ 47 := fun h => h2 (UInt8.toNat_inj.1 h)
                have n3 : c.toNat ≠ 45 := fun h => h3 (UInt8.toNat_inj.1 h)
                have n4 : c.toNat ≠ 95 := fun h => h4 (UInt8.toNat_inj.1 h)
                simp [signB, n1, n2, n3, n4]
                omega
              · simp [Lib.indexByte, Ne.symm h1, Ne.symm h2, Ne.symm h3, Ne.symm h4]

theorem named_not {l : List UInt8} {k : Nat} (h : k < l.length) (hs : signB l[k] = false) : namedB l = false := by
  unfold namedB
  rw [show l.all signB = false by
    rw [List.all_eq_false]
    exact ⟨l[k], List.getElem_mem h, by simp [hs]⟩]
  rfl

theorem drive_named (l : List UInt8) (hl : l.length ≤ 1000000) (w : World) : Calls Tryz.prog 53 #[.string (S l)] w fun e w' => e = .returned (.bool (namedB l)) ∧ w' = w := by
  go_enter Tryz.func53, Tryz.ntmps53
  go_wp2
  go_loop [7] (fun i => ∃ k : Nat, k ≤ l.length ∧ i = .int .i64 k ∧ Hid (∀ j, (h : j < l.length) → j < k → signB l[j] = true)) (fun i => l.length - (intOf i).toNat)
  case atStart => exact ⟨0, Nat.zero_le _, rfl, fun j _ h => absurd h (by omega)⟩
  case round =>
    obtain ⟨k, hk, rfl, hs⟩ := hrel
    by_cases h : k < l.length
    · have hnext := fun (hq : signB l[k] = true) => hid (show ∀ j, (h : j < l.length) → j < k + 1 → signB l[j] = true from fun j hj hjk => by
        rcases Nat.lt_or_ge j k with h1 | h1
        · exact hs.out j hj h1
        · obtain rfl : j = k := by omega
          exact hq)
      have hc := l[k].toNat_lt
      have hc' : (l[k].toNat : Int) < 256 := by omega
      by_cases h1 : (97 : Int) ≤ l[k].toNat ∧ (l[k].toNat : Int) ≤ 122
      · obtain ⟨a1, a2⟩ := h1
        go_wp2
        go_round
        case rel => exact ⟨k + 1, by omega, by go_num, hnext (by simp [signB]; omega)⟩
        case measure => simp [intOf]; omega
      · by_cases h2 : (48 : Int) ≤ l[k].toNat ∧ (l[k].toNat : Int) ≤ 57
        · obtain ⟨a1, a2⟩ := h2
          rcases Int.lt_or_le (l[k].toNat : Int) 97 with h3 | h3
          · go_wp2
            go_round
            case rel => exact ⟨k + 1, by omega, by go_num, hnext (by simp [signB]; omega)⟩
            case measure => simp [intOf]; omega
          · exact absurd h3 (by omega)
        · have ib := hid (strings_IndexByte [46, 47, 45, 95] l[k])
          have hx := signs_index l[k]
          rcases hx with ⟨hg, hx⟩ | ⟨hg, hx⟩ | hx | hx
          · have hn2 := hnext hg
            clear hnext hg
            by_cases h3 : (l[k].toNat : Int) < 97
            · by_cases h4 : (l[k].toNat : Int) < 48
              · go_wp2_with fail
                refine (ib.out _).mono ?_
                rintro e w1 ⟨rfl, rfl⟩
                go_wp2
                go_round
                case rel => exact ⟨k + 1, by omega, by go_num, hn2⟩
                case measure => simp [intOf]; omega
              · have h5 : (57 : Int) < l[k].toNat := by omega
                go_wp2_with fail
                refine (ib.out _).mono ?_
                rintro e w1 ⟨rfl, rfl⟩
                go_wp2
                go_round
                case rel => exact ⟨k + 1, by omega, by go_num, hn2⟩
                case measure => simp [intOf]; omega
            · exfalso
              have h5 : (122 : Int) < l[k].toNat := by omega
              have h6 : l[k].toNat ≠ 46 ∧ l[k].toNat ≠ 47 ∧ l[k].toNat ≠ 45 ∧ l[k].toNat ≠ 95 := by omega
              apply hx
              obtain ⟨n1, n2, n3, n4⟩ := h6
              have z : Lib.indexByte [46, 47, 45, 95] l[k] = -1 := by
                have m1 : ¬ (46 : UInt8) = l[k] := fun h => n1 (by rw [← h]; rfl)
                have m2 : ¬ (47 : UInt8) = l[k] := fun h => n2 (by rw [← h]; rfl)
                have m3 : ¬ (45 : UInt8) = l[k] := fun h => n3 (by rw [← h]; rfl)
                have m4 : ¬ (95 : UInt8) = l[k] := fun h => n4 (by rw [← h]; rfl)
                simp [Lib.indexByte, m1, m2, m3, m4]
              rw [z]; decide
          · have H := hid (named_not h hg)
            rw [hx] at ib
            clear hnext hg hx
            have h3 : (l[k].toNat : Int) < 97 ∨ (122 : Int) < l[k].toNat := by omega
            have h4 : (l[k].toNat : Int) < 48 ∨ (57 : Int) < l[k].toNat := by omega
            by_cases h5 : (l[k].toNat : Int) < 97
            · by_cases h6 : (l[k].toNat : Int) < 48
              · clear h1 h2 h3 h4
                go_wp2_with fail
                refine (ib.out _).mono ?_
                rintro e w1 ⟨rfl, rfl⟩
                go_wp2
                go_ret
                exact ⟨by rw [H.out]; rfl, rfl⟩
              · have h7 : (57 : Int) < l[k].toNat := by omega
                clear h1 h2 h3 h4
                go_wp2_with fail
                refine (ib.out _).mono ?_
                rintro e w1 ⟨rfl, rfl⟩
                go_wp2
                go_ret
                exact ⟨by rw [H.out]; rfl, rfl⟩
            · have h7 : (122 : Int) < l[k].toNat := by omega
              have h8 : (57 : Int) < l[k].toNat := by omega
              have h9 : ¬ (l[k].toNat : Int) < 48 := by omega
              clear h1 h2 h3 h4
              go_wp2_with fail
              refine (ib.out _).mono ?_
              rintro e w1 ⟨rfl, rfl⟩
              go_wp2
              go_ret
              exact ⟨by rw [H.out]; rfl, rfl⟩
          · exact absurd hx (by omega)
          · exact absurd hx (by omega)
    · have hk' : k = l.length := by omega
      subst hk'
      have hall : l.all signB = true := by
        rw [List.all_eq_true]
        intro c hc
        obtain ⟨j, hj, rfl⟩ := List.mem_iff_getElem.1 hc
        exact hs.out j hj hj
      by_cases h0 : l = []
      · subst h0
        go_wp2
        go_ret
        exact ⟨rfl, rfl⟩
      · have hp : 0 < l.length := List.length_pos_iff.2 h0
        have e1 : (l == []) = false := by simpa using h0
        have H := hid (show namedB l = decide ((l.length : Int) ≤ 60) by
          unfold namedB; rw [hall, show decide (1 ≤ l.length) = true from decide_eq_true hp]; rw [Bool.true_and, Bool.true_and, Bool.eq_iff_iff, decide_eq_true_eq, decide_eq_true_eq]; omega)
        clear h0 hall
        go_wp2
        go_ret
        exact ⟨by rw [H.out]; rfl, rfl⟩

theorem drive_there {w : World} {g : Nat} {d : Dr} {fp : Nat → Prop} (h : IsDrive w g d fp) (name : Key) (hl : name.length ≤ 1000000) : Calls Tryz.prog 56 #[.pointer (some ⟨g, 0, none⟩), .string (S name)] w fun e w' => e = .returned (.int .i64 (d.thereE name)) ∧ w' = w := by
  obtain ⟨mb, aft, rs, hb, ha, hf, hd⟩ := h.has
  have c0 := hb.cell 0
  simp [driveCells] at c0
  have hz : (zeroValue 79).run Tryz.prog w = .ok (.pointer none) w := by kernel_rfl
  have L := hf.map.look (t := 46) (e := 79) (by kernel_rfl) (by kernel_rfl) hz name hl
  rw [kget_map] at L
  have E : d.thereE name = if (kget rs name).isSome then 0 else 10 := by
    unfold Dr.thereE
    rw [hd, kget_map]
    cases kget rs name <;> rfl
  have HE := hid E
  clear hb ha hf hd h hz E
  cases hk : kget rs name with
  | none =>
    rw [hk] at L HE
    clear hk
    simp [ptrOf] at L
    go_enter Tryz.func56, Tryz.ntmps56
    go_wp2
    go_ret
    exact ⟨by rw [HE.out]; rfl, rfl⟩
  | some r =>
    rw [hk] at L HE
    clear hk
    simp [ptrOf] at L
    go_enter Tryz.func56, Tryz.ntmps56
    go_wp2
    go_ret
    exact ⟨by rw [HE.out]; rfl, rfl⟩
end Go.Proofs.YtbjimikppdfmgaaGreatDoor

set_option linter.unusedVariables false
set_option linter.unusedSimpArgs false
set_option maxHeartbeats 800000
set_option maxRecDepth 100000
namespace Go.Proofs.YtbjimikppdfmgaaGreatDoor
open Go.RowKit

theorem deed_no {w : World} {g : Nat} {d : Dr} {fp : Nat → Prop} (h : IsDrive w g d fp) (e : Int) (hne : (d.may e).2 ≠ 0) (F : FuncId) (caps : Array Value) :
    Calls Tryz.prog 54 #[.pointer (some ⟨g, 0, none⟩), .int .i64 e, .func (.func F) #[] caps] w fun x w' => x = .returned (.int .i64 (d.may e).2) ∧ IsDrive w' g (d.may e).1 fp ∧ Touch w w' fp fp := by
  obtain ⟨mb, aft, rs, hb, ha, hf, hd⟩ := h.has
  have c4 := hb.cell 4
  have c5 := hb.cell 5
  have c6 := hb.cell 6
  simp [driveCells] at c4 c5 c6
  have f4 := hb.frozen 4
  have f5 := hb.frozen 5
  have H := hid h
  have HB := hid hb
  have HD := hid hd
  have HA := hid ha
  clear h hb ha hd
  cases hdn : d.down with
  | true =>
    have E := hid (show d.may e = (d, 13) by simp [Dr.may, hdn])
    rw [hdn] at c4
    clear hdn hne
    go_enter Tryz.func54, Tryz.ntmps54
    go_wp2
    go_ret
    exact ⟨by rw [E.out]; rfl, by rw [E.out]; exact H.out, Touch.refl _ _⟩
  | false =>
    rw [hdn] at c4
    by_cases he : e = 0
    · by_cases hl : d.left = 0
      · have E := hid (show d.may e = ({ d with down := true, left := -1 }, 13) by simp [Dr.may, hdn, he, hl])
        rw [hl] at c5
        have A := HA.out (by omega)
        rw [hl] at A
        subst A
        subst he
        simp at c5
        clear hdn hne hl
        go_enter Tryz.func54, Tryz.ntmps54
        go_wp2
        go_ret
        refine ⟨by rw [E.out]; rfl, ?_, (Touch.setCell _ _ H.out.own _).trans (Touch.setCell _ _ H.out.own _)⟩
        rw [E.out]
        refine IsDrive.mk' (aft := 0) H.out HB.out hf (by simp [set_size]) (fun k hk => (set_other _ _ _ _ k hk).trans (set_other _ _ _ _ k hk)) ?_ (fun h => absurd h (by simp)) HD.out
        exact (HB.out.set_ 4 (.bool true)).set_ 5 (.bool false)
      · exfalso
        apply hne
        simp [Dr.may, hdn, he, hl]
    · have E := hid (show d.may e = (d, e) by simp [Dr.may, hdn, he])
      have k0 : (e == 0) = false := by simpa using he
      clear hdn hne he
      go_enter Tryz.func54, Tryz.ntmps54
      go_wp2
      go_ret
      exact ⟨by rw [E.out]; rfl, by rw [E.out]; exact H.out, Touch.refl _ _⟩

theorem may_drive {w : World} {g mb : Nat} {d : Dr} {fp : Nat → Prop} {aft : Int} {rs : List (Key × FileR)} (H : IsDrive w g d fp) (HB : Blk w g 48 (driveCells d mb aft)) (hf : HasFiles w fp mb rs) (HD : d.files = kmap FileR.f rs)
    (HA : 0 ≤ d.left → aft = d.left) (hlm : d.left ≤ 9223372036854775807) (hl0 : d.left ≠ 0) :
    IsDrive ((w.setCell ⟨g, 6, none⟩ (.int .i64 (wrap64 (aft - 1)))).setCell ⟨g, 3, none⟩ (.int .i64 (wrap64 (d.deeds + 1)))) g { d with left := if 0 ≤ d.left then d.left - 1 else -1, deeds := wrap1 d.deeds } fp := by
  refine IsDrive.mk' (aft := wrap64 (aft - 1)) H HB hf (by simp [set_size]) (fun k hk => (set_other _ _ _ _ k hk).trans (set_other _ _ _ _ k hk)) ?_ ?_ HD
  · have h1 := (HB.set_ 6 (.int .i64 (wrap64 (aft - 1)))).set_ 3 (.int .i64 (wrap64 (d.deeds + 1)))
    have e2 : driveCells { d with left := if 0 ≤ d.left then d.left - 1 else -1, deeds := wrap1 d.deeds } mb (wrap64 (aft - 1)) = ((driveCells d mb aft).setIfInBounds 6 (.int .i64 (wrap64 (aft - 1)))).setIfInBounds 3 (.int .i64 (wrap64 (d.deeds + 1))) := by
      have e3 : decide (0 ≤ if 0 ≤ d.left then d.left - 1 else -1) = decide (0 ≤ d.left) := by
        rw [Bool.eq_iff_iff, decide_eq_true_eq, decide_eq_true_eq]
        split <;> omega
      unfold driveCells
      rw [e3]
      rfl
    rw [e2]; exact h1
  · intro h
    by_cases hl : 0 ≤ d.left
    · have h1 := HA hl
      show wrap64 (aft - 1) = if 0 ≤ d.left then d.left - 1 else -1
      rw [if_pos hl, h1]
      unfold wrap64
      omega
    · have h2 : (0 : Int) ≤ if 0 ≤ d.left then d.left - 1 else -1 := h
      rw [if_neg hl] at h2
      omega

theorem deed_do {w : World} {g : Nat} {d : Dr} {fp : Nat → Prop} (h : IsDrive w g d fp) (hlm : d.left ≤ 9223372036854775807) (hdo : (d.may 0).2 = 0) (F : FuncId) (caps : Array Value) (hcf : ∀ W, (callFunc F caps).run Tryz.prog W = .ok (.enter F caps) W) (R : World → Prop)
    (hF : ∀ w1, IsDrive w1 g (d.may 0).1 fp → Touch w w1 fp fp → Calls Tryz.prog F caps w1 fun x w2 => x = .returned (.tuple #[]) ∧ R w2) :
    Calls Tryz.prog 54 #[.pointer (some ⟨g, 0, none⟩), .int .i64 0, .func (.func F) #[] caps] w fun x w' => x = .returned (.int .i64 0) ∧ R w' := by
  obtain ⟨mb, aft, rs, hb, ha, hf, hd⟩ := h.has
  have c3 := hb.cell 3
  have c4 := hb.cell 4
  have c5 := hb.cell 5
  have c6 := hb.cell 6
  simp [driveCells] at c3 c4 c5 c6
  have f3 := hb.frozen 3
  have f6 := hb.frozen 6
  have hdn : d.down = false := by
    cases hx : d.down with
    | false => rfl
    | true => simp [Dr.may, hx] at hdo
  have hl0 : d.left ≠ 0 := by
    intro hx
    simp [Dr.may, hdn, hx] at hdo
  have E := hid (show d.may 0 = ({ d with left := if 0 ≤ d.left then d.left - 1 else -1, deeds := wrap1 d.deeds }, 0) by simp [Dr.may, hdn, hl0])
  have H := hid h
  have HB := hid hb
  have HD := hid hd
  have HA := hid ha
  have HF := hid hF
  rw [hdn] at c4
  clear h hb ha hd hdo hF hdn
  have M := hid (may_drive H.out HB.out hf HD.out HA.out hlm hl0)
  by_cases hl : 0 ≤ d.left
  · have A := HA.out hl
    have k1 : (aft == 0) = false := by rw [A]; simpa using hl0
    have k2 : decide (0 ≤ d.left) = true := decide_eq_true hl
    rw [k2] at c5
    clear A k2 hl0
    go_enter Tryz.func54, Tryz.ntmps54
    go_wp2_with fail
    refine (HF.out _ (by rw [E.out]; exact M.out) ((Touch.setCell _ _ H.out.own _).trans (Touch.setCell _ _ H.out.own _))).mono ?_
    rintro x w2 ⟨rfl, hR⟩
    go_wp2
    go_ret
    exact ⟨rfl, hR⟩
  · have k2 : decide (0 ≤ d.left) = false := decide_eq_false hl
    rw [k2] at c5
    clear k2 hl0
    go_enter Tryz.func54, Tryz.ntmps54
    go_wp2_with fail
    refine (HF.out _ (by rw [E.out]; exact M.out) ((Touch.setCell _ _ H.out.own _).trans (Touch.setCell _ _ H.out.own _))).mono ?_
    rintro x w2 ⟨rfl, hR⟩
    go_wp2
    go_ret
    exact ⟨rfl, hR⟩
end Go.Proofs.YtbjimikppdfmgaaGreatDoor
