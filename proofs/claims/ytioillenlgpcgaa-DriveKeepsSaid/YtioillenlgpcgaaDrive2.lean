/- Walks of package drive: named, there, deed. -/
import Derived.Test.YtioillenlgpcgaaDrive1
import Derived.Lib.Bytealg
set_option linter.unusedVariables false
set_option linter.unusedSimpArgs false
set_option maxHeartbeats 800000
set_option maxRecDepth 100000
namespace Go.Proofs.Ytioillenlgpcgaa
open Go.RowKit

theorem run_indexByteS (l : List UInt8) (c : UInt8) (w : World) : (callFunc 82 #[.string (S l), .int .u8 c.toNat]).run Try.prog w = .ok (.value (.int .i64 (Lib.indexByte l c))) w := by
  rw [run_callFunc_extern Try.func82 (by kernel_rfl) (by kernel_rfl) (by kernel_rfl) (e := Extern.BytealgIndexByte.indexByte) (by kernel_rfl), Lib.run_indexByteString]
  simp [Result.andThen, S_toList]

theorem strings_IndexByte (l : List UInt8) (c : UInt8) (w : World) : Calls Try.prog 61 #[.string (S l), .int .u8 c.toNat] w fun e w' => e = .returned (.int .i64 (Lib.indexByte l c)) ∧ w' = w := by
  have hx := run_indexByteS l c
  go_enter Try.func61, Try.ntmps61
  go_wp2
  go_ret
  exact ⟨rfl, rfl⟩

theorem signs_index (c : UInt8) : (signB c = true ∧ ¬ Lib.indexByte [46, 47, 45, 95] c < 0) ∨ (signB c = false ∧ Lib.indexByte [46, 47, 45, 95] c = -1) ∨ (97 ≤ c.toNat ∧ c.toNat ≤ 122) ∨ (48 ≤ c.toNat ∧ c.toNat ≤ 57) := by
  by_cases h1 : c = 46
  · subst h1; exact .inl (by decide)
  · by_cases h2 : c = 47
    · subst h2; exact .inl (by decide)
    · by_cases h3 : c = 45
      · subst h3; exact .inl (by decide)
      · by_cases h4 : c = 95
        · subst h4; exact .inl (by decide)
        · by_cases h5 : 97 ≤ c.toNat ∧ c.toNat ≤ 122
          · exact .inr (.inr (.inl h5))
          · by_cases h6 : 48 ≤ c.toNat ∧ c.toNat ≤ 57
            · exact .inr (.inr (.inr h6))
            · refine .inr (.inl ⟨?_, ?_⟩)
              · have n1 : c.toNat ≠ 46 := fun h => h1 (UInt8.toNat_inj.1 h)
                have n2 : c.toNat ≠ 47 := fun h => h2 (UInt8.toNat_inj.1 h)
                have n3 : c.toNat ≠ 45 := fun h => h3 (UInt8.toNat_inj.1 h)
                have n4 : c.toNat ≠ 95 := fun h => h4 (UInt8.toNat_inj.1 h)
                simp [signB, n1, n2, n3, n4]
                omega
              · simp [Lib.indexByte, Ne.symm h1, Ne.symm h2, Ne.symm h3, Ne.symm h4]

theorem named_not {l : List UInt8} {k : Nat} (h : k < l.length) (hs : signB l[k] = false) : namedB l = false := by
  unfold namedB
  rw [show l.all signB = false by
    rw [List.all_eq_false]
    exact ⟨l[k], List.getElem_mem h, by simp [hs]⟩]
  rfl

theorem drive_named (l : List UInt8) (hl : l.length ≤ 1000000) (w : World) : Calls Try.prog 28 #[.string (S l)] w fun e w' => e = .returned (.bool (namedB l)) ∧ w' = w := by
  go_enter Try.func28, Try.ntmps28
  go_wp2
  go_loop [7] (fun i => ∃ k : Nat, k ≤ l.length ∧ i = .int .i64 k ∧ Hid (∀ j, (h : j < l.length) → j < k → signB l[j] = true)) (fun i => l.length - (intOf i).toNat)
  case atStart => exact ⟨0, Nat.zero_le _, rfl, fun j _ h => absurd h (by omega)⟩
  case round =>
    obtain ⟨k, hk, rfl, hs⟩ := hrel
    by_cases h : k < l.length
    · have hnext := fun (hq : signB l[k] = true) => hid (show ∀ j, (h : j < l.length) → j < k + 1 → signB l[j] = true from fun j hj hjk => by
        rcases Nat.lt_or_ge j k with h1 | h1
        · exact hs.out j hj h1
        · obtain rfl : j = k := by omega
          exact hq)
      have hc := l[k].toNat_lt
      have hc' : (l[k].toNat : Int) < 256 := by omega
      by_cases h1 : (97 : Int) ≤ l[k].toNat ∧ (l[k].toNat : Int) ≤ 122
      · obtain ⟨a1, a2⟩ := h1
        go_wp2
        go_round
        case rel => exact ⟨k + 1, by omega, by go_num, hnext (by simp [signB]; omega)⟩
        case measure => simp [intOf]; omega
      · by_cases h2 : (48 : Int) ≤ l[k].toNat ∧ (l[k].toNat : Int) ≤ 57
        · obtain ⟨a1, a2⟩ := h2
          rcases Int.lt_or_le (l[k].toNat : Int) 97 with h3 | h3
          · go_wp2
            go_round
            case rel => exact ⟨k + 1, by omega, by go_num, hnext (by simp [signB]; omega)⟩
            case measure => simp [intOf]; omega
          · exact absurd h3 (by omega)
        · have ib := hid (strings_IndexByte [46, 47, 45, 95] l[k])
          have hx := signs_index l[k]
          rcases hx with ⟨hg, hx⟩ | ⟨hg, hx⟩ | hx | hx
          · have hn2 := hnext hg
            clear hnext hg
            by_cases h3 : (l[k].toNat : Int) < 97
            · by_cases h4 : (l[k].toNat : Int) < 48
              · go_wp2_with fail
                refine (ib.out _).mono ?_
                rintro e w1 ⟨rfl, rfl⟩
                go_wp2
                go_round
                case rel => exact ⟨k + 1, by omega, by go_num, hn2⟩
                case measure => simp [intOf]; omega
              · have h5 : (57 : Int) < l[k].toNat := by omega
                go_wp2_with fail
                refine (ib.out _).mono ?_
                rintro e w1 ⟨rfl, rfl⟩
                go_wp2
                go_round
                case rel => exact ⟨k + 1, by omega, by go_num, hn2⟩
                case measure => simp [intOf]; omega
            · exfalso
              have h5 : (122 : Int) < l[k].toNat := by omega
              have h6 : l[k].toNat ≠ 46 ∧ l[k].toNat ≠ 47 ∧ l[k].toNat ≠ 45 ∧ l[k].toNat ≠ 95 := by omega
              apply hx
              obtain ⟨n1, n2, n3, n4⟩ := h6
              have z : Lib.indexByte [46, 47, 45, 95] l[k] = -1 := by
                have m1 : ¬ (46 : UInt8) = l[k] := fun h => n1 (by rw [← h]; rfl)
                have m2 : ¬ (47 : UInt8) = l[k] := fun h => n2 (by rw [← h]; rfl)
                have m3 : ¬ (45 : UInt8) = l[k] := fun h => n3 (by rw [← h]; rfl)
                have m4 : ¬ (95 : UInt8) = l[k] := fun h => n4 (by rw [← h]; rfl)
                simp [Lib.indexByte, m1, m2, m3, m4]
              rw [z]; decide
          · have H := hid (named_not h hg)
            rw [hx] at ib
            clear hnext hg hx
            have h3 : (l[k].toNat : Int) < 97 ∨ (122 : Int) < l[k].toNat := by omega
            have h4 : (l[k].toNat : Int) < 48 ∨ (57 : Int) < l[k].toNat := by omega
            by_cases h5 : (l[k].toNat : Int) < 97
            · by_cases h6 : (l[k].toNat : Int) < 48
              · clear h1 h2 h3 h4
                go_wp2_with fail
                refine (ib.out _).mono ?_
                rintro e w1 ⟨rfl, rfl⟩
                go_wp2
                go_ret
                exact ⟨by rw [H.out]; rfl, rfl⟩
              · have h7 : (57 : Int) < l[k].toNat := by omega
                clear h1 h2 h3 h4
                go_wp2_with fail
                refine (ib.out _).mono ?_
                rintro e w1 ⟨rfl, rfl⟩
                go_wp2
                go_ret
                exact ⟨by rw [H.out]; rfl, rfl⟩
            · have h7 : (122 : Int) < l[k].toNat := by omega
              have h8 : (57 : Int) < l[k].toNat := by omega
              have h9 : ¬ (l[k].toNat : Int) < 48 := by omega
              clear h1 h2 h3 h4
              go_wp2_with fail
              refine (ib.out _).mono ?_
              rintro e w1 ⟨rfl, rfl⟩
              go_wp2
              go_ret
              exact ⟨by rw [H.out]; rfl, rfl⟩
          · exact absurd hx (by omega)
          · exact absurd hx (by omega)
    · have hk' : k = l.length := by omega
      subst hk'
      have hall : l.all signB = true := by
        rw [List.all_eq_true]
        intro c hc
        obtain ⟨j, hj, rfl⟩ := List.mem_iff_getElem.1 hc
        exact hs.out j hj hj
      by_cases h0 : l = []
      · subst h0
        go_wp2
        go_ret
        exact ⟨rfl, rfl⟩
      · have hp : 0 < l.length := List.length_pos_iff.2 h0
        have e1 : (l == []) = false := by simpa using h0
        have H := hid (show namedB l = decide ((l.length : Int) ≤ 60) by
          unfold namedB; rw [hall, show decide (1 ≤ l.length) = true from decide_eq_true hp]; rw [Bool.true_and, Bool.true_and, Bool.eq_iff_iff, decide_eq_true_eq, decide_eq_true_eq]; omega)
        clear h0 hall
        go_wp2
        go_ret
        exact ⟨by rw [H.out]; rfl, rfl⟩

theorem drive_there {w : World} {g : Nat} {d : Dr} {fp : Nat → Prop} (h : IsDrive w g d fp) (name : Key) (hl : name.length ≤ 1000000) : Calls Try.prog 31 #[.pointer (some ⟨g, 0, none⟩), .string (S name)] w fun e w' => e = .returned (.int .i64 (d.thereE name)) ∧ w' = w := by
  obtain ⟨mb, aft, rs, hb, ha, hf, hd⟩ := h.has
  have c0 := hb.cell 0
  simp [driveCells] at c0
  have hz : (zeroValue 64).run Try.prog w = .ok (.pointer none) w := by kernel_rfl
  have L := hf.map.look (t := 58) (e := 64) (by kernel_rfl) (by kernel_rfl) hz name hl
  rw [kget_map] at L
  have E : d.thereE name = if (kget rs name).isSome then 0 else 10 := by
    unfold Dr.thereE
    rw [hd, kget_map]
    cases kget rs name <;> rfl
  have HE := hid E
  clear hb ha hf hd h hz E
  cases hk : kget rs name with
  | none =>
    rw [hk] at L HE
    clear hk
    simp [ptrOf] at L
    go_enter Try.func31, Try.ntmps31
    go_wp2
    go_ret
    exact ⟨by rw [HE.out]; rfl, rfl⟩
  | some r =>
    rw [hk] at L HE
    clear hk
    simp [ptrOf] at L
    go_enter Try.func31, Try.ntmps31
    go_wp2
    go_ret
    exact ⟨by rw [HE.out]; rfl, rfl⟩
end Go.Proofs.Ytioillenlgpcgaa
