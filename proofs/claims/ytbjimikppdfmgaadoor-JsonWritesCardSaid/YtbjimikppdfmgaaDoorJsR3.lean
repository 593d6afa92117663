/- Walk of json.right. -/
import Derived.Test.YtbjimikppdfmgaaDoorJsR2
set_option linter.unusedVariables false
set_option linter.unusedSimpArgs false
set_option maxHeartbeats 16000000
set_option maxRecDepth 100000
namespace Go.Proofs.YtbjimikppdfmgaaDoor
open Go.RowKit Go.Shelf

theorem NamesAt.take {w : World} {ok : Nat → Prop} {A : Option Addr} {ns : List (List UInt8)} (h : NamesAt w ok A ns) (k : Nat) : NamesAt w ok A (ns.take k) := fun h0 => by
  obtain ⟨b, o, rfl, hb, hlt, hc⟩ := h (by simp at h0; omega)
  refine ⟨b, o, rfl, hb, hlt, fun i hi => ?_⟩
  rw [List.getElem_take]
  exact hc i (by simp at hi; omega)
theorem js_ContTake {w : World} {ok : Nat → Prop} {A : Option Addr} (ns : List (List UInt8)) (h : NamesAt w ok A ns) (hl : ns.length ≤ 1000000) (k : Nat) (hk : k ≤ ns.length) (c : Nat) (n : List UInt8) :
    Calls Tryd.prog 88 #[.slice A k c, .string (S n)] w fun e w' => e = .returned (.bool ((ns.take k).contains n)) ∧ w' = w := by
  have := js_Contains (ns.take k) c (h.take k) (by simp; omega) n
  rwa [List.length_take_of_le hk] at this
theorem all_any (ks : List Jv) (f : Jv → Bool) : ks.all f = !ks.any fun j => !f j := by
  induction ks with
  | nil => rfl
  | cons x r ih => simp [ih]
theorem nodup_take (ns : List (List UInt8)) (k : Nat) (hk : k < ns.length) : (ns.take (k + 1)).Nodup ↔ (ns.take k).Nodup ∧ (ns.take k).contains ns[k] = false := by
  rw [take_snoc ns hk, List.nodup_append]
  constructor
  · rintro ⟨h1, -, h3⟩
    refine ⟨h1, ?_⟩
    cases hc : (ns.take k).contains ns[k] with
    | false => rfl
    | true => exact absurd rfl (h3 _ (List.contains_iff_mem.1 hc) _ (by simp))
  · rintro ⟨h1, h2⟩
    refine ⟨h1, by simp, ?_⟩
    rintro a ha b hb rfl
    simp at hb
    subst hb
    rw [List.contains_iff_mem.2 ha] at h2
    cases h2
theorem nodup_not (ns : List (List UInt8)) (k : Nat) (hk : k < ns.length) (h : (ns.take k).contains ns[k] = true) : ¬ ns.Nodup := fun hn => by
  have h1 : (ns.take (k + 1)).Nodup := hn.sublist (List.take_sublist _ _)
  have := ((nodup_take ns k hk).1 h1).2
  rw [h] at this
  cases this
def deepAll : Nat → List Jv → Bool
  | 0, _ => false
  | n + 1, ks => ks.all (rightP n)
theorem rightP_eq (n : Nat) (k : Int) (t : List UInt8) (u : Int) (ns : List (List UInt8)) (ks : List Jv) : rightP n (.mk k t u ns ks) = (aloneX k t u ns.length ks.length &&
    if k = 1 then !oddP t
    else if k = 2 then decide (0 ≤ u) && decide (u ≤ 9007199254740992)
    else if k = 4 ∨ k = 3 then (decide (k = 3) || namesP ns ks.length) && deepAll n ks
    else false) := by
  rw [rightP.eq_def]
  simp only []
  rw [aloneP_X]
  cases n <;> rfl
theorem js_right : ∀ (n : Nat), n ≤ 100 → ∀ (j : Jv), fewJ n j → ∀ (W : World) (ok : Nat → Prop) (x : J5), JAt W ok j x →
    Calls Tryd.prog 53 #[.agg #[.int .i64 x.kind, .string (S x.text), .int .i64 x.num, .slice x.nA x.nn x.nc, .slice x.kA x.kn x.kc], .int .i64 n] W fun e w' => e = .returned (.bool (rightP n j)) ∧ Below W.heap.size W w'
  | n, hn, j, hf, W, ok, x, hj => by
    cases hj with
    | mk x ns ks xs hnn hnc hkn hkc hbn hbk hN hl hK hs =>
      obtain ⟨k, t, u, A, nn, nc, B, kn, kc⟩ := x
      simp only [] at *
      subst hnn hkn
      rw [fewJ.eq_def] at hf
      simp only [] at hf
      obtain ⟨ft, fn, fk, fs, fr⟩ := hf
      obtain ⟨N, hN'⟩ : ∃ N : Int, N = (n : Int) := ⟨_, rfl⟩
      have R0 := hid (RW.start W ⟨k, t, u, A, ns.length, nc, B, ks.length, kc⟩ N)
      have AL := hid (fun W => js_alone k t u A ns.length nc B ks.length kc W)
      have HP := hid (rightP_eq n k t u ns ks)
      have OD := hid (fun W => js_odd t (by omega) W)
      have CO := hid (fun (w1 : World) (hb : Below W.heap.size W w1) => js_ContOdd ns nc (hN.keep (w' := w1) (ok' := ok) (fun k _ hlt => hb.block k hlt) hb.size (fun k h _ => h)) (by omega) (fun s h => by have := fs s h; omega))
      have CT := hid (fun (w1 : World) (hb : Below W.heap.size W w1) => js_ContTake ns (hN.keep (w' := w1) (ok' := ok) (fun k _ hlt => hb.block k hlt) hb.size (fun k h _ => h)) (by omega))
      have KC := hid (fun (m : Nat) (hm : n = m + 1) (w1 : World) (r : RW W w1 ⟨k, t, u, A, ns.length, nc, B, ks.length, kc⟩ N) => js_ContKids ks xs hl kc (hK.keep (w' := w1) (ok' := ok) (fun k _ hlt => r.bel.block k hlt) r.bel.size (fun k h _ => h)) (by omega) (fun j => !rightP m j) 90 #[.pointer (some ⟨W.heap.size + 1, 0, none⟩)] (fun args w => by kernel_rfl)
        (fun i h h' W' hb' => by
          subst hm
          have c1 := (hb'.cell (p := ⟨W.heap.size + 1, 0, none⟩) r.bn.lt).trans r.cells.2.2.2.2.2
          rw [hN'] at c1
          exact (js_right1 m (by omega) xs[i] (W.heap.size + 1) W' c1 (rightP m ks[i]) (fun W2 hb2 => js_right m (by omega) ks[i] (fr _ (List.getElem_mem h)) W2 ok xs[i] ((hs i h h').belowW (bt (bt r.bel hb') hb2)))).mono fun e w' ⟨he, hw⟩ => ⟨he, hb'.trans (hw.mono hb'.size)⟩))
      have NC := hid hN
      rw [← hN']
      have HN := hid hN'
      have hn0 : 0 ≤ N := by omega
      clear hN hl hK hs fr fs hN' hbn hbk
      obtain ⟨r, hr⟩ : ∃ r, r = rightP n (.mk k t u ns ks) := ⟨_, rfl⟩
      rw [← hr] at HP ⊢
      clear hr
      cases hal : aloneX k t u ns.length ks.length with
      | false =>
        rw [hal] at AL HP
        have HR := hid (show r = false by rw [HP.out]; rfl)
        clear HP hal OD CO CT KC
        go_enter Tryd.func53, Tryd.ntmps53
        go_wp2_with fail
        refine (AL.out _).mono ?_
        rintro e w1 ⟨rfl, hb⟩
        have HB := hid (bt R0.out.bel hb)
        clear hb
        go_wp2
        go_ret
        exact ⟨by rw [HR.out]; rfl, HB.out⟩
      | true =>
        rw [hal, Bool.true_and] at HP
        rw [hal] at AL
        clear hal
        have KK : k = 1 ∨ k = 2 ∨ k = 3 ∨ k = 4 ∨ (¬ k = 1 ∧ ¬ k = 2 ∧ ¬ k = 3 ∧ ¬ k = 4) := by omega
        rcases KK with rfl | rfl | rfl | rfl | ⟨k1, k2, k3, k4⟩
        · have HR := hid (show r = !oddP t by rw [HP.out]; rfl)
          clear HP CO CT KC
          go_enter Tryd.func53, Tryd.ntmps53
          go_wp2_with fail
          refine (AL.out _).mono ?_
          rintro e w1 ⟨rfl, hb⟩
          have R1 := hid (R0.out.below hb)
          obtain ⟨c0, c1, c2, c3, c4, c5⟩ := R1.out.cells
          simp only [] at c0 c1 c2 c3 c4 c5
          clear hb R0
          go_wp2_with fail
          refine (OD.out _).mono ?_
          rintro e w2 ⟨rfl, rfl⟩
          go_wp2
          go_ret
          exact ⟨by rw [HR.out]; rfl, R1.out.bel⟩
        · have HR := hid (show r = (decide (0 ≤ u) && decide (u ≤ 9007199254740992)) by rw [HP.out]; rfl)
          clear HP CO CT KC OD
          by_cases u0 : 0 ≤ u
          all_goals
            go_enter Tryd.func53, Tryd.ntmps53
            go_wp2_with fail
            refine (AL.out _).mono ?_
            rintro e w1 ⟨rfl, hb⟩
            have R1 := hid (R0.out.below hb)
            obtain ⟨c0, c1, c2, c3, c4, c5⟩ := R1.out.cells
            simp only [] at c0 c1 c2 c3 c4 c5
            clear hb R0
            go_wp2
            go_ret
            refine ⟨?_, R1.out.bel⟩
            rw [HR.out]
            first | (simp [u0]; done) | (simp; omega)
        · have HR := hid (show r = deepAll n ks by rw [HP.out]; rfl)
          clear HP CO CT OD
          go_enter Tryd.func53, Tryd.ntmps53
          go_wp2_with fail
          refine (AL.out _).mono ?_
          rintro e w1 ⟨rfl, hb⟩
          have R1 := hid (R0.out.below hb)
          obtain ⟨c0, c1, c2, c3, c4, c5⟩ := R1.out.cells
          simp only [] at c0 c1 c2 c3 c4 c5
          clear hb R0 AL
          cases n with
          | zero =>
            obtain rfl : N = 0 := by have := HN.out; simpa using this
            clear KC HN
            go_wp2
            go_ret
            exact ⟨by rw [HR.out]; rfl, R1.out.bel⟩
          | succ m =>
            have hpos : 0 < N := by have := HN.out; omega
            have K1 := hid (KC.out m rfl w1 R1.out)
            have HR2 := hid (show r = !ks.any (fun j => !rightP m j) by rw [HR.out]; exact all_any ks (rightP m))
            obtain ⟨c, hc⟩ : ∃ c, c = ks.any (fun j => !rightP m j) := ⟨_, rfl⟩
            rw [← hc] at K1 HR2
            clear KC HN HR hc
            go_wp2_with fail
            refine K1.out.mono ?_
            rintro e w9 ⟨rfl, hb9⟩
            have HB9 := hid (bt R1.out.bel hb9)
            clear hb9 K1
            go_wp2
            go_ret
            exact ⟨by rw [HR2.out]; rfl, HB9.out⟩
        · have HR0 := hid (show r = (namesP ns ks.length && deepAll n ks) by rw [HP.out]; rfl)
          clear HP OD
          by_cases hlen : ns.length = ks.length
          case neg =>
            have HR := hid (show r = false by rw [HR0.out]; simp [namesP, hlen])
            have l1 : ¬ (ns.length : Int) = ks.length := by omega
            have l2 : ((ns.length : Int) == (ks.length : Int)) = false := by simp only [beq_eq_false_iff_ne, ne_eq]; omega
            have l3 : (ns.length == ks.length) = false := by simpa using hlen
            clear CO CT KC HR0
            go_enter Tryd.func53, Tryd.ntmps53
            go_wp2_with fail
            refine (AL.out _).mono ?_
            rintro e w1 ⟨rfl, hb⟩
            have R1 := hid (R0.out.below hb)
            obtain ⟨c0, c1, c2, c3, c4, c5⟩ := R1.out.cells
            simp only [] at c0 c1 c2 c3 c4 c5
            clear hb R0 AL
            go_wp2
            go_ret
            exact ⟨by rw [HR.out]; rfl, R1.out.bel⟩
          case pos =>
            have HR1 := hid (show r = (!ns.any oddP && decide ns.Nodup && deepAll n ks) by rw [HR0.out]; simp [namesP, hlen])
            rw [← hlen] at R0 KC AL ⊢
            rw [← hlen] at hkc fk
            clear HR0 hlen
            go_enter Tryd.func53, Tryd.ntmps53
            go_wp2_with fail
            refine (AL.out _).mono ?_
            rintro e w1 ⟨rfl, hb⟩
            have R1 := hid (R0.out.below hb)
            obtain ⟨c0, c1, c2, c3, c4, c5⟩ := R1.out.cells
            simp only [] at c0 c1 c2 c3 c4 c5
            have CO1 := hid (CO.out w1 R1.out.bel)
            clear hb R0 AL CO
            obtain ⟨od, hod⟩ : ∃ od, od = ns.any oddP := ⟨_, rfl⟩
            rw [← hod] at CO1 HR1
            clear hod
            go_wp2_with fail
            refine CO1.out.mono ?_
            rintro e w2 ⟨rfl, hb⟩
            have R2 := hid (R1.out.below hb)
            clear hb R1 CO1 c0 c1 c2 c3 c4 c5
            obtain ⟨c0, c1, c2, c3, c4, c5⟩ := R2.out.cells
            simp only [] at c0 c1 c2 c3 c4 c5
            cases od with
            | true =>
              clear KC CT
              go_wp2
              go_ret
              exact ⟨by rw [HR1.out]; rfl, R2.out.bel⟩
            | false =>
              have CT2 := hid (CT.out w2 R2.out.bel)
              have HNAMES := hid (fun (h : ns.Nodup) => show r = deepAll n ks by rw [HR1.out]; simp [h])
              have HNOT := hid (fun (h : ¬ ns.Nodup) => show r = false by rw [HR1.out]; simp [h])
              have NC2 := hid (NC.out.keep (w' := w2) (ok' := ok) (fun k _ hlt => R2.out.bel.block k hlt) R2.out.bel.size (fun k h _ => h))
              clear CT HR1 NC
              go_wp2
              go_loopw [5, 6, 47] (fun _ _ i wr => Hid (wr = w2) ∧ ∃ k : Nat, k ≤ ns.length ∧ i = .int .i64 k ∧ Hid ((ns.take k).Nodup)) (fun _ _ i _ => ns.length - (intOf i).toNat)
              case atStart => exact ⟨(by first | exact hid rfl | exact hid trivial), 0, Nat.zero_le _, rfl, by simp [Hid]⟩
              case round =>
                obtain ⟨hwr, k, hk, rfl, hd⟩ := hrel
                obtain rfl : wr = w2 := hwr.out
                clear hwr
                by_cases hlt : k < ns.length
                · obtain ⟨b1, o1, rfl, -, l1, hcs⟩ := NC2.out (by omega)
                  have hck := hcs k hlt
                  have CTK := hid (fun c => CT2.out k (by omega) c ns[k])
                  have HD2 := hid (fun h => (nodup_take ns k hlt).2 ⟨hd.out, h⟩)
                  have HND := hid (fun h => nodup_not ns k hlt h)
                  clear hcs hd CT2
                  obtain ⟨ct, hct⟩ : ∃ ct, ct = (ns.take k).contains ns[k] := ⟨_, rfl⟩
                  rw [← hct] at CTK HD2 HND
                  clear hct
                  go_wp2_with fail
                  refine (CTK.out _).mono ?_
                  rintro e w' ⟨rfl, rfl⟩
                  cases ct with
                  | true =>
                    have HF := hid (HNOT.out (HND.out rfl))
                    clear HND HD2 HNOT KC CTK
                    go_wp2
                    go_ret
                    exact ⟨by rw [HF.out]; rfl, R2.out.bel⟩
                  | false =>
                    have HD3 := hid (HD2.out rfl)
                    clear HND HD2 KC CTK
                    go_wp2
                    go_roundw
                    case rel => exact ⟨(by first | exact hid rfl | exact hid trivial), k + 1, by omega, by go_num, HD3⟩
                    case measure => simp [intOf]; omega
                · obtain rfl : k = ns.length := by omega
                  have HR := hid (HNAMES.out (by have := hd.out; rwa [List.take_length] at this))
                  clear HNAMES HNOT hd CT2 NC2
                  cases n with
                  | zero =>
                    obtain rfl : N = 0 := by have := HN.out; simpa using this
                    clear KC HN
                    go_wp2
                    go_ret
                    exact ⟨by rw [HR.out]; rfl, R2.out.bel⟩
                  | succ m =>
                    have hpos : 0 < N := by have := HN.out; omega
                    have K1 := hid (KC.out m rfl wr R2.out)
                    have HR2 := hid (show r = !ks.any (fun j => !rightP m j) by rw [HR.out]; exact all_any ks (rightP m))
                    obtain ⟨c, hc⟩ : ∃ c, c = ks.any (fun j => !rightP m j) := ⟨_, rfl⟩
                    rw [← hc] at K1 HR2
                    clear KC HN HR hc
                    go_wp2_with fail
                    refine K1.out.mono ?_
                    rintro e w9 ⟨rfl, hb9⟩
                    have HB9 := hid (bt R2.out.bel hb9)
                    clear hb9 K1
                    go_wp2
                    go_ret
                    exact ⟨by rw [HR2.out]; rfl, HB9.out⟩
        · have HR := hid (show r = false by rw [HP.out]; simp [k1, k2, k3, k4])
          clear HP CO CT KC OD
          have k1' : (k == 1) = false := by simpa using k1
          have k2' : (k == 2) = false := by simpa using k2
          have k3' : (k == 3) = false := by simpa using k3
          have k4' : (k == 4) = false := by simpa using k4
          go_enter Tryd.func53, Tryd.ntmps53
          go_wp2_with fail
          refine (AL.out _).mono ?_
          rintro e w1 ⟨rfl, hb⟩
          have R1 := hid (R0.out.below hb)
          obtain ⟨c0, c1, c2, c3, c4, c5⟩ := R1.out.cells
          simp only [] at c0 c1 c2 c3 c4 c5
          clear hb R0
          go_wp2
          go_ret
          exact ⟨by rw [HR.out]; rfl, R1.out.bel⟩
end Go.Proofs.YtbjimikppdfmgaaDoor
