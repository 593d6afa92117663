/- Walk of pantilelaw13.does: Create, Sync. Walk of pantilelaw13.does: Rename, Remove. Walk of pantilelaw13.does: Arm, Up. Walk of pantilelaw13.does: Append. Walk of pantilelaw13.does: Quota. Walk of pantilelaw13.does: no deed; all of does. -/
import Derived.Test.YtioillenlgpcgaaDFine
import Derived.Deep.RegionHeld3
import Derived.Deep.DrawnRows
set_option linter.unusedVariables false
set_option linter.unusedSimpArgs false
set_option maxHeartbeats 3200000
set_option maxRecDepth 100000
attribute [local go_sem ↓] Go.wp_at_zero Go.wp_at_succ
namespace Go.Proofs.Ytioillenlgpcgaa
open Go.RowKit

theorem does_0 {w0 W : World} {g r N : Nat} {d e : Dr} {X : List Xc} (h : DB w0 g r d e N X W) (hN : N ≤ 100000) (n : Int) (a0 b0 : List UInt8) (A : Option Addr) (keep : List Int) (cap : Nat) (hx : VIn w0 ⟨0, n, a0, b0, A, keep, cap⟩) :
    Calls Try.prog 14 #[.pointer (some ⟨g, 0, none⟩), .pointer (some ⟨r, 0, none⟩), .agg #[.int .i64 0, .int .i64 n, .string (S a0), .string (S b0), .slice A keep.length cap]] W (DoesPost w0 g r d e N X ⟨0, n, a0, b0, A, keep, cap⟩) := by
  have H0 := hid (h.with_ 35 #[.int .i64 0, .int .i64 n, .string (S a0), .string (S b0), .slice A keep.length cap])
  have FA := hid (fun W => law13_few a0 W)
  have FB := hid (fun W => law13_few b0 W)
  have hla : (a0.take 70).length ≤ 70 := by simp; omega
  have hlb : (b0.take 70).length ≤ 70 := by simp; omega
  have VN : In64 n := hx.n
  have HX := hid hx
  have E1 := hid (fun (d : Dr) => show doD d ⟨0, n, a0, b0, A, keep, cap⟩ = (d.create (a0.take 70)).1 by simp [doD])
  generalize a0.take 70 = a at *
  generalize b0.take 70 = b at *
  have C1 := hid (H0.out.createD a (by omega))
  clear h hx
  go_enter Try.func14, Try.ntmps14
  go_wp2_with fail
  refine (FA.out _).mono ?_
  rintro o w1 ⟨rfl, hw⟩
  have hw' := hw.symm
  subst hw'
  go_wp2_with fail
  refine (FB.out _).mono ?_
  rintro o w1 ⟨rfl, hw⟩
  have hw' := hw.symm
  subst hw'
  go_wp2_with fail
  refine C1.out.mono ?_
  rintro o w2 ⟨rfl, h2⟩
  have C2 := hid (h2.createR a (by omega))
  clear h2 C1
  go_wp2_with fail
  refine C2.out.mono ?_
  rintro o w3 ⟨rfl, h3⟩
  have H3 := hid h3.tail
  clear h3 C2
  go_wp2
  go_ret
  exact ⟨_, rfl, fun he => by subst he; simp, by rw [E1.out, E1.out]; exact H3.out.more (by omega)⟩
theorem does_2 {w0 W : World} {g r N : Nat} {d e : Dr} {X : List Xc} (h : DB w0 g r d e N X W) (hN : N ≤ 100000) (n : Int) (a0 b0 : List UInt8) (A : Option Addr) (keep : List Int) (cap : Nat) (hx : VIn w0 ⟨2, n, a0, b0, A, keep, cap⟩) :
    Calls Try.prog 14 #[.pointer (some ⟨g, 0, none⟩), .pointer (some ⟨r, 0, none⟩), .agg #[.int .i64 2, .int .i64 n, .string (S a0), .string (S b0), .slice A keep.length cap]] W (DoesPost w0 g r d e N X ⟨2, n, a0, b0, A, keep, cap⟩) := by
  have H0 := hid (h.with_ 35 #[.int .i64 2, .int .i64 n, .string (S a0), .string (S b0), .slice A keep.length cap])
  have FA := hid (fun W => law13_few a0 W)
  have FB := hid (fun W => law13_few b0 W)
  have hla : (a0.take 70).length ≤ 70 := by simp; omega
  have hlb : (b0.take 70).length ≤ 70 := by simp; omega
  have VN : In64 n := hx.n
  have HX := hid hx
  have E1 := hid (fun (d : Dr) => show doD d ⟨2, n, a0, b0, A, keep, cap⟩ = (d.sync (a0.take 70)).1 by simp [doD])
  generalize a0.take 70 = a at *
  generalize b0.take 70 = b at *
  have C1 := hid (H0.out.syncD (by omega) a (by omega))
  clear h hx
  go_enter Try.func14, Try.ntmps14
  go_wp2_with fail
  refine (FA.out _).mono ?_
  rintro o w1 ⟨rfl, hw⟩
  have hw' := hw.symm
  subst hw'
  go_wp2_with fail
  refine (FB.out _).mono ?_
  rintro o w1 ⟨rfl, hw⟩
  have hw' := hw.symm
  subst hw'
  go_wp2_with fail
  refine C1.out.mono ?_
  rintro o w2 ⟨rfl, h2⟩
  have C2 := hid (h2.endsR (by omega) a false)
  clear h2 C1
  go_wp2_with fail
  refine C2.out.mono ?_
  rintro o w3 ⟨rfl, h3⟩
  have H3 := hid h3.tail
  clear h3 C2
  go_wp2
  go_ret
  exact ⟨_, rfl, fun he => by subst he; simp, by rw [E1.out, E1.out]; exact H3.out.more (by omega)⟩
end Go.Proofs.Ytioillenlgpcgaa

set_option linter.unusedVariables false
set_option linter.unusedSimpArgs false
set_option maxHeartbeats 3200000
set_option maxRecDepth 100000
attribute [local go_sem ↓] Go.wp_at_zero Go.wp_at_succ
namespace Go.Proofs.Ytioillenlgpcgaa
open Go.RowKit

theorem does_3 {w0 W : World} {g r N : Nat} {d e : Dr} {X : List Xc} (h : DB w0 g r d e N X W) (hN : N ≤ 100000) (n : Int) (a0 b0 : List UInt8) (A : Option Addr) (keep : List Int) (cap : Nat) (hx : VIn w0 ⟨3, n, a0, b0, A, keep, cap⟩) :
    Calls Try.prog 14 #[.pointer (some ⟨g, 0, none⟩), .pointer (some ⟨r, 0, none⟩), .agg #[.int .i64 3, .int .i64 n, .string (S a0), .string (S b0), .slice A keep.length cap]] W (DoesPost w0 g r d e N X ⟨3, n, a0, b0, A, keep, cap⟩) := by
  have H0 := hid (h.with_ 35 #[.int .i64 3, .int .i64 n, .string (S a0), .string (S b0), .slice A keep.length cap])
  have FA := hid (fun W => law13_few a0 W)
  have FB := hid (fun W => law13_few b0 W)
  have hla : (a0.take 70).length ≤ 70 := by simp; omega
  have hlb : (b0.take 70).length ≤ 70 := by simp; omega
  have VN : In64 n := hx.n
  have HX := hid hx
  have E1 := hid (fun (d : Dr) => show doD d ⟨3, n, a0, b0, A, keep, cap⟩ = (d.rename (a0.take 70) (b0.take 70)).1 by simp [doD])
  generalize a0.take 70 = a at *
  generalize b0.take 70 = b at *
  have C1 := hid (H0.out.renameD (by omega) a b (by omega) (by omega))
  clear h hx
  go_enter Try.func14, Try.ntmps14
  go_wp2_with fail
  refine (FA.out _).mono ?_
  rintro o w1 ⟨rfl, hw⟩
  have hw' := hw.symm
  subst hw'
  go_wp2_with fail
  refine (FB.out _).mono ?_
  rintro o w1 ⟨rfl, hw⟩
  have hw' := hw.symm
  subst hw'
  go_wp2_with fail
  refine C1.out.mono ?_
  rintro o w2 ⟨rfl, h2⟩
  have C2 := hid (h2.renameR (by omega) a b (by omega))
  clear h2 C1
  go_wp2_with fail
  refine C2.out.mono ?_
  rintro o w3 ⟨rfl, h3⟩
  have H3 := hid h3.tail
  clear h3 C2
  go_wp2
  go_ret
  exact ⟨_, rfl, fun he => by subst he; simp, by rw [E1.out, E1.out]; exact H3.out.more (by omega)⟩
theorem does_4 {w0 W : World} {g r N : Nat} {d e : Dr} {X : List Xc} (h : DB w0 g r d e N X W) (hN : N ≤ 100000) (n : Int) (a0 b0 : List UInt8) (A : Option Addr) (keep : List Int) (cap : Nat) (hx : VIn w0 ⟨4, n, a0, b0, A, keep, cap⟩) :
    Calls Try.prog 14 #[.pointer (some ⟨g, 0, none⟩), .pointer (some ⟨r, 0, none⟩), .agg #[.int .i64 4, .int .i64 n, .string (S a0), .string (S b0), .slice A keep.length cap]] W (DoesPost w0 g r d e N X ⟨4, n, a0, b0, A, keep, cap⟩) := by
  have H0 := hid (h.with_ 35 #[.int .i64 4, .int .i64 n, .string (S a0), .string (S b0), .slice A keep.length cap])
  have FA := hid (fun W => law13_few a0 W)
  have FB := hid (fun W => law13_few b0 W)
  have hla : (a0.take 70).length ≤ 70 := by simp; omega
  have hlb : (b0.take 70).length ≤ 70 := by simp; omega
  have VN : In64 n := hx.n
  have HX := hid hx
  have E1 := hid (fun (d : Dr) => show doD d ⟨4, n, a0, b0, A, keep, cap⟩ = (d.remove (a0.take 70)).1 by simp [doD])
  generalize a0.take 70 = a at *
  generalize b0.take 70 = b at *
  have C1 := hid (H0.out.removeD (by omega) a (by omega))
  clear h hx
  go_enter Try.func14, Try.ntmps14
  go_wp2_with fail
  refine (FA.out _).mono ?_
  rintro o w1 ⟨rfl, hw⟩
  have hw' := hw.symm
  subst hw'
  go_wp2_with fail
  refine (FB.out _).mono ?_
  rintro o w1 ⟨rfl, hw⟩
  have hw' := hw.symm
  subst hw'
  go_wp2_with fail
  refine C1.out.mono ?_
  rintro o w2 ⟨rfl, h2⟩
  have C2 := hid (h2.endsR (by omega) a true)
  clear h2 C1
  go_wp2_with fail
  refine C2.out.mono ?_
  rintro o w3 ⟨rfl, h3⟩
  have H3 := hid h3.tail
  clear h3 C2
  go_wp2
  go_ret
  exact ⟨_, rfl, fun he => by subst he; simp, by rw [E1.out, E1.out]; exact H3.out.more (by omega)⟩
end Go.Proofs.Ytioillenlgpcgaa

set_option linter.unusedVariables false
set_option linter.unusedSimpArgs false
set_option maxHeartbeats 3200000
set_option maxRecDepth 100000
attribute [local go_sem ↓] Go.wp_at_zero Go.wp_at_succ
namespace Go.Proofs.Ytioillenlgpcgaa
open Go.RowKit

theorem does_5 {w0 W : World} {g r N : Nat} {d e : Dr} {X : List Xc} (h : DB w0 g r d e N X W) (hN : N ≤ 100000) (n : Int) (a0 b0 : List UInt8) (A : Option Addr) (keep : List Int) (cap : Nat) (hx : VIn w0 ⟨5, n, a0, b0, A, keep, cap⟩) :
    Calls Try.prog 14 #[.pointer (some ⟨g, 0, none⟩), .pointer (some ⟨r, 0, none⟩), .agg #[.int .i64 5, .int .i64 n, .string (S a0), .string (S b0), .slice A keep.length cap]] W (DoesPost w0 g r d e N X ⟨5, n, a0, b0, A, keep, cap⟩) := by
  have H0 := hid (h.with_ 35 #[.int .i64 5, .int .i64 n, .string (S a0), .string (S b0), .slice A keep.length cap])
  have FA := hid (fun W => law13_few a0 W)
  have FB := hid (fun W => law13_few b0 W)
  have hla : (a0.take 70).length ≤ 70 := by simp; omega
  have hlb : (b0.take 70).length ≤ 70 := by simp; omega
  have VN : In64 n := hx.n
  have HX := hid hx
  have E1 := hid (fun (d : Dr) => show doD d ⟨5, n, a0, b0, A, keep, cap⟩ = d.arm n by simp [doD])
  generalize a0.take 70 = a at *
  generalize b0.take 70 = b at *
  have C1 := hid (H0.out.armD n VN.2)
  clear h hx
  go_enter Try.func14, Try.ntmps14
  go_wp2_with fail
  refine (FA.out _).mono ?_
  rintro o w1 ⟨rfl, hw⟩
  have hw' := hw.symm
  subst hw'
  go_wp2_with fail
  refine (FB.out _).mono ?_
  rintro o w1 ⟨rfl, hw⟩
  have hw' := hw.symm
  subst hw'
  go_wp2_with fail
  refine C1.out.mono ?_
  rintro o w2 ⟨rfl, h2⟩
  have cB := (h2.blk (x := (W.heap.size, 35, #[.int .i64 5, .int .i64 n, .string (S a0), .string (S b0), .slice A keep.length cap])) (by simp)).cell 1
  simp only [List.getElem?_toArray, List.getElem?_cons_succ, List.getElem?_cons_zero] at cB
  have C2 := hid (h2.armR n VN.2)
  clear h2 C1
  go_wp2_with fail
  refine C2.out.mono ?_
  rintro o w3 ⟨rfl, h3⟩
  have H3 := hid h3.tail
  clear h3 C2
  go_wp2
  go_ret
  exact ⟨_, rfl, fun _ => rfl, by rw [E1.out, E1.out]; exact H3.out.more (by omega)⟩
theorem does_6 {w0 W : World} {g r N : Nat} {d e : Dr} {X : List Xc} (h : DB w0 g r d e N X W) (hN : N ≤ 100000) (n : Int) (a0 b0 : List UInt8) (A : Option Addr) (keep : List Int) (cap : Nat) (hx : VIn w0 ⟨6, n, a0, b0, A, keep, cap⟩) :
    Calls Try.prog 14 #[.pointer (some ⟨g, 0, none⟩), .pointer (some ⟨r, 0, none⟩), .agg #[.int .i64 6, .int .i64 n, .string (S a0), .string (S b0), .slice A keep.length cap]] W (DoesPost w0 g r d e N X ⟨6, n, a0, b0, A, keep, cap⟩) := by
  have H0 := hid (h.with_ 35 #[.int .i64 6, .int .i64 n, .string (S a0), .string (S b0), .slice A keep.length cap])
  have FA := hid (fun W => law13_few a0 W)
  have FB := hid (fun W => law13_few b0 W)
  have hla : (a0.take 70).length ≤ 70 := by simp; omega
  have hlb : (b0.take 70).length ≤ 70 := by simp; omega
  have VN : In64 n := hx.n
  have HX := hid hx
  have E1 := hid (fun (d : Dr) => show doD d ⟨6, n, a0, b0, A, keep, cap⟩ = d.up keep by simp [doD])
  generalize a0.take 70 = a at *
  generalize b0.take 70 = b at *
  have C1 := hid (H0.out.upD_ (by omega) A keep cap HX.out.keep HX.out.ins HX.out.len)
  clear h hx
  go_enter Try.func14, Try.ntmps14
  go_wp2_with fail
  refine (FA.out _).mono ?_
  rintro o w1 ⟨rfl, hw⟩
  have hw' := hw.symm
  subst hw'
  go_wp2_with fail
  refine (FB.out _).mono ?_
  rintro o w1 ⟨rfl, hw⟩
  have hw' := hw.symm
  subst hw'
  go_wp2_with fail
  refine C1.out.mono ?_
  rintro o w2 ⟨rfl, h2⟩
  have cB := (h2.blk (x := (W.heap.size, 35, #[.int .i64 6, .int .i64 n, .string (S a0), .string (S b0), .slice A keep.length cap])) (by simp)).cell 4
  simp only [List.getElem?_toArray, List.getElem?_cons_succ, List.getElem?_cons_zero] at cB
  have C2 := hid (h2.upR_ (by omega) A keep cap HX.out.keep HX.out.ins HX.out.len)
  clear h2 C1
  go_wp2_with fail
  refine C2.out.mono ?_
  rintro o w3 ⟨rfl, h3⟩
  have H3 := hid h3.tail
  clear h3 C2
  go_wp2
  go_ret
  exact ⟨_, rfl, fun _ => rfl, by rw [E1.out, E1.out]; exact H3.out.more (by omega)⟩
end Go.Proofs.Ytioillenlgpcgaa

set_option linter.unusedVariables false
set_option linter.unusedSimpArgs false
set_option maxHeartbeats 3200000
set_option maxRecDepth 100000
attribute [local go_sem ↓] Go.wp_at_zero Go.wp_at_succ
namespace Go.Proofs.Ytioillenlgpcgaa
open Go.RowKit

theorem does_1 {w0 W : World} {g r N : Nat} {d e : Dr} {X : List Xc} (h : DB w0 g r d e N X W) (hN : N ≤ 100000) (n : Int) (a0 b0 : List UInt8) (A : Option Addr) (keep : List Int) (cap : Nat) (hx : VIn w0 ⟨1, n, a0, b0, A, keep, cap⟩) :
    Calls Try.prog 14 #[.pointer (some ⟨g, 0, none⟩), .pointer (some ⟨r, 0, none⟩), .agg #[.int .i64 1, .int .i64 n, .string (S a0), .string (S b0), .slice A keep.length cap]] W (DoesPost w0 g r d e N X ⟨1, n, a0, b0, A, keep, cap⟩) := by
  have H0 := hid (h.with_ 35 #[.int .i64 1, .int .i64 n, .string (S a0), .string (S b0), .slice A keep.length cap])
  have FA := hid (fun W => law13_few a0 W)
  have FB := hid (fun W => law13_few b0 W)
  have hla : (a0.take 70).length ≤ 70 := by simp; omega
  have hlb : (b0.take 70).length ≤ 70 := by simp; omega
  have VN : In64 n := hx.n
  have HX := hid hx
  have E1 := hid (fun (d : Dr) => show doD d ⟨1, n, a0, b0, A, keep, cap⟩ = (d.append (a0.take 70) (b0.take 70)).1 by simp [doD])
  generalize a0.take 70 = a at *
  generalize b0.take 70 = b at *
  have C1 := hid (H0.out.appendD (by omega) a (by omega) b (by omega))
  have hs : (W.alloc (.cells #[.int .i64 1, .int .i64 n, .string (S a0), .string (S b0), .slice A keep.length cap] 35)).heap.size = W.heap.size + 1 := Array.size_push _
  rw [hs] at C1
  clear hs
  have cv := fun W => conv_run W b
  clear h hx
  go_enter Try.func14, Try.ntmps14
  go_wp2_with fail
  refine (FA.out _).mono ?_
  rintro o w1 ⟨rfl, hw⟩
  have hw' := hw.symm
  subst hw'
  go_wp2_with fail
  refine (FB.out _).mono ?_
  rintro o w1 ⟨rfl, hw⟩
  have hw' := hw.symm
  subst hw'
  go_wp2_with fail
  refine C1.out.mono ?_
  rintro o w2 ⟨rfl, h2⟩
  have C2 := hid (h2.appendR (by omega) a b (by omega))
  clear h2 C1
  go_wp2_with fail
  refine C2.out.mono ?_
  rintro o w3 ⟨rfl, h3⟩
  have H3 := hid h3.tail
  clear h3 C2
  go_wp2
  go_ret
  exact ⟨_, rfl, fun he => by subst he; simp, by rw [E1.out, E1.out]; exact H3.out.more (by omega)⟩
end Go.Proofs.Ytioillenlgpcgaa

set_option linter.unusedVariables false
set_option linter.unusedSimpArgs false
set_option maxHeartbeats 3200000
set_option maxRecDepth 100000
attribute [local go_sem ↓] Go.wp_at_zero Go.wp_at_succ
namespace Go.Proofs.Ytioillenlgpcgaa
open Go.RowKit

theorem does_7 {w0 W : World} {g r N : Nat} {d e : Dr} {X : List Xc} (h : DB w0 g r d e N X W) (hN : N ≤ 100000) (n : Int) (a0 b0 : List UInt8) (A : Option Addr) (keep : List Int) (cap : Nat) (hx : VIn w0 ⟨7, n, a0, b0, A, keep, cap⟩) :
    Calls Try.prog 14 #[.pointer (some ⟨g, 0, none⟩), .pointer (some ⟨r, 0, none⟩), .agg #[.int .i64 7, .int .i64 n, .string (S a0), .string (S b0), .slice A keep.length cap]] W (DoesPost w0 g r d e N X ⟨7, n, a0, b0, A, keep, cap⟩) := by
  have H0 := hid (h.with_ 35 #[.int .i64 7, .int .i64 n, .string (S a0), .string (S b0), .slice A keep.length cap])
  have FA := hid (fun W => law13_few a0 W)
  have FB := hid (fun W => law13_few b0 W)
  have hla : (a0.take 70).length ≤ 70 := by simp; omega
  have hlb : (b0.take 70).length ≤ 70 := by simp; omega
  have VN : In64 n := hx.n
  have HX := hid hx
  have E1 := hid (fun (d : Dr) => show doD d ⟨7, n, a0, b0, A, keep, cap⟩ = d.setQuota n by simp [doD])
  generalize a0.take 70 = a at *
  generalize b0.take 70 = b at *
  clear h hx
  have cB := (H0.out.blk (x := (W.heap.size, 35, #[.int .i64 7, .int .i64 n, .string (S a0), .string (S b0), .slice A keep.length cap])) (by simp)).cell 1
  simp only [List.getElem?_toArray, List.getElem?_cons_succ, List.getElem?_cons_zero] at cB
  have HC := H0.out.drew
  have hq1 := fun W' (hW : DB w0 g r d e N ((W.heap.size, 35, #[.int .i64 7, .int .i64 n, .string (S a0), .string (S b0), .slice A keep.length cap]) :: X) W') => hid (hW.quotaD n)
  have hq2 := fun d W' (hW : DB w0 g r d e N ((W.heap.size, 35, #[.int .i64 7, .int .i64 n, .string (S a0), .string (S b0), .slice A keep.length cap]) :: X) W') => hid (hW.quotaR n)
  have hbx := fun d e W' (hW : DB w0 g r d e N ((W.heap.size, 35, #[.int .i64 7, .int .i64 n, .string (S a0), .string (S b0), .slice A keep.length cap]) :: X) W') => hid (show W'.cell? ⟨W.heap.size, 1, none⟩ = some (.int .i64 n) from (hW.blk (x := (W.heap.size, 35, #[.int .i64 7, .int .i64 n, .string (S a0), .string (S b0), .slice A keep.length cap])) (by simp)).cell 1)
  go_enter Try.func14, Try.ntmps14
  go_wp2_with fail
  refine (FA.out _).mono ?_
  rintro o w1 ⟨rfl, hw⟩
  have hw' := hw.symm
  subst hw'
  go_wp2_with fail
  refine (FB.out _).mono ?_
  rintro o w1 ⟨rfl, hw⟩
  have hw' := hw.symm
  subst hw'
  go_wp2
  go_region_held3 (fun w' => w'.cell? ⟨W.heap.size, 1, none⟩ = some (.int .i64 n)) (simp [*, go_sem, World.cell?_alloc_past])
    (first
     | (go_at_call 44; refine (hq1 _ HC).out.mono ?_; rintro o w2 ⟨rfl, h2⟩; have cB2 := (hbx _ _ _ h2).out; have HC2 := h2; clear h2)
     | (go_at_call 45; refine (hq2 _ _ HC2).out.mono ?_; rintro o w3 ⟨rfl, h3⟩; have cB3 := (hbx _ _ _ h3).out; have H3 := hid h3.tail; clear h3))
  go_wp2
  go_ret
  exact ⟨_, rfl, fun he => by subst he; simp, by rw [E1.out, E1.out]; exact H3.out.more (by omega)⟩
end Go.Proofs.Ytioillenlgpcgaa

set_option linter.unusedVariables false
set_option linter.unusedSimpArgs false
set_option maxHeartbeats 3200000
set_option maxRecDepth 100000
attribute [local go_sem ↓] Go.wp_at_zero Go.wp_at_succ
namespace Go.Proofs.Ytioillenlgpcgaa
open Go.RowKit

theorem does_else {w0 W : World} {g r N : Nat} {d e : Dr} {X : List Xc} (h : DB w0 g r d e N X W) (hN : N ≤ 100000) (kind : Int) (hk : ∀ k : Int, 0 ≤ k → k < 8 → kind ≠ k) (n : Int) (a0 b0 : List UInt8) (A : Option Addr) (keep : List Int) (cap : Nat) (hx : VIn w0 ⟨kind, n, a0, b0, A, keep, cap⟩) :
    Calls Try.prog 14 #[.pointer (some ⟨g, 0, none⟩), .pointer (some ⟨r, 0, none⟩), .agg #[.int .i64 kind, .int .i64 n, .string (S a0), .string (S b0), .slice A keep.length cap]] W (DoesPost w0 g r d e N X ⟨kind, n, a0, b0, A, keep, cap⟩) := by
  have H0 := hid (h.with_ 35 #[.int .i64 kind, .int .i64 n, .string (S a0), .string (S b0), .slice A keep.length cap])
  have FA := hid (fun W => law13_few a0 W)
  have FB := hid (fun W => law13_few b0 W)
  have hla : (a0.take 70).length ≤ 70 := by simp; omega
  have hlb : (b0.take 70).length ≤ 70 := by simp; omega
  have VN : In64 n := hx.n
  have HX := hid hx
  have E1 := hid (fun (d : Dr) => show doD d ⟨kind, n, a0, b0, A, keep, cap⟩ = d by unfold doD; rw [if_neg (hk 0 (by omega) (by omega)), if_neg (hk 1 (by omega) (by omega)), if_neg (hk 2 (by omega) (by omega)), if_neg (hk 3 (by omega) (by omega)), if_neg (hk 4 (by omega) (by omega)), if_neg (hk 5 (by omega) (by omega)), if_neg (hk 6 (by omega) (by omega)), if_neg (hk 7 (by omega) (by omega))])
  generalize a0.take 70 = a at *
  generalize b0.take 70 = b at *
  have H3 := hid H0.out.tail
  have k0 : ¬ (kind = 0) := hk 0 (by omega) (by omega)
  have k1 : ¬ (kind = 1) := hk 1 (by omega) (by omega)
  have k2 : ¬ (kind = 2) := hk 2 (by omega) (by omega)
  have k3 : ¬ (kind = 3) := hk 3 (by omega) (by omega)
  have k4 : ¬ (kind = 4) := hk 4 (by omega) (by omega)
  have k5 : ¬ (kind = 5) := hk 5 (by omega) (by omega)
  have k6 : ¬ (kind = 6) := hk 6 (by omega) (by omega)
  have k7 : ¬ (kind = 7) := hk 7 (by omega) (by omega)
  clear h hx hk
  go_enter Try.func14, Try.ntmps14
  go_wp2_with fail
  refine (FA.out _).mono ?_
  rintro o w1 ⟨rfl, hw⟩
  have hw' := hw.symm
  subst hw'
  go_wp2_with fail
  refine (FB.out _).mono ?_
  rintro o w1 ⟨rfl, hw⟩
  have hw' := hw.symm
  subst hw'
  go_wp2
  go_ret
  exact ⟨_, rfl, fun _ => rfl, by rw [E1.out, E1.out]; exact H3.out.more (by omega)⟩
theorem law13_does {w0 W : World} {g r N : Nat} {d e : Dr} {X : List Xc} (h : DB w0 g r d e N X W) (hN : N ≤ 100000) (x : VDeed) (hx : VIn w0 x) :
    Calls Try.prog 14 #[.pointer (some ⟨g, 0, none⟩), .pointer (some ⟨r, 0, none⟩), vAgg x] W (DoesPost w0 g r d e N X x) := by
  obtain ⟨kind, n, a0, b0, A, keep, cap⟩ := x
  by_cases h0 : kind = 0
  · subst h0
    exact does_0 h hN n a0 b0 A keep cap hx
  by_cases h1 : kind = 1
  · subst h1
    exact does_1 h hN n a0 b0 A keep cap hx
  by_cases h2 : kind = 2
  · subst h2
    exact does_2 h hN n a0 b0 A keep cap hx
  by_cases h3 : kind = 3
  · subst h3
    exact does_3 h hN n a0 b0 A keep cap hx
  by_cases h4 : kind = 4
  · subst h4
    exact does_4 h hN n a0 b0 A keep cap hx
  by_cases h5 : kind = 5
  · subst h5
    exact does_5 h hN n a0 b0 A keep cap hx
  by_cases h6 : kind = 6
  · subst h6
    exact does_6 h hN n a0 b0 A keep cap hx
  by_cases h7 : kind = 7
  · subst h7
    exact does_7 h hN n a0 b0 A keep cap hx
  exact does_else h hN kind (fun k hk1 hk8 hk => by
    have h' : k = 0 ∨ k = 1 ∨ k = 2 ∨ k = 3 ∨ k = 4 ∨ k = 5 ∨ k = 6 ∨ k = 7 := by omega
    subst hk
    rcases h' with h | h | h | h | h | h | h | h <;> contradiction) n a0 b0 A keep cap hx
end Go.Proofs.Ytioillenlgpcgaa
