/- What holds of every drive is kept by every deed. -/
import Derived.Test.YtbjimikppdfmgaaGreatDoorDrive16
set_option linter.unusedVariables false
set_option linter.unusedSimpArgs false
namespace Go.Proofs.YtbjimikppdfmgaaGreatDoor
open Go.RowKit

theorem ksum_one {α : Type} (m : List (Key × α)) : ksum (fun _ => 1) m = m.length := by
  unfold ksum
  induction m with
  | nil => rfl
  | cons y r ih => simp at ih ⊢; omega
theorem length_del {α : Type} {m : List (Key × α)} (h : Rising m) {k : Key} {v : α} (hg : kget m k = some v) : m.length = 1 + (kdel m k).length := by
  have := ksum_del (fun _ => 1) h hg
  rwa [ksum_one, ksum_one] at this
theorem length_kdel_le {α : Type} (m : List (Key × α)) (k : Key) : (kdel m k).length ≤ m.length := List.length_filter_le _ _

theorem Dr.Ok.more {N M : Nat} {d : Dr} (h : d.Ok N) (hM : N ≤ M) : d.Ok M := ⟨h.q0, h.q1, h.used, h.files, h.keys, h.rising, fun p hp => Nat.le_trans (h.few p hp) hM, h.left⟩
theorem Dr.Ok.deed {N M : Nat} {d : Dr} {e : Int} {f : Dr → Dr} (h : d.Ok N) (hM : N ≤ M) (hf : e = 0 → ∀ d1, d1.files = d.files → d1.quota = d.quota → d1.Ok N → (f d1).Ok M) : (d.deed e f).1.Ok M := by
  unfold Dr.deed
  split
  · rename_i h0
    refine hf ?_ (d.may e).1 (may_files d e).1 (may_files d e).2 (h.may e)
    by_cases he : e = 0
    · exact he
    · exfalso
      unfold Dr.may at h0
      split at h0
      · simp at h0
      · simp only [if_pos he] at h0
        exact he h0
  · exact (h.may e).more hM
theorem Dr.Ok.arm {N : Nat} {d : Dr} (h : d.Ok N) (n : Int) (hn : n ≤ 9223372036854775807) : (d.arm n).Ok N := by
  refine ⟨h.q0, h.q1, h.used, h.files, h.keys, h.rising, h.few, ?_⟩
  unfold Dr.arm
  dsimp only
  split <;> omega
theorem Dr.Ok.setQuota {N : Nat} {d : Dr} (h : d.Ok N) (n : Int) : (d.setQuota n).Ok N := by
  unfold Dr.setQuota
  split
  · rename_i h0
    have hq : quotableB n = true := by
      unfold Dr.quotaE at h0
      split at h0
      · cases h0
      · split at h0
        · assumption
        · cases h0
    unfold quotableB at hq
    rw [Bool.and_eq_true, decide_eq_true_eq, decide_eq_true_eq] at hq
    exact ⟨hq.1, hq.2, h.used, h.files, h.keys, h.rising, h.few, h.left⟩
  · exact h
theorem Dr.Ok.new (q : Int) (hq : quotableB q = true) : (Dr.new q).Ok 0 := by
  unfold quotableB at hq
  rw [Bool.and_eq_true, decide_eq_true_eq, decide_eq_true_eq] at hq
  exact ⟨hq.1, hq.2, by simp [Dr.new, Dr.used], by simp [Dr.new], by simp [Dr.new], by simp [Dr.new], by simp [Dr.new], by simp [Dr.new]⟩

theorem there_some {d : Dr} {name : Key} (h : d.thereE name = 0) : ∃ f, kget d.files name = some f := by
  cases hk : kget d.files name with
  | none => simp [Dr.thereE, hk] at h
  | some f => exact ⟨f, rfl⟩
theorem Dr.Ok.create {N : Nat} {d : Dr} (h : d.Ok N) (name : Key) : (d.create name).1.Ok N := by
  refine h.deed (Nat.le_refl _) fun he d1 e1 e2 h1 => ?_
  have hc : namedB name = true ∧ kget d.files name = none ∧ d.files.length < 65536 := by
    unfold Dr.createE at he
    split at he
    · cases he
    · split at he
      · cases he
      · split at he
        · cases he
        · rename_i a b c
          refine ⟨by simpa using a, by simpa using b, by omega⟩
  rw [← e1] at hc
  have hu : ({ d1 with files := kput d1.files name ⟨[], []⟩ } : Dr).used = d1.used := used_kput_new hc.2.1
  refine ⟨h1.q0, h1.q1, by rw [hu]; exact h1.used, ?_, fun p hp => ?_, Rising.put h1.rising _ _, fun p hp => ?_, h1.left⟩
  · have := length_kput_le name (File.mk [] []) d1.files
    show (kput _ _ _).length ≤ _
    omega
  · rcases mem_kput.1 hp with rfl | ⟨hp, _⟩
    · exact hc.1
    · exact h1.keys p hp
  · rcases mem_kput.1 hp with rfl | ⟨hp, _⟩
    · simp
    · exact h1.few p hp
theorem Dr.Ok.append {N : Nat} {d : Dr} (h : d.Ok N) (name : Key) (data : List UInt8) : (d.append name data).1.Ok (N + 1) := by
  refine h.deed (by omega) fun he d1 e1 e2 h1 => ?_
  have hc : d.thereE name = 0 ∧ ¬ d.quota - d.used < data.length := by
    unfold Dr.appendE at he
    split at he
    · cases he
    · rename_i hx
      exact ⟨he, fun hy => hx ⟨he, hy⟩⟩
  obtain ⟨f, hk⟩ := there_some hc.1
  rw [← e1] at hk
  have hfo : fileOf d1 name = f := by simp [fileOf, hk]
  have hu : ({ d1 with files := kset d1.files name ⟨f.safe, f.pieces ++ [data]⟩ } : Dr).used = d1.used + data.length := used_append h1.rising hk data
  have hu1 : d1.used = d.used := by rw [Dr.used, Dr.used, e1]
  have hq := h.q1
  show ({ d1 with files := kset d1.files name ⟨(fileOf d1 name).safe, (fileOf d1 name).pieces ++ [data]⟩ } : Dr).Ok (N + 1)
  rw [hfo]
  have hmem := kget_some hk
  refine ⟨h1.q0, h1.q1, by rw [hu, hu1]; omega, ?_, fun p hp => ?_, Rising.set h1.rising _ _, fun p hp => ?_, h1.left⟩
  · show (kset _ _ _).length ≤ _
    rw [length_kset]; exact h1.files
  · rcases mem_kset.1 hp with ⟨q, hq, hqk, rfl⟩ | ⟨hp, _⟩
    · have := h1.keys q hq
      rw [hqk] at this
      exact this
    · exact h1.keys p hp
  · rcases mem_kset.1 hp with ⟨q, hq, hqk, rfl⟩ | ⟨hp, _⟩
    · have := h1.few _ hmem
      simp at this ⊢
      exact this
    · exact Nat.le_trans (h1.few p hp) (by omega)
theorem Dr.Ok.sync {N : Nat} {d : Dr} (h : d.Ok N) (name : Key) : (d.sync name).1.Ok N := by
  refine h.deed (Nat.le_refl _) fun he d1 e1 e2 h1 => ?_
  obtain ⟨f, hk⟩ := there_some he
  rw [← e1] at hk
  have hfo : fileOf d1 name = f := by simp [fileOf, hk]
  show ({ d1 with files := kput d1.files name ⟨(fileOf d1 name).all, []⟩ } : Dr).Ok N
  rw [hfo]
  have hu : ({ d1 with files := kput d1.files name ⟨f.all, []⟩ } : Dr).used = d1.used := used_sync h1.rising hk
  have hmem := kget_some hk
  refine ⟨h1.q0, h1.q1, by rw [hu]; exact h1.used, ?_, fun p hp => ?_, Rising.put h1.rising _ _, fun p hp => ?_, h1.left⟩
  · show (kput _ _ _).length ≤ _
    have := length_del h1.rising hk
    rw [kput, length_kins]
    have := h1.files
    omega
  · rcases mem_kput.1 hp with rfl | ⟨hp, _⟩
    · exact (h1.keys _ hmem :)
    · exact h1.keys p hp
  · rcases mem_kput.1 hp with rfl | ⟨hp, _⟩
    · simp
    · exact h1.few p hp
theorem Dr.Ok.remove {N : Nat} {d : Dr} (h : d.Ok N) (name : Key) : (d.remove name).1.Ok N := by
  refine h.deed (Nat.le_refl _) fun he d1 e1 e2 h1 => ?_
  obtain ⟨f, hk⟩ := there_some he
  rw [← e1] at hk
  have hu : ({ d1 with files := kdel d1.files name } : Dr).used = d1.used - f.all.length := used_del h1.rising hk
  refine ⟨h1.q0, h1.q1, by rw [hu]; have := h1.used; omega, ?_, fun p hp => h1.keys p (mem_kdel.1 hp).1, Rising.del h1.rising _, fun p hp => h1.few p (mem_kdel.1 hp).1, h1.left⟩
  show (kdel _ _).length ≤ _
  exact Nat.le_trans (length_kdel_le _ _) h1.files
theorem Dr.Ok.rename {N : Nat} {d : Dr} (h : d.Ok N) (a b : Key) : (d.rename a b).1.Ok N := by
  refine h.deed (Nat.le_refl _) fun he d1 e1 e2 h1 => ?_
  have hc : d.thereE a = 0 ∧ namedB b = true := by
    unfold Dr.renameE at he
    split at he
    · cases he
    · rename_i hx
      refine ⟨he, ?_⟩
      cases hb : namedB b with
      | true => rfl
      | false => exact absurd ⟨he, by rw [hb]; rfl⟩ hx
  obtain ⟨f, hk⟩ := there_some hc.1
  rw [← e1] at hk
  have hfo : fileOf d1 a = f := by simp [fileOf, hk]
  show ({ d1 with files := kput (kdel d1.files a) b (fileOf d1 a) } : Dr).Ok N
  rw [hfo]
  have hu : ({ d1 with files := kput (kdel d1.files a) b f } : Dr).used = d1.used - lenOf (kget (kdel d1.files a) b) := used_rename h1.rising hk _ rfl
  have hl0 : 0 ≤ lenOf (kget (kdel d1.files a) b) := by
    cases kget (kdel d1.files a) b <;> simp [lenOf]
  have hmem := kget_some hk
  refine ⟨h1.q0, h1.q1, by rw [hu]; have := h1.used; omega, ?_, fun p hp => ?_, Rising.put (Rising.del h1.rising _) _ _, fun p hp => ?_, h1.left⟩
  · show (kput _ _ _).length ≤ _
    have h2 := length_del h1.rising hk
    have h3 := length_kput_le b f (kdel d1.files a)
    have := h1.files
    omega
  · rcases mem_kput.1 hp with rfl | ⟨hp, _⟩
    · exact hc.2
    · exact h1.keys p (mem_kdel.1 hp).1
  · rcases mem_kput.1 hp with rfl | ⟨hp, _⟩
    · exact (h1.few _ hmem :)
    · exact h1.few p (mem_kdel.1 hp).1
end Go.Proofs.YtbjimikppdfmgaaGreatDoor
