/- A part of the pure law of FnExactRepoPut, over the printed functions: what they answer. No condition but those of each theorem. -/
import Derived.Test.YtafchokjmboemaaGreatDoorRptHG
namespace Go.Sx.Tryz
open Go Go.Proofs Go.Sx
set_option linter.unusedVariables false
set_option linter.unusedSimpArgs false

theorem repo_com {xs : List Com} {hs : Heads} (h : repoB xs hs = true) {i : Nat} (hi : i < xs.length) : comS (xs.getD i kz) i = true := by
  unfold repoB at h
  simp only [Bool.and_eq_true] at h
  exact allF_iff.1 h.1 i (Nat.zero_le _) (by omega)
theorem repo_len {xs : List Com} {hs : Heads} (h : repoB xs hs = true) : xs.length ≤ 16 := by
  unfold repoB at h
  simp only [Bool.and_eq_true, decide_eq_true_eq] at h
  exact h.2.1
theorem repo_heads {xs : List Com} {hs : Heads} (h : repoB xs hs = true) : headsB hs xs.length = true := by
  unfold repoB at h
  simp only [Bool.and_eq_true, decide_eq_true_eq] at h
  exact h.2.2
theorem com_tree {c : Com} {i : Nat} (h : comS c i = true) : treeB c.2.2 = true := by
  unfold comS at h
  simp only [Bool.and_eq_true] at h
  exact h.2.2.2
theorem com_name {c : Com} {i : Nat} (h : comS c i = true) : nameB (bL c.2.1) = true := by
  unfold comS at h
  simp only [Bool.and_eq_true] at h
  exact h.2.2.1
theorem com_pars {c : Com} {i : Nat} (h : comS c i = true) : c.1.length ≤ 2 ∧ ∀ p ∈ c.1, 0 ≤ p ∧ p < (i : Int) := by
  unfold comS at h
  simp only [Bool.and_eq_true, decide_eq_true_eq] at h
  refine ⟨h.2.1, fun p hp => ?_⟩
  obtain ⟨k, hk, rfl⟩ := List.getElem_of_mem hp
  have := allF_iff.1 h.1 k (Nat.zero_le _) (by omega)
  unfold parS inR at this
  simp only [Bool.and_eq_true, decide_eq_true_eq] at this
  have e : c.1.getD k 0 = c.1[k] := by rw [List.getD_eq_getElem?_getD, List.getElem?_eq_getElem hk]; rfl
  rw [e] at this
  have h1 := this.1.1
  have h2 := this.1.2
  omega
theorem head_at {hs : Heads} {n i : Nat} (h : headsB hs n = true) (hi : i < hs.length) : 0 ≤ (hs.getD i hz0).2 ∧ (hs.getD i hz0).2 < n ∧ nameB (bL (hs.getD i hz0).1) = true := by
  unfold headsB at h
  simp only [Bool.and_eq_true, decide_eq_true_eq] at h
  have := allF_iff.1 h.1 i (Nat.zero_le _) (by omega)
  unfold headB inR at this
  simp only [Bool.and_eq_true, decide_eq_true_eq] at this
  exact ⟨this.2.1.1, by have := this.2.1.2; omega, this.1⟩
theorem heads_len {hs : Heads} {n : Nat} (h : headsB hs n = true) : hs.length ≤ 5 := by
  unfold headsB at h
  simp only [Bool.and_eq_true, decide_eq_true_eq] at h
  exact h.2
theorem name_size {s : ByteArray} (h : nameB (bL s) = true) : s.size ≤ 6 := by
  unfold nameB at h
  simp only [Bool.and_eq_true, decide_eq_true_eq] at h
  rw [← bL_len]; exact h.2.2
theorem inR_nat {a : Int} {n : Nat} (h : inR a n = true) : ∃ c : Nat, a = c ∧ c < n := by
  unfold inR at h
  simp only [Bool.and_eq_true, decide_eq_true_eq] at h
  exact ⟨a.toNat, by omega, by omega⟩
end Go.Sx.Tryz
