/- A part of the pure law of FnTreeRead, over the printed functions: what they answer. No condition but those of each theorem. -/
import Derived.Test.YtpchbfkiingmjaaDoorTtrHC
namespace Go.Sx.Tryd
open Go Go.Proofs Go.Sx
set_option linter.unusedVariables false
set_option linter.unusedSimpArgs false

/-- the pieces between the signs, of which the first is begun -/
def splC (c : UInt8) : List UInt8 → List UInt8 → List (List UInt8)
  | cur, [] => [cur]
  | cur, b :: l => if b = c then cur :: splC c [] l else splC c (cur ++ [b]) l
theorem splC_pos (c : UInt8) : ∀ (l cur : List UInt8), 1 ≤ (splC c cur l).length
  | [], _ => by simp [splC]
  | b :: l, cur => by
    unfold splC
    split
    · simp
    · exact splC_pos c l _
theorem splC_sum (c : UInt8) : ∀ (l cur p : List UInt8), p ∈ splC c cur l → p.length + (splC c cur l).length ≤ cur.length + l.length + 1 ∧ (splC c cur l).length ≤ l.length + 1
  | [], cur, p, h => by simp [splC] at h; subst h; simp [splC]
  | b :: l, cur, p, h => by
    unfold splC at h ⊢
    split at h
    · rename_i hb
      rw [if_pos hb]
      obtain ⟨q, hq⟩ : ∃ q, q ∈ splC c [] l := by
        match hs : splC c [] l with
        | [] => have := splC_pos c l []; rw [hs] at this; simp at this
        | q :: _ => exact ⟨q, by simp⟩
      have h1 := (splC_sum c l [] q hq).2
      rcases List.mem_cons.1 h with rfl | h
      · simp only [List.length_cons]; omega
      · have := splC_sum c l [] p h; simp only [List.length_cons, List.length_nil] at this ⊢; omega
    · rename_i hb
      rw [if_neg hb]
      have := splC_sum c l _ p h; simp only [List.length_append, List.length_cons, List.length_nil] at this ⊢; omega
theorem splC_L : ∀ (l cur : List UInt8), splC 10 cur l = splAL cur l
  | [], _ => rfl
  | b :: l, cur => by unfold splC splAL; rw [splC_L l [], splC_L l]
theorem splC_S : ∀ (l cur : List UInt8), splC 32 cur l = splAS cur l
  | [], _ => rfl
  | b :: l, cur => by unfold splC splAS; rw [splC_S l [], splC_S l]

theorem cutC_loop (c : UInt8) (M : Nat) (hM : M ≤ 100000) (m : Nat) (s : ByteArray) (hs : s.size < 1000000000) : ∀ (d k : Nat) (acc : List ByteArray) (a i : Nat), a ≤ i → i + d = s.size → acc.length ≤ M →
    ∃ r : List ByteArray, (spec_l1Cut.tab m (k + d + 1)).1 (acc, s, (c.toNat : Int), (M : Int), (a : Int), (i : Int), ()) = some (r, ()) ∧ r.length ≤ M + 1 ∧
      (acc.length + (splC c (((bL s).take i).drop a) ((bL s).drop i)).length ≤ M → r.map bL = acc.map bL ++ splC c (((bL s).take i).drop a) ((bL s).drop i)) ∧
      (M < acc.length + (splC c (((bL s).take i).drop a) ((bL s).drop i)).length → M < r.length) ∧ (∀ x ∈ r, x ∈ acc ∨ x.size ≤ s.size)
  | 0, k, acc, a, i, ha, h, hc => by
    have hl := bL_len s
    refine ⟨acc ++ [cutS s a s.size], ?_, by simp; omega, ?_, ?_, ?_⟩
    · show spec_l1Cut.b0 m (spec_l1Cut.tab m k) acc s (c.toNat : Int) (M : Int) (a : Int) (i : Int) = _
      unfold spec_l1Cut.b0
      rw [decide_eq_false (show ¬ (i : Int) < sLen s by simp only [sLen]; omega), decide_eq_true (show (0 : Int) ≤ (a : Int) by omega), decide_eq_true (show (a : Int) ≤ (s.size : Int) by omega)]
      simp only [cond, lett, Int.toNat_natCast]
      rw [decide_eq_true (show acc.length + [cutS s a s.size].length ≤ apCap by show acc.length + 1 ≤ 1073741824; omega)]
      rfl
    · intro _
      rw [show List.drop i (bL s) = [] from List.drop_eq_nil_of_le (by omega)]
      simp only [splC, List.map_append, List.map_cons, List.map_nil]
      rw [cut_end s (i := i) (by omega)]
    · rw [show List.drop i (bL s) = [] from List.drop_eq_nil_of_le (by omega)]
      simp only [splC, List.length_append, List.length_cons, List.length_nil]
      exact fun h => h
    · intro x hx
      rcases List.mem_append.1 hx with h1 | h1
      · exact .inl h1
      · simp at h1; subst h1; exact .inr (cutS_size _ _ _)
  | d + 1, k, acc, a, i, ha, h, hc => by
    have hl := bL_len s
    have hlt : i < (bL s).length := by omega
    have hb : spec_l1Cut.b0 m (spec_l1Cut.tab m (k + d + 1)) acc s (c.toNat : Int) (M : Int) (a : Int) (i : Int) = cond (decide (acc.length < M)) (cond (decide ((bL s).getD i 0 = c))
        ((spec_l1Cut.tab m (k + d + 1)).1 (acc ++ [cutS s a i], s, (c.toNat : Int), (M : Int), ((i + 1 : Nat) : Int), ((i + 1 : Nat) : Int), ())) ((spec_l1Cut.tab m (k + d + 1)).1 (acc, s, (c.toNat : Int), (M : Int), (a : Int), ((i + 1 : Nat) : Int), ()))) (some (acc ++ [cutS s a s.size], ())) := by
      unfold spec_l1Cut.b0
      rw [decide_eq_true (show (i : Int) < sLen s by simp only [sLen]; omega), decide_eq_true (show (0 : Int) ≤ (i : Int) by omega), decide_eq_true (show (0 : Int) ≤ (a : Int) by omega),
        decide_eq_true (show (a : Int) ≤ (i : Int) by omega), decide_eq_true (show (i : Int) ≤ (s.size : Int) by omega), decide_eq_true (show (a : Int) ≤ (s.size : Int) by omega), w64_succ (by omega), byteAt_bL]
      simp only [cond, lett, Int.toNat_natCast]
      rw [decide_eq_true (show acc.length + [cutS s a i].length ≤ apCap by show acc.length + 1 ≤ 1073741824; omega), decide_eq_true (show acc.length + [cutS s a s.size].length ≤ apCap by show acc.length + 1 ≤ 1073741824; omega)]
      rw [show decide (lLen acc < (M : Int)) = decide (acc.length < M) by simp only [lLen, decide_eq_decide]; omega]
      rw [show ((((bL s).getD i 0).toNat : Int) == (c.toNat : Int)) = decide ((bL s).getD i 0 = c) from by
        by_cases e : (bL s).getD i 0 = c
        · rw [e, decide_eq_true rfl, beq_self_eq_true]
        · rw [decide_eq_false e, beq_eq_false_iff_ne]
          intro h'
          apply e
          apply UInt8.toNat_inj.1
          omega]
      rfl
    show ∃ r : List ByteArray, spec_l1Cut.b0 m (spec_l1Cut.tab m (k + d + 1)) acc s (c.toNat : Int) (M : Int) (a : Int) (i : Int) = some (r, ()) ∧ _
    rw [hb, drop_at hlt 0]
    by_cases h3 : acc.length < M
    · rw [decide_eq_true h3]
      by_cases hbar : (bL s).getD i 0 = c
      · rw [decide_eq_true hbar]
        obtain ⟨r, r1, r2, r3, r4, r5⟩ := cutC_loop c M hM m s hs d k (acc ++ [cutS s a i]) (i + 1) (i + 1) (Nat.le_refl _) (by omega) (by simp; omega)
        have e0 : List.drop (i + 1) (List.take (i + 1) (bL s)) = [] := List.drop_eq_nil_of_le (by rw [List.length_take]; omega)
        rw [e0] at r3 r4
        refine ⟨r, r1, r2, ?_, ?_, ?_⟩
        · unfold splC
          rw [if_pos hbar]
          intro hh
          rw [r3 (by simp at hh ⊢; omega)]
          simp [bL_cut]
        · unfold splC
          rw [if_pos hbar]
          intro hh
          exact r4 (by simp at hh ⊢; omega)
        · intro x hx
          rcases r5 x hx with h1 | h1
          · rcases List.mem_append.1 h1 with h2 | h2
            · exact .inl h2
            · simp at h2; subst h2; exact .inr (cutS_size _ _ _)
          · exact .inr h1
      · rw [decide_eq_false hbar]
        obtain ⟨r, r1, r2, r3, r4, r5⟩ := cutC_loop c M hM m s hs d k acc a (i + 1) (by omega) (by omega) hc
        rw [take_snoc ha hlt] at r3 r4
        refine ⟨r, r1, r2, ?_, ?_, r5⟩
        · rw [show splC c (List.drop a (List.take i (bL s))) ((bL s).getD i 0 :: List.drop (i + 1) (bL s)) = splC c (List.drop a (List.take i (bL s)) ++ [(bL s).getD i 0]) (List.drop (i + 1) (bL s)) by rw [splC, if_neg hbar]]
          exact r3
        · rw [show splC c (List.drop a (List.take i (bL s))) ((bL s).getD i 0 :: List.drop (i + 1) (bL s)) = splC c (List.drop a (List.take i (bL s)) ++ [(bL s).getD i 0]) (List.drop (i + 1) (bL s)) by rw [splC, if_neg hbar]]
          exact r4
    · rw [decide_eq_false h3]
      have hp := splC_pos c ((bL s).getD i 0 :: List.drop (i + 1) (bL s)) (List.drop a (List.take i (bL s)))
      refine ⟨acc ++ [cutS s a s.size], rfl, by simp; omega, fun hh => by omega, fun _ => by simp; omega, ?_⟩
      intro x hx
      rcases List.mem_append.1 hx with h1 | h1
      · exact .inl h1
      · simp at h1; subst h1; exact .inr (cutS_size _ _ _)


/-- the cut of a text: the pieces, where there are not too many -/
theorem cutC_v (c : UInt8) (M : Nat) (hM : M ≤ 100000) (m : Nat) (s : ByteArray) (hs : s.size < 1000000000) (hm : s.size + 1 ≤ m) : ∃ r : List ByteArray, spec_l1Cut m (s, (c.toNat : Int), (M : Int), ()) = some (r, ()) ∧ r.length ≤ M + 1 ∧
    ((splC c [] (bL s)).length ≤ M → r.map bL = splC c [] (bL s)) ∧ (M < (splC c [] (bL s)).length → M < r.length) ∧ ∀ x ∈ r, x.size ≤ s.size := by
  obtain ⟨r, r1, r2, r3, r4, r5⟩ := cutC_loop c M hM m s hs s.size (m - (s.size + 1)) [] 0 0 (Nat.le_refl _) (by omega) (by simp)
  rw [show m - (s.size + 1) + s.size + 1 = m by omega] at r1
  simp only [List.length_nil, Nat.zero_add, List.take_zero, List.drop_zero, List.map_nil, List.nil_append] at r3 r4
  refine ⟨r, r1, r2, by simpa using r3, by simpa using r4, fun x hx => ?_⟩
  rcases r5 x hx with h | h
  · cases h
  · exact h
end Go.Sx.Tryd
