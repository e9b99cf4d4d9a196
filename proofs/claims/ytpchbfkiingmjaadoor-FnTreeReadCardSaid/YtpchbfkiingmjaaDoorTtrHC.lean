/- A part of the pure law of FnTreeRead, over the printed functions: what they answer. No condition but those of each theorem. -/
import Derived.Test.YtpchbfkiingmjaaDoorTtrHB
namespace Go.Sx.Tryd
open Go Go.Proofs Go.Sx
set_option linter.unusedVariables false
set_option linter.unusedSimpArgs false

/-- the pieces between the bars, of which the first is begun -/
def splAL : List UInt8 → List UInt8 → List (List UInt8)
  | cur, [] => [cur]
  | cur, b :: l => if b = 10 then cur :: splAL [] l else splAL (cur ++ [b]) l

theorem splA_posL : ∀ (l cur : List UInt8), 1 ≤ (splAL cur l).length
  | [], _ => by simp [splAL]
  | b :: l, cur => by
    unfold splAL
    split
    · simp
    · exact splA_posL l _
theorem splA_countL : ∀ (l cur : List UInt8), (splAL cur l).length = l.count 10 + 1
  | [], _ => by simp [splAL]
  | b :: l, cur => by
    unfold splAL
    split
    · rename_i h; subst h; simp [splA_countL l]
    · rename_i h; rw [splA_countL l, List.count_cons]; simp [h]
theorem splA_sizeL : ∀ (l cur p : List UInt8), p ∈ splAL cur l → p.length ≤ cur.length + l.length
  | [], cur, p, h => by simp [splAL] at h; subst h; simp
  | b :: l, cur, p, h => by
    unfold splAL at h
    split at h
    · rcases List.mem_cons.1 h with rfl | h
      · simp
      · have := splA_sizeL l [] p h; simp at this ⊢; omega
    · have := splA_sizeL l _ p h; simp at this ⊢; omega

theorem idx_splL : ∀ l : List UInt8, (Lib.indexByte l 10 = -1 ∧ l.count 10 = 0 ∧ ∀ cur, splAL cur l = [cur ++ l]) ∨
    ∃ m : Nat, Lib.indexByte l 10 = (m : Int) ∧ m < l.length ∧ l.count 10 = (l.drop (m + 1)).count 10 + 1 ∧ ∀ cur, splAL cur l = (cur ++ l.take m) :: splAL [] (l.drop (m + 1))
  | [] => .inl ⟨rfl, by simp, fun cur => by simp [splAL]⟩
  | b :: l => by
    by_cases hb : b = 10
    · subst hb
      refine .inr ⟨0, ?_, by simp, by simp, fun cur => by simp [splAL]⟩
      simp [Lib.indexByte]
    · have hbb : (b == 10) = false := by rw [beq_eq_false_iff_ne]; exact hb
      rcases idx_splL l with ⟨h1, h2, h3⟩ | ⟨m, h1, h2, h3, h4⟩
      · refine .inl ⟨?_, ?_, fun cur => ?_⟩
        · rw [Lib.indexByte, h1]; simp [hbb]
        · rw [List.count_cons, h2]; simp [hb]
        · rw [splAL, if_neg hb, h3]; simp
      · refine .inr ⟨m + 1, ?_, by simp; omega, ?_, fun cur => ?_⟩
        · rw [Lib.indexByte, h1]
          have : ((m : Int) == -1) = false := by rw [beq_eq_false_iff_ne]; omega
          simp [hbb, this]
        · rw [List.count_cons, h3]; simp [hb]
        · rw [splAL, if_neg hb, h4]; simp

theorem bar1L : bL s_0a = [10] := rfl

theorem index_vL (m : Nat) (hm : 1 ≤ m) (s : ByteArray) : strings_Index m (s, s_0a, ()) = some (Lib.indexByte (bL s) 10, ()) := by
  obtain ⟨q, rfl⟩ : ∃ q, m = q + 1 := ⟨m - 1, by omega⟩
  have h0 : ∀ p, internal_stringslite_Index.b0 (q + 1) (internal_stringslite_Index.tab (q + 1) q) s s_0a (sLen s_0a) p = cond p (some (0, ())) (some (Lib.indexByte (bL s) 10, ())) := by
    intro p
    cases p <;> rfl
  show Option.bind (internal_stringslite_Index (q + 1) (s, s_0a, ())) _ = _
  rw [show internal_stringslite_Index (q + 1) (s, s_0a, ()) = internal_stringslite_Index.b0 (q + 1) (internal_stringslite_Index.tab (q + 1) q) s s_0a (sLen s_0a) (sEq s_0a s) from rfl, h0, sEq_dec]
  by_cases e : s_0a = s
  · rw [decide_eq_true e, ← e]; rfl
  · rw [decide_eq_false e]; rfl

theorem count_vL (m : Nat) (s : ByteArray) : strings_Count m (s, s_0a, ()) = some ((((bL s).count 10 : Nat) : Int), ()) := rfl

theorem split_loopL (m : Nat) (hm : 1 ≤ m) (N : Nat) : ∀ (d k i : Nat) (a : List ByteArray) (s : ByteArray), i + d + 1 = N → N < 1000000000 → a.length = N → s.size < 1000000000 → (bL s).count 10 = d →
    ∃ r : List ByteArray, (strings_genSplit.tab m (k + d + 1)).1 (a, s, s_0a, 0, ((N - 1 : Nat) : Int), (i : Int), ()) = some (r, ()) ∧ r.map bL = (a.take i).map bL ++ splAL [] (bL s)
  | 0, k, i, a, s, hN, hN2, ha, hs, hc => by
    refine ⟨a.take i ++ [s], ?_, ?_⟩
    · show strings_genSplit.b0 m (strings_genSplit.tab m k) a s s_0a 0 ((N - 1 : Nat) : Int) (i : Int) = _
      unfold strings_genSplit.b0
      rw [decide_eq_false (show ¬ (i : Int) < ((N - 1 : Nat) : Int) by omega), decide_eq_true (show (0 : Int) ≤ (i : Int) by omega), decide_eq_true (show (i : Int) < lLen a by simp only [lLen]; omega), w64_succ (by omega),
        decide_eq_true (show (0 : Int) ≤ ((i + 1 : Nat) : Int) by omega), decide_eq_true (show ((i + 1 : Nat) : Int) ≤ ((List.length (List.set a (Int.toNat (i : Int)) s)) : Int) by rw [List.length_set]; omega)]
      simp only [cond, lett, Int.toNat_natCast]
      rw [set_take (by omega)]
    · rcases idx_splL (bL s) with ⟨_, _, h3⟩ | ⟨q, _, _, h3, _⟩
      · rw [h3]; simp
      · omega
  | d + 1, k, i, a, s, hN, hN2, ha, hs, hc => by
    rcases idx_splL (bL s) with ⟨_, h2, _⟩ | ⟨q, h1, h2, h3, h4⟩
    · omega
    · have hl := bL_len s
      have hsz : (cutS s (q + 1) s.size).size ≤ s.size := cutS_size _ _ _
      have hcut : bL (cutS s (q + 1) s.size) = (bL s).drop (q + 1) := by rw [bL_cut, ← hl, List.take_length]
      obtain ⟨r, r1, r2⟩ := split_loopL m hm N d k (i + 1) (a.set i (cutS s 0 q)) (cutS s (q + 1) s.size) (by omega) hN2 (by rw [List.length_set]; exact ha) (by omega) (by rw [hcut]; omega)
      refine ⟨r, ?_, ?_⟩
      · show strings_genSplit.b0 m (strings_genSplit.tab m (k + d + 1)) a s s_0a 0 ((N - 1 : Nat) : Int) (i : Int) = _
        unfold strings_genSplit.b0
        rw [index_vL m hm, h1]
        simp only [Option.bind_some]
        rw [decide_eq_true (show (i : Int) < ((N - 1 : Nat) : Int) by omega), decide_eq_false (show ¬ (q : Int) < 0 by omega), show w64 ((q : Int) + 0) = (q : Int) from by rw [Int.add_zero]; exact w64_ok (by omega) (by omega),
          show w64 ((q : Int) + sLen s_0a) = ((q + 1 : Nat) : Int) from w64_succ (by omega), decide_eq_true (show (0 : Int) ≤ (q : Int) by omega), decide_eq_true (show (q : Int) ≤ (s.size : Int) by omega), decide_eq_true (show (0 : Int) ≤ (i : Int) by omega),
          decide_eq_true (show (i : Int) < lLen a by simp only [lLen]; omega), decide_eq_true (show (0 : Int) ≤ ((q + 1 : Nat) : Int) by omega), decide_eq_true (show ((q + 1 : Nat) : Int) ≤ (s.size : Int) by omega), w64_succ (by omega)]
        exact r1
      · rw [r2, hcut, set_take (by omega), h4]
        simp only [List.map_append, List.map_cons, List.map_nil]
        rw [bL_cut]
        simp

theorem split_vL (m : Nat) (hm : 10000000 ≤ m) (s : ByteArray) (hs : s.size < 5000000) : ∃ r : List ByteArray, strings_Split m (s, s_0a, ()) = some (r, ()) ∧ r.map bL = splAL [] (bL s) := by
  have hl := bL_len s
  have hcl : (bL s).count 10 ≤ s.size := by rw [← hl]; exact List.count_le_length
  obtain ⟨q, hq⟩ : ∃ q, m = q + 1 := ⟨m - 1, by omega⟩
  generalize hN : (bL s).count 10 + 1 = N
  obtain ⟨r, r1, r2⟩ := split_loopL m (by omega) N (N - 1) (q - (N - 1 + 1)) 0 (List.replicate N ByteArray.empty) s (by omega) (by omega) (by simp) (by omega) (by omega)
  rw [show q - (N - 1 + 1) + (N - 1) + 1 = q by omega] at r1
  refine ⟨r, ?_, by simpa using r2⟩
  show Option.bind (strings_genSplit m (s, s_0a, 0, -1, ())) _ = _
  have h1 : strings_genSplit m (s, s_0a, 0, -1, ()) = (strings_genSplit.tab m m).2.1 (s, s_0a, 0, w64 ((((bL s).count 10 : Nat) : Int) + 1), ()) := by
    show strings_genSplit.start m (strings_genSplit.tab m m) s s_0a 0 (-1) = _
    unfold strings_genSplit.start
    rw [sEq_dec, decide_eq_false (show ¬ s_0a = ByteArray.empty by intro h; have := congrArg ByteArray.size h; exact absurd this (by decide)), count_vL]
    rfl
  rw [h1, w64_succ (by omega), hN, hq]
  have h2 : (strings_genSplit.tab (q + 1) (q + 1)).2.1 (s, s_0a, 0, (N : Int), ()) = strings_genSplit.b1 (q + 1) (strings_genSplit.tab (q + 1) q) s s_0a 0 (N : Int) := rfl
  rw [h2]
  unfold strings_genSplit.b1
  have h3 : minI (N : Int) (w64 (sLen s + 1)) = (N : Int) := by
    rw [show w64 (sLen s + 1) = ((s.size + 1 : Nat) : Int) from w64_succ (by omega)]
    unfold minI
    rw [if_neg (by omega)]
  rw [h3, decide_eq_true (show (0 : Int) ≤ (N : Int) by omega), Int.toNat_natCast, decide_eq_true (show N ≤ apCap by show N ≤ 1073741824; omega)]
  simp only [cond, lett]
  rw [show w64 ((N : Int) - 1) = ((N - 1 : Nat) : Int) from by rw [show (N : Int) - 1 = ((N - 1 : Nat) : Int) by omega]; exact w64_ok (by omega) (by omega)]
  rw [hq] at r1
  show Option.bind ((strings_genSplit.tab (q + 1) q).1 (List.replicate N ByteArray.empty, s, s_0a, 0, ((N - 1 : Nat) : Int), ((0 : Nat) : Int), ())) _ = _
  rw [r1]
  rfl


/-- the pieces between the bars, of which the first is begun -/
def splAS : List UInt8 → List UInt8 → List (List UInt8)
  | cur, [] => [cur]
  | cur, b :: l => if b = 32 then cur :: splAS [] l else splAS (cur ++ [b]) l

theorem splA_posS : ∀ (l cur : List UInt8), 1 ≤ (splAS cur l).length
  | [], _ => by simp [splAS]
  | b :: l, cur => by
    unfold splAS
    split
    · simp
    · exact splA_posS l _
theorem splA_countS : ∀ (l cur : List UInt8), (splAS cur l).length = l.count 32 + 1
  | [], _ => by simp [splAS]
  | b :: l, cur => by
    unfold splAS
    split
    · rename_i h; subst h; simp [splA_countS l]
    · rename_i h; rw [splA_countS l, List.count_cons]; simp [h]
theorem splA_sizeS : ∀ (l cur p : List UInt8), p ∈ splAS cur l → p.length ≤ cur.length + l.length
  | [], cur, p, h => by simp [splAS] at h; subst h; simp
  | b :: l, cur, p, h => by
    unfold splAS at h
    split at h
    · rcases List.mem_cons.1 h with rfl | h
      · simp
      · have := splA_sizeS l [] p h; simp at this ⊢; omega
    · have := splA_sizeS l _ p h; simp at this ⊢; omega

theorem idx_splS : ∀ l : List UInt8, (Lib.indexByte l 32 = -1 ∧ l.count 32 = 0 ∧ ∀ cur, splAS cur l = [cur ++ l]) ∨
    ∃ m : Nat, Lib.indexByte l 32 = (m : Int) ∧ m < l.length ∧ l.count 32 = (l.drop (m + 1)).count 32 + 1 ∧ ∀ cur, splAS cur l = (cur ++ l.take m) :: splAS [] (l.drop (m + 1))
  | [] => .inl ⟨rfl, by simp, fun cur => by simp [splAS]⟩
  | b :: l => by
    by_cases hb : b = 32
    · subst hb
      refine .inr ⟨0, ?_, by simp, by simp, fun cur => by simp [splAS]⟩
      simp [Lib.indexByte]
    · have hbb : (b == 32) = false := by rw [beq_eq_false_iff_ne]; exact hb
      rcases idx_splS l with ⟨h1, h2, h3⟩ | ⟨m, h1, h2, h3, h4⟩
      · refine .inl ⟨?_, ?_, fun cur => ?_⟩
        · rw [Lib.indexByte, h1]; simp [hbb]
        · rw [List.count_cons, h2]; simp [hb]
        · rw [splAS, if_neg hb, h3]; simp
      · refine .inr ⟨m + 1, ?_, by simp; omega, ?_, fun cur => ?_⟩
        · rw [Lib.indexByte, h1]
          have : ((m : Int) == -1) = false := by rw [beq_eq_false_iff_ne]; omega
          simp [hbb, this]
        · rw [List.count_cons, h3]; simp [hb]
        · rw [splAS, if_neg hb, h4]; simp

theorem bar1S : bL s_20 = [32] := rfl

theorem index_vS (m : Nat) (hm : 1 ≤ m) (s : ByteArray) : strings_Index m (s, s_20, ()) = some (Lib.indexByte (bL s) 32, ()) := by
  obtain ⟨q, rfl⟩ : ∃ q, m = q + 1 := ⟨m - 1, by omega⟩
  have h0 : ∀ p, internal_stringslite_Index.b0 (q + 1) (internal_stringslite_Index.tab (q + 1) q) s s_20 (sLen s_20) p = cond p (some (0, ())) (some (Lib.indexByte (bL s) 32, ())) := by
    intro p
    cases p <;> rfl
  show Option.bind (internal_stringslite_Index (q + 1) (s, s_20, ())) _ = _
  rw [show internal_stringslite_Index (q + 1) (s, s_20, ()) = internal_stringslite_Index.b0 (q + 1) (internal_stringslite_Index.tab (q + 1) q) s s_20 (sLen s_20) (sEq s_20 s) from rfl, h0, sEq_dec]
  by_cases e : s_20 = s
  · rw [decide_eq_true e, ← e]; rfl
  · rw [decide_eq_false e]; rfl

theorem count_vS (m : Nat) (s : ByteArray) : strings_Count m (s, s_20, ()) = some ((((bL s).count 32 : Nat) : Int), ()) := rfl

theorem split_loopS (m : Nat) (hm : 1 ≤ m) (N : Nat) : ∀ (d k i : Nat) (a : List ByteArray) (s : ByteArray), i + d + 1 = N → N < 1000000000 → a.length = N → s.size < 1000000000 → (bL s).count 32 = d →
    ∃ r : List ByteArray, (strings_genSplit.tab m (k + d + 1)).1 (a, s, s_20, 0, ((N - 1 : Nat) : Int), (i : Int), ()) = some (r, ()) ∧ r.map bL = (a.take i).map bL ++ splAS [] (bL s)
  | 0, k, i, a, s, hN, hN2, ha, hs, hc => by
    refine ⟨a.take i ++ [s], ?_, ?_⟩
    · show strings_genSplit.b0 m (strings_genSplit.tab m k) a s s_20 0 ((N - 1 : Nat) : Int) (i : Int) = _
      unfold strings_genSplit.b0
      rw [decide_eq_false (show ¬ (i : Int) < ((N - 1 : Nat) : Int) by omega), decide_eq_true (show (0 : Int) ≤ (i : Int) by omega), decide_eq_true (show (i : Int) < lLen a by simp only [lLen]; omega), w64_succ (by omega),
        decide_eq_true (show (0 : Int) ≤ ((i + 1 : Nat) : Int) by omega), decide_eq_true (show ((i + 1 : Nat) : Int) ≤ ((List.length (List.set a (Int.toNat (i : Int)) s)) : Int) by rw [List.length_set]; omega)]
      simp only [cond, lett, Int.toNat_natCast]
      rw [set_take (by omega)]
    · rcases idx_splS (bL s) with ⟨_, _, h3⟩ | ⟨q, _, _, h3, _⟩
      · rw [h3]; simp
      · omega
  | d + 1, k, i, a, s, hN, hN2, ha, hs, hc => by
    rcases idx_splS (bL s) with ⟨_, h2, _⟩ | ⟨q, h1, h2, h3, h4⟩
    · omega
    · have hl := bL_len s
      have hsz : (cutS s (q + 1) s.size).size ≤ s.size := cutS_size _ _ _
      have hcut : bL (cutS s (q + 1) s.size) = (bL s).drop (q + 1) := by rw [bL_cut, ← hl, List.take_length]
      obtain ⟨r, r1, r2⟩ := split_loopS m hm N d k (i + 1) (a.set i (cutS s 0 q)) (cutS s (q + 1) s.size) (by omega) hN2 (by rw [List.length_set]; exact ha) (by omega) (by rw [hcut]; omega)
      refine ⟨r, ?_, ?_⟩
      · show strings_genSplit.b0 m (strings_genSplit.tab m (k + d + 1)) a s s_20 0 ((N - 1 : Nat) : Int) (i : Int) = _
        unfold strings_genSplit.b0
        rw [index_vS m hm, h1]
        simp only [Option.bind_some]
        rw [decide_eq_true (show (i : Int) < ((N - 1 : Nat) : Int) by omega), decide_eq_false (show ¬ (q : Int) < 0 by omega), show w64 ((q : Int) + 0) = (q : Int) from by rw [Int.add_zero]; exact w64_ok (by omega) (by omega),
          show w64 ((q : Int) + sLen s_20) = ((q + 1 : Nat) : Int) from w64_succ (by omega), decide_eq_true (show (0 : Int) ≤ (q : Int) by omega), decide_eq_true (show (q : Int) ≤ (s.size : Int) by omega), decide_eq_true (show (0 : Int) ≤ (i : Int) by omega),
          decide_eq_true (show (i : Int) < lLen a by simp only [lLen]; omega), decide_eq_true (show (0 : Int) ≤ ((q + 1 : Nat) : Int) by omega), decide_eq_true (show ((q + 1 : Nat) : Int) ≤ (s.size : Int) by omega), w64_succ (by omega)]
        exact r1
      · rw [r2, hcut, set_take (by omega), h4]
        simp only [List.map_append, List.map_cons, List.map_nil]
        rw [bL_cut]
        simp

theorem split_vS (m : Nat) (hm : 10000000 ≤ m) (s : ByteArray) (hs : s.size < 5000000) : ∃ r : List ByteArray, strings_Split m (s, s_20, ()) = some (r, ()) ∧ r.map bL = splAS [] (bL s) := by
  have hl := bL_len s
  have hcl : (bL s).count 32 ≤ s.size := by rw [← hl]; exact List.count_le_length
  obtain ⟨q, hq⟩ : ∃ q, m = q + 1 := ⟨m - 1, by omega⟩
  generalize hN : (bL s).count 32 + 1 = N
  obtain ⟨r, r1, r2⟩ := split_loopS m (by omega) N (N - 1) (q - (N - 1 + 1)) 0 (List.replicate N ByteArray.empty) s (by omega) (by omega) (by simp) (by omega) (by omega)
  rw [show q - (N - 1 + 1) + (N - 1) + 1 = q by omega] at r1
  refine ⟨r, ?_, by simpa using r2⟩
  show Option.bind (strings_genSplit m (s, s_20, 0, -1, ())) _ = _
  have h1 : strings_genSplit m (s, s_20, 0, -1, ()) = (strings_genSplit.tab m m).2.1 (s, s_20, 0, w64 ((((bL s).count 32 : Nat) : Int) + 1), ()) := by
    show strings_genSplit.start m (strings_genSplit.tab m m) s s_20 0 (-1) = _
    unfold strings_genSplit.start
    rw [sEq_dec, decide_eq_false (show ¬ s_20 = ByteArray.empty by intro h; have := congrArg ByteArray.size h; exact absurd this (by decide)), count_vS]
    rfl
  rw [h1, w64_succ (by omega), hN, hq]
  have h2 : (strings_genSplit.tab (q + 1) (q + 1)).2.1 (s, s_20, 0, (N : Int), ()) = strings_genSplit.b1 (q + 1) (strings_genSplit.tab (q + 1) q) s s_20 0 (N : Int) := rfl
  rw [h2]
  unfold strings_genSplit.b1
  have h3 : minI (N : Int) (w64 (sLen s + 1)) = (N : Int) := by
    rw [show w64 (sLen s + 1) = ((s.size + 1 : Nat) : Int) from w64_succ (by omega)]
    unfold minI
    rw [if_neg (by omega)]
  rw [h3, decide_eq_true (show (0 : Int) ≤ (N : Int) by omega), Int.toNat_natCast, decide_eq_true (show N ≤ apCap by show N ≤ 1073741824; omega)]
  simp only [cond, lett]
  rw [show w64 ((N : Int) - 1) = ((N - 1 : Nat) : Int) from by rw [show (N : Int) - 1 = ((N - 1 : Nat) : Int) by omega]; exact w64_ok (by omega) (by omega)]
  rw [hq] at r1
  show Option.bind ((strings_genSplit.tab (q + 1) q).1 (List.replicate N ByteArray.empty, s, s_20, 0, ((N - 1 : Nat) : Int), ((0 : Nat) : Int), ())) _ = _
  rw [r1]
  rfl

end Go.Sx.Tryd
