/- A part of the pure law of FnTreeRead, over the printed functions: what they answer. No condition but those of each theorem. -/
import Derived.Test.YtpchbfkiingmjaaDoorTtrHA
namespace Go.Sx.Tryd
open Go Go.Proofs Go.Sx
set_option linter.unusedVariables false
set_option linter.unusedSimpArgs false

/-- the pieces between the bars, of which the first is begun -/
def splA : List UInt8 → List UInt8 → List (List UInt8)
  | cur, [] => [cur]
  | cur, b :: l => if b = 47 then cur :: splA [] l else splA (cur ++ [b]) l

theorem splA_pos : ∀ (l cur : List UInt8), 1 ≤ (splA cur l).length
  | [], _ => by simp [splA]
  | b :: l, cur => by
    unfold splA
    split
    · simp
    · exact splA_pos l _
theorem splA_count : ∀ (l cur : List UInt8), (splA cur l).length = l.count 47 + 1
  | [], _ => by simp [splA]
  | b :: l, cur => by
    unfold splA
    split
    · rename_i h; subst h; simp [splA_count l]
    · rename_i h; rw [splA_count l, List.count_cons]; simp [h]
theorem splA_size : ∀ (l cur p : List UInt8), p ∈ splA cur l → p.length ≤ cur.length + l.length
  | [], cur, p, h => by simp [splA] at h; subst h; simp
  | b :: l, cur, p, h => by
    unfold splA at h
    split at h
    · rcases List.mem_cons.1 h with rfl | h
      · simp
      · have := splA_size l [] p h; simp at this ⊢; omega
    · have := splA_size l _ p h; simp at this ⊢; omega

def pathB (s : ByteArray) : Bool := decide ((splA [] (bL s)).length ≤ 3) && (splA [] (bL s)).all nameB

theorem cut_end (s : ByteArray) {i a : Nat} (h : i = s.size) : bL (cutS s a (ByteArray.size s)) = ((bL s).take i).drop a := by
  rw [bL_cut, h]
theorem take_snoc {l : List UInt8} {i a : Nat} (ha : a ≤ i) (hi : i < l.length) : (l.take (i + 1)).drop a = (l.take i).drop a ++ [l.getD i 0] := by
  rw [List.take_add_one, List.getD_eq_getElem?_getD, List.getElem?_eq_getElem hi, List.drop_append_of_le_length (by rw [List.length_take]; omega)]
  rfl

theorem cut_loop (m : Nat) (s : ByteArray) (hs : s.size < 1000000000) : ∀ (d k : Nat) (acc : List ByteArray) (a i : Nat), a ≤ i → i + d = s.size → acc.length ≤ 3 →
    ∃ r : List ByteArray, (spec_l1Cut.tab m (k + d + 1)).1 (acc, s, 47, 3, (a : Int), (i : Int), ()) = some (r, ()) ∧ r.length ≤ 4 ∧
      (acc.length + (splA (((bL s).take i).drop a) ((bL s).drop i)).length ≤ 3 → r.map bL = acc.map bL ++ splA (((bL s).take i).drop a) ((bL s).drop i)) ∧
      (3 < acc.length + (splA (((bL s).take i).drop a) ((bL s).drop i)).length → 3 < r.length) ∧ (∀ x ∈ r, x ∈ acc ∨ x.size ≤ s.size)
  | 0, k, acc, a, i, ha, h, hc => by
    have hl := bL_len s
    refine ⟨acc ++ [cutS s a s.size], ?_, by simp; omega, ?_, ?_, ?_⟩
    · show spec_l1Cut.b0 m (spec_l1Cut.tab m k) acc s 47 3 (a : Int) (i : Int) = _
      unfold spec_l1Cut.b0
      rw [decide_eq_false (show ¬ (i : Int) < sLen s by simp only [sLen]; omega), decide_eq_true (show (0 : Int) ≤ (a : Int) by omega), decide_eq_true (show (a : Int) ≤ (s.size : Int) by omega)]
      simp only [cond, lett, Int.toNat_natCast]
      rw [decide_eq_true (show acc.length + [cutS s a s.size].length ≤ apCap by show acc.length + 1 ≤ 1073741824; omega)]
      rfl
    · intro _
      rw [show List.drop i (bL s) = [] from List.drop_eq_nil_of_le (by omega)]
      simp only [splA, List.map_append, List.map_cons, List.map_nil]
      rw [cut_end s (i := i) (by omega)]
    · rw [show List.drop i (bL s) = [] from List.drop_eq_nil_of_le (by omega)]
      simp only [splA, List.length_append, List.length_cons, List.length_nil]
      exact fun h => h
    · intro x hx
      rcases List.mem_append.1 hx with h1 | h1
      · exact .inl h1
      · simp at h1; subst h1; exact .inr (cutS_size _ _ _)
  | d + 1, k, acc, a, i, ha, h, hc => by
    have hl := bL_len s
    have hlt : i < (bL s).length := by omega
    have hb : spec_l1Cut.b0 m (spec_l1Cut.tab m (k + d + 1)) acc s 47 3 (a : Int) (i : Int) = cond (decide (acc.length < 3)) (cond (decide ((bL s).getD i 0 = 47))
        ((spec_l1Cut.tab m (k + d + 1)).1 (acc ++ [cutS s a i], s, 47, 3, ((i + 1 : Nat) : Int), ((i + 1 : Nat) : Int), ())) ((spec_l1Cut.tab m (k + d + 1)).1 (acc, s, 47, 3, (a : Int), ((i + 1 : Nat) : Int), ()))) (some (acc ++ [cutS s a s.size], ())) := by
      unfold spec_l1Cut.b0
      rw [decide_eq_true (show (i : Int) < sLen s by simp only [sLen]; omega), decide_eq_true (show (0 : Int) ≤ (i : Int) by omega), decide_eq_true (show (0 : Int) ≤ (a : Int) by omega),
        decide_eq_true (show (a : Int) ≤ (i : Int) by omega), decide_eq_true (show (i : Int) ≤ (s.size : Int) by omega), decide_eq_true (show (a : Int) ≤ (s.size : Int) by omega), w64_succ (by omega), byteAt_bL]
      simp only [cond, lett, Int.toNat_natCast]
      rw [decide_eq_true (show acc.length + [cutS s a i].length ≤ apCap by show acc.length + 1 ≤ 1073741824; omega), decide_eq_true (show acc.length + [cutS s a s.size].length ≤ apCap by show acc.length + 1 ≤ 1073741824; omega)]
      rw [show decide (lLen acc < 3) = decide (acc.length < 3) by simp only [lLen, decide_eq_decide]; omega]
      rw [show ((((bL s).getD i 0).toNat : Int) == 47) = decide ((bL s).getD i 0 = 47) from by
        by_cases e : (bL s).getD i 0 = 47
        · rw [e]; rfl
        · rw [decide_eq_false e, beq_eq_false_iff_ne]
          intro h'
          apply e
          apply UInt8.toNat_inj.1
          have : ((47 : UInt8).toNat : Int) = 47 := rfl
          omega]
      rfl
    show ∃ r : List ByteArray, spec_l1Cut.b0 m (spec_l1Cut.tab m (k + d + 1)) acc s 47 3 (a : Int) (i : Int) = some (r, ()) ∧ _
    rw [hb, drop_at hlt 0]
    by_cases h3 : acc.length < 3
    · rw [decide_eq_true h3]
      by_cases hbar : (bL s).getD i 0 = 47
      · rw [decide_eq_true hbar]
        obtain ⟨r, r1, r2, r3, r4, r5⟩ := cut_loop m s hs d k (acc ++ [cutS s a i]) (i + 1) (i + 1) (Nat.le_refl _) (by omega) (by simp; omega)
        have e0 : List.drop (i + 1) (List.take (i + 1) (bL s)) = [] := List.drop_eq_nil_of_le (by rw [List.length_take]; omega)
        rw [e0] at r3 r4
        refine ⟨r, r1, r2, ?_, ?_, ?_⟩
        · unfold splA
          rw [if_pos hbar]
          intro hh
          rw [r3 (by simp at hh ⊢; omega)]
          simp [bL_cut]
        · unfold splA
          rw [if_pos hbar]
          intro hh
          exact r4 (by simp at hh ⊢; omega)
        · intro x hx
          rcases r5 x hx with h1 | h1
          · rcases List.mem_append.1 h1 with h2 | h2
            · exact .inl h2
            · simp at h2; subst h2; exact .inr (cutS_size _ _ _)
          · exact .inr h1
      · rw [decide_eq_false hbar]
        obtain ⟨r, r1, r2, r3, r4, r5⟩ := cut_loop m s hs d k acc a (i + 1) (by omega) (by omega) hc
        rw [take_snoc ha hlt] at r3 r4
        refine ⟨r, r1, r2, ?_, ?_, r5⟩
        · rw [show splA (List.drop a (List.take i (bL s))) ((bL s).getD i 0 :: List.drop (i + 1) (bL s)) = splA (List.drop a (List.take i (bL s)) ++ [(bL s).getD i 0]) (List.drop (i + 1) (bL s)) by rw [splA, if_neg hbar]]
          exact r3
        · rw [show splA (List.drop a (List.take i (bL s))) ((bL s).getD i 0 :: List.drop (i + 1) (bL s)) = splA (List.drop a (List.take i (bL s)) ++ [(bL s).getD i 0]) (List.drop (i + 1) (bL s)) by rw [splA, if_neg hbar]]
          exact r4
    · rw [decide_eq_false h3]
      have hp := splA_pos ((bL s).getD i 0 :: List.drop (i + 1) (bL s)) (List.drop a (List.take i (bL s)))
      refine ⟨acc ++ [cutS s a s.size], rfl, by simp; omega, fun hh => by omega, fun _ => by simp; omega, ?_⟩
      intro x hx
      rcases List.mem_append.1 hx with h1 | h1
      · exact .inl h1
      · simp at h1; subst h1; exact .inr (cutS_size _ _ _)

theorem path_names (m : Nat) (xs : List ByteArray) (hx : Shorts 1000000 xs) (hm : 10000000 ≤ m) : ∀ (d k i : Nat), i + d = xs.length →
    (spec_l4Path.tab m (k + d + 1)).1 (xs, (i : Int), ()) = some ((xs.drop i).all (fun s => nameB (bL s)) && decide (xs.length ≤ 3), ())
  | 0, k, i, h => by
    show spec_l4Path.b0 m (spec_l4Path.tab m k) xs (i : Int) = _
    unfold spec_l4Path.b0
    rw [decide_eq_false (show ¬ (i : Int) < lLen xs by simp only [lLen]; omega), List.drop_eq_nil_of_le (by omega)]
    simp only [cond, List.all_nil, Bool.true_and, lLen]
    rw [show decide ((xs.length : Int) ≤ 3) = decide (xs.length ≤ 3) by simp only [decide_eq_decide]; omega]
  | d + 1, k, i, h => by
    have ih := path_names m xs hx hm d k (i + 1) (by omega)
    have hl := hx.1
    show spec_l4Path.b0 m (spec_l4Path.tab m (k + d + 1)) xs (i : Int) = _
    unfold spec_l4Path.b0
    have hg := hx.get (i := i) (by omega)
    rw [decide_eq_true (show (i : Int) < lLen xs by simp only [lLen]; omega), decide_eq_true (show (0 : Int) ≤ (i : Int) by omega), drop_at (l := xs) (i := i) (by omega) ByteArray.empty,
      show getL xs (i : Int) ByteArray.empty = xs.getD i ByteArray.empty from rfl, spec_name_v m _ (by omega) (by omega)]
    simp only [cond, Option.bind_some, List.all_cons]
    rw [w64_succ (by omega), ih]
    cases nameB (bL (xs.getD i ByteArray.empty)) <;> simp

theorem all_map {xs : List ByteArray} {p : List UInt8 → Bool} : xs.all (fun s => p (bL s)) = (xs.map bL).all p := by
  rw [List.all_map]; rfl

theorem spec_path_v (m : Nat) (s : ByteArray) (hs : s.size < 1000000) (hm : 10000000 ≤ m) : spec_l4Path m (s, ()) = some (pathB s, ()) := by
  obtain ⟨r, r1, r2, r3, r4, r5⟩ := cut_loop m s (by omega) s.size (m - (s.size + 1)) [] 0 0 (by omega) (by omega) (by simp)
  rw [show m - (s.size + 1) + s.size + 1 = m by omega] at r1
  show Option.bind (spec_l1Cut m (s, 47, 3, ())) _ = _
  rw [show spec_l1Cut m (s, 47, 3, ()) = some (r, ()) from r1]
  simp only [Option.bind_some]
  have := path_names m r ⟨by omega, fun x hx => by
    rcases r5 x hx with h | h
    · cases h
    · omega⟩ hm r.length (m - (r.length + 1)) 0 (by omega)
  rw [show m - (r.length + 1) + r.length + 1 = m by omega] at this
  show (spec_l4Path.tab m m).1 (r, ((0 : Nat) : Int), ()) = _
  rw [this, List.drop_zero, all_map]
  unfold pathB
  simp only [List.take_zero, List.drop_zero, List.drop_nil] at r3 r4
  simp only [List.length_nil, Nat.zero_add, List.map_nil, List.nil_append] at r3 r4
  by_cases h : (splA [] (bL s)).length ≤ 3
  · have hle : r.length = (splA [] (bL s)).length := by rw [← r3 h, List.length_map]
    rw [r3 h, hle, Bool.and_comm]
  · rw [decide_eq_false h, decide_eq_false (show ¬ r.length ≤ 3 by have := r4 (by omega); omega)]
    simp

/-! ### The library's split -/
theorem idx_spl : ∀ l : List UInt8, (Lib.indexByte l 47 = -1 ∧ l.count 47 = 0 ∧ ∀ cur, splA cur l = [cur ++ l]) ∨
    ∃ m : Nat, Lib.indexByte l 47 = (m : Int) ∧ m < l.length ∧ l.count 47 = (l.drop (m + 1)).count 47 + 1 ∧ ∀ cur, splA cur l = (cur ++ l.take m) :: splA [] (l.drop (m + 1))
  | [] => .inl ⟨rfl, by simp, fun cur => by simp [splA]⟩
  | b :: l => by
    by_cases hb : b = 47
    · subst hb
      refine .inr ⟨0, ?_, by simp, by simp, fun cur => by simp [splA]⟩
      simp [Lib.indexByte]
    · have hbb : (b == 47) = false := by rw [beq_eq_false_iff_ne]; exact hb
      rcases idx_spl l with ⟨h1, h2, h3⟩ | ⟨m, h1, h2, h3, h4⟩
      · refine .inl ⟨?_, ?_, fun cur => ?_⟩
        · rw [Lib.indexByte, h1]; simp [hbb]
        · rw [List.count_cons, h2]; simp [hb]
        · rw [splA, if_neg hb, h3]; simp
      · refine .inr ⟨m + 1, ?_, by simp; omega, ?_, fun cur => ?_⟩
        · rw [Lib.indexByte, h1]
          have : ((m : Int) == -1) = false := by rw [beq_eq_false_iff_ne]; omega
          simp [hbb, this]
        · rw [List.count_cons, h3]; simp [hb]
        · rw [splA, if_neg hb, h4]; simp

theorem bar1 : bL s_2f = [47] := rfl

theorem index_v (m : Nat) (hm : 1 ≤ m) (s : ByteArray) : strings_Index m (s, s_2f, ()) = some (Lib.indexByte (bL s) 47, ()) := by
  obtain ⟨q, rfl⟩ : ∃ q, m = q + 1 := ⟨m - 1, by omega⟩
  have h0 : ∀ p, internal_stringslite_Index.b0 (q + 1) (internal_stringslite_Index.tab (q + 1) q) s s_2f (sLen s_2f) p = cond p (some (0, ())) (some (Lib.indexByte (bL s) 47, ())) := by
    intro p
    cases p <;> rfl
  show Option.bind (internal_stringslite_Index (q + 1) (s, s_2f, ())) _ = _
  rw [show internal_stringslite_Index (q + 1) (s, s_2f, ()) = internal_stringslite_Index.b0 (q + 1) (internal_stringslite_Index.tab (q + 1) q) s s_2f (sLen s_2f) (sEq s_2f s) from rfl, h0, sEq_dec]
  by_cases e : s_2f = s
  · rw [decide_eq_true e, ← e]; rfl
  · rw [decide_eq_false e]; rfl

theorem count_v (m : Nat) (s : ByteArray) : strings_Count m (s, s_2f, ()) = some ((((bL s).count 47 : Nat) : Int), ()) := rfl

theorem set_take {α : Type} {l : List α} {i : Nat} {x : α} (h : i < l.length) : (l.set i x).take (i + 1) = l.take i ++ [x] := by
  apply List.ext_getElem?
  intro j
  by_cases h1 : j < i
  · simp [List.getElem?_take, List.getElem?_append, h1, show j < i + 1 by omega, List.getElem?_set, show ¬ i = j by omega, show i ≤ l.length by omega]
  · by_cases h2 : j = i
    · subst h2
      simp [List.getElem?_take, List.getElem?_append, List.getElem?_set, h, show j ≤ l.length by omega]
    · simp [List.getElem?_take, List.getElem?_append, h1, show ¬ j < i + 1 by omega, show i ≤ l.length by omega]

theorem split_loop (m : Nat) (hm : 1 ≤ m) (N : Nat) : ∀ (d k i : Nat) (a : List ByteArray) (s : ByteArray), i + d + 1 = N → N < 1000000000 → a.length = N → s.size < 1000000000 → (bL s).count 47 = d →
    ∃ r : List ByteArray, (strings_genSplit.tab m (k + d + 1)).1 (a, s, s_2f, 0, ((N - 1 : Nat) : Int), (i : Int), ()) = some (r, ()) ∧ r.map bL = (a.take i).map bL ++ splA [] (bL s)
  | 0, k, i, a, s, hN, hN2, ha, hs, hc => by
    refine ⟨a.take i ++ [s], ?_, ?_⟩
    · show strings_genSplit.b0 m (strings_genSplit.tab m k) a s s_2f 0 ((N - 1 : Nat) : Int) (i : Int) = _
      unfold strings_genSplit.b0
      rw [decide_eq_false (show ¬ (i : Int) < ((N - 1 : Nat) : Int) by omega), decide_eq_true (show (0 : Int) ≤ (i : Int) by omega), decide_eq_true (show (i : Int) < lLen a by simp only [lLen]; omega), w64_succ (by omega),
        decide_eq_true (show (0 : Int) ≤ ((i + 1 : Nat) : Int) by omega), decide_eq_true (show ((i + 1 : Nat) : Int) ≤ ((List.length (List.set a (Int.toNat (i : Int)) s)) : Int) by rw [List.length_set]; omega)]
      simp only [cond, lett, Int.toNat_natCast]
      rw [set_take (by omega)]
    · rcases idx_spl (bL s) with ⟨_, _, h3⟩ | ⟨q, _, _, h3, _⟩
      · rw [h3]; simp
      · omega
  | d + 1, k, i, a, s, hN, hN2, ha, hs, hc => by
    rcases idx_spl (bL s) with ⟨_, h2, _⟩ | ⟨q, h1, h2, h3, h4⟩
    · omega
    · have hl := bL_len s
      have hsz : (cutS s (q + 1) s.size).size ≤ s.size := cutS_size _ _ _
      have hcut : bL (cutS s (q + 1) s.size) = (bL s).drop (q + 1) := by rw [bL_cut, ← hl, List.take_length]
      obtain ⟨r, r1, r2⟩ := split_loop m hm N d k (i + 1) (a.set i (cutS s 0 q)) (cutS s (q + 1) s.size) (by omega) hN2 (by rw [List.length_set]; exact ha) (by omega) (by rw [hcut]; omega)
      refine ⟨r, ?_, ?_⟩
      · show strings_genSplit.b0 m (strings_genSplit.tab m (k + d + 1)) a s s_2f 0 ((N - 1 : Nat) : Int) (i : Int) = _
        unfold strings_genSplit.b0
        rw [index_v m hm, h1]
        simp only [Option.bind_some]
        rw [decide_eq_true (show (i : Int) < ((N - 1 : Nat) : Int) by omega), decide_eq_false (show ¬ (q : Int) < 0 by omega), show w64 ((q : Int) + 0) = (q : Int) from by rw [Int.add_zero]; exact w64_ok (by omega) (by omega),
          show w64 ((q : Int) + sLen s_2f) = ((q + 1 : Nat) : Int) from w64_succ (by omega), decide_eq_true (show (0 : Int) ≤ (q : Int) by omega), decide_eq_true (show (q : Int) ≤ (s.size : Int) by omega), decide_eq_true (show (0 : Int) ≤ (i : Int) by omega),
          decide_eq_true (show (i : Int) < lLen a by simp only [lLen]; omega), decide_eq_true (show (0 : Int) ≤ ((q + 1 : Nat) : Int) by omega), decide_eq_true (show ((q + 1 : Nat) : Int) ≤ (s.size : Int) by omega), w64_succ (by omega)]
        exact r1
      · rw [r2, hcut, set_take (by omega), h4]
        simp only [List.map_append, List.map_cons, List.map_nil]
        rw [bL_cut]
        simp

theorem split_v (m : Nat) (hm : 10000000 ≤ m) (s : ByteArray) (hs : s.size < 1000000) : ∃ r : List ByteArray, strings_Split m (s, s_2f, ()) = some (r, ()) ∧ r.map bL = splA [] (bL s) := by
  have hl := bL_len s
  have hcl : (bL s).count 47 ≤ s.size := by rw [← hl]; exact List.count_le_length
  obtain ⟨q, hq⟩ : ∃ q, m = q + 1 := ⟨m - 1, by omega⟩
  generalize hN : (bL s).count 47 + 1 = N
  obtain ⟨r, r1, r2⟩ := split_loop m (by omega) N (N - 1) (q - (N - 1 + 1)) 0 (List.replicate N ByteArray.empty) s (by omega) (by omega) (by simp) (by omega) (by omega)
  rw [show q - (N - 1 + 1) + (N - 1) + 1 = q by omega] at r1
  refine ⟨r, ?_, by simpa using r2⟩
  show Option.bind (strings_genSplit m (s, s_2f, 0, -1, ())) _ = _
  have h1 : strings_genSplit m (s, s_2f, 0, -1, ()) = (strings_genSplit.tab m m).2.1 (s, s_2f, 0, w64 ((((bL s).count 47 : Nat) : Int) + 1), ()) := by
    show strings_genSplit.start m (strings_genSplit.tab m m) s s_2f 0 (-1) = _
    unfold strings_genSplit.start
    rw [sEq_dec, decide_eq_false (show ¬ s_2f = ByteArray.empty by intro h; have := congrArg ByteArray.size h; exact absurd this (by decide)), count_v]
    rfl
  rw [h1, w64_succ (by omega), hN, hq]
  have h2 : (strings_genSplit.tab (q + 1) (q + 1)).2.1 (s, s_2f, 0, (N : Int), ()) = strings_genSplit.b1 (q + 1) (strings_genSplit.tab (q + 1) q) s s_2f 0 (N : Int) := rfl
  rw [h2]
  unfold strings_genSplit.b1
  have h3 : minI (N : Int) (w64 (sLen s + 1)) = (N : Int) := by
    rw [show w64 (sLen s + 1) = ((s.size + 1 : Nat) : Int) from w64_succ (by omega)]
    unfold minI
    rw [if_neg (by omega)]
  rw [h3, decide_eq_true (show (0 : Int) ≤ (N : Int) by omega), Int.toNat_natCast, decide_eq_true (show N ≤ apCap by show N ≤ 1073741824; omega)]
  simp only [cond, lett]
  rw [show w64 ((N : Int) - 1) = ((N - 1 : Nat) : Int) from by rw [show (N : Int) - 1 = ((N - 1 : Nat) : Int) by omega]; exact w64_ok (by omega) (by omega)]
  rw [hq] at r1
  show Option.bind ((strings_genSplit.tab (q + 1) q).1 (List.replicate N ByteArray.empty, s, s_2f, 0, ((N - 1 : Nat) : Int), ((0 : Nat) : Int), ())) _ = _
  rw [r1]
  rfl

theorem names_loop (m : Nat) (xs : List ByteArray) (hx : Shorts 10000000 xs) (hm : 10000000 ≤ m) : ∀ (d k i : Nat), i + d = xs.length →
    ∃ v : Int, (slices_IndexFunc_string_of_impl_PathOk_1.tab m (k + d + 1)).1 (xs, lLen xs, (i : Int), ()) = some (v, ()) ∧ decide (v ≥ 0) = !((xs.drop i).all (fun s => nameB (bL s)))
  | 0, k, i, h => by
    refine ⟨-1, ?_, ?_⟩
    · show slices_IndexFunc_string_of_impl_PathOk_1.b0 m (slices_IndexFunc_string_of_impl_PathOk_1.tab m k) xs (lLen xs) (i : Int) = _
      unfold slices_IndexFunc_string_of_impl_PathOk_1.b0
      rw [decide_eq_false (show ¬ (i : Int) < lLen xs by simp only [lLen]; omega)]
      rfl
    · rw [List.drop_eq_nil_of_le (by omega)]; rfl
  | d + 1, k, i, h => by
    obtain ⟨v, ih, hv⟩ := names_loop m xs hx hm d k (i + 1) (by omega)
    have hl := hx.1
    have hg := hx.get (i := i) (by omega)
    have hs : (slices_IndexFunc_string_of_impl_PathOk_1.tab m (k + (d + 1) + 1)).1 (xs, lLen xs, (i : Int), ()) = cond (!nameB (bL (xs.getD i ByteArray.empty))) (some ((i : Int), ())) (some (v, ())) := by
      show slices_IndexFunc_string_of_impl_PathOk_1.b0 m (slices_IndexFunc_string_of_impl_PathOk_1.tab m (k + d + 1)) xs (lLen xs) (i : Int) = _
      unfold slices_IndexFunc_string_of_impl_PathOk_1.b0
      rw [decide_eq_true (show (i : Int) < lLen xs by simp only [lLen]; omega), decide_eq_true (show (0 : Int) ≤ (i : Int) by omega),
        show getL xs (i : Int) ByteArray.empty = xs.getD i ByteArray.empty from rfl]
      rw [show impl_PathOk_1 m (xs.getD i ByteArray.empty, ()) = some (!nameB (bL (xs.getD i ByteArray.empty)), ()) from by
        show Option.bind (impl_nameOk m (xs.getD i ByteArray.empty, ())) _ = _
        rw [impl_name_v m _ (by omega) (by omega)]; rfl]
      simp only [cond, Option.bind_some]
      rw [w64_succ (by omega), ih]
    rw [hs, drop_at (l := xs) (i := i) (by omega) ByteArray.empty]
    simp only [List.all_cons]
    cases nameB (bL (xs.getD i ByteArray.empty)) with
    | true => exact ⟨v, rfl, by rw [hv]; simp⟩
    | false => exact ⟨(i : Int), rfl, by simp⟩

theorem impl_path_v (m : Nat) (s : ByteArray) (hs : s.size < 1000000) (hm : 10000000 ≤ m) : impl_PathOk m (s, ()) = some (pathB s, ()) := by
  obtain ⟨r, r1, r2⟩ := split_v m hm s hs
  have hl := bL_len s
  have hlen : r.length = (splA [] (bL s)).length := by rw [← r2, List.length_map]
  have hcl : (bL s).count 47 ≤ s.size := by rw [← hl]; exact List.count_le_length
  have hsh : Shorts 10000000 r := by
    refine ⟨by rw [hlen, splA_count]; omega, fun x hx => ?_⟩
    have : bL x ∈ splA [] (bL s) := by rw [← r2]; exact List.mem_map_of_mem hx
    have := splA_size _ _ _ this
    rw [bL_len, bL_len] at this
    simp at this
    omega
  show impl_PathOk.start m _ s = _
  unfold impl_PathOk.start pathB
  rw [r1]
  simp only [Option.bind_some]
  rw [show decide (lLen r ≤ 3) = decide ((splA [] (bL s)).length ≤ 3) by simp only [lLen, decide_eq_decide]; omega]
  obtain ⟨v, h, hv⟩ := names_loop m r hsh hm r.length (m - (r.length + 1)) 0 (by omega)
  have hr := hsh.1
  rw [show m - (r.length + 1) + r.length + 1 = m by omega] at h
  rw [show slices_ContainsFunc_string_of_impl_PathOk_1 m (r, ()) = some (decide (v ≥ 0), ()) from by
    show Option.bind (slices_IndexFunc_string_of_impl_PathOk_1 m (r, ())) _ = _
    rw [show slices_IndexFunc_string_of_impl_PathOk_1 m (r, ()) = some (v, ()) from h]; rfl]
  rw [hv, List.drop_zero, all_map, r2]
  cases decide ((splA [] (bL s)).length ≤ 3) <;> simp
end Go.Sx.Tryd
