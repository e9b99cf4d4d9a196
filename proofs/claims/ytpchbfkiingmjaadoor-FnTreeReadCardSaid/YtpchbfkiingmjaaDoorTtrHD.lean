/- A part of the pure law of FnTreeRead, over the printed functions: what they answer. No condition but those of each theorem. -/
import Derived.Test.YtpchbfkiingmjaaDoorTtrHB
namespace Go.Sx.Tryd
open Go Go.Proofs Go.Sx
set_option linter.unusedVariables false
set_option linter.unusedSimpArgs false

abbrev Tree := List (ByteArray × List ByteArray)
abbrev fz : ByteArray × List ByteArray := (ByteArray.empty, ([] : List ByteArray))

/-- x is the path of a folder on the way to y -/
def inB (x y : List UInt8) : Bool := decide (y.take (x.length + 1) = x ++ [47])

theorem inB_iff {x y : List UInt8} : inB x y = true ↔ ∃ r, y = x ++ 47 :: r := by
  unfold inB
  rw [decide_eq_true_eq]
  constructor
  · intro h
    refine ⟨y.drop (x.length + 1), ?_⟩
    have := List.take_append_drop (x.length + 1) y
    rw [h] at this
    rw [← this]
    simp
  · rintro ⟨r, rfl⟩
    rw [show x ++ 47 :: r = (x ++ [47]) ++ r by simp, List.take_left' (by simp)]

theorem take_succ_iff {x y : List UInt8} : (decide (x.length < y.length) && ((y.take x.length == x) && decide (y.getD x.length 0 = 47))) = inB x y := by
  rw [Bool.eq_iff_iff, inB_iff]
  simp only [Bool.and_eq_true, decide_eq_true_eq, beq_iff_eq]
  constructor
  · rintro ⟨h1, h2, h3⟩
    refine ⟨y.drop (x.length + 1), ?_⟩
    have := List.take_append_drop x.length y
    rw [h2, List.drop_eq_getElem_cons h1] at this
    rw [List.getD_eq_getElem?_getD, List.getElem?_eq_getElem h1] at h3
    rw [← this]
    simp only [Option.getD_some] at h3
    rw [h3]
    simp
  · rintro ⟨r, rfl⟩
    refine ⟨by simp, by simp, ?_⟩
    rw [List.getD_eq_getElem?_getD]
    simp

theorem in_v (m : Nat) (a b : ByteArray) : spec_l4In m (a, b, ()) = some (inB (bL a) (bL b), ()) := by
  have ha := bL_len a
  have hb := bL_len b
  show spec_l4In.start m _ a b = _
  unfold spec_l4In.start
  rw [← take_succ_iff, ha, hb]
  by_cases h : a.size < b.size
  · rw [decide_eq_true (show sLen b > sLen a by simp only [sLen]; omega), decide_eq_true h, decide_eq_true (show (0 : Int) ≤ sLen a by simp only [sLen]; omega), decide_eq_true (show sLen a ≤ (b.size : Int) by simp only [sLen]; omega), byteAt_bL]
    simp only [cond, lett, sLen, Int.toNat_natCast, Bool.true_and]
    rw [sEq_bL, bL_cut, List.drop_zero]
    rw [show ((((bL b).getD a.size 0).toNat : Int) == 47) = decide ((bL b).getD a.size 0 = 47) from by
      by_cases e : (bL b).getD a.size 0 = 47
      · rw [e]; rfl
      · rw [decide_eq_false e, beq_eq_false_iff_ne]
        intro h'
        apply e
        apply UInt8.toNat_inj.1
        have : ((47 : UInt8).toNat : Int) = 47 := rfl
        omega]
    cases (List.take a.size (bL b) == bL a) <;> simp
  · rw [decide_eq_false (show ¬ sLen b > sLen a by simp only [sLen]; omega), decide_eq_false h]
    rfl

theorem hasPrefix_v (m : Nat) (a b : ByteArray) : strings_HasPrefix m (a, b, ()) = some (decide ((bL a).take (bL b).length = bL b), ()) := by
  have ha := bL_len a
  have hb := bL_len b
  show Option.bind (internal_stringslite_HasPrefix.start m _ a b) _ = _
  unfold internal_stringslite_HasPrefix.start
  by_cases h : b.size ≤ a.size
  · rw [decide_eq_true (show sLen a ≥ sLen b by simp only [sLen]; omega), decide_eq_true (show (0 : Int) ≤ sLen b by simp only [sLen]; omega)]
    simp only [cond, lett, sLen, Int.toNat_natCast, Option.bind_some]
    rw [sEq_bL, bL_cut, List.drop_zero, hb]
    by_cases e : List.take b.size (bL a) = bL b
    · rw [decide_eq_true e, e]; simp
    · rw [decide_eq_false e, beq_eq_false_iff_ne.2 e]
  · rw [decide_eq_false (show ¬ sLen a ≥ sLen b by simp only [sLen]; omega)]
    simp only [cond, Option.bind_some]
    rw [decide_eq_false]
    intro e
    have := congrArg List.length e
    rw [List.length_take] at this
    omega

theorem pathIn_v (m : Nat) (hm : 10000000 ≤ m) (a b : ByteArray) (ha : a.size < 1000000) (hb : b.size < 1000000) : impl_PathIn m (a, b, ()) = some (pathB a && (pathB b && inB (bL a) (bL b)), ()) := by
  show impl_PathIn.start m _ a b = _
  unfold impl_PathIn.start
  rw [impl_path_v m a ha hm, impl_path_v m b hb hm, decide_eq_true (show a.size + s_2f.size ≤ cap by show a.size + 1 ≤ 140737488355328; omega), hasPrefix_v]
  have e : bL (ByteArray.append a s_2f) = bL a ++ [47] := by rw [bL_append]; rfl
  rw [e]
  simp only [Option.bind_some, List.length_append, List.length_cons, List.length_nil]
  unfold inB
  cases pathB a <;> cases pathB b <;> simp

/-- a tree whose paths and texts are not too large -/
structure TreeSz (t : Tree) : Prop where
  len : t.length < 1000001
  path : ∀ f ∈ t, f.1.size < 1000000
  text : ∀ f ∈ t, Shorts 10000000 f.2

theorem TreeSz.at {t : Tree} (h : TreeSz t) {i : Nat} (hi : i < t.length) : (t.getD i fz).1.size < 1000000 ∧ Shorts 10000000 (t.getD i fz).2 := by
  rw [List.getD_eq_getElem?_getD, List.getElem?_eq_getElem hi]
  exact ⟨h.path _ (List.getElem_mem hi), h.text _ (List.getElem_mem hi)⟩

abbrev pth (t : Tree) (i : Nat) : List UInt8 := bL (t.getD i fz).1

/-- what is told of one file at its own place -/
def fileB (t : Tree) (i : Nat) : Bool := pathB (t.getD i fz).1 && (textB (t.getD i fz).2 && (decide (i = 0) || Op.bytesLess (pth t (i - 1)) (pth t i)))

open Classical in
noncomputable def treeS (t : Tree) (i : Nat) : Bool := decide (∀ j, i ≤ j → j < t.length → fileB t j = true ∧ ∀ k, k < t.length → inB (pth t j) (pth t k) = false)
open Classical in
noncomputable def treeI (t : Tree) (i : Nat) : Bool := decide (∀ j, i ≤ j → j < t.length → fileB t j = true ∧ ∀ k, k < j → (pathB (t.getD k fz).1 && (pathB (t.getD j fz).1 && inB (pth t k) (pth t j))) = false)
noncomputable def treeB (t : Tree) : Bool := treeS t 0 && decide (t.length ≤ 8)

theorem asc {t : Tree} (h : ∀ j, j < t.length → fileB t j = true) : ∀ (d k : Nat), k + d + 1 < t.length → Op.bytesLess (pth t k) (pth t (k + d + 1)) = true
  | 0, k, hk => by
    have := h (k + 1) hk
    unfold fileB at this
    simp only [Bool.and_eq_true, Bool.or_eq_true, decide_eq_true_eq] at this
    rcases this.2.2 with h1 | h1
    · omega
    · exact h1
  | d + 1, k, hk => by
    have h1 := asc h d k (by omega)
    have h2 := asc h 0 (k + d + 1) (by omega)
    exact less_trans h1 h2

theorem tree_same (t : Tree) : treeS t 0 = treeI t 0 := by
  unfold treeS treeI
  rw [decide_eq_decide]
  constructor
  · intro h j h0 hj
    refine ⟨(h j h0 hj).1, fun k hk => ?_⟩
    rw [(h k (Nat.zero_le _) (by omega)).2 j hj]
    simp
  · intro h j h0 hj
    refine ⟨(h j h0 hj).1, fun k hk => ?_⟩
    have hp : ∀ i, i < t.length → pathB (t.getD i fz).1 = true := fun i hi => by
      have := (h i (Nat.zero_le _) hi).1
      unfold fileB at this
      simp only [Bool.and_eq_true] at this
      exact this.1
    cases hin : inB (pth t j) (pth t k) with
    | false => rfl
    | true =>
      obtain ⟨r, hr⟩ := inB_iff.1 hin
      rcases Nat.lt_trichotomy k j with hlt | heq | hgt
      · have h1 := asc (fun i hi => (h i (Nat.zero_le _) hi).1) (j - k - 1) k (by omega)
        rw [show k + (j - k - 1) + 1 = j by omega] at h1
        have h2 := less_prefix (pth t j) 47 r
        rw [← hr, less_asymm h1] at h2
        cases h2
      · subst heq
        have := congrArg List.length hr
        simp at this
      · have := (h k (Nat.zero_le _) hk).2 j hgt
        rw [hp j hj, hp k hk, hin] at this
        cases this

theorem in_loop (m : Nat) (t : Tree) (ht : t.length < 1000001) (i : Nat) (hi : i < t.length) (q : Nat) : ∀ (d k : Nat), k + d = t.length →
    ((∀ k', k ≤ k' → k' < t.length → inB (pth t i) (pth t k') = false) → (spec_l4Ok.tab m (q + d + 1)).2.1 (t, (i : Int), (k : Int), ()) = (spec_l4Ok.tab m q).1 (t, ((i + 1 : Nat) : Int), ())) ∧
    ((∃ k', k ≤ k' ∧ k' < t.length ∧ inB (pth t i) (pth t k') = true) → (spec_l4Ok.tab m (q + d + 1)).2.1 (t, (i : Int), (k : Int), ()) = some (false, ()))
  | 0, k, h => by
    have : (spec_l4Ok.tab m (q + 0 + 1)).2.1 (t, (i : Int), (k : Int), ()) = (spec_l4Ok.tab m q).1 (t, ((i + 1 : Nat) : Int), ()) := by
      show spec_l4Ok.b1 m (spec_l4Ok.tab m q) t (i : Int) (k : Int) = _
      unfold spec_l4Ok.b1
      rw [decide_eq_false (show ¬ (k : Int) < lLen t by simp only [lLen]; omega), w64_succ (i := i) (by omega)]
      rfl
    exact ⟨fun _ => this, fun ⟨k', h1, h2, _⟩ => by omega⟩
  | d + 1, k, h => by
    obtain ⟨ih1, ih2⟩ := in_loop m t ht i hi q d (k + 1) (by omega)
    have hb : (spec_l4Ok.tab m (q + (d + 1) + 1)).2.1 (t, (i : Int), (k : Int), ()) = cond (inB (pth t i) (pth t k)) (some (false, ())) ((spec_l4Ok.tab m (q + d + 1)).2.1 (t, (i : Int), ((k + 1 : Nat) : Int), ())) := by
      show spec_l4Ok.b1 m (spec_l4Ok.tab m (q + d + 1)) t (i : Int) (k : Int) = _
      unfold spec_l4Ok.b1
      rw [decide_eq_true (show (k : Int) < lLen t by simp only [lLen]; omega), decide_eq_true (show (0 : Int) ≤ (i : Int) by omega), decide_eq_true (show (i : Int) < lLen t by simp only [lLen]; omega), decide_eq_true (show (0 : Int) ≤ (k : Int) by omega), w64_succ (by omega)]
      simp only [cond, lett]
      rw [in_v]
      rfl
    rw [hb]
    cases hin : inB (pth t i) (pth t k) with
    | true =>
      refine ⟨fun hh => ?_, fun _ => rfl⟩
      rw [hh k (Nat.le_refl _) (by omega)] at hin; cases hin
    | false =>
      refine ⟨fun hh => ih1 (fun k' h1 h2 => hh k' (by omega) h2), fun ⟨k', h1, h2, h3⟩ => ih2 ⟨k', ?_, h2, h3⟩⟩
      rcases Nat.eq_or_lt_of_le h1 with e | e
      · subst e; rw [hin] at h3; cases h3
      · omega

theorem treeS_step {t : Tree} {i : Nat} (hi : i < t.length) : treeS t i = (fileB t i && ((@decide (∀ k, k < t.length → inB (pth t i) (pth t k) = false) (Classical.propDecidable _)) && treeS t (i + 1))) := by
  unfold treeS
  rw [Bool.eq_iff_iff]
  simp only [Bool.and_eq_true, decide_eq_true_eq]
  constructor
  · intro h
    exact ⟨(h i (Nat.le_refl _) hi).1, (h i (Nat.le_refl _) hi).2, fun j h1 h2 => h j (by omega) h2⟩
  · rintro ⟨h1, h2, h3⟩ j hij hj
    rcases Nat.eq_or_lt_of_le hij with e | e
    · subst e; exact ⟨h1, h2⟩
    · exact h3 j e hj

open Classical in
theorem spec_tree_loop (m : Nat) (t : Tree) (ht : TreeSz t) (hm : 10000000 ≤ m) : ∀ (d q i : Nat), i + d = t.length →
    (spec_l4Ok.tab m (q + (t.length + 4) * d + 1)).1 (t, (i : Int), ()) = some (treeS t i && decide (t.length ≤ 8), ())
  | 0, q, i, h => by
    show spec_l4Ok.b0 m (spec_l4Ok.tab m q) t (i : Int) = _
    unfold spec_l4Ok.b0
    rw [decide_eq_false (show ¬ (i : Int) < lLen t by simp only [lLen]; omega)]
    have : treeS t i = true := by
      unfold treeS
      rw [decide_eq_true_eq]
      intro j h1 h2; omega
    rw [this]
    simp only [cond, lLen, Bool.true_and]
    rw [show decide ((t.length : Int) ≤ 8) = decide (t.length ≤ 8) by simp only [decide_eq_decide]; omega]
  | d + 1, q, i, h => by
    have hlen := ht.len
    have hi : i < t.length := by omega
    have ih := spec_tree_loop m t ht hm d q (i + 1) (by omega)
    obtain ⟨hp, hx⟩ := ht.at hi
    generalize hQ : q + (t.length + 4) * d + 1 = Q at ih
    have hf : q + (t.length + 4) * (d + 1) + 1 = Q + t.length + 1 + 1 + 1 + 1 := by rw [Nat.mul_succ]; omega
    rw [hf]
    have g : ∀ b, (spec_l4Ok.tab m (Q + t.length + 1 + 1 + 1)).2.2.1 (t, (i : Int), b, ()) = cond b (some (false, ())) ((spec_l4Ok.tab m (Q + t.length + 1)).2.1 (t, (i : Int), ((0 : Nat) : Int), ())) := fun b => by
      show spec_l4Ok.b2 m (spec_l4Ok.tab m (Q + t.length + 1 + 1)) t (i : Int) b = _
      unfold spec_l4Ok.b2
      rfl
    have hb0 : spec_l4Ok.b0 m (spec_l4Ok.tab m (Q + t.length + 1 + 1 + 1)) t (i : Int) = cond (!fileB t i) (some (false, ())) ((spec_l4Ok.tab m (Q + t.length + 1)).2.1 (t, (i : Int), ((0 : Nat) : Int), ())) := by
      unfold spec_l4Ok.b0
      rw [decide_eq_true (show (i : Int) < lLen t by simp only [lLen]; omega), decide_eq_true (show (0 : Int) ≤ (i : Int) by omega)]
      simp only [cond, lett]
      rw [show getL t (i : Int) (ByteArray.empty, ([] : List ByteArray)) = t.getD i fz from rfl, spec_path_v m _ hp hm, spec_text_v m _ hx hm]
      simp only [Option.bind_some, g]
      unfold fileB
      cases pathB (t.getD i fz).1 with
      | false => rfl
      | true =>
        cases textB (t.getD i fz).2 with
        | false => rfl
        | true =>
          by_cases hz : i = 0
          · subst hz
            rfl
          · rw [decide_eq_true (show (i : Int) > 0 by omega), show w64 ((i : Int) - 1) = ((i - 1 : Nat) : Int) from by rw [show (i : Int) - 1 = ((i - 1 : Nat) : Int) by omega]; exact w64_ok (by omega) (by omega),
              decide_eq_true (show (0 : Int) ≤ ((i - 1 : Nat) : Int) by omega), decide_eq_true (show ((i - 1 : Nat) : Int) < lLen t by simp only [lLen]; omega), decide_eq_false hz]
            rw [show getL t ((i - 1 : Nat) : Int) (ByteArray.empty, ([] : List ByteArray)) = t.getD (i - 1) fz from rfl, sLt_bL, sEq_bL, le_not_less]
            rfl
    show spec_l4Ok.b0 m (spec_l4Ok.tab m (Q + t.length + 1 + 1 + 1)) t (i : Int) = _
    rw [hb0, treeS_step hi]
    cases fileB t i with
    | false => rfl
    | true =>
      obtain ⟨h1, h2⟩ := in_loop m t ht.len i hi Q t.length 0 (by omega)
      by_cases hall : ∀ k, k < t.length → inB (pth t i) (pth t k) = false
      · show (spec_l4Ok.tab m (Q + t.length + 1)).2.1 (t, (i : Int), ((0 : Nat) : Int), ()) = _
        rw [h1 (fun k' _ h' => hall k' h'), ih]
        rw [@decide_eq_true _ (Classical.propDecidable _) hall]
        rfl
      · show (spec_l4Ok.tab m (Q + t.length + 1)).2.1 (t, (i : Int), ((0 : Nat) : Int), ()) = _
        have : ∃ k, k < t.length ∧ inB (pth t i) (pth t k) = true := by
          apply Classical.byContradiction
          intro hno
          apply hall
          intro k hk
          cases hin : inB (pth t i) (pth t k) with
          | false => rfl
          | true => exact absurd ⟨k, hk, hin⟩ hno
        obtain ⟨k, hk, hin⟩ := this
        rw [h2 ⟨k, Nat.zero_le _, hk, hin⟩]
        rw [@decide_eq_false _ (Classical.propDecidable _) hall]
        rfl

theorem spec_tree_v (m : Nat) (t : Tree) (ht : TreeSz t) (hm : 10000000000000 ≤ m) : spec_l4Ok m (t, ()) = some (treeB t, ()) := by
  have hl := ht.len
  have : (t.length + 4) * t.length ≤ 1000004 * 1000001 := Nat.mul_le_mul (by omega) (by omega)
  have h := spec_tree_loop m t ht (by omega) t.length (m - ((t.length + 4) * t.length + 1)) 0 (by omega)
  rw [show m - ((t.length + 4) * t.length + 1) + (t.length + 4) * t.length + 1 = m by omega] at h
  exact h

/-! ### impl -/
open Classical in
theorem any_loop (m : Nat) (hm : 10000000 ≤ m) (t : Tree) (ht : TreeSz t) (x : ByteArray) (y : List ByteArray) (hx : x.size < 1000000) : ∀ (d k i : Nat), i + d = t.length →
    ∃ v : Int, (slices_IndexFunc_File_of_impl_TreeOk_1.tab m (k + d + 1)).1 (x, y, t, lLen t, (i : Int), ()) = some (x, y, v, ()) ∧
      decide (v ≥ 0) = !decide (∀ j, i ≤ j → j < t.length → (pathB (t.getD j fz).1 && (pathB x && inB (pth t j) (bL x))) = false)
  | 0, k, i, h => by
    refine ⟨-1, ?_, ?_⟩
    · show slices_IndexFunc_File_of_impl_TreeOk_1.b0 m (slices_IndexFunc_File_of_impl_TreeOk_1.tab m k) x y t (lLen t) (i : Int) = _
      unfold slices_IndexFunc_File_of_impl_TreeOk_1.b0
      rw [decide_eq_false (show ¬ (i : Int) < lLen t by simp only [lLen]; omega)]
      rfl
    · rw [decide_eq_true (show ∀ j, i ≤ j → j < t.length → _ from fun j h1 h2 => by omega)]
      decide
  | d + 1, k, i, h => by
    obtain ⟨v, ih, hv⟩ := any_loop m hm t ht x y hx d k (i + 1) (by omega)
    have hl := ht.len
    obtain ⟨hp, _⟩ := ht.at (i := i) (by omega)
    have hs : (slices_IndexFunc_File_of_impl_TreeOk_1.tab m (k + (d + 1) + 1)).1 (x, y, t, lLen t, (i : Int), ()) = cond (pathB (t.getD i fz).1 && (pathB x && inB (pth t i) (bL x))) (some (x, y, (i : Int), ())) (some (x, y, v, ())) := by
      show slices_IndexFunc_File_of_impl_TreeOk_1.b0 m (slices_IndexFunc_File_of_impl_TreeOk_1.tab m (k + d + 1)) x y t (lLen t) (i : Int) = _
      unfold slices_IndexFunc_File_of_impl_TreeOk_1.b0
      rw [decide_eq_true (show (i : Int) < lLen t by simp only [lLen]; omega), decide_eq_true (show (0 : Int) ≤ (i : Int) by omega)]
      simp only [cond, lett]
      rw [show getL t (i : Int) (ByteArray.empty, ([] : List ByteArray)) = t.getD i fz from rfl]
      rw [show impl_TreeOk_1_v0 m (x, y, (t.getD i fz).1, (t.getD i fz).2, ()) = some (x, y, pathB (t.getD i fz).1 && (pathB x && inB (pth t i) (bL x)), ()) from by
        show Option.bind (impl_PathIn m ((t.getD i fz).1, x, ())) _ = _
        rw [pathIn_v m hm _ _ hp hx]; rfl]
      simp only [Option.bind_some]
      rw [w64_succ (by omega), ih]
    rw [hs]
    cases hc : (pathB (t.getD i fz).1 && (pathB x && inB (pth t i) (bL x))) with
    | true =>
      refine ⟨(i : Int), rfl, ?_⟩
      rw [decide_eq_true (show (i : Int) ≥ 0 by omega), decide_eq_false]
      · rfl
      · intro hh
        rw [hh i (Nat.le_refl _) (by omega)] at hc; cases hc
    | false =>
      refine ⟨v, rfl, ?_⟩
      rw [hv]
      congr 1
      rw [decide_eq_decide]
      constructor
      · intro hh j h1 h2
        rcases Nat.eq_or_lt_of_le h1 with e | e
        · subst e; exact hc
        · exact hh j e h2
      · intro hh j h1 h2
        exact hh j (by omega) h2

theorem take_getD {t : Tree} {i j : Nat} (hj : j < i) : (t.take i).getD j fz = t.getD j fz := by
  rw [List.getD_eq_getElem?_getD, List.getD_eq_getElem?_getD, List.getElem?_take, if_pos hj]

open Classical in
theorem impl_tree_loop (m : Nat) (t : Tree) (ht : TreeSz t) (hm : 10000000 ≤ m) : ∀ (d q i : Nat), i + d = t.length →
    (impl_TreeOk.tab m (q + 2 * d + 1)).1 (t, t, lLen t, (i : Int), ()) = some (treeI t i && decide (t.length ≤ 8), ())
  | 0, q, i, h => by
    show impl_TreeOk.b0 m (impl_TreeOk.tab m q) t t (lLen t) (i : Int) = _
    unfold impl_TreeOk.b0
    rw [decide_eq_false (show ¬ (i : Int) < lLen t by simp only [lLen]; omega)]
    have : treeI t i = true := by
      unfold treeI
      rw [decide_eq_true_eq]
      intro j h1 h2; omega
    rw [this]
    simp only [cond, lLen, Bool.true_and]
    rw [show decide ((t.length : Int) ≤ 8) = decide (t.length ≤ 8) by simp only [decide_eq_decide]; omega]
  | d + 1, q, i, h => by
    have hlen := ht.len
    have hi : i < t.length := by omega
    have ih := impl_tree_loop m t ht hm d q (i + 1) (by omega)
    obtain ⟨hp, hx⟩ := ht.at hi
    have hcut : TreeSz (t.take i) := ⟨by rw [List.length_take]; omega, fun f hf => ht.path f (List.mem_of_mem_take hf), fun f hf => ht.text f (List.mem_of_mem_take hf)⟩
    have hcl : (t.take i).length = i := by rw [List.length_take]; omega
    obtain ⟨v, hv1, hv2⟩ := any_loop m hm (t.take i) hcut (t.getD i fz).1 (t.getD i fz).2 hp i (m - (i + 1)) 0 (by omega)
    rw [show m - (i + 1) + i + 1 = m by omega] at hv1
    have g : ∀ b, (impl_TreeOk.tab m (q + 2 * d + 1 + 1)).2.1 ((t.getD i fz).1, (t.getD i fz).2, t, (i : Int), t, lLen t, (i : Int), b, ()) = cond b (some (false, ())) (cond (decide (v ≥ 0)) (some (false, ())) (some (treeI t (i + 1) && decide (t.length ≤ 8), ()))) := fun b => by
      show impl_TreeOk.b1 m (impl_TreeOk.tab m (q + 2 * d + 1)) (t.getD i fz).1 (t.getD i fz).2 t (i : Int) t (lLen t) (i : Int) b = _
      unfold impl_TreeOk.b1
      rw [decide_eq_true (show (0 : Int) ≤ (i : Int) by omega), decide_eq_true (show (i : Int) ≤ (t.length : Int) by omega), w64_succ (by omega), ih]
      rw [show slices_ContainsFunc_File_of_impl_TreeOk_1 m ((t.getD i fz).1, (t.getD i fz).2, cutL t 0 (Int.toNat (i : Int)), ()) = some ((t.getD i fz).1, (t.getD i fz).2, decide (v ≥ 0), ()) from by
        show Option.bind (slices_IndexFunc_File_of_impl_TreeOk_1 m ((t.getD i fz).1, (t.getD i fz).2, cutL t 0 (Int.toNat (i : Int)), ())) _ = _
        rw [show slices_IndexFunc_File_of_impl_TreeOk_1 m ((t.getD i fz).1, (t.getD i fz).2, cutL t 0 (Int.toNat (i : Int)), ()) = some ((t.getD i fz).1, (t.getD i fz).2, v, ()) from hv1]
        rfl]
      rfl
    have hb0 : impl_TreeOk.b0 m (impl_TreeOk.tab m (q + 2 * d + 1 + 1)) t t (lLen t) (i : Int) = cond (!fileB t i) (some (false, ())) (cond (decide (v ≥ 0)) (some (false, ())) (some (treeI t (i + 1) && decide (t.length ≤ 8), ()))) := by
      unfold impl_TreeOk.b0
      rw [decide_eq_true (show (i : Int) < lLen t by simp only [lLen]; omega), decide_eq_true (show (0 : Int) ≤ (i : Int) by omega)]
      simp only [cond, lett]
      rw [show getL t (i : Int) (ByteArray.empty, ([] : List ByteArray)) = t.getD i fz from rfl, impl_path_v m _ hp hm, impl_text_v m _ hx hm]
      simp only [Option.bind_some, g]
      unfold fileB
      cases pathB (t.getD i fz).1 with
      | false => rfl
      | true =>
        cases textB (t.getD i fz).2 with
        | false => rfl
        | true =>
          by_cases hz : i = 0
          · subst hz
            rfl
          · rw [decide_eq_true (show (i : Int) > 0 by omega), show w64 ((i : Int) - 1) = ((i - 1 : Nat) : Int) from by rw [show (i : Int) - 1 = ((i - 1 : Nat) : Int) by omega]; exact w64_ok (by omega) (by omega),
              decide_eq_true (show (0 : Int) ≤ ((i - 1 : Nat) : Int) by omega), decide_eq_true (show ((i - 1 : Nat) : Int) < lLen t by simp only [lLen]; omega), decide_eq_false hz]
            rw [show getL t ((i - 1 : Nat) : Int) (ByteArray.empty, ([] : List ByteArray)) = t.getD (i - 1) fz from rfl, sLt_bL]
            rfl
    show impl_TreeOk.b0 m (impl_TreeOk.tab m (q + 2 * d + 1 + 1)) t t (lLen t) (i : Int) = _
    rw [hb0]
    have hstep : treeI t i = (fileB t i && (!decide (v ≥ 0) && treeI t (i + 1))) := by
      rw [hv2, Bool.not_not]
      unfold treeI
      rw [Bool.eq_iff_iff]
      simp only [Bool.and_eq_true, decide_eq_true_eq]
      constructor
      · intro hh
        refine ⟨(hh i (Nat.le_refl _) hi).1, fun j h1 h2 => ?_, fun j h1 h2 => hh j (by omega) h2⟩
        rw [hcl] at h2
        have := (hh i (Nat.le_refl _) hi).2 j h2
        simp only [pth]
        rw [show (t.take i).getD j fz = t.getD j fz from take_getD h2]
        exact this
      · rintro ⟨h1, h2, h3⟩ j hij hj
        rcases Nat.eq_or_lt_of_le hij with e | e
        · subst e
          refine ⟨h1, fun k hk => ?_⟩
          have := h2 k (Nat.zero_le _) (by rw [hcl]; exact hk)
          simp only [pth] at this
          rw [show (t.take i).getD k fz = t.getD k fz from take_getD hk] at this
          exact this
        · exact h3 j e hj
    rw [hstep]
    cases fileB t i <;> cases decide (v ≥ 0) <;> simp

theorem impl_tree_v (m : Nat) (t : Tree) (ht : TreeSz t) (hm : 10000000000000 ≤ m) : impl_TreeOk m (t, ()) = some (treeB t, ()) := by
  have hl := ht.len
  have h := impl_tree_loop m t ht (by omega) t.length (m - (2 * t.length + 1)) 0 (by omega)
  rw [show m - (2 * t.length + 1) + 2 * t.length + 1 = m by omega] at h
  unfold treeB
  rw [tree_same]
  exact h
end Go.Sx.Tryd
