/- A part of the pure law of FnViewFree, over the printed functions: what they answer. No condition but those of each theorem. -/
import Derived.Test.YtafchokjmboemaaDoorVfeHH
namespace Go.Sx.Tryd
open Go Go.Proofs Go.Sx
set_option linter.unusedVariables false
set_option linter.unusedSimpArgs false

abbrev Fil := ByteArray × List ByteArray
def ltF (f g : Fil) : Bool := Op.bytesLess (bL f.1) (bL g.1)
def leF (f g : Fil) : Prop := ltF g f = false
def Asc (t : Tree) : Prop := t.Pairwise leF

theorem leF_trans {a b c : Fil} (h1 : leF a b) (h2 : leF b c) : leF a c := by
  unfold leF ltF at *
  cases h : Op.bytesLess (bL c.1) (bL a.1) with
  | false => rfl
  | true =>
    rcases less_total (bL a.1) (bL b.1) with h3 | h3 | h3
    · rw [less_trans h h3] at h2; cases h2
    · rw [h3] at h; rw [h] at h2; cases h2
    · rw [h3] at h1; cases h1
theorem leF_of_lt {a b : Fil} (h : ltF a b = true) : leF a b := less_asymm h

theorem cmp_v (m : Nat) (f g : Fil) : ∃ v : Int, impl_sorted_1 m (f.1, f.2, g.1, g.2, ()) = some (v, ()) ∧ decide (v < 0) = ltF f g := by
  have hn : ∀ s, cmp_isNaN_string m (s, ()) = some (false, ()) := fun s => by
    show cmp_isNaN_string.start m _ s = _
    unfold cmp_isNaN_string.start
    rw [sEq_self]; rfl
  have hc : cmp_Compare_string m (f.1, g.1, ()) = cond (ltF f g) (some (-1, ())) (cond (!(ltF f g || sEq f.1 g.1)) (some (1, ())) (some (0, ()))) := by
    show cmp_Compare_string.start m _ f.1 g.1 = _
    unfold cmp_Compare_string.start
    rw [hn, hn, sLt_bL]
    rfl
  have hs : impl_sorted_1 m (f.1, f.2, g.1, g.2, ()) = Option.bind (cmp_Compare_string m (f.1, g.1, ())) fun r1 => some (r1.1, ()) := rfl
  rw [hs, hc]
  cases h : ltF f g with
  | true => exact ⟨-1, rfl, rfl⟩
  | false =>
    cases h2 : (!(false || sEq f.1 g.1)) with
    | true => exact ⟨1, by simp only [cond]; rfl, rfl⟩
    | false => exact ⟨0, by simp only [cond]; rfl, rfl⟩

theorem getD_mid {A D : Tree} {x : Fil} : (A ++ x :: D).getD A.length fz = x := by
  rw [List.getD_eq_getElem?_getD, List.getElem?_append_right (Nat.le_refl _), Nat.sub_self]; rfl
theorem set_mid : ∀ {A D : Tree} {x v : Fil}, (A ++ x :: D).set A.length v = A ++ v :: D
  | [], _, _, _ => rfl
  | a :: A, D, x, v => by
    show a :: (A ++ x :: D).set A.length v = _
    rw [set_mid]; rfl

abbrev insT (m k : Nat) := slices_insertionSortCmpFunc_File_of_impl_sorted_1.tab m k

theorem ins_in (m N : Nat) (b i : Nat) (hN : N ≤ 1000) (hi : i < 1000) : ∀ (d : Nat) (A : Tree) (k : Nat) (x : Fil) (B C : Tree), A.length = d → Asc (A ++ B) → (∀ y ∈ B, ltF x y = true) → A.length + 1 + (B ++ C).length = N →
    ∃ k' P, k ≤ k' ∧ (insT m (k + d + 1)).2.1 (A ++ x :: (B ++ C), (N : Int), 0, (b : Int), (i : Int), (d : Int), ()) = (insT m k').1 (P ++ C, (N : Int), 0, (b : Int), ((i + 1 : Nat) : Int), ()) ∧ P.Perm (A ++ x :: B) ∧ Asc P
  | 0, A, k, x, B, C, hA, hs, hx, hl => by
    obtain rfl : A = [] := List.eq_nil_of_length_eq_zero hA
    refine ⟨k, x :: B, Nat.le_refl _, ?_, List.Perm.refl _, List.pairwise_cons.2 ⟨fun y hy => leF_of_lt (hx y hy), hs⟩⟩
    show slices_insertionSortCmpFunc_File_of_impl_sorted_1.b1 m (insT m k) _ _ 0 _ _ ((0 : Nat) : Int) = _
    unfold slices_insertionSortCmpFunc_File_of_impl_sorted_1.b1
    rw [decide_eq_false (show ¬ ((0 : Nat) : Int) > 0 by omega), w64_succ (by omega)]
    rfl
  | d + 1, A, k, x, B, C, hA, hs, hx, hl => by
    obtain ⟨A', y, rfl⟩ : ∃ A' y, A = A' ++ [y] := ⟨A.dropLast, A.getLast (by intro e; rw [e] at hA; cases hA), (List.dropLast_concat_getLast _).symm⟩
    have hA' : A'.length = d := by simpa using hA
    have hNl : d + 1 + 1 + (B ++ C).length = N := by rw [hA] at hl; exact hl
    have e1 : A' ++ [y] ++ x :: (B ++ C) = A' ++ y :: x :: (B ++ C) := by simp
    have e2 : A' ++ [y] ++ x :: (B ++ C) = (A' ++ [y]) ++ x :: (B ++ C) := rfl
    have g1 : (A' ++ [y] ++ x :: (B ++ C)).getD (d + 1) fz = x := by rw [← hA]; exact getD_mid
    have g2 : (A' ++ [y] ++ x :: (B ++ C)).getD d fz = y := by rw [e1, ← hA']; exact getD_mid
    have g3 : ((A' ++ [y] ++ x :: (B ++ C)).set (d + 1) y).set d x = A' ++ x :: ((y :: B) ++ C) := by
      rw [← hA, set_mid, ← hA']
      rw [show A' ++ [y] ++ y :: (B ++ C) = A' ++ y :: (y :: (B ++ C)) by simp, set_mid]
      rfl
    obtain ⟨v, hv1, hv2⟩ := cmp_v m x y
    have hb : (insT m (k + (d + 1) + 1)).2.1 (A' ++ [y] ++ x :: (B ++ C), (N : Int), 0, (b : Int), (i : Int), ((d + 1 : Nat) : Int), ()) =
        cond (ltF x y) ((insT m (k + d + 1)).2.1 (A' ++ x :: ((y :: B) ++ C), (N : Int), 0, (b : Int), (i : Int), (d : Int), ())) ((insT m (k + d + 1)).1 (A' ++ [y] ++ x :: (B ++ C), (N : Int), 0, (b : Int), ((i + 1 : Nat) : Int), ())) := by
      show slices_insertionSortCmpFunc_File_of_impl_sorted_1.b1 m (insT m (k + d + 1)) _ _ 0 _ _ ((d + 1 : Nat) : Int) = _
      unfold slices_insertionSortCmpFunc_File_of_impl_sorted_1.b1
      rw [show w64 (((d + 1 : Nat) : Int) - 1) = (d : Int) from by rw [show ((d + 1 : Nat) : Int) - 1 = (d : Int) by omega]; exact w64_ok (by omega) (by omega)]
      rw [decide_eq_true (show ((d + 1 : Nat) : Int) > 0 by omega), decide_eq_true (show (0 : Int) ≤ ((d + 1 : Nat) : Int) by omega), show ((Int.toNat (N : Int) : Nat) : Int) = (N : Int) from rfl,
        decide_eq_true (show ((d + 1 : Nat) : Int) < (N : Int) by omega), decide_eq_true (show (0 : Int) ≤ (d : Int) by omega), decide_eq_true (show (d : Int) < (N : Int) by omega), w64_succ (by omega)]
      simp only [cond, lett, Int.toNat_natCast]
      rw [show (ByteArray.empty, ([] : List ByteArray)) = fz from rfl, g1, g2, hv1]
      simp only [Option.bind_some]
      rw [hv2]
      rw [show ((x.1, x.2) : Fil) = x from rfl, show ((y.1, y.2) : Fil) = y from rfl, g3]
    rw [hb]
    cases hlt : ltF x y with
    | true =>
      obtain ⟨k', P, h1, h2, h3, h4⟩ := ins_in m N b i hN hi d A' k x (y :: B) C hA' (by
        rw [show A' ++ y :: B = A' ++ [y] ++ B by simp]; exact hs) (fun z hz => by
        rcases List.mem_cons.1 hz with e | e
        · rw [e]; exact hlt
        · exact hx z e) (by rw [hA']; simp at hNl ⊢; omega)
      refine ⟨k', P, h1, h2, h3.trans ?_, h4⟩
      rw [show A' ++ [y] ++ x :: B = A' ++ (y :: x :: B) by simp]
      exact List.Perm.append_left _ (List.Perm.swap y x B)
    | false =>
      refine ⟨k + d + 1, A' ++ [y] ++ x :: B, by omega, ?_, List.Perm.refl _, ?_⟩
      · show (insT m (k + d + 1)).1 _ = _
        rw [show A' ++ [y] ++ x :: B ++ C = A' ++ [y] ++ x :: (B ++ C) by simp]
      · obtain ⟨p1, p2, p3⟩ := List.pairwise_append.1 hs
        refine List.pairwise_append.2 ⟨p1, List.pairwise_cons.2 ⟨fun z hz => leF_of_lt (hx z hz), p2⟩, fun a ha z hz => ?_⟩
        rcases List.mem_cons.1 hz with e | e
        · subst e
          rcases List.mem_append.1 ha with h | h
          · exact leF_trans ((List.pairwise_append.1 p1).2.2 a h y (by simp)) hlt
          · rw [List.mem_singleton.1 h]; exact hlt
        · exact p3 a ha z e

theorem ins_out (m N : Nat) (hN : N ≤ 20) : ∀ (C : Tree) (k : Nat) (S : Tree), Asc S → S.length + C.length = N →
    ∃ R, (insT m (k + 30 * C.length + 30)).1 (S ++ C, (N : Int), 0, (N : Int), (S.length : Int), ()) = some (R, ()) ∧ R.Perm (S ++ C) ∧ Asc R
  | [], k, S, hs, hl => by
    refine ⟨S ++ [], ?_, List.Perm.refl _, by rw [List.append_nil]; exact hs⟩
    simp at hl
    show slices_insertionSortCmpFunc_File_of_impl_sorted_1.b0 m (insT m (k + 29)) _ _ 0 _ _ = _
    unfold slices_insertionSortCmpFunc_File_of_impl_sorted_1.b0
    rw [decide_eq_false (show ¬ (S.length : Int) < (N : Int) by omega)]
    rfl
  | x :: C, k, S, hs, hl => by
    simp only [List.length_cons] at hl
    obtain ⟨k', P, h1, h2, h3, h4⟩ := ins_in m N N S.length (by omega) (by omega) S.length S (k + 30 * C.length + 58 - S.length) x [] C rfl (by rw [List.append_nil]; exact hs) (fun y hy => by cases hy) (by simp; omega)
    obtain ⟨k2, hk2⟩ : ∃ k2, k' = k2 + 30 * C.length + 30 := ⟨k' - (30 * C.length + 30), by omega⟩
    have hP : P.length = S.length + 1 := by rw [h3.length_eq]; simp
    obtain ⟨R, r1, r2, r3⟩ := ins_out m N hN C k2 P h4 (by omega)
    refine ⟨R, ?_, r2.trans ?_, r3⟩
    · rw [show k + 30 * (x :: C).length + 30 = (k + 30 * C.length + 58 - S.length + S.length + 1) + 1 by simp only [List.length_cons]; omega]
      show slices_insertionSortCmpFunc_File_of_impl_sorted_1.b0 m (insT m (k + 30 * C.length + 58 - S.length + S.length + 1)) _ _ 0 _ _ = _
      unfold slices_insertionSortCmpFunc_File_of_impl_sorted_1.b0
      rw [decide_eq_true (show (S.length : Int) < (N : Int) by omega)]
      simp only [cond]
      rw [show ((Int.toNat (N : Int) : Nat) : Int) = (N : Int) from rfl]
      refine h2.trans ?_
      rw [hk2, ← hP]
      exact r1
    · have := List.Perm.append_right C h3
      rw [show S ++ x :: [] ++ C = S ++ x :: C by simp] at this
      exact this

theorem sorted_v (m : Nat) (hm : 10000000 ≤ m) (L : Tree) (hL : L.length ≤ 19) : ∃ R, impl_sorted m (L, ()) = some (R, ()) ∧ R.Perm L ∧ Asc R := by
  have hins : ∃ R, slices_insertionSortCmpFunc_File_of_impl_sorted_1 m (L, (L.length : Int), 0, (L.length : Int), ()) = some (R, ()) ∧ R.Perm L ∧ Asc R := by
    cases L with
    | nil =>
      refine ⟨[], ?_, List.Perm.refl _, List.Pairwise.nil⟩
      obtain ⟨q, rfl⟩ : ∃ q, m = q + 1 := ⟨m - 1, by omega⟩
      rfl
    | cons x C =>
      simp only [List.length_cons] at hL
      obtain ⟨R, r1, r2, r3⟩ := ins_out m (C.length + 1) (by omega) C (m - (30 * C.length + 30)) [x] (List.pairwise_singleton _ _) (by simp; omega)
      rw [show m - (30 * C.length + 30) + 30 * C.length + 30 = m by omega] at r1
      refine ⟨R, ?_, r2, r3⟩
      show slices_insertionSortCmpFunc_File_of_impl_sorted_1.start m (insT m m) (x :: C) ((C.length + 1 : Nat) : Int) 0 ((C.length + 1 : Nat) : Int) = _
      unfold slices_insertionSortCmpFunc_File_of_impl_sorted_1.start
      rw [show ((Int.toNat ((C.length + 1 : Nat) : Int) : Nat) : Int) = ((C.length + 1 : Nat) : Int) from rfl, show w64 ((0 : Int) + 1) = ((1 : Nat) : Int) from w64_ok (by omega) (by omega)]
      exact r1
  obtain ⟨R, h1, h2, h3⟩ := hins
  refine ⟨R, ?_, h2, h3⟩
  have hs : slices_stableCmpFunc_File_of_impl_sorted_1 m (L, (L.length : Int), (L.length : Int), ()) = some (R, ()) := by
    obtain ⟨q, rfl⟩ : ∃ q, m = q + 1 + 1 := ⟨m - 2, by omega⟩
    show slices_stableCmpFunc_File_of_impl_sorted_1.b0 (q + 1 + 1) (slices_stableCmpFunc_File_of_impl_sorted_1.tab (q + 1 + 1) (q + 1)) L (L.length : Int) (L.length : Int) 20 0 20 = _
    unfold slices_stableCmpFunc_File_of_impl_sorted_1.b0
    rw [decide_eq_false (show ¬ (20 : Int) ≤ (L.length : Int) by omega), show ((Int.toNat (L.length : Int) : Nat) : Int) = (L.length : Int) from rfl, h1]
    simp only [cond, Option.bind_some]
    show slices_stableCmpFunc_File_of_impl_sorted_1.b1 (q + 1 + 1) (slices_stableCmpFunc_File_of_impl_sorted_1.tab (q + 1 + 1) q) R (L.length : Int) (L.length : Int) 20 = _
    unfold slices_stableCmpFunc_File_of_impl_sorted_1.b1
    rw [decide_eq_false (show ¬ (20 : Int) < (L.length : Int) by omega)]
    rfl
  show Option.bind (slices_SortStableFunc_File_of_impl_sorted_1 m (L, (L.length : Int), ())) _ = _
  rw [show slices_SortStableFunc_File_of_impl_sorted_1 m (L, (L.length : Int), ()) = some (R, ()) from by
    show Option.bind (slices_stableCmpFunc_File_of_impl_sorted_1 m (L, (L.length : Int), (L.length : Int), ())) _ = _
    rw [hs]; rfl]
  rfl

/-! ### Trees, told by their files -/
open Classical in
theorem treeB_iff {t : Tree} : treeB t = true ↔ t.length ≤ 8 ∧ t.Pairwise (fun f g => ltF f g = true) ∧ (∀ f ∈ t, pathB f.1 = true ∧ textB f.2 = true) ∧ ∀ f ∈ t, ∀ g ∈ t, inB (bL f.1) (bL g.1) = false := by
  have gd : ∀ i (hi : i < t.length), t.getD i fz = t[i] := fun i hi => by rw [List.getD_eq_getElem?_getD, List.getElem?_eq_getElem hi]; rfl
  unfold treeB treeS
  rw [Bool.and_eq_true, decide_eq_true_eq, decide_eq_true_eq]
  constructor
  · rintro ⟨h1, h2⟩
    have hf := fun i hi => (h1 i (Nat.zero_le _) hi).1
    refine ⟨h2, List.pairwise_iff_getElem.2 fun i j hi hj hij => ?_, fun f hf' => ?_, fun f hf' g hg => ?_⟩
    · have := asc hf (j - i - 1) i (by omega)
      rw [show i + (j - i - 1) + 1 = j by omega, pth, pth, gd i hi, gd j hj] at this
      exact this
    · obtain ⟨i, hi, rfl⟩ := List.getElem_of_mem hf'
      have := hf i hi
      unfold fileB at this
      simp only [Bool.and_eq_true] at this
      rw [gd i hi] at this
      exact ⟨this.1, this.2.1⟩
    · obtain ⟨i, hi, rfl⟩ := List.getElem_of_mem hf'
      obtain ⟨j, hj, rfl⟩ := List.getElem_of_mem hg
      have := (h1 i (Nat.zero_le _) hi).2 j hj
      rw [pth, pth, gd i hi, gd j hj] at this
      exact this
  · rintro ⟨h1, h2, h3, h4⟩
    refine ⟨fun i _ hi => ⟨?_, fun k hk => ?_⟩, h1⟩
    · have ha := h3 _ (List.getElem_mem hi)
      unfold fileB
      rw [pth, pth, gd i hi, ha.1, ha.2]
      by_cases h0 : i = 0
      · subst h0; rfl
      · have := List.pairwise_iff_getElem.1 h2 (i - 1) i (by omega) hi (by omega)
        rw [gd (i - 1) (by omega)]
        show (true && (true && (decide (i = 0) || ltF t[i - 1] t[i]))) = true
        rw [this]; simp
    · rw [pth, pth, gd i hi, gd k hk]
      exact h4 _ (List.getElem_mem hi) _ (List.getElem_mem hk)

theorem treeB_filter {t : Tree} (h : treeB t = true) (p : Fil → Bool) : treeB (t.filter p) = true := by
  obtain ⟨h1, h2, h3, h4⟩ := treeB_iff.1 h
  exact treeB_iff.2 ⟨Nat.le_trans (List.length_filter_le _ _) h1, h2.filter p, fun f hf => h3 f (List.mem_filter.1 hf).1, fun f hf g hg => h4 f (List.mem_filter.1 hf).1 g (List.mem_filter.1 hg).1⟩

theorem TreeSz.filter {t : Tree} (h : TreeSz t) (p : Fil → Bool) : TreeSz (t.filter p) := by
  refine ⟨Nat.lt_of_le_of_lt (List.length_filter_le _ _) h.len, ?_, ?_⟩
  · intro f hf; exact h.2 f (List.mem_filter.1 hf).1
  · intro f hf; exact h.3 f (List.mem_filter.1 hf).1

/-- what is in order, and has the files of a tree, is that tree -/
theorem asc_tree {R u : Tree} (hu : treeB u = true) (hp : R.Perm u) (hR : Asc R) : R = u := by
  obtain ⟨_, h2, _, _⟩ := treeB_iff.1 hu
  refine List.Perm.eq_of_pairwise (le := leF) (fun a b ha hb h3 h4 => ?_) hR (h2.imp fun h => leF_of_lt h) hp
  have ha := hp.mem_iff.1 ha
  obtain ⟨i, hi, rfl⟩ := List.getElem_of_mem ha
  obtain ⟨j, hj, rfl⟩ := List.getElem_of_mem hb
  rcases Nat.lt_trichotomy i j with h | h | h
  · have := List.pairwise_iff_getElem.1 h2 i j hi hj h
    unfold leF at h4; rw [this] at h4; cases h4
  · subst h; rfl
  · have := List.pairwise_iff_getElem.1 h2 j i hj hi h
    unfold leF at h3; rw [this] at h3; cases h3

/-! ### Views -/
noncomputable def viewV (a : List ByteArray) (t : Tree) : Tree := cond (treeB t && viewB a) (t.filter fun f => visB a f.1) []

theorem view_paths {a : List ByteArray} (h : viewB a = true) : ∀ q ∈ a, pathB q = true := by
  unfold viewB at h
  simp only [Bool.and_eq_true, List.all_eq_true] at h
  exact h.2

theorem impl_viewof_v (m : Nat) (hm : 10000000000000 ≤ m) (t : Tree) (ht : TreeSz t) (a : List ByteArray) (ha : PathsSz a) : impl_ViewOf m (t, a, ()) = some (viewV a t, ()) := by
  show impl_ViewOf.start m _ t a = _
  unfold impl_ViewOf.start viewV
  rw [impl_tree_v m t ht hm, impl_paths_v m a ha (by omega)]
  simp only [Option.bind_some]
  cases h1 : treeB t with
  | false => rfl
  | true =>
    cases h2 : viewB a with
    | false => rfl
    | true =>
      rw [copyTree_v m (by omega) t ht]
      simp only [Bool.not_true, cond, Option.bind_some]
      rw [delA_v m (by omega) t ht (tree_paths h1) a ha (view_paths h2)]
      simp

theorem spec_view_loop (m : Nat) (hm : 10000000 ≤ m) (t : Tree) (ht : TreeSz t) (a : List ByteArray) (ha : PathsSz a) : ∀ (d k i : Nat), i + d = t.length →
    (spec_ViewOf.tab m (k + d + 1)).1 ((t.take i).filter (fun f => visB a f.1), t, a, (i : Int), ()) = some (t.filter (fun f => visB a f.1), ())
  | 0, k, i, h => by
    show spec_ViewOf.b0 m (spec_ViewOf.tab m k) _ t a (i : Int) = _
    unfold spec_ViewOf.b0
    rw [decide_eq_false (show ¬ (i : Int) < lLen t by simp only [lLen]; omega), List.take_of_length_le (by omega)]
    rfl
  | d + 1, k, i, h => by
    have hl := ht.len
    have hi : i < t.length := by omega
    have ih := spec_view_loop m hm t ht a ha d k (i + 1) (by omega)
    have hlen : ((t.take i).filter (fun f => visB a f.1)).length ≤ i := Nat.le_trans (List.length_filter_le _ _) (by rw [List.length_take]; omega)
    show spec_ViewOf.b0 m (spec_ViewOf.tab m (k + d + 1)) _ t a (i : Int) = _
    unfold spec_ViewOf.b0
    rw [decide_eq_true (show (i : Int) < lLen t by simp only [lLen]; omega), decide_eq_true (show (0 : Int) ≤ (i : Int) by omega), w64_succ (by omega)]
    simp only [cond, lett]
    rw [show List.getD t (Int.toNat (i : Int)) (ByteArray.empty, ([] : List ByteArray)) = t.getD i fz from rfl, spec_in_v m a ha _ hm]
    simp only [Option.bind_some]
    rw [filter_take hi] at ih
    cases hv : visB a (t.getD i fz).1 with
    | false => rw [hv] at ih; exact ih
    | true =>
      rw [hv] at ih
      rw [decide_eq_true (show List.length ((t.take i).filter (fun f => visB a f.1)) + List.length ([((t.getD i fz).1, (t.getD i fz).2)] : List (ByteArray × List ByteArray)) ≤ apCap by show _ + 1 ≤ 1073741824; omega)]
      exact ih

/-- the same, where the tree that is handed in is small -/
theorem spec_viewof_v (m : Nat) (hm : 10000000000000 ≤ m) (t : Tree) (ht : TreeSz t) (hc : treeB t = true → spec_l4Copy m (t, ()) = some (t, ())) (a : List ByteArray) (ha : PathsSz a) : spec_ViewOf m (t, a, ()) = some (viewV a t, ()) := by
  have hl := ht.len
  show spec_ViewOf.start m (spec_ViewOf.tab m m) t a = _
  unfold spec_ViewOf.start viewV
  rw [spec_tree_v m t ht hm, spec_paths_v m a ha (by omega)]
  simp only [Option.bind_some]
  cases h1 : treeB t with
  | false => rfl
  | true =>
    cases h2 : viewB a with
    | false => rfl
    | true =>
      rw [hc h1]
      simp only [Bool.not_true, cond, Option.bind_some, Bool.and_true]
      have h := spec_view_loop m (by omega) t ht a ha t.length (m - (t.length + 1)) 0 (by omega)
      rw [show m - (t.length + 1) + t.length + 1 = m by omega] at h
      exact h

/-- how a view is put -/
theorem viewput_ok (m : Nat) (hm : 10000000000000 ≤ m) (t : Tree) (ht : TreeSz t) (hok : treeB t = true) (a : List ByteArray) (ha : PathsSz a) (hv : viewB a = true) (w : Tree) (hw : TreeSz w) (hwok : treeB w = true) (hvis : ∀ f ∈ w, visB a f.1 = true)
    (u : Tree) (hu : TreeSz u) (huok : treeB u = true) (hp : u.Perm (t.filter (fun f => !visB a f.1) ++ w)) : impl_ViewPut m (t, a, w, ()) = some (u, true, ()) := by
  have hwl := hw.len
  have hpa := view_paths hv
  show impl_ViewPut.start m _ t a w = _
  unfold impl_ViewPut.start
  rw [impl_tree_v m t ht hm, impl_paths_v m a ha (by omega), impl_tree_v m w hw hm, hok, hv, hwok]
  simp only [Option.bind_some, Bool.not_true, cond]
  have hc : ∀ i, i < w.length → impl_ViewPut_1_v0 m (a, (w.getD i fz).1, (w.getD i fz).2, ()) = some (a, !visB a (w.getD i fz).1, ()) := fun i hi => by
    show Option.bind (impl_visible m (a, (w.getD i fz).1, ())) _ = _
    rw [impl_vis_v m (by omega) a ha hpa _ (hw.at hi).1 (tree_paths hwok _ (mem_getD hi))]
    rfl
  obtain ⟨v, h1, h2⟩ := idx_gen w (fun f => !visB a f.1) (fun k i => (slices_IndexFunc_File_of_impl_ViewPut_1.tab m k).1 (a, w, lLen w, (i : Int), ())) (fun v => (a, v, ()))
    (fun k i hi => by
      show slices_IndexFunc_File_of_impl_ViewPut_1.b0 m (slices_IndexFunc_File_of_impl_ViewPut_1.tab m k) a w (lLen w) (i : Int) = _
      unfold slices_IndexFunc_File_of_impl_ViewPut_1.b0
      rw [decide_eq_true (show (i : Int) < lLen w by simp only [lLen]; omega), decide_eq_true (show (0 : Int) ≤ (i : Int) by omega), w64_succ (by omega)]
      simp only [cond, lett]
      rw [show getL w (i : Int) (ByteArray.empty, ([] : List ByteArray)) = w.getD i fz from rfl, hc i hi]
      rfl)
    (fun k => by
      show slices_IndexFunc_File_of_impl_ViewPut_1.b0 m (slices_IndexFunc_File_of_impl_ViewPut_1.tab m k) a w (lLen w) (w.length : Int) = _
      unfold slices_IndexFunc_File_of_impl_ViewPut_1.b0
      rw [decide_eq_false (show ¬ (w.length : Int) < lLen w by simp only [lLen]; omega)]
      rfl) w.length (m - (w.length + 1)) 0 (by omega)
  rw [show m - (w.length + 1) + w.length + 1 = m by omega] at h1
  have hv1 : v = -1 := by
    rcases h2 with ⟨e, _⟩ | ⟨q, e, _, h4, _, h6⟩
    · exact e
    · rw [hvis _ (mem_getD h4)] at h6; cases h6
  rw [show slices_ContainsFunc_File_of_impl_ViewPut_1 m (a, w, ()) = some (a, false, ()) from by
    show Option.bind (slices_IndexFunc_File_of_impl_ViewPut_1 m (a, w, ())) _ = _
    rw [show slices_IndexFunc_File_of_impl_ViewPut_1 m (a, w, ()) = some (a, v, ()) from h1, hv1]; rfl]
  simp only [Option.bind_some]
  rw [copyTree_v m (by omega) t ht, copyTree_v m (by omega) w hw]
  simp only [Option.bind_some]
  rw [delB_v m (by omega) t ht (tree_paths hok) a ha hpa]
  simp only [Option.bind_some]
  have ht8 := (treeB_iff.1 hok).1
  have hw8 := (treeB_iff.1 hwok).1
  have hfl : (t.filter (fun f => !(visB a f.1))).length ≤ t.length := List.length_filter_le _ _
  obtain ⟨R, r1, r2, r3⟩ := sorted_v m (by omega) (t.filter (fun f => !(visB a f.1)) ++ w) (by rw [List.length_append]; omega)
  have hRu : R = u := asc_tree huok (r2.trans hp.symm) r3
  subst hRu
  rw [decide_eq_true (show List.length (t.filter (fun f => !(visB a f.1))) + List.length w ≤ apCap by show _ ≤ 1073741824; omega), show List.append (t.filter (fun f => !(visB a f.1))) w = t.filter (fun f => !(visB a f.1)) ++ w from rfl, r1]
  simp only [Option.bind_some]
  rw [impl_tree_v m R hu hm, huok]
  rfl
end Go.Sx.Tryd
