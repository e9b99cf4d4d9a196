/- A part of the pure law of FnExactSeekAll, over the printed functions: what they answer. No condition but those of each theorem. -/
import Derived.Test.YtafchokjmboemaaGreatDoorSkaHI
import Derived.Test.YtafchokjmboemaaGreatDoorSkaHD
namespace Go.Sx.Tryz
open Go Go.Proofs Go.Sx
set_option linter.unusedVariables false
set_option linter.unusedSimpArgs false

open Classical in
noncomputable def hitB (w : ByteArray) (s : ByteArray) : Bool := decide (∃ j, hitAt (bL s) (bL w) j)
noncomputable def textHit (w : ByteArray) (xs : List ByteArray) : Bool := xs.any (hitB w)
noncomputable def seekL (w : ByteArray) (t : Tree) : List ByteArray := (t.filter fun f => textHit w f.2).map (·.1)

/-- short lines -/
def Lines (xs : List ByteArray) : Prop := xs.length ≤ 100 ∧ ∀ s ∈ xs, s.size ≤ 100
/-- a tree of few files, each of short lines -/
def Flat (n : Nat) (t : Tree) : Prop := t.length ≤ n ∧ ∀ f ∈ t, Lines f.2
theorem Flat.at {n : Nat} {t : Tree} (h : Flat n t) {i : Nat} (hi : i < t.length) : Lines (t.getD i fz).2 := h.2 _ (mem_getD hi)
open Classical in
theorem tree_flat {t : Tree} (h : treeB t = true) : Flat 8 t := by
  unfold treeB at h
  simp only [Bool.and_eq_true, decide_eq_true_eq] at h
  refine ⟨h.2, fun f hf => ?_⟩
  obtain ⟨i, hi, rfl⟩ := List.getElem_of_mem hf
  have h1 := h.1
  unfold treeS at h1
  have h1 := (of_decide_eq_true h1 i (Nat.zero_le _) hi).1
  unfold fileB textB at h1
  simp only [Bool.and_eq_true, decide_eq_true_eq, List.all_eq_true] at h1
  have e : t.getD i fz = t[i] := by rw [List.getD_eq_getElem?_getD, List.getElem?_eq_getElem hi]; rfl
  rw [e] at h1
  refine ⟨by have := h1.2.1.1; omega, fun s hs => ?_⟩
  have := h1.2.1.2 s hs
  unfold lineB at this
  simp only [Bool.and_eq_true, decide_eq_true_eq] at this
  rw [← bL_len]; have := this.2; omega
theorem getD_mem {α : Type} {l : List α} {i : Nat} {z : α} (h : i < l.length) : l.getD i z ∈ l := by
  rw [List.getD_eq_getElem?_getD, List.getElem?_eq_getElem h]; exact List.getElem_mem h

open Classical in
theorem text_has_loop (m : Nat) (hm : 10000 ≤ m) (w : ByteArray) (hw : nameB (bL w) = true) (xs : List ByteArray) (hx : Lines xs) : ∀ (d k i : Nat), i + d = xs.length →
    (spec_l22Text.tab m (k + d + 1)).1 (xs, w, (i : Int), ()) = some ((xs.drop i).any (hitB w), ())
  | 0, k, i, h => by
    show spec_l22Text.b0 m (spec_l22Text.tab m k) xs w (i : Int) = _
    unfold spec_l22Text.b0
    rw [decide_eq_false (show ¬ (i : Int) < lLen xs by simp only [lLen]; omega), List.drop_eq_nil_of_le (by omega)]
    rfl
  | d + 1, k, i, h => by
    have hl := hx.1
    have ih := text_has_loop m hm w hw xs hx d k (i + 1) (by omega)
    have hs := hx.2 _ (getD_mem (z := ByteArray.empty) (show i < xs.length by omega))
    show spec_l22Text.b0 m (spec_l22Text.tab m (k + d + 1)) xs w (i : Int) = _
    unfold spec_l22Text.b0
    rw [decide_eq_true (show (i : Int) < lLen xs by simp only [lLen]; omega), decide_eq_true (show (0 : Int) ≤ (i : Int) by omega), drop_at (l := xs) (i := i) (by omega) ByteArray.empty,
      show getL xs (i : Int) ByteArray.empty = xs.getD i ByteArray.empty from rfl, has_v m hm _ w (by omega) hw, w64_succ (by omega), ih]
    simp only [cond, Option.bind_some, List.any_cons]
    rw [show decide (∃ j, hitAt (bL (xs.getD i ByteArray.empty)) (bL w) j) = hitB w (xs.getD i ByteArray.empty) from rfl]
    cases hitB w (xs.getD i ByteArray.empty) <;> simp

theorem text_has_v (m : Nat) (hm : 10000 ≤ m) (w : ByteArray) (hw : nameB (bL w) = true) (xs : List ByteArray) (hx : Lines xs) : spec_l22Text m (xs, w, ()) = some (textHit w xs, ()) := by
  have hl := hx.1
  have h := text_has_loop m hm w hw xs hx xs.length (m - (xs.length + 1)) 0 (by omega)
  rw [show m - (xs.length + 1) + xs.length + 1 = m by omega] at h
  exact h

theorem text_con_loop (m : Nat) (hm : 10000 ≤ m) (w : ByteArray) (hw2 : w.size ≤ 100) (hw : nameB (bL w) = true) (xs : List ByteArray) (hx : Lines xs) : ∀ (d k i : Nat), i + d = xs.length →
    ∃ v : Int, (slices_IndexFunc_string_of_impl_seek_1.tab m (k + d + 1)).1 (w, xs, lLen xs, (i : Int), ()) = some (w, v, ()) ∧ decide (v ≥ 0) = (xs.drop i).any (hitB w)
  | 0, k, i, h => by
    refine ⟨-1, ?_, ?_⟩
    · show slices_IndexFunc_string_of_impl_seek_1.b0 m (slices_IndexFunc_string_of_impl_seek_1.tab m k) w xs (lLen xs) (i : Int) = _
      unfold slices_IndexFunc_string_of_impl_seek_1.b0
      rw [decide_eq_false (show ¬ (i : Int) < lLen xs by simp only [lLen]; omega)]
      rfl
    · rw [List.drop_eq_nil_of_le (by omega)]; rfl
  | d + 1, k, i, h => by
    have hl := hx.1
    obtain ⟨v, ih, hv⟩ := text_con_loop m hm w hw2 hw xs hx d k (i + 1) (by omega)
    have hs := hx.2 _ (getD_mem (z := ByteArray.empty) (show i < xs.length by omega))
    have hb : (slices_IndexFunc_string_of_impl_seek_1.tab m (k + (d + 1) + 1)).1 (w, xs, lLen xs, (i : Int), ()) = cond (hitB w (xs.getD i ByteArray.empty)) (some (w, (i : Int), ())) (some (w, v, ())) := by
      show slices_IndexFunc_string_of_impl_seek_1.b0 m (slices_IndexFunc_string_of_impl_seek_1.tab m (k + d + 1)) w xs (lLen xs) (i : Int) = _
      unfold slices_IndexFunc_string_of_impl_seek_1.b0
      rw [decide_eq_true (show (i : Int) < lLen xs by simp only [lLen]; omega), decide_eq_true (show (0 : Int) ≤ (i : Int) by omega),
        show getL xs (i : Int) ByteArray.empty = xs.getD i ByteArray.empty from rfl]
      rw [show impl_seek_1_v0 m (w, xs.getD i ByteArray.empty, ()) = some (w, hitB w (xs.getD i ByteArray.empty), ()) from by
        show Option.bind (impl_contains m (xs.getD i ByteArray.empty, w, ())) _ = _
        rw [con_v m hm _ w (by omega) (by omega) hw]; rfl]
      simp only [cond, Option.bind_some]
      rw [w64_succ (by omega), ih]
    rw [hb, drop_at (l := xs) (i := i) (by omega) ByteArray.empty]
    simp only [List.any_cons]
    cases hitB w (xs.getD i ByteArray.empty) with
    | false => exact ⟨v, rfl, by rw [hv]; simp⟩
    | true => exact ⟨(i : Int), rfl, by simp⟩

theorem text_con_v (m : Nat) (hm : 10000 ≤ m) (w : ByteArray) (hw2 : w.size ≤ 100) (hw : nameB (bL w) = true) (xs : List ByteArray) (hx : Lines xs) : slices_ContainsFunc_string_of_impl_seek_1 m (w, xs, ()) = some (w, textHit w xs, ()) := by
  have hl := hx.1
  obtain ⟨v, h, hv⟩ := text_con_loop m hm w hw2 hw xs hx xs.length (m - (xs.length + 1)) 0 (by omega)
  rw [show m - (xs.length + 1) + xs.length + 1 = m by omega] at h
  show Option.bind (slices_IndexFunc_string_of_impl_seek_1 m (w, xs, ())) _ = _
  rw [show slices_IndexFunc_string_of_impl_seek_1 m (w, xs, ()) = some (w, v, ()) from h]
  show some (w, decide (v ≥ 0), ()) = _
  rw [hv, List.drop_zero]
  rfl

theorem seek_take {w : ByteArray} {t : Tree} {i : Nat} (hi : i < t.length) : seekL w (t.take (i + 1)) = cond (textHit w (t.getD i fz).2) (seekL w (t.take i) ++ [(t.getD i fz).1]) (seekL w (t.take i)) := by
  have : t.getD i fz = t[i] := by rw [List.getD_eq_getElem?_getD, List.getElem?_eq_getElem hi]; rfl
  unfold seekL
  rw [List.take_add_one, List.getElem?_eq_getElem hi, List.filter_append, List.map_append, this]
  simp only [Option.toList_some, List.filter_cons, List.filter_nil]
  cases textHit w t[i].2 <;> simp
theorem seek_len (w : ByteArray) (t : Tree) : (seekL w t).length ≤ t.length := by
  unfold seekL
  rw [List.length_map]
  exact List.length_filter_le _ _

theorem spec_seek_loop (m : Nat) (hm : 10000 ≤ m) (n : Nat) (t : Tree) (ht : Flat n t) (hn : n ≤ 1000) (w : ByteArray) (hw : nameB (bL w) = true) : ∀ (d k i : Nat), i + d = t.length →
    (spec_SeekTree.tab m (k + d + 1)).1 (seekL w (t.take i), t, w, (i : Int), ()) = some (seekL w t, ())
  | 0, k, i, h => by
    show spec_SeekTree.b0 m (spec_SeekTree.tab m k) (seekL w (t.take i)) t w (i : Int) = _
    unfold spec_SeekTree.b0
    rw [decide_eq_false (show ¬ (i : Int) < lLen t by simp only [lLen]; omega), List.take_of_length_le (by omega)]
    rfl
  | d + 1, k, i, h => by
    have hl := ht.1
    have hf := ht.at (i := i) (by omega)
    have ih := spec_seek_loop m hm n t ht hn w hw d k (i + 1) (by omega)
    have hsl := seek_len w (t.take i)
    rw [List.length_take] at hsl
    show spec_SeekTree.b0 m (spec_SeekTree.tab m (k + d + 1)) (seekL w (t.take i)) t w (i : Int) = _
    unfold spec_SeekTree.b0
    rw [decide_eq_true (show (i : Int) < lLen t by simp only [lLen]; omega), decide_eq_true (show (0 : Int) ≤ (i : Int) by omega), w64_succ (by omega)]
    simp only [cond, lett]
    rw [show getL t (i : Int) (ByteArray.empty, ([] : List ByteArray)) = t.getD i fz from rfl, text_has_v m hm w hw _ hf,
      decide_eq_true (show List.length (seekL w (t.take i)) + List.length ([(t.getD i fz).1] : List ByteArray) ≤ apCap by show (seekL w (t.take i)).length + 1 ≤ 1073741824; omega)]
    rw [seek_take (by omega)] at ih
    simp only [Option.bind_some]
    cases hc : textHit w (t.getD i fz).2 <;> rw [hc] at ih <;> exact ih

theorem impl_seek_loop (m : Nat) (hm : 10000 ≤ m) (n : Nat) (t : Tree) (ht : Flat n t) (hn : n ≤ 1000) (w : ByteArray) (hw2 : w.size ≤ 100) (hw : nameB (bL w) = true) : ∀ (d k i : Nat), i + d = t.length →
    (impl_seek.tab m (k + d + 1)).1 (w, seekL w (t.take i), t, lLen t, (i : Int), ()) = some (seekL w t, ())
  | 0, k, i, h => by
    show impl_seek.b0 m (impl_seek.tab m k) w (seekL w (t.take i)) t (lLen t) (i : Int) = _
    unfold impl_seek.b0
    rw [decide_eq_false (show ¬ (i : Int) < lLen t by simp only [lLen]; omega), List.take_of_length_le (by omega)]
    rfl
  | d + 1, k, i, h => by
    have hl := ht.1
    have hf := ht.at (i := i) (by omega)
    have ih := impl_seek_loop m hm n t ht hn w hw2 hw d k (i + 1) (by omega)
    have hsl := seek_len w (t.take i)
    rw [List.length_take] at hsl
    show impl_seek.b0 m (impl_seek.tab m (k + d + 1)) w (seekL w (t.take i)) t (lLen t) (i : Int) = _
    unfold impl_seek.b0
    rw [decide_eq_true (show (i : Int) < lLen t by simp only [lLen]; omega), decide_eq_true (show (0 : Int) ≤ (i : Int) by omega), w64_succ (by omega)]
    simp only [cond, lett]
    rw [show getL t (i : Int) (ByteArray.empty, ([] : List ByteArray)) = t.getD i fz from rfl, text_con_v m hm w hw2 hw _ hf,
      decide_eq_true (show List.length (seekL w (t.take i)) + List.length ([(t.getD i fz).1] : List ByteArray) ≤ apCap by show (seekL w (t.take i)).length + 1 ≤ 1073741824; omega)]
    rw [seek_take (by omega)] at ih
    simp only [Option.bind_some]
    cases hc : textHit w (t.getD i fz).2 <;> rw [hc] at ih <;> exact ih

/-- what both say -/
noncomputable def seekV (w : ByteArray) (t : Tree) : List ByteArray := cond (treeB t && nameB (bL w)) (seekL w t) []

theorem spec_seek_v (m : Nat) (hm : 10000000000000 ≤ m) {t : Tree} (ht : TreeSz t) (w : ByteArray) (hw2 : w.size ≤ 100) : spec_SeekTree m (t, w, ()) = some (seekV w t, ()) := by
  show spec_SeekTree.start m (spec_SeekTree.tab m m) t w = _
  unfold spec_SeekTree.start seekV
  rw [spec_tree_v m t ht hm, spec_name_v m w (by omega) (by omega)]
  simp only [Option.bind_some]
  cases hB : treeB t with
  | false => rfl
  | true =>
    cases hw : nameB (bL w) with
    | false => rfl
    | true =>
      have hl := (tree_flat hB).1
      have h := spec_seek_loop m (by omega) 8 t (tree_flat hB) (by omega) w hw t.length (m - (t.length + 1)) 0 (by omega)
      rw [show m - (t.length + 1) + t.length + 1 = m by omega] at h
      exact h

/-- where the program has looked at the tree and the word ahead -/
theorem impl_seekL_v (m : Nat) (hm : 10000000000000 ≤ m) {t : Tree} (ht : treeB t = true) (w : ByteArray) (hw2 : w.size ≤ 100) (hw : nameB (bL w) = true) : impl_seek m (t, w, ()) = some (seekL w t, ()) := by
  have hl := (tree_flat ht).1
  have h := impl_seek_loop m (by omega) 8 t (tree_flat ht) (by omega) w hw2 hw t.length (m - (t.length + 1)) 0 (by omega)
  rw [show m - (t.length + 1) + t.length + 1 = m by omega] at h
  exact h
end Go.Sx.Tryz
