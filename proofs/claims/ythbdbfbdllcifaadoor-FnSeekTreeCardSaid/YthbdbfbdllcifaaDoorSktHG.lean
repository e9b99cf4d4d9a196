/- A part of the pure law of FnSeekTree, over the printed functions: what they answer. No condition but those of each theorem. -/
import Derived.Test.YthbdbfbdllcifaaDoorSktHF
import Derived.Test.YthbdbfbdllcifaaDoorSktHE
namespace Go.Sx.Tryd
open Go Go.Proofs Go.Sx
set_option linter.unusedVariables false
set_option linter.unusedSimpArgs false

open Classical in
noncomputable def hitB (w : ByteArray) (s : ByteArray) : Bool := decide (∃ j, hitAt (bL s) (bL w) j)
noncomputable def textHit (w : ByteArray) (xs : List ByteArray) : Bool := xs.any (hitB w)
noncomputable def seekL (w : ByteArray) (t : Tree) : List ByteArray := (t.filter fun f => textHit w f.2).map (·.1)

/-- short lines -/
def Lines (xs : List ByteArray) : Prop := xs.length ≤ 100 ∧ ∀ s ∈ xs, s.size ≤ 100
theorem FileS.lines {f : ByteArray × List ByteArray} (h : FileS f) : Lines f.2 := ⟨by have := h.2.1; omega, fun s hs => by have := h.2.2 s hs; omega⟩
theorem getD_mem {α : Type} {l : List α} {i : Nat} {z : α} (h : i < l.length) : l.getD i z ∈ l := by
  rw [List.getD_eq_getElem?_getD, List.getElem?_eq_getElem h]; exact List.getElem_mem h

open Classical in
theorem text_has_loop (m : Nat) (hm : 10000 ≤ m) (w : ByteArray) (hw : nameB (bL w) = true) (xs : List ByteArray) (hx : Lines xs) : ∀ (d k i : Nat), i + d = xs.length →
    (spec_l22Text.tab m (k + d + 1)).1 (xs, w, (i : Int), ()) = some ((xs.drop i).any (hitB w), ())
  | 0, k, i, h => by
    show spec_l22Text.b0 m (spec_l22Text.tab m k) xs w (i : Int) = _
    unfold spec_l22Text.b0
    rw [decide_eq_false (show ¬ (i : Int) < lLen xs by simp only [lLen]; omega), List.drop_eq_nil_of_le (by omega)]
    rfl
  | d + 1, k, i, h => by
    have hl := hx.1
    have ih := text_has_loop m hm w hw xs hx d k (i + 1) (by omega)
    have hs := hx.2 _ (getD_mem (z := ByteArray.empty) (show i < xs.length by omega))
    show spec_l22Text.b0 m (spec_l22Text.tab m (k + d + 1)) xs w (i : Int) = _
    unfold spec_l22Text.b0
    rw [decide_eq_true (show (i : Int) < lLen xs by simp only [lLen]; omega), decide_eq_true (show (0 : Int) ≤ (i : Int) by omega), drop_at (l := xs) (i := i) (by omega) ByteArray.empty,
      show getL xs (i : Int) ByteArray.empty = xs.getD i ByteArray.empty from rfl, has_v m hm _ w (by omega) hw, w64_succ (by omega), ih]
    simp only [cond, Option.bind_some, List.any_cons]
    rw [show decide (∃ j, hitAt (bL (xs.getD i ByteArray.empty)) (bL w) j) = hitB w (xs.getD i ByteArray.empty) from rfl]
    cases hitB w (xs.getD i ByteArray.empty) <;> simp

theorem text_has_v (m : Nat) (hm : 10000 ≤ m) (w : ByteArray) (hw : nameB (bL w) = true) (xs : List ByteArray) (hx : Lines xs) : spec_l22Text m (xs, w, ()) = some (textHit w xs, ()) := by
  have hl := hx.1
  have h := text_has_loop m hm w hw xs hx xs.length (m - (xs.length + 1)) 0 (by omega)
  rw [show m - (xs.length + 1) + xs.length + 1 = m by omega] at h
  exact h

theorem text_con_loop (m : Nat) (hm : 10000 ≤ m) (w : ByteArray) (hw2 : w.size ≤ 100) (hw : nameB (bL w) = true) (xs : List ByteArray) (hx : Lines xs) : ∀ (d k i : Nat), i + d = xs.length →
    ∃ v : Int, (slices_IndexFunc_string_of_impl_seek_1.tab m (k + d + 1)).1 (w, xs, lLen xs, (i : Int), ()) = some (w, v, ()) ∧ decide (v ≥ 0) = (xs.drop i).any (hitB w)
  | 0, k, i, h => by
    refine ⟨-1, ?_, ?_⟩
    · show slices_IndexFunc_string_of_impl_seek_1.b0 m (slices_IndexFunc_string_of_impl_seek_1.tab m k) w xs (lLen xs) (i : Int) = _
      unfold slices_IndexFunc_string_of_impl_seek_1.b0
      rw [decide_eq_false (show ¬ (i : Int) < lLen xs by simp only [lLen]; omega)]
      rfl
    · rw [List.drop_eq_nil_of_le (by omega)]; rfl
  | d + 1, k, i, h => by
    have hl := hx.1
    obtain ⟨v, ih, hv⟩ := text_con_loop m hm w hw2 hw xs hx d k (i + 1) (by omega)
    have hs := hx.2 _ (getD_mem (z := ByteArray.empty) (show i < xs.length by omega))
    have hb : (slices_IndexFunc_string_of_impl_seek_1.tab m (k + (d + 1) + 1)).1 (w, xs, lLen xs, (i : Int), ()) = cond (hitB w (xs.getD i ByteArray.empty)) (some (w, (i : Int), ())) (some (w, v, ())) := by
      show slices_IndexFunc_string_of_impl_seek_1.b0 m (slices_IndexFunc_string_of_impl_seek_1.tab m (k + d + 1)) w xs (lLen xs) (i : Int) = _
      unfold slices_IndexFunc_string_of_impl_seek_1.b0
      rw [decide_eq_true (show (i : Int) < lLen xs by simp only [lLen]; omega), decide_eq_true (show (0 : Int) ≤ (i : Int) by omega),
        show getL xs (i : Int) ByteArray.empty = xs.getD i ByteArray.empty from rfl]
      rw [show impl_seek_1_v0 m (w, xs.getD i ByteArray.empty, ()) = some (w, hitB w (xs.getD i ByteArray.empty), ()) from by
        show Option.bind (impl_contains m (xs.getD i ByteArray.empty, w, ())) _ = _
        rw [con_v m hm _ w (by omega) (by omega) hw]; rfl]
      simp only [cond, Option.bind_some]
      rw [w64_succ (by omega), ih]
    rw [hb, drop_at (l := xs) (i := i) (by omega) ByteArray.empty]
    simp only [List.any_cons]
    cases hitB w (xs.getD i ByteArray.empty) with
    | false => exact ⟨v, rfl, by rw [hv]; simp⟩
    | true => exact ⟨(i : Int), rfl, by simp⟩

theorem text_con_v (m : Nat) (hm : 10000 ≤ m) (w : ByteArray) (hw2 : w.size ≤ 100) (hw : nameB (bL w) = true) (xs : List ByteArray) (hx : Lines xs) : slices_ContainsFunc_string_of_impl_seek_1 m (w, xs, ()) = some (w, textHit w xs, ()) := by
  have hl := hx.1
  obtain ⟨v, h, hv⟩ := text_con_loop m hm w hw2 hw xs hx xs.length (m - (xs.length + 1)) 0 (by omega)
  rw [show m - (xs.length + 1) + xs.length + 1 = m by omega] at h
  show Option.bind (slices_IndexFunc_string_of_impl_seek_1 m (w, xs, ())) _ = _
  rw [show slices_IndexFunc_string_of_impl_seek_1 m (w, xs, ()) = some (w, v, ()) from h]
  show some (w, decide (v ≥ 0), ()) = _
  rw [hv, List.drop_zero]
  rfl

theorem seek_take {w : ByteArray} {t : Tree} {i : Nat} (hi : i < t.length) : seekL w (t.take (i + 1)) = cond (textHit w (t.getD i fz).2) (seekL w (t.take i) ++ [(t.getD i fz).1]) (seekL w (t.take i)) := by
  have : t.getD i fz = t[i] := by rw [List.getD_eq_getElem?_getD, List.getElem?_eq_getElem hi]; rfl
  unfold seekL
  rw [List.take_add_one, List.getElem?_eq_getElem hi, List.filter_append, List.map_append, this]
  simp only [Option.toList_some, List.filter_cons, List.filter_nil]
  cases textHit w t[i].2 <;> simp
theorem seek_len (w : ByteArray) (t : Tree) : (seekL w t).length ≤ t.length := by
  unfold seekL
  rw [List.length_map]
  exact List.length_filter_le _ _

theorem spec_seek_loop (m : Nat) (hm : 10000 ≤ m) (n : Nat) (t : Tree) (ht : Small n t) (hn : n ≤ 1000) (w : ByteArray) (hw : nameB (bL w) = true) : ∀ (d k i : Nat), i + d = t.length →
    (spec_SeekTree.tab m (k + d + 1)).1 (seekL w (t.take i), t, w, (i : Int), ()) = some (seekL w t, ())
  | 0, k, i, h => by
    show spec_SeekTree.b0 m (spec_SeekTree.tab m k) (seekL w (t.take i)) t w (i : Int) = _
    unfold spec_SeekTree.b0
    rw [decide_eq_false (show ¬ (i : Int) < lLen t by simp only [lLen]; omega), List.take_of_length_le (by omega)]
    rfl
  | d + 1, k, i, h => by
    have hl := ht.1
    have hf := ht.at (i := i) (by omega)
    have ih := spec_seek_loop m hm n t ht hn w hw d k (i + 1) (by omega)
    have hsl := seek_len w (t.take i)
    rw [List.length_take] at hsl
    show spec_SeekTree.b0 m (spec_SeekTree.tab m (k + d + 1)) (seekL w (t.take i)) t w (i : Int) = _
    unfold spec_SeekTree.b0
    rw [decide_eq_true (show (i : Int) < lLen t by simp only [lLen]; omega), decide_eq_true (show (0 : Int) ≤ (i : Int) by omega), w64_succ (by omega)]
    simp only [cond, lett]
    rw [show getL t (i : Int) (ByteArray.empty, ([] : List ByteArray)) = t.getD i fz from rfl, text_has_v m hm w hw _ hf.lines,
      decide_eq_true (show List.length (seekL w (t.take i)) + List.length ([(t.getD i fz).1] : List ByteArray) ≤ apCap by show (seekL w (t.take i)).length + 1 ≤ 1073741824; omega)]
    rw [seek_take (by omega)] at ih
    simp only [Option.bind_some]
    cases hc : textHit w (t.getD i fz).2 <;> rw [hc] at ih <;> exact ih

theorem impl_seek_loop (m : Nat) (hm : 10000 ≤ m) (n : Nat) (t : Tree) (ht : Small n t) (hn : n ≤ 1000) (w : ByteArray) (hw2 : w.size ≤ 100) (hw : nameB (bL w) = true) : ∀ (d k i : Nat), i + d = t.length →
    (impl_seek.tab m (k + d + 1)).1 (w, seekL w (t.take i), t, lLen t, (i : Int), ()) = some (seekL w t, ())
  | 0, k, i, h => by
    show impl_seek.b0 m (impl_seek.tab m k) w (seekL w (t.take i)) t (lLen t) (i : Int) = _
    unfold impl_seek.b0
    rw [decide_eq_false (show ¬ (i : Int) < lLen t by simp only [lLen]; omega), List.take_of_length_le (by omega)]
    rfl
  | d + 1, k, i, h => by
    have hl := ht.1
    have hf := ht.at (i := i) (by omega)
    have ih := impl_seek_loop m hm n t ht hn w hw2 hw d k (i + 1) (by omega)
    have hsl := seek_len w (t.take i)
    rw [List.length_take] at hsl
    show impl_seek.b0 m (impl_seek.tab m (k + d + 1)) w (seekL w (t.take i)) t (lLen t) (i : Int) = _
    unfold impl_seek.b0
    rw [decide_eq_true (show (i : Int) < lLen t by simp only [lLen]; omega), decide_eq_true (show (0 : Int) ≤ (i : Int) by omega), w64_succ (by omega)]
    simp only [cond, lett]
    rw [show getL t (i : Int) (ByteArray.empty, ([] : List ByteArray)) = t.getD i fz from rfl, text_con_v m hm w hw2 hw _ hf.lines,
      decide_eq_true (show List.length (seekL w (t.take i)) + List.length ([(t.getD i fz).1] : List ByteArray) ≤ apCap by show (seekL w (t.take i)).length + 1 ≤ 1073741824; omega)]
    rw [seek_take (by omega)] at ih
    simp only [Option.bind_some]
    cases hc : textHit w (t.getD i fz).2 <;> rw [hc] at ih <;> exact ih

/-- what both say -/
noncomputable def seekV (w : ByteArray) (t : Tree) : List ByteArray := cond (treeB t && nameB (bL w)) (seekL w t) []

theorem spec_seek_v (m : Nat) (hm : 10000000000000 ≤ m) {n : Nat} {t : Tree} (ht : Small n t) (hn : n ≤ 1000) (w : ByteArray) (hw2 : w.size ≤ 100) : spec_SeekTree m (t, w, ()) = some (seekV w t, ()) := by
  have hl := ht.1
  show spec_SeekTree.start m (spec_SeekTree.tab m m) t w = _
  unfold spec_SeekTree.start seekV
  rw [spec_tree_v m t (ht.sz hn) hm, spec_name_v m w (by omega) (by omega)]
  simp only [Option.bind_some]
  cases treeB t with
  | false => rfl
  | true =>
    cases hw : nameB (bL w) with
    | false => rfl
    | true =>
      have h := spec_seek_loop m (by omega) n t ht hn w hw t.length (m - (t.length + 1)) 0 (by omega)
      rw [show m - (t.length + 1) + t.length + 1 = m by omega] at h
      exact h

theorem impl_seek_v (m : Nat) (hm : 10000000000000 ≤ m) {n : Nat} {t : Tree} (ht : Small n t) (hn : n ≤ 1000) (w : ByteArray) (hw2 : w.size ≤ 100) : impl_SeekTree m (t, w, ()) = some (seekV w t, ()) := by
  have hl := ht.1
  show impl_SeekTree.start m (impl_SeekTree.tab m m) t w = _
  unfold impl_SeekTree.start seekV
  rw [impl_tree_v m t (ht.sz hn) hm, impl_name_v m w (by omega) (by omega)]
  simp only [Option.bind_some]
  cases treeB t with
  | false => rfl
  | true =>
    cases hw : nameB (bL w) with
    | false => rfl
    | true =>
      have h := impl_seek_loop m (by omega) n t ht hn w hw2 hw t.length (m - (t.length + 1)) 0 (by omega)
      rw [show m - (t.length + 1) + t.length + 1 = m by omega] at h
      show Option.bind (impl_seek m (t, w, ())) _ = _
      rw [show impl_seek m (t, w, ()) = some (seekL w t, ()) from h]
      rfl

/-! ### The law's own looks -/
theorem smTexts_loop (m : Nat) (x : List ByteArray × Nat) (hx : x.2 < 100000000) : ∀ (d k i : Nat), i + d = x.2 → (laws_smTexts.tab m (k + d + 1)).1 (x, x, (i : Int), ()) = some (true, ())
  | 0, k, i, h => by
    show laws_smTexts.b0 m (laws_smTexts.tab m k) x x (i : Int) = _
    unfold laws_smTexts.b0
    rw [decide_eq_false (show ¬ (i : Int) < (x.2 : Int) by omega)]
    rfl
  | d + 1, k, i, h => by
    show laws_smTexts.b0 m (laws_smTexts.tab m (k + d + 1)) x x (i : Int) = _
    unfold laws_smTexts.b0
    rw [decide_eq_true (show (i : Int) < (x.2 : Int) by omega), decide_eq_true (show (0 : Int) ≤ (i : Int) by omega), sEq_self, w64_succ (by omega)]
    exact smTexts_loop m x hx d k (i + 1) (by omega)

theorem smTexts_self (m : Nat) (hm : 1000000000 ≤ m) (x : List ByteArray × Nat) (hx : x.2 < 100000000) : laws_smTexts m (x, x, ()) = some (true, ()) := by
  have h := smTexts_loop m x hx x.2 (m - (x.2 + 1)) 0 (by omega)
  rw [show m - (x.2 + 1) + x.2 + 1 = m by omega] at h
  show laws_smTexts.start m (laws_smTexts.tab m m) x x = _
  unfold laws_smTexts.start
  rw [show ((x.2 : Int) != (x.2 : Int)) = false by simp]
  exact h

theorem smHas_loop (m : Nat) (xs : List ByteArray) (s : ByteArray) (hx : xs.length < 100000000) : ∀ (d k i : Nat), i + d = xs.length → (laws_smHas.tab m (k + d + 1)).1 ((xs, xs.length), s, (i : Int), ()) = some ((xs.drop i).any (fun x => decide (x = s)), ())
  | 0, k, i, h => by
    show laws_smHas.b0 m (laws_smHas.tab m k) (xs, xs.length) s (i : Int) = _
    unfold laws_smHas.b0
    rw [decide_eq_false (show ¬ (i : Int) < (((xs, xs.length) : List ByteArray × Nat).2 : Int) by show ¬ (i : Int) < (xs.length : Int); omega), List.drop_eq_nil_of_le (by omega)]
    rfl
  | d + 1, k, i, h => by
    have ih := smHas_loop m xs s hx d k (i + 1) (by omega)
    show laws_smHas.b0 m (laws_smHas.tab m (k + d + 1)) (xs, xs.length) s (i : Int) = _
    unfold laws_smHas.b0
    rw [decide_eq_true (show (i : Int) < (((xs, xs.length) : List ByteArray × Nat).2 : Int) by show (i : Int) < (xs.length : Int); omega), decide_eq_true (show (0 : Int) ≤ (i : Int) by omega), sEq_dec, w64_succ (by omega), ih, drop_at (l := xs) (i := i) (by omega) ByteArray.empty]
    show cond (decide (xs.getD i ByteArray.empty = s)) _ _ = _
    simp only [List.any_cons]
    cases decide (xs.getD i ByteArray.empty = s) <;> rfl

theorem smHas_v (m : Nat) (hm : 1000000000 ≤ m) (xs : List ByteArray) (s : ByteArray) (hx : xs.length < 100000000) : laws_smHas m ((xs, xs.length), s, ()) = some (xs.any (fun x => decide (x = s)), ()) := by
  have h := smHas_loop m xs s hx xs.length (m - (xs.length + 1)) 0 (by omega)
  rw [show m - (xs.length + 1) + xs.length + 1 = m by omega] at h
  exact h

/-- a text is a part of another -/
def partAt (l w : List UInt8) (i : Nat) : Prop := i + w.length ≤ l.length ∧ (l.drop i).take w.length = w

open Classical in
theorem smPart_loop (m : Nat) (s w : ByteArray) (hs : s.size < 1000000) (hw : w.size < 1000000) : ∀ (d k i : Nat), i + d = s.size + 1 →
    (laws_smPart.tab m (k + d + 1)).1 (s, w, (i : Int), ()) = some (decide (∃ j, i ≤ j ∧ j ≤ s.size ∧ partAt (bL s) (bL w) j), ())
  | 0, k, i, h => by
    have hl := bL_len s
    have hl2 := bL_len w
    have e1 : w64 ((i : Int) + sLen w) = ((i + w.size : Nat) : Int) := by
      rw [show (i : Int) + sLen w = ((i + w.size : Nat) : Int) by simp only [sLen]; omega]
      exact w64_ok (by omega) (by omega)
    show laws_smPart.b0 m (laws_smPart.tab m k) s w (i : Int) = _
    unfold laws_smPart.b0
    rw [e1]
    simp only [lett]
    rw [decide_eq_false (show ¬ ((i + w.size : Nat) : Int) ≤ sLen s by simp only [sLen]; omega), decide_eq_false (show ¬ ∃ j, i ≤ j ∧ j ≤ s.size ∧ partAt (bL s) (bL w) j by
      rintro ⟨j, h1, h2, _⟩; omega)]
    rfl
  | d + 1, k, i, h => by
    have hl := bL_len s
    have hl2 := bL_len w
    have ih := smPart_loop m s w hs hw d k (i + 1) (by omega)
    have e1 : w64 ((i : Int) + sLen w) = ((i + w.size : Nat) : Int) := by
      rw [show (i : Int) + sLen w = ((i + w.size : Nat) : Int) by simp only [sLen]; omega]
      exact w64_ok (by omega) (by omega)
    show laws_smPart.b0 m (laws_smPart.tab m (k + d + 1)) s w (i : Int) = _
    unfold laws_smPart.b0
    rw [e1]
    simp only [lett]
    by_cases hle : i + w.size ≤ s.size
    · rw [decide_eq_true (show ((i + w.size : Nat) : Int) ≤ sLen s by simp only [sLen]; omega), decide_eq_true (show (0 : Int) ≤ ((i + w.size : Nat) : Int) by omega), decide_eq_true (show (0 : Int) ≤ (i : Int) by omega), decide_eq_true (show (i : Int) ≤ ((i + w.size : Nat) : Int) by omega), w64_succ (by omega), ih]
      simp only [cond, Int.toNat_natCast]
      rw [sEq_bL, bL_cut, List.drop_take, Nat.add_sub_cancel_left, ← hl2]
      by_cases heq : ((bL s).drop i).take (bL w).length = bL w
      · rw [heq, beq_self_eq_true, decide_eq_true (show ∃ j, i ≤ j ∧ j ≤ s.size ∧ partAt (bL s) (bL w) j from ⟨i, Nat.le_refl _, by omega, by omega, heq⟩)]
      · rw [beq_eq_false_iff_ne.2 heq]
        simp only
        congr 2
        rw [decide_eq_decide]
        constructor
        · rintro ⟨j, h1, h2⟩; exact ⟨j, by omega, h2⟩
        · rintro ⟨j, h1, h2, h3⟩
          rcases Nat.eq_or_lt_of_le h1 with e | e
          · subst e; exact absurd h3.2 heq
          · exact ⟨j, e, h2, h3⟩
    · rw [decide_eq_false (show ¬ ((i + w.size : Nat) : Int) ≤ sLen s by simp only [sLen]; omega), decide_eq_false (show ¬ ∃ j, i ≤ j ∧ j ≤ s.size ∧ partAt (bL s) (bL w) j by
        rintro ⟨j, h1, h2, h3⟩
        have := h3.1
        omega)]
      rfl

open Classical in
noncomputable def partB (w s : ByteArray) : Bool := decide (∃ j, 0 ≤ j ∧ j ≤ s.size ∧ partAt (bL s) (bL w) j)

theorem smPart_v (m : Nat) (hm : 10000 ≤ m) (s w : ByteArray) (hs : s.size ≤ 100) (hw : w.size ≤ 100) : laws_smPart m (s, w, ()) = some (partB w s, ()) := by
  have h := smPart_loop m s w (by omega) (by omega) (s.size + 1) (m - (s.size + 1 + 1)) 0 (by omega)
  rw [show m - (s.size + 1 + 1) + (s.size + 1) + 1 = m by omega] at h
  exact h

open Classical in
theorem hit_part {w s : ByteArray} (h : hitB w s = true) : partB w s = true := by
  unfold hitB at h
  unfold partB
  rw [decide_eq_true_eq] at h ⊢
  obtain ⟨j, hj⟩ := h
  have := bL_len s
  have h1 := hj.1
  exact ⟨j, Nat.zero_le _, by omega, hj.1, hj.2.1⟩

open Classical in
theorem hit_self {w : ByteArray} : hitB w w = true := by
  unfold hitB
  rw [decide_eq_true_eq]
  exact ⟨0, by omega, by rw [List.drop_zero]; exact List.take_length, .inl rfl, .inl (by omega)⟩

open Classical in
theorem hit_see {w : ByteArray} : hitB w (ByteArray.append s_73656520 w) = true := by
  unfold hitB
  rw [decide_eq_true_eq, bL_append]
  have e : bL s_73656520 = [115, 101, 101, 32] := rfl
  rw [e]
  exact ⟨4, by simp; omega, by show ((bL w)).take (bL w).length = bL w; exact List.take_length, .inr rfl, .inl (by simp; omega)⟩

theorem any_hit {w : ByteArray} {xs : List ByteArray} {s : ByteArray} (h : xs.any (fun x => decide (x = s)) = true) (hs : hitB w s = true) : textHit w xs = true := by
  unfold textHit
  rw [List.any_eq_true] at h ⊢
  obtain ⟨x, hx, e⟩ := h
  rw [decide_eq_true_eq] at e
  exact ⟨x, hx, by rw [e]; exact hs⟩

theorem text_part {w : ByteArray} {xs : List ByteArray} (h : textHit w xs = true) : xs.any (partB w) = true := by
  unfold textHit at h
  rw [List.any_eq_true] at h ⊢
  obtain ⟨x, hx, e⟩ := h
  exact ⟨x, hx, hit_part e⟩

open Classical in
theorem tree_files {t : Tree} (h : treeB t = true) : ∀ i, i < t.length → fileB t i = true := by
  intro i hi
  unfold treeB at h
  simp only [Bool.and_eq_true] at h
  have h1 := h.1
  unfold treeS at h1
  have h1 := of_decide_eq_true h1
  exact (h1 i (Nat.zero_le _) hi).1

theorem paths_apart {t : Tree} (h : treeB t = true) {i j : Nat} (hi : i < t.length) (hj : j < t.length) (e : (t.getD i fz).1 = (t.getD j fz).1) : i = j := by
  have hf := tree_files h
  rcases Nat.lt_trichotomy i j with hlt | heq | hgt
  · have h1 := asc hf (j - i - 1) i (by omega)
    rw [show i + (j - i - 1) + 1 = j by omega] at h1
    simp only [pth] at h1
    rw [e, less_irrefl] at h1; cases h1
  · exact heq
  · have h1 := asc hf (i - j - 1) j (by omega)
    rw [show j + (i - j - 1) + 1 = i by omega] at h1
    simp only [pth] at h1
    rw [e, less_irrefl] at h1; cases h1

/-- a file's path is among those found just where the file has the word -/
theorem seek_mem {w : ByteArray} {t : Tree} (h : treeB t = true) {i : Nat} (hi : i < t.length) : (seekL w t).any (fun x => decide (x = (t.getD i fz).1)) = textHit w (t.getD i fz).2 := by
  have hti : t.getD i fz = t[i] := by rw [List.getD_eq_getElem?_getD, List.getElem?_eq_getElem hi]; rfl
  rw [Bool.eq_iff_iff, List.any_eq_true]
  unfold seekL
  constructor
  · rintro ⟨x, hx, e⟩
    rw [decide_eq_true_eq] at e
    obtain ⟨f, hf, rfl⟩ := List.mem_map.1 hx
    obtain ⟨hft, hfh⟩ := List.mem_filter.1 hf
    obtain ⟨j, hj, rfl⟩ := List.getElem_of_mem hft
    have htj : t.getD j fz = t[j] := by rw [List.getD_eq_getElem?_getD, List.getElem?_eq_getElem hj]; rfl
    have := paths_apart h hj hi (by rw [htj]; exact e)
    subst this
    rw [hti]; exact hfh
  · intro hh
    refine ⟨(t.getD i fz).1, List.mem_map.2 ⟨t[i], List.mem_filter.2 ⟨List.getElem_mem hi, by rw [← hti]; exact hh⟩, by rw [hti]⟩, by simp⟩

/-- and it stands at its own place -/
theorem seek_place {w : ByteArray} {t : Tree} {i : Nat} (hi : i < t.length) (hh : textHit w (t.getD i fz).2 = true) :
    (seekL w (t.take i)).length < (seekL w t).length ∧ (seekL w t).getD (seekL w (t.take i)).length ByteArray.empty = (t.getD i fz).1 := by
  have e : seekL w t = seekL w (t.take i) ++ seekL w (t.drop i) := by
    unfold seekL
    rw [← List.map_append, ← List.filter_append, List.take_append_drop]
  have e2 : seekL w (t.drop i) = (t.getD i fz).1 :: seekL w (t.drop (i + 1)) := by
    rw [drop_at hi fz]
    unfold seekL
    rw [List.filter_cons, if_pos hh, List.map_cons]
  rw [e, e2]
  refine ⟨by simp, ?_⟩
  rw [List.getD_eq_getElem?_getD, List.getElem?_append_right (Nat.le_refl _), Nat.sub_self]
  rfl

theorem some_loop (m : Nat) (hm : 1000000000 ≤ m) (n : Nat) (t : Tree) (ht : Small n t) (hn : n ≤ 1000) (w : ByteArray) (hw : w.size ≤ 100) (L : List ByteArray) (q i : Nat) (hi : i < t.length) (has : Bool) (hh : has = textHit w (t.getD i fz).2) (K : Nat) : ∀ (d k : Nat) (sm : Bool), k + d = (t.getD i fz).2.length →
    (sm = ((t.getD i fz).2.take k).any (partB w)) →
    (laws_FnSeekTree.tab m (K + d + 1)).2.1 (t, w, L, (q : Int), (i : Int), has, sm, (k : Int), ()) = (laws_FnSeekTree.tab m K).2.2.2.1 (t, w, L, (q : Int), (i : Int), has, false, ())
  | 0, k, sm, h, hs => by
    have hl := ht.1
    have hf := ht.at hi
    have hx := hf.lines
    have hxl := hx.1
    show laws_FnSeekTree.b1 m (laws_FnSeekTree.tab m K) t w L (q : Int) (i : Int) has sm (k : Int) = _
    unfold laws_FnSeekTree.b1
    rw [List.take_of_length_le (by omega)] at hs
    rw [decide_eq_true (show (0 : Int) ≤ (i : Int) by omega), decide_eq_true (show (i : Int) < lLen t by simp only [lLen]; omega)]
    simp only [cond, lett]
    rw [show getL t (i : Int) (ByteArray.empty, ([] : List ByteArray)) = t.getD i fz from rfl, decide_eq_false (show ¬ (k : Int) < lLen (t.getD i fz).2 by simp only [lLen]; omega),
      smHas_v m hm _ w (by omega), smHas_v m hm _ (ByteArray.append s_73656520 w) (by omega), decide_eq_true (show s_73656520.size + w.size ≤ cap by show 4 + w.size ≤ 140737488355328; omega)]
    simp only [Option.bind_some]
    cases hc : has with
    | true =>
      rw [hc] at hh
      have := text_part hh.symm
      rw [hs, this]
      simp only [Bool.not_true]
      cases ((t.getD i fz).2.any fun x => decide (x = w)) <;> cases ((t.getD i fz).2.any fun x => decide (x = ByteArray.append s_73656520 w)) <;> rfl
    | false =>
      rw [hc] at hh
      have h1 : ((t.getD i fz).2.any fun x => decide (x = w)) = false := by
        cases e : ((t.getD i fz).2.any fun x => decide (x = w)) with
        | false => rfl
        | true => rw [any_hit e hit_self] at hh; cases hh
      have h2 : ((t.getD i fz).2.any fun x => decide (x = ByteArray.append s_73656520 w)) = false := by
        cases e : ((t.getD i fz).2.any fun x => decide (x = ByteArray.append s_73656520 w)) with
        | false => rfl
        | true => rw [any_hit e hit_see] at hh; cases hh
      rw [h1, h2]
  | d + 1, k, sm, h, hs => by
    have hl := ht.1
    have hf := ht.at hi
    have hx := hf.lines
    have hxl := hx.1
    have hkl : k < (t.getD i fz).2.length := by omega
    have hsz := hx.2 _ (getD_mem (z := ByteArray.empty) hkl)
    have hnext : (((t.getD i fz).2.take (k + 1)).any (partB w)) = (sm || partB w ((t.getD i fz).2.getD k ByteArray.empty)) := by
      rw [hs, List.take_add_one, List.getElem?_eq_getElem hkl, List.any_append]
      have : (t.getD i fz).2.getD k ByteArray.empty = (t.getD i fz).2[k] := by rw [List.getD_eq_getElem?_getD, List.getElem?_eq_getElem hkl]; rfl
      rw [this]
      simp
    have ih := some_loop m hm n t ht hn w hw L q i hi has hh K d (k + 1) (sm || partB w ((t.getD i fz).2.getD k ByteArray.empty)) (by omega) hnext.symm
    show laws_FnSeekTree.b1 m (laws_FnSeekTree.tab m (K + d + 1)) t w L (q : Int) (i : Int) has sm (k : Int) = _
    unfold laws_FnSeekTree.b1
    rw [decide_eq_true (show (0 : Int) ≤ (i : Int) by omega), decide_eq_true (show (i : Int) < lLen t by simp only [lLen]; omega), w64_succ (by omega)]
    simp only [cond, lett]
    rw [show getL t (i : Int) (ByteArray.empty, ([] : List ByteArray)) = t.getD i fz from rfl, decide_eq_true (show (k : Int) < lLen (t.getD i fz).2 by simp only [lLen]; omega), decide_eq_true (show (0 : Int) ≤ (k : Int) by omega),
      show getL (t.getD i fz).2 (k : Int) ByteArray.empty = (t.getD i fz).2.getD k ByteArray.empty from rfl, smPart_v m (by omega) _ w hsz hw]
    simp only [Option.bind_some]
    cases sm with
    | true => exact ih
    | false => exact ih

theorem law_loop (m : Nat) (hm : 1000000000 ≤ m) (n : Nat) (t : Tree) (ht : Small n t) (hn : n ≤ 1000) (hok : treeB t = true) (w : ByteArray) (hw : w.size ≤ 100) : ∀ (d K i : Nat), i + d = t.length → 200 * d ≤ K →
    (laws_FnSeekTree.tab m (K + 1)).1 (t, w, seekL w t, (((seekL w (t.take i)).length : Nat) : Int), (i : Int), ()) = some (true, ())
  | 0, K, i, h, hK => by
    show laws_FnSeekTree.b0 m (laws_FnSeekTree.tab m K) t w (seekL w t) _ (i : Int) = _
    unfold laws_FnSeekTree.b0
    rw [decide_eq_false (show ¬ (i : Int) < lLen t by simp only [lLen]; omega), List.take_of_length_le (by omega)]
    simp only [cond, lLen]
    simp
  | d + 1, K, i, h, hK => by
    have hl := ht.1
    have hi : i < t.length := by omega
    have hf := ht.at hi
    have hxl := hf.lines.1
    have hsl := seek_len w t
    have hsl2 := seek_len w (t.take i)
    rw [List.length_take] at hsl2
    obtain ⟨K', hK', hK2⟩ : ∃ K', K = K' + 1 + 1 + 1 + (t.getD i fz).2.length + 1 ∧ 200 * d ≤ K' := ⟨K - ((t.getD i fz).2.length + 4), by omega, by omega⟩
    have ih := law_loop m hm n t ht hn hok w hw d K' (i + 1) (by omega) hK2
    rw [seek_take hi] at ih
    show laws_FnSeekTree.b0 m (laws_FnSeekTree.tab m K) t w (seekL w t) _ (i : Int) = _
    unfold laws_FnSeekTree.b0
    rw [decide_eq_true (show (i : Int) < lLen t by simp only [lLen]; omega), decide_eq_true (show (0 : Int) ≤ (i : Int) by omega)]
    simp only [cond, lett]
    rw [show getL t (i : Int) (ByteArray.empty, ([] : List ByteArray)) = t.getD i fz from rfl, smHas_v m hm _ _ (by omega), seek_mem hok hi]
    simp only [Option.bind_some]
    have hs := some_loop m hm n t ht hn w hw (seekL w t) (seekL w (t.take i)).length i hi _ rfl (K' + 1 + 1 + 1) (t.getD i fz).2.length 0 false (by omega) rfl
    rw [hK']
    rw [show (laws_FnSeekTree.tab m (K' + 1 + 1 + 1 + (t.getD i fz).2.length + 1)).2.1 (t, w, seekL w t, (((seekL w (t.take i)).length : Nat) : Int), (i : Int), textHit w (t.getD i fz).2, false, (0 : Int), ()) = _ from hs]
    show laws_FnSeekTree.b3 m (laws_FnSeekTree.tab m (K' + 1 + 1)) t w (seekL w t) _ (i : Int) (textHit w (t.getD i fz).2) false = _
    unfold laws_FnSeekTree.b3
    show laws_FnSeekTree.b4 m (laws_FnSeekTree.tab m (K' + 1)) t w (seekL w t) _ (i : Int) (textHit w (t.getD i fz).2) = _
    unfold laws_FnSeekTree.b4
    rw [w64_succ (i := i) (by omega), w64_succ (i := (seekL w (t.take i)).length) (by omega)]
    cases hc : textHit w (t.getD i fz).2 with
    | false =>
      rw [hc] at ih
      exact ih
    | true =>
      rw [hc] at ih
      simp only [cond] at ih
      obtain ⟨p1, p2⟩ := seek_place hi hc
      simp only [cond, lett]
      rw [decide_eq_true (show (0 : Int) ≤ (((seekL w (t.take i)).length : Nat) : Int) by omega), decide_eq_true (show (((seekL w (t.take i)).length : Nat) : Int) < lLen (seekL w t) by simp only [lLen]; omega),
        decide_eq_true (show (0 : Int) ≤ (i : Int) by omega), decide_eq_true (show (i : Int) < lLen t by simp only [lLen]; omega)]
      rw [show getL (seekL w t) (((seekL w (t.take i)).length : Nat) : Int) ByteArray.empty = (t.getD i fz).1 from p2, show getL t (i : Int) (ByteArray.empty, ([] : List ByteArray)) = t.getD i fz from rfl, sEq_self]
      rw [show (seekL w (t.take i) ++ [(t.getD i fz).1]).length = (seekL w (t.take i)).length + 1 by simp] at ih
      exact ih

theorem draw_seek (m : Nat) (hm : 10000000000000 ≤ m) (l : List Int) (hl : Byt l) : Ok (spec_DrawSeekTree m (l, ())) (fun r => Small 244 r.1 ∧ r.2.1.size ≤ 100 ∧ (r.2.1 = ByteArray.empty ∨ nameB (bL r.2.1) = true)) := by
  show Ok (spec_DrawSeekTree.start m _ l) _
  unfold spec_DrawSeekTree.start
  refine ok_bind (open_t m l hl) (fun r1 h1 => ok_bind (anyTree_k m hm h1 (by omega)) (fun r2 h2 => ok_lett fun v hv => ok_bind (of_k m v h2.1 (by omega) (by rw [hv]; decide) (by rw [hv]; decide)) (fun r4 h4 => ok_some ⟨h2.2, ?_, ?_⟩)))
  · have := h4.2
    rw [hv] at this
    simp only [List.mem_cons, List.not_mem_nil, or_false] at this
    show r4.2.2.1.size ≤ 100
    rcases this with e | e | e | e | e | e | e <;> rw [e] <;> decide
  · have := h4.2
    rw [hv] at this
    simp only [List.mem_cons, List.not_mem_nil, or_false] at this
    show r4.2.2.1 = ByteArray.empty ∨ nameB (bL r4.2.2.1) = true
    rcases this with e | e | e | e | e | e | e <;> rw [e]
    · exact .inr (by decide)
    · exact .inr (by decide)
    · exact .inr (by decide)
    · exact .inr (by decide)
    · exact .inr (by decide)
    · exact .inr (by decide)
    · exact .inl rfl

theorem law_SeekTree (l : List Int) (hbn : Bnd (.list (.int .u8)) l) : laws_FnSeekTree 10000000000000 (l, ()) = some (true, ()) := by
  have hb := byt_of hbn
  obtain ⟨r, hr, ht, hw, hn⟩ := draw_seek 10000000000000 (by omega) l hb
  obtain ⟨t, w, u⟩ := r
  have ht : Small 244 t := ht
  have hw : w.size ≤ 100 := hw
  have hn : w = ByteArray.empty ∨ nameB (bL w) = true := hn
  have hlen := ht.1
  have hsl := seek_len w t
  have hvl : (seekV w t).length ≤ 244 := by
    unfold seekV
    cases (treeB t && nameB (bL w))
    · exact Nat.zero_le _
    · show (seekL w t).length ≤ 244; omega
  have hself := smTexts_self 10000000000000 (by omega) (seekV w t, (seekV w t).length) (by show (seekV w t).length < _; omega)
  have g2 : ∀ b, (b = true ∨ (treeB t = true ∧ nameB (bL w) = true)) → (laws_FnSeekTree.tab 10000000000000 (9999999999999 + 1)).2.2.1 (t, w, seekV w t, b, ()) = some (true, ()) := by
    intro b hbb
    show laws_FnSeekTree.b2 10000000000000 (laws_FnSeekTree.tab 10000000000000 9999999999999) t w (seekV w t) b = _
    unfold laws_FnSeekTree.b2
    cases b with
    | true =>
      rw [spec_seek_v 10000000000000 (by omega) ht (by omega) w hw]
      simp only [cond, Option.bind_some]
      rw [hself]
      rfl
    | false =>
      rcases hbb with h | ⟨h1, h2⟩
      · cases h
      · have e : seekV w t = seekL w t := by unfold seekV; rw [h1, h2]; rfl
        rw [e]
        exact law_loop 10000000000000 (by omega) 244 t ht (by omega) h1 w hw t.length 9999999999998 0 (by omega) (by omega)
  show laws_FnSeekTree.start 10000000000000 (laws_FnSeekTree.tab 10000000000000 (9999999999999 + 1)) l = _
  unfold laws_FnSeekTree.start
  by_cases g1 : lLen l > 1048576
  · rw [decide_eq_true g1]; rfl
  rw [decide_eq_false g1, hr]
  simp only [cond, Option.bind_some]
  rw [impl_seek_v 10000000000000 (by omega) ht (by omega) w hw, spec_seek_v 10000000000000 (by omega) ht (by omega) w hw]
  simp only [Option.bind_some]
  rw [hself, impl_tree_v 10000000000000 t (ht.sz (by omega)) (by omega)]
  simp only [Option.bind_some, Bool.not_true]
  cases hok : treeB t with
  | false => exact g2 true (.inl rfl)
  | true =>
    simp only [Bool.not_true]
    rcases hn with e | e
    · rw [sEq_dec, decide_eq_true e]; exact g2 true (.inl rfl)
    · exact g2 _ (.inr ⟨hok, e⟩)
end Go.Sx.Tryd
