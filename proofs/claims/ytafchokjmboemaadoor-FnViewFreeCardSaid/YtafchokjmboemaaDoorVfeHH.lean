/- A part of the pure law of FnViewFree, over the printed functions: what they answer. No condition but those of each theorem. -/
import Derived.Test.YtafchokjmboemaaDoorVfeHG
namespace Go.Sx.Tryd
open Go Go.Proofs Go.Sx
set_option linter.unusedVariables false
set_option linter.unusedSimpArgs false

theorem clone_v (m : Nat) (xs : List ByteArray) (h : xs.length ≤ 1000000000) : slices_Clone_string m (xs, ()) = some (xs, ()) := by
  show slices_Clone_string.start m _ xs = _
  unfold slices_Clone_string.start
  rw [decide_eq_true (show List.length ([] : List ByteArray) + List.length xs ≤ apCap by show 0 + xs.length ≤ 1073741824; omega)]
  cases xs with
  | nil => exact bothO_self _
  | cons a r => rfl

theorem copyFile_v (m : Nat) (p : ByteArray) (xs : List ByteArray) (h : xs.length ≤ 1000000000) : impl_copyFile m (p, xs, ()) = some (p, xs, ()) := by
  show Option.bind (slices_Clone_string m (xs, ())) _ = _
  rw [clone_v m xs h]; rfl

theorem take_snoc1 {t : Tree} {i : Nat} (hi : i < t.length) : List.append (t.take i) [((t.getD i fz).1, (t.getD i fz).2)] = t.take (i + 1) := by
  rw [List.take_add_one, List.getElem?_eq_getElem hi]
  have : t.getD i fz = t[i] := by rw [List.getD_eq_getElem?_getD, List.getElem?_eq_getElem hi]; rfl
  rw [this]
  rfl

theorem copyTree_loop (m : Nat) (t : Tree) (ht : TreeSz t) : ∀ (d k i : Nat), i + d = t.length → (impl_copyTree.tab m (k + d + 1)).1 (t.take i, t, lLen t, (i : Int), ()) = some (t, ())
  | 0, k, i, h => by
    show impl_copyTree.b0 m (impl_copyTree.tab m k) (t.take i) t (lLen t) (i : Int) = _
    unfold impl_copyTree.b0
    rw [decide_eq_false (show ¬ (i : Int) < lLen t by simp only [lLen]; omega), List.take_of_length_le (by omega)]
    rfl
  | d + 1, k, i, h => by
    have hl := ht.len
    have hf := (ht.at (i := i) (by omega)).2.1
    have ih := copyTree_loop m t ht d k (i + 1) (by omega)
    show impl_copyTree.b0 m (impl_copyTree.tab m (k + d + 1)) (t.take i) t (lLen t) (i : Int) = _
    unfold impl_copyTree.b0
    rw [decide_eq_true (show (i : Int) < lLen t by simp only [lLen]; omega), decide_eq_true (show (0 : Int) ≤ (i : Int) by omega), w64_succ (by omega)]
    simp only [cond, lett]
    rw [show getL t (i : Int) (ByteArray.empty, ([] : List ByteArray)) = t.getD i fz from rfl, copyFile_v m _ _ (by omega)]
    simp only [Option.bind_some]
    rw [decide_eq_true (show List.length (t.take i) + List.length ([((t.getD i fz).1, (t.getD i fz).2)] : List (ByteArray × List ByteArray)) ≤ apCap by show (t.take i).length + 1 ≤ 1073741824; rw [List.length_take]; omega), take_snoc1 (by omega)]
    exact ih

theorem copyTree_v (m : Nat) (hm : 10000000 ≤ m) (t : Tree) (ht : TreeSz t) : impl_copyTree m (t, ()) = some (t, ()) := by
  have hl := ht.len
  have h := copyTree_loop m t ht t.length (m - (t.length + 1)) 0 (by omega)
  rw [show m - (t.length + 1) + t.length + 1 = m by omega] at h
  exact h

/-! ### Taking out -/
theorem filter_take {t : Tree} {p : ByteArray × List ByteArray → Bool} {j : Nat} (hj : j < t.length) : (t.take (j + 1)).filter p = cond (p (t.getD j fz)) ((t.take j).filter p ++ [t.getD j fz]) ((t.take j).filter p) := by
  have : t.getD j fz = t[j] := by rw [List.getD_eq_getElem?_getD, List.getElem?_eq_getElem hj]; rfl
  rw [List.take_add_one, List.getElem?_eq_getElem hj, List.filter_append, this]
  cases h : p t[j] <;> simp [h]

theorem del_gen {R : Type} (n : Nat) (t : Tree) (hn : t.length = n) (keep : ByteArray × List ByteArray → Bool) (D : Nat → Tree → Nat → Nat → Option R) (fin : Tree → Option R)
    (hD : ∀ k ys i j, ys.length = n → i < j → j < n → ys.getD j fz = t.getD j fz → D (k + 1) ys i j = cond (keep (t.getD j fz)) (D k (ys.set i (t.getD j fz)) (i + 1) (j + 1)) (D k ys i (j + 1)))
    (hD' : ∀ k ys i, ys.length = n → i ≤ n → D (k + 1) ys i n = fin (ys.take i)) : ∀ (d k i j : Nat) (ys : Tree), j + d = n → ys.length = n → i < j → ys.take i = (t.take j).filter keep → ys.drop j = t.drop j →
      D (k + d + 1) ys i j = fin (t.filter keep)
  | 0, k, i, j, ys, h, hy, hij, ht, hd => by
    obtain rfl : j = n := by omega
    rw [Nat.add_zero, hD' k ys i hy (by omega), ht, List.take_of_length_le (by omega)]
  | d + 1, k, i, j, ys, h, hy, hij, ht, hd => by
    have e : ys.getD j fz = t.getD j fz := by
      have := congrArg (fun l => l.getD 0 fz) hd
      simpa [List.getD_eq_getElem?_getD] using this
    rw [show k + (d + 1) + 1 = (k + d + 1) + 1 by omega, hD _ ys i j hy hij (by omega) e]
    have hf := filter_take (t := t) (p := keep) (j := j) (by omega)
    cases hk : keep (t.getD j fz) with
    | false =>
      rw [hk] at hf
      refine del_gen n t hn keep D fin hD hD' d k i (j + 1) ys (by omega) hy (by omega) (ht.trans hf.symm) ?_
      have := congrArg (List.drop 1) hd
      rw [List.drop_drop, List.drop_drop] at this
      exact this
    | true =>
      rw [hk] at hf
      refine del_gen n t hn keep D fin hD hD' d k (i + 1) (j + 1) (ys.set i (t.getD j fz)) (by omega) (by rw [List.length_set]; exact hy) (by omega) ?_ ?_
      · rw [set_take (by omega), ht]; exact hf.symm
      · rw [List.drop_set_of_lt (by omega)]
        have := congrArg (List.drop 1) hd
        rw [List.drop_drop, List.drop_drop] at this
        exact this

theorem idx_gen {R : Type} (t : Tree) (del : ByteArray × List ByteArray → Bool) (A : Nat → Nat → Option R) (mk : Int → R)
    (hA : ∀ k i, i < t.length → A (k + 1) i = cond (del (t.getD i fz)) (some (mk i)) (A k (i + 1))) (hA' : ∀ k, A (k + 1) t.length = some (mk (-1))) : ∀ (d k i : Nat), i + d = t.length →
      ∃ v : Int, A (k + d + 1) i = some (mk v) ∧ ((v = -1 ∧ ∀ j, i ≤ j → j < t.length → del (t.getD j fz) = false) ∨ ∃ q : Nat, v = q ∧ i ≤ q ∧ q < t.length ∧ (∀ j, i ≤ j → j < q → del (t.getD j fz) = false) ∧ del (t.getD q fz) = true)
  | 0, k, i, h => by
    obtain rfl : i = t.length := by omega
    exact ⟨-1, hA' k, .inl ⟨rfl, fun j h1 h2 => by omega⟩⟩
  | d + 1, k, i, h => by
    rw [show k + (d + 1) + 1 = (k + d + 1) + 1 by omega, hA _ i (by omega)]
    cases hd : del (t.getD i fz) with
    | true => exact ⟨(i : Int), rfl, .inr ⟨i, rfl, Nat.le_refl _, by omega, fun j h1 h2 => by omega, hd⟩⟩
    | false =>
      obtain ⟨v, h1, h2⟩ := idx_gen t del A mk hA hA' d k (i + 1) (by omega)
      refine ⟨v, h1, ?_⟩
      have more : ∀ j, i ≤ j → (i + 1 ≤ j → del (t.getD j fz) = false) → del (t.getD j fz) = false := fun j hj hh => by
        rcases Nat.eq_or_lt_of_le hj with e | e
        · rw [← e]; exact hd
        · exact hh e
      rcases h2 with ⟨e, h3⟩ | ⟨q, e, h3, h4, h5, h6⟩
      · exact .inl ⟨e, fun j hj1 hj2 => more j hj1 fun hh => h3 j hh hj2⟩
      · exact .inr ⟨q, e, by omega, h4, fun j hj1 hj2 => more j hj1 fun hh => h5 j hh hj2, h6⟩

theorem filter_all {t : Tree} {p : ByteArray × List ByteArray → Bool} (h : ∀ j, j < t.length → p (t.getD j fz) = true) : t.filter p = t := by
  rw [List.filter_eq_self]
  intro f hf
  obtain ⟨j, hj, rfl⟩ := List.getElem_of_mem hf
  have := h j hj
  rw [List.getD_eq_getElem?_getD, List.getElem?_eq_getElem hj] at this
  exact this
theorem take_all {t : Tree} {p : ByteArray × List ByteArray → Bool} {q : Nat} (hq : q ≤ t.length) (h : ∀ j, j < q → p (t.getD j fz) = true) : (t.take q).filter p = t.take q := by
  refine filter_all fun j hj => ?_
  rw [List.length_take] at hj
  rw [take_getD (by omega)]
  exact h j (by omega)

theorem clear_take {t : Tree} {i : Nat} {r : Tree} (hi : i ≤ t.length) : (List.take i t ++ r).take i = t.take i := List.take_left' (by rw [List.length_take]; omega)

theorem delA_v (m : Nat) (hm : 10000000 ≤ m) (t : Tree) (ht : TreeSz t) (hp : ∀ f ∈ t, pathB f.1 = true) (a : List ByteArray) (ha : PathsSz a) (hv : ∀ q ∈ a, pathB q = true) :
    slices_DeleteFunc_File_of_impl_ViewOf_1 m (a, t, ()) = some (a, t.filter (fun f => !(!visB a f.1)), ()) := by
  have hl := ht.len
  have hc : ∀ i, i < t.length → impl_ViewOf_1_v0 m (a, (t.getD i fz).1, (t.getD i fz).2, ()) = some (a, (!visB a (t.getD i fz).1), ()) := fun i hi => by
    show Option.bind (impl_visible m (a, (t.getD i fz).1, ())) _ = _
    rw [impl_vis_v m hm a ha hv _ (ht.at hi).1 (hp _ (mem_getD hi))]
    rfl
  obtain ⟨v, h1, h2⟩ := idx_gen t (fun f => (!visB a f.1)) (fun k i => (slices_IndexFunc_File_of_impl_ViewOf_1.tab m k).1 (a, t, lLen t, (i : Int), ())) (fun v => (a, t, v, ()))
    (fun k i hi => by
      show slices_IndexFunc_File_of_impl_ViewOf_1.b0 m (slices_IndexFunc_File_of_impl_ViewOf_1.tab m k) a t (lLen t) (i : Int) = _
      unfold slices_IndexFunc_File_of_impl_ViewOf_1.b0
      rw [decide_eq_true (show (i : Int) < lLen t by simp only [lLen]; omega), decide_eq_true (show (0 : Int) ≤ (i : Int) by omega), w64_succ (by omega)]
      simp only [cond, lett]
      rw [show List.getD t (Int.toNat (i : Int)) (ByteArray.empty, ([] : List ByteArray)) = t.getD i fz from rfl, hc i hi]
      rfl)
    (fun k => by
      show slices_IndexFunc_File_of_impl_ViewOf_1.b0 m (slices_IndexFunc_File_of_impl_ViewOf_1.tab m k) a t (lLen t) (t.length : Int) = _
      unfold slices_IndexFunc_File_of_impl_ViewOf_1.b0
      rw [decide_eq_false (show ¬ (t.length : Int) < lLen t by simp only [lLen]; omega)]
      rfl) t.length (m - (t.length + 1)) 0 (by omega)
  rw [show m - (t.length + 1) + t.length + 1 = m by omega] at h1
  show Option.bind (slices_IndexFunc_File_of_impl_ViewOf_1 m (a, t, ())) _ = _
  rw [show slices_IndexFunc_File_of_impl_ViewOf_1 m (a, t, ()) = some (a, t, v, ()) from h1]
  simp only [Option.bind_some]
  rcases h2 with ⟨rfl, h3⟩ | ⟨q, rfl, _, h4, h5, h6⟩
  · show some (a, t, ()) = _
    rw [filter_all fun j hj => by rw [h3 j (Nat.zero_le _) hj]; rfl]
  · rw [show ((q : Int) == -1) = false by rw [beq_eq_false_iff_ne]; omega, w64_succ (by omega)]
    have g := del_gen t.length t rfl (fun f => !(!visB a f.1)) (fun k ys i j => (slices_DeleteFunc_File_of_impl_ViewOf_1.tab m k).1 (a, ys, (i : Int), (j : Int), ())) (fun ys => some (a, ys, ()))
      (fun k ys i j hy hij hj he => by
        show slices_DeleteFunc_File_of_impl_ViewOf_1.b0 m (slices_DeleteFunc_File_of_impl_ViewOf_1.tab m k) a ys (i : Int) (j : Int) = _
        unfold slices_DeleteFunc_File_of_impl_ViewOf_1.b0
        rw [decide_eq_true (show (j : Int) < lLen ys by simp only [lLen]; omega), decide_eq_true (show (0 : Int) ≤ (j : Int) by omega), decide_eq_true (show (0 : Int) ≤ (i : Int) by omega), decide_eq_true (show (i : Int) < lLen ys by simp only [lLen]; omega), w64_succ (i := i) (by omega), w64_succ (i := j) (by omega)]
        simp only [cond, lett]
        rw [show List.getD ys (Int.toNat (j : Int)) (ByteArray.empty, ([] : List ByteArray)) = t.getD j fz from he, hc j hj]
        rfl)
      (fun k ys i hy hi => by
        show slices_DeleteFunc_File_of_impl_ViewOf_1.b0 m (slices_DeleteFunc_File_of_impl_ViewOf_1.tab m k) a ys (i : Int) (t.length : Int) = _
        unfold slices_DeleteFunc_File_of_impl_ViewOf_1.b0
        rw [decide_eq_false (show ¬ (t.length : Int) < lLen ys by simp only [lLen]; omega), decide_eq_true (show (0 : Int) ≤ (i : Int) by omega), decide_eq_true (show (i : Int) ≤ ((List.length ys) : Int) by omega)]
        simp only [cond, lett, Int.toNat_natCast]
        rw [decide_eq_true (show (i : Int) ≤ ((List.length (List.take i ys ++ (List.replicate (List.length ys - i) (ByteArray.empty, ([] : List ByteArray)) ++ List.drop (List.length ys) ys))) : Int) by simp; omega), clear_take (by omega)])
      (t.length - (q + 1)) (m - (t.length - (q + 1) + 1)) q (q + 1) t (by omega) rfl (by omega)
      (by
        rw [filter_take h4, h6]
        exact (take_all (by omega) fun j hj => by rw [h5 j (Nat.zero_le _) hj]; rfl).symm) rfl
    rw [show m - (t.length - (q + 1) + 1) + (t.length - (q + 1)) + 1 = m by omega] at g
    exact g

theorem delB_v (m : Nat) (hm : 10000000 ≤ m) (t : Tree) (ht : TreeSz t) (hp : ∀ f ∈ t, pathB f.1 = true) (a : List ByteArray) (ha : PathsSz a) (hv : ∀ q ∈ a, pathB q = true) :
    slices_DeleteFunc_File_of_impl_ViewPut_2 m (a, t, ()) = some (a, t.filter (fun f => !(visB a f.1)), ()) := by
  have hl := ht.len
  have hc : ∀ i, i < t.length → impl_ViewPut_2_v0 m (a, (t.getD i fz).1, (t.getD i fz).2, ()) = some (a, (visB a (t.getD i fz).1), ()) := fun i hi => by
    show Option.bind (impl_visible m (a, (t.getD i fz).1, ())) _ = _
    rw [impl_vis_v m hm a ha hv _ (ht.at hi).1 (hp _ (mem_getD hi))]
    rfl
  obtain ⟨v, h1, h2⟩ := idx_gen t (fun f => (visB a f.1)) (fun k i => (slices_IndexFunc_File_of_impl_ViewPut_2.tab m k).1 (a, t, lLen t, (i : Int), ())) (fun v => (a, t, v, ()))
    (fun k i hi => by
      show slices_IndexFunc_File_of_impl_ViewPut_2.b0 m (slices_IndexFunc_File_of_impl_ViewPut_2.tab m k) a t (lLen t) (i : Int) = _
      unfold slices_IndexFunc_File_of_impl_ViewPut_2.b0
      rw [decide_eq_true (show (i : Int) < lLen t by simp only [lLen]; omega), decide_eq_true (show (0 : Int) ≤ (i : Int) by omega), w64_succ (by omega)]
      simp only [cond, lett]
      rw [show List.getD t (Int.toNat (i : Int)) (ByteArray.empty, ([] : List ByteArray)) = t.getD i fz from rfl, hc i hi]
      rfl)
    (fun k => by
      show slices_IndexFunc_File_of_impl_ViewPut_2.b0 m (slices_IndexFunc_File_of_impl_ViewPut_2.tab m k) a t (lLen t) (t.length : Int) = _
      unfold slices_IndexFunc_File_of_impl_ViewPut_2.b0
      rw [decide_eq_false (show ¬ (t.length : Int) < lLen t by simp only [lLen]; omega)]
      rfl) t.length (m - (t.length + 1)) 0 (by omega)
  rw [show m - (t.length + 1) + t.length + 1 = m by omega] at h1
  show Option.bind (slices_IndexFunc_File_of_impl_ViewPut_2 m (a, t, ())) _ = _
  rw [show slices_IndexFunc_File_of_impl_ViewPut_2 m (a, t, ()) = some (a, t, v, ()) from h1]
  simp only [Option.bind_some]
  rcases h2 with ⟨rfl, h3⟩ | ⟨q, rfl, _, h4, h5, h6⟩
  · show some (a, t, ()) = _
    rw [filter_all fun j hj => by rw [h3 j (Nat.zero_le _) hj]; rfl]
  · rw [show ((q : Int) == -1) = false by rw [beq_eq_false_iff_ne]; omega, w64_succ (by omega)]
    have g := del_gen t.length t rfl (fun f => !(visB a f.1)) (fun k ys i j => (slices_DeleteFunc_File_of_impl_ViewPut_2.tab m k).1 (a, ys, (i : Int), (j : Int), ())) (fun ys => some (a, ys, ()))
      (fun k ys i j hy hij hj he => by
        show slices_DeleteFunc_File_of_impl_ViewPut_2.b0 m (slices_DeleteFunc_File_of_impl_ViewPut_2.tab m k) a ys (i : Int) (j : Int) = _
        unfold slices_DeleteFunc_File_of_impl_ViewPut_2.b0
        rw [decide_eq_true (show (j : Int) < lLen ys by simp only [lLen]; omega), decide_eq_true (show (0 : Int) ≤ (j : Int) by omega), decide_eq_true (show (0 : Int) ≤ (i : Int) by omega), decide_eq_true (show (i : Int) < lLen ys by simp only [lLen]; omega), w64_succ (i := i) (by omega), w64_succ (i := j) (by omega)]
        simp only [cond, lett]
        rw [show List.getD ys (Int.toNat (j : Int)) (ByteArray.empty, ([] : List ByteArray)) = t.getD j fz from he, hc j hj]
        rfl)
      (fun k ys i hy hi => by
        show slices_DeleteFunc_File_of_impl_ViewPut_2.b0 m (slices_DeleteFunc_File_of_impl_ViewPut_2.tab m k) a ys (i : Int) (t.length : Int) = _
        unfold slices_DeleteFunc_File_of_impl_ViewPut_2.b0
        rw [decide_eq_false (show ¬ (t.length : Int) < lLen ys by simp only [lLen]; omega), decide_eq_true (show (0 : Int) ≤ (i : Int) by omega), decide_eq_true (show (i : Int) ≤ ((List.length ys) : Int) by omega)]
        simp only [cond, lett, Int.toNat_natCast]
        rw [decide_eq_true (show (i : Int) ≤ ((List.length (List.take i ys ++ (List.replicate (List.length ys - i) (ByteArray.empty, ([] : List ByteArray)) ++ List.drop (List.length ys) ys))) : Int) by simp; omega), clear_take (by omega)])
      (t.length - (q + 1)) (m - (t.length - (q + 1) + 1)) q (q + 1) t (by omega) rfl (by omega)
      (by
        rw [filter_take h4, h6]
        exact (take_all (by omega) fun j hj => by rw [h5 j (Nat.zero_le _) hj]; rfl).symm) rfl
    rw [show m - (t.length - (q + 1) + 1) + (t.length - (q + 1)) + 1 = m by omega] at g
    exact g
end Go.Sx.Tryd
