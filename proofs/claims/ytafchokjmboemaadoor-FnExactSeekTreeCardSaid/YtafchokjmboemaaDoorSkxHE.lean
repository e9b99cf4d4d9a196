/- A part of the pure law of FnExactSeekTree, over the printed functions: what they answer. No condition but those of each theorem. -/
import Derived.Test.YtafchokjmboemaaDoorSkxHD
namespace Go.Sx.Tryd
open Go Go.Proofs Go.Sx
set_option linter.unusedVariables false
set_option linter.unusedSimpArgs false

theorem mark_loop (m : Nat) : ∀ (d q k : Nat) (acc : ByteArray), k < 10 ^ d → k < 1000000000000000000 → acc.size + d ≤ 1000 → ∃ s, (laws_markText.tab m (q + d + 1)).1 ((k : Int), acc, ()) = some (s, ())
  | 0, q, k, acc, h, h2, ha => by
    obtain rfl : k = 0 := by simpa using h
    have e : s_6d.size = 1 := rfl
    have ca : cap = 140737488355328 := rfl
    refine ⟨ByteArray.append s_6d acc, ?_⟩
    show laws_markText.b0 m (laws_markText.tab m q) ((0 : Nat) : Int) acc = _
    unfold laws_markText.b0
    rw [decide_eq_false (show ¬ ((0 : Nat) : Int) > 0 by omega), decide_eq_true (show s_6d.size + acc.size ≤ cap by omega)]
    rfl
  | d + 1, q, k, acc, h, h2, ha => by
    have e : s_6d.size = 1 := rfl
    have ca : cap = 140737488355328 := rfl
    by_cases hk : k = 0
    · subst hk
      refine ⟨ByteArray.append s_6d acc, ?_⟩
      show laws_markText.b0 m (laws_markText.tab m (q + d + 1)) ((0 : Nat) : Int) acc = _
      unfold laws_markText.b0
      rw [decide_eq_false (show ¬ ((0 : Nat) : Int) > 0 by omega), decide_eq_true (show s_6d.size + acc.size ≤ cap by omega)]
      rfl
    · obtain ⟨s, hs⟩ := mark_loop m d q (k / 10) (ByteArray.append (strOfNums [wr .u8 (w64 (48 + Int.tmod (k : Int) 10))]) acc) (by rw [Nat.pow_succ] at h; omega) (by omega) (by rw [append_size, strOfNums_size]; simp; omega)
      refine ⟨s, ?_⟩
      show laws_markText.b0 m (laws_markText.tab m (q + d + 1)) (k : Int) acc = _
      unfold laws_markText.b0
      rw [decide_eq_true (show (k : Int) > 0 by omega)]
      simp only [cond, lett]
      rw [decide_eq_true (show (strOfNums [wr .u8 (w64 (48 + Int.tmod (k : Int) 10))]).size + acc.size ≤ cap by rw [strOfNums_size]; simp; omega)]
      rw [show w64 (Int.tdiv (k : Int) 10) = ((k / 10 : Nat) : Int) from by
        rw [show Int.tdiv (k : Int) 10 = ((k / 10 : Nat) : Int) from rfl]
        exact w64_ok (by omega) (by omega)]
      exact hs

/-- the k-th mark -/
def mt (m k : Nat) : ByteArray := match laws_markText m ((k : Int), ()) with | some r => r.1 | none => ByteArray.empty
theorem mark_v (m : Nat) (hm : 100 ≤ m) (k : Nat) (h0 : k ≠ 0) (hk : k < 1000000000000000000) : laws_markText m ((k : Int), ()) = some (mt m k, ()) := by
  obtain ⟨s, hs⟩ := mark_loop m 18 (m - 19) k ByteArray.empty (by simpa using hk) hk (by simp)
  rw [show m - 19 + 18 + 1 = m by omega] at hs
  have h : laws_markText m ((k : Int), ()) = some (s, ()) := by
    show laws_markText.start m (laws_markText.tab m m) (k : Int) = _
    unfold laws_markText.start
    rw [decide_eq_false (show ¬ (k : Int) ≤ 0 by omega)]
    exact hs
  unfold mt
  rw [h]

theorem mark_strs_loop (m : Nat) (hm : 100 ≤ m) (n : Nat) (hn : n < 100000000) : ∀ (d q i k : Nat) (ys : List ByteArray), i + d = n → k ≠ 0 → k + d < 1000000000000000000 → n ≤ ys.length →
    ∃ zs, (laws_markStringS.tab m (q + d + 1)).1 (ys, (n : Int), (k : Int), (i : Int), ()) = some (zs, ((k + d : Nat) : Int), ()) ∧ zs.length = ys.length ∧ zs.take i = ys.take i ∧ zs.drop n = ys.drop n ∧ ∀ j, i ≤ j → j < n → zs.getD j ByteArray.empty = mt m (k + (j - i))
  | 0, q, i, k, ys, h, h0, hk, hy => by
    refine ⟨ys, ?_, rfl, rfl, rfl, fun j h1 h2 => by omega⟩
    show laws_markStringS.b0 m (laws_markStringS.tab m q) ys (n : Int) (k : Int) (i : Int) = _
    unfold laws_markStringS.b0
    rw [show ((Int.toNat (n : Int) : Nat) : Int) = (n : Int) from rfl, decide_eq_false (show ¬ (i : Int) < (n : Int) by omega)]
    rfl
  | d + 1, q, i, k, ys, h, h0, hk, hy => by
    obtain ⟨zs, h1, h2, h3, h4, h5⟩ := mark_strs_loop m hm n hn d q (i + 1) (k + 1) (ys.set i (mt m k)) (by omega) (by omega) (by omega) (by rw [List.length_set]; exact hy)
    rw [List.length_set] at h2
    refine ⟨zs, ?_, h2, ?_, ?_, fun j hj1 hj2 => ?_⟩
    · show laws_markStringS.b0 m (laws_markStringS.tab m (q + d + 1)) ys (n : Int) (k : Int) (i : Int) = _
      unfold laws_markStringS.b0
      rw [show ((Int.toNat (n : Int) : Nat) : Int) = (n : Int) from rfl, decide_eq_true (show (i : Int) < (n : Int) by omega), mark_v m hm k h0 (by omega), decide_eq_true (show (0 : Int) ≤ (i : Int) by omega),
        show w64 ((k : Int) + 1) = ((k + 1 : Nat) : Int) from w64_ok (by omega) (by omega), w64_succ (by omega)]
      rw [show k + (d + 1) = k + 1 + d by omega]
      exact h1
    · have := congrArg (List.take i) h3
      rw [List.take_take, List.take_take, Nat.min_eq_left (by omega), take_set (Nat.le_refl _)] at this
      exact this
    · rw [h4, List.drop_set_of_lt (by omega)]
    · rcases Nat.eq_or_lt_of_le hj1 with e | e
      · subst e
        have h6 := congrArg (fun l => l.getD i ByteArray.empty) h3
        simp only [List.getD_eq_getElem?_getD, List.getElem?_take, if_pos (show i < i + 1 by omega), List.getElem?_set_self (show i < ys.length by omega)] at h6
        rw [List.getD_eq_getElem?_getD, h6, Nat.sub_self, Nat.add_zero]
        rfl
      · rw [h5 j e hj2]
        congr 1; omega

/-- marks in a list of strings -/
theorem mark_strs (m : Nat) (hm : 1000000000 ≤ m) (ys : List ByteArray) (n k : Nat) (hn : n < 100000000) (hy : n ≤ ys.length) (h0 : k ≠ 0) (hk : k + n < 1000000000000000000) :
    ∃ zs, laws_markStringS m (ys, (n : Int), (k : Int), ()) = some (zs, ((k + n : Nat) : Int), ()) ∧ zs.length = ys.length ∧ zs.drop n = ys.drop n ∧ ∀ j, j < n → zs.getD j ByteArray.empty = mt m (k + j) := by
  obtain ⟨zs, h1, h2, h3, h4, h5⟩ := mark_strs_loop m (by omega) n hn n (m - (n + 1)) 0 k ys (by omega) h0 hk hy
  rw [show m - (n + 1) + n + 1 = m by omega] at h1
  exact ⟨zs, h1, h2, h4, fun j hj => by rw [h5 j (Nat.zero_le _) hj, Nat.sub_zero]⟩

theorem held_strs_loop (m : Nat) (hm : 100 ≤ m) (zs : List ByteArray) (n k0 : Nat) (hn : n < 100000000) (h0 : k0 ≠ 0) (hk : k0 + n < 1000000000000000000) (hz : ∀ j, j < n → zs.getD j ByteArray.empty = mt m (k0 + j)) : ∀ (d q i : Nat), i + d = n →
    (laws_heldStringS.tab m (q + d + 1)).1 ((zs, n), ((k0 + i : Nat) : Int), (i : Int), ()) = some (((k0 + n : Nat) : Int), ())
  | 0, q, i, h => by
    obtain rfl : i = n := by omega
    show laws_heldStringS.b0 m (laws_heldStringS.tab m q) (zs, i) ((k0 + i : Nat) : Int) (i : Int) = _
    unfold laws_heldStringS.b0
    rw [decide_eq_false (show ¬ (i : Int) < (((zs, i) : List ByteArray × Nat).2 : Int) by show ¬ (i : Int) < (i : Int); omega)]
    rfl
  | d + 1, q, i, h => by
    have ih := held_strs_loop m hm zs n k0 hn h0 hk hz d q (i + 1) (by omega)
    show laws_heldStringS.b0 m (laws_heldStringS.tab m (q + d + 1)) (zs, n) ((k0 + i : Nat) : Int) (i : Int) = _
    unfold laws_heldStringS.b0
    rw [decide_eq_true (show (i : Int) < (((zs, n) : List ByteArray × Nat).2 : Int) by show (i : Int) < (n : Int); omega), decide_eq_true (show (0 : Int) ≤ (i : Int) by omega), mark_v m hm (k0 + i) (by omega) (by omega),
      show w64 (((k0 + i : Nat) : Int) + 1) = ((k0 + (i + 1) : Nat) : Int) from by rw [show ((k0 + i : Nat) : Int) + 1 = ((k0 + (i + 1) : Nat) : Int) by omega]; exact w64_ok (by omega) (by omega), w64_succ (by omega)]
    simp only [cond, lett, Option.bind_some]
    rw [show getL ((zs, n) : List ByteArray × Nat).1 (i : Int) ByteArray.empty = zs.getD i ByteArray.empty from rfl, hz i (by omega), sEq_self]
    exact ih

theorem held_strs (m : Nat) (hm : 1000000000 ≤ m) (zs : List ByteArray) (n k0 : Nat) (hn : n < 100000000) (h0 : k0 ≠ 0) (hk : k0 + n < 1000000000000000000) (hz : ∀ j, j < n → zs.getD j ByteArray.empty = mt m (k0 + j)) :
    laws_heldStringS m ((zs, n), (k0 : Int), ()) = some (((k0 + n : Nat) : Int), ()) := by
  have h := held_strs_loop m (by omega) zs n k0 hn h0 hk hz n (m - (n + 1)) 0 (by omega)
  rw [show m - (n + 1) + n + 1 = m by omega] at h
  exact h

theorem mark_files_loop (m : Nat) (hm : 1000000000 ≤ m) (n : Nat) (hn : n < 100000000) : ∀ (d q i k : Nat) (ys : STree), i + d = n → k ≠ 0 → k + 100000000 * d < 1000000000000000000 → n ≤ ys.length → (∀ j, i ≤ j → j < n → (ys.getD j gz).2.2 ≤ (ys.getD j gz).2.1.length ∧ (ys.getD j gz).2.2 < 10000000) →
    ∃ zs k', (laws_markFileS.tab m (q + d + 1)).1 (ys, (n : Int), (k : Int), (i : Int), ()) = some (zs, ((k' : Nat) : Int), ()) ∧ k ≤ k' ∧ k' ≤ k + 100000000 * d
  | 0, q, i, k, ys, h, h0, hk, hy, hz => by
    refine ⟨ys, k, ?_, Nat.le_refl _, Nat.le_refl _⟩
    show laws_markFileS.b0 m (laws_markFileS.tab m q) ys (n : Int) (k : Int) (i : Int) = _
    unfold laws_markFileS.b0
    rw [show ((Int.toNat (n : Int) : Nat) : Int) = (n : Int) from rfl, decide_eq_false (show ¬ (i : Int) < (n : Int) by omega)]
    rfl
  | d + 1, q, i, k, ys, h, h0, hk, hy, hz => by
    have hi : i < ys.length := by omega
    obtain ⟨hz1, hz2⟩ := hz i (Nat.le_refl _) (by omega)
    obtain ⟨us, u1, u2, u3, u4⟩ := mark_strs m hm (ys.getD i gz).2.1 (ys.getD i gz).2.2 (k + 1) (by omega) hz1 (by omega) (by omega)
    obtain ⟨zs, k', h1, h2, h3⟩ := mark_files_loop m hm n hn d q (i + 1) (k + 1 + (ys.getD i gz).2.2) (ys.set i (mt m k, us, (ys.getD i gz).2.2)) (by omega) (by omega) (by omega) (by rw [List.length_set]; exact hy) (fun j hj1 hj2 => by
      have e : (ys.set i (mt m k, us, (ys.getD i gz).2.2)).getD j gz = ys.getD j gz := by
        rw [List.getD_eq_getElem?_getD, List.getElem?_set_ne (by omega)]; exact (List.getD_eq_getElem?_getD ..).symm
      rw [e]; exact hz j (by omega) hj2)
    refine ⟨zs, k', ?_, by omega, by omega⟩
    show laws_markFileS.b0 m (laws_markFileS.tab m (q + d + 1)) ys (n : Int) (k : Int) (i : Int) = _
    unfold laws_markFileS.b0
    rw [show ((Int.toNat (n : Int) : Nat) : Int) = (n : Int) from rfl, decide_eq_true (show (i : Int) < (n : Int) by omega), mark_v m (by omega) k h0 (by omega), decide_eq_true (show (0 : Int) ≤ (i : Int) by omega),
      show w64 ((k : Int) + 1) = ((k + 1 : Nat) : Int) from w64_ok (by omega) (by omega), w64_succ (by omega)]
    simp only [cond, lett, Option.bind_some]
    rw [show Int.toNat (i : Int) = i from rfl]
    have e1 : (List.set ys i (mt m k, (List.getD ys i gz).2)).getD i gz = (mt m k, (ys.getD i gz).2) := by
      rw [List.getD_eq_getElem?_getD, List.getElem?_set_self hi]; rfl
    rw [show (ByteArray.empty, ([] : List ByteArray), (0 : Nat)) = gz from rfl, e1]
    simp only
    rw [u1]
    simp only [Option.bind_some]
    rw [List.set_set]
    exact h1

/-- marks in a tree: how many is all that counts -/
theorem mark_files (m : Nat) (hm : 1000000000 ≤ m) (ys : STree) (n k : Nat) (hn : n < 10000000) (h0 : k ≠ 0) (hk : k < 100000000000000000) (hy : n ≤ ys.length) (hw : ∀ z ∈ ys.take n, fileW z) :
    ∃ zs k', laws_markFileS m (ys, (n : Int), (k : Int), ()) = some (zs, ((k' : Nat) : Int), ()) ∧ k ≤ k' ∧ k' ≤ k + 100000000 * n := by
  obtain ⟨zs, k', h1, h2, h3⟩ := mark_files_loop m hm n (by omega) n (m - (n + 1)) 0 k ys (by omega) h0 (by omega) hy (fun j _ hj => by
    have hm : ys.getD j gz ∈ ys.take n := by
      rw [List.getD_eq_getElem?_getD, List.getElem?_eq_getElem (show j < ys.length by omega)]
      exact List.mem_take_iff_getElem.2 ⟨j, by omega, rfl⟩
    have := hw _ hm
    exact ⟨by rw [this.1]; omega, this.2⟩)
  rw [show m - (n + 1) + n + 1 = m by omega] at h1
  exact ⟨zs, k', h1, h2, h3⟩
end Go.Sx.Tryd
