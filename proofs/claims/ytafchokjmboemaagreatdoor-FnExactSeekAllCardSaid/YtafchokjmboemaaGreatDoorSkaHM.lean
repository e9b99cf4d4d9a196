/- A part of the pure law of FnExactSeekAll, over the printed functions: what they answer. No condition but those of each theorem. -/
import Derived.Test.YtafchokjmboemaaGreatDoorSkaHD
namespace Go.Sx.Tryz
open Go Go.Proofs Go.Sx
set_option linter.unusedVariables false
set_option linter.unusedSimpArgs false

theorem mark_loop (m : Nat) : ∀ (d q k : Nat) (acc : ByteArray), k < 10 ^ d → k < 1000000000000000000 → acc.size + d ≤ 1000 → ∃ s, (laws_markText.tab m (q + d + 1)).1 ((k : Int), acc, ()) = some (s, ())
  | 0, q, k, acc, h, h2, ha => by
    obtain rfl : k = 0 := by simpa using h
    have e : s_6d.size = 1 := rfl
    have ca : cap = 140737488355328 := rfl
    refine ⟨ByteArray.append s_6d acc, ?_⟩
    show laws_markText.b0 m (laws_markText.tab m q) ((0 : Nat) : Int) acc = _
    unfold laws_markText.b0
    rw [decide_eq_false (show ¬ ((0 : Nat) : Int) > 0 by omega), decide_eq_true (show s_6d.size + acc.size ≤ cap by omega)]
    rfl
  | d + 1, q, k, acc, h, h2, ha => by
    have e : s_6d.size = 1 := rfl
    have ca : cap = 140737488355328 := rfl
    by_cases hk : k = 0
    · subst hk
      refine ⟨ByteArray.append s_6d acc, ?_⟩
      show laws_markText.b0 m (laws_markText.tab m (q + d + 1)) ((0 : Nat) : Int) acc = _
      unfold laws_markText.b0
      rw [decide_eq_false (show ¬ ((0 : Nat) : Int) > 0 by omega), decide_eq_true (show s_6d.size + acc.size ≤ cap by omega)]
      rfl
    · obtain ⟨s, hs⟩ := mark_loop m d q (k / 10) (ByteArray.append (strOfNums [wr .u8 (w64 (48 + Int.tmod (k : Int) 10))]) acc) (by rw [Nat.pow_succ] at h; omega) (by omega) (by rw [append_size, strOfNums_size]; simp; omega)
      refine ⟨s, ?_⟩
      show laws_markText.b0 m (laws_markText.tab m (q + d + 1)) (k : Int) acc = _
      unfold laws_markText.b0
      rw [decide_eq_true (show (k : Int) > 0 by omega)]
      simp only [cond, lett]
      rw [decide_eq_true (show (strOfNums [wr .u8 (w64 (48 + Int.tmod (k : Int) 10))]).size + acc.size ≤ cap by rw [strOfNums_size]; simp; omega)]
      rw [show w64 (Int.tdiv (k : Int) 10) = ((k / 10 : Nat) : Int) from by
        rw [show Int.tdiv (k : Int) 10 = ((k / 10 : Nat) : Int) from rfl]
        exact w64_ok (by omega) (by omega)]
      exact hs

/-- the k-th mark -/
def mt (m k : Nat) : ByteArray := match laws_markText m ((k : Int), ()) with | some r => r.1 | none => ByteArray.empty
theorem mark_v (m : Nat) (hm : 100 ≤ m) (k : Nat) (h0 : k ≠ 0) (hk : k < 1000000000000000000) : laws_markText m ((k : Int), ()) = some (mt m k, ()) := by
  obtain ⟨s, hs⟩ := mark_loop m 18 (m - 19) k ByteArray.empty (by simpa using hk) hk (by simp)
  rw [show m - 19 + 18 + 1 = m by omega] at hs
  have h : laws_markText m ((k : Int), ()) = some (s, ()) := by
    show laws_markText.start m (laws_markText.tab m m) (k : Int) = _
    unfold laws_markText.start
    rw [decide_eq_false (show ¬ (k : Int) ≤ 0 by omega)]
    exact hs
  unfold mt
  rw [h]

theorem mark_strs_loop (m : Nat) (hm : 100 ≤ m) (n : Nat) (hn : n < 100000000) : ∀ (d q i k : Nat) (ys : List ByteArray), i + d = n → k ≠ 0 → k + d < 1000000000000000000 → n ≤ ys.length →
    ∃ zs, (laws_markStringS.tab m (q + d + 1)).1 (ys, (n : Int), (k : Int), (i : Int), ()) = some (zs, ((k + d : Nat) : Int), ()) ∧ zs.length = ys.length ∧ zs.take i = ys.take i ∧ zs.drop n = ys.drop n ∧ ∀ j, i ≤ j → j < n → zs.getD j ByteArray.empty = mt m (k + (j - i))
  | 0, q, i, k, ys, h, h0, hk, hy => by
    refine ⟨ys, ?_, rfl, rfl, rfl, fun j h1 h2 => by omega⟩
    show laws_markStringS.b0 m (laws_markStringS.tab m q) ys (n : Int) (k : Int) (i : Int) = _
    unfold laws_markStringS.b0
    rw [show ((Int.toNat (n : Int) : Nat) : Int) = (n : Int) from rfl, decide_eq_false (show ¬ (i : Int) < (n : Int) by omega)]
    rfl
  | d + 1, q, i, k, ys, h, h0, hk, hy => by
    obtain ⟨zs, h1, h2, h3, h4, h5⟩ := mark_strs_loop m hm n hn d q (i + 1) (k + 1) (ys.set i (mt m k)) (by omega) (by omega) (by omega) (by rw [List.length_set]; exact hy)
    rw [List.length_set] at h2
    refine ⟨zs, ?_, h2, ?_, ?_, fun j hj1 hj2 => ?_⟩
    · show laws_markStringS.b0 m (laws_markStringS.tab m (q + d + 1)) ys (n : Int) (k : Int) (i : Int) = _
      unfold laws_markStringS.b0
      rw [show ((Int.toNat (n : Int) : Nat) : Int) = (n : Int) from rfl, decide_eq_true (show (i : Int) < (n : Int) by omega), mark_v m hm k h0 (by omega), decide_eq_true (show (0 : Int) ≤ (i : Int) by omega),
        show w64 ((k : Int) + 1) = ((k + 1 : Nat) : Int) from w64_ok (by omega) (by omega), w64_succ (by omega)]
      rw [show k + (d + 1) = k + 1 + d by omega]
      exact h1
    · have := congrArg (List.take i) h3
      rw [List.take_take, List.take_take, Nat.min_eq_left (by omega), take_set (Nat.le_refl _)] at this
      exact this
    · rw [h4, List.drop_set_of_lt (by omega)]
    · rcases Nat.eq_or_lt_of_le hj1 with e | e
      · subst e
        have h6 := congrArg (fun l => l.getD i ByteArray.empty) h3
        simp only [List.getD_eq_getElem?_getD, List.getElem?_take, if_pos (show i < i + 1 by omega), List.getElem?_set_self (show i < ys.length by omega)] at h6
        rw [List.getD_eq_getElem?_getD, h6, Nat.sub_self, Nat.add_zero]
        rfl
      · rw [h5 j e hj2]
        congr 1; omega

/-- marks in a list of strings -/
theorem mark_strs (m : Nat) (hm : 1000000000 ≤ m) (ys : List ByteArray) (n k : Nat) (hn : n < 100000000) (hy : n ≤ ys.length) (h0 : k ≠ 0) (hk : k + n < 1000000000000000000) :
    ∃ zs, laws_markStringS m (ys, (n : Int), (k : Int), ()) = some (zs, ((k + n : Nat) : Int), ()) ∧ zs.length = ys.length ∧ zs.drop n = ys.drop n ∧ ∀ j, j < n → zs.getD j ByteArray.empty = mt m (k + j) := by
  obtain ⟨zs, h1, h2, h3, h4, h5⟩ := mark_strs_loop m (by omega) n hn n (m - (n + 1)) 0 k ys (by omega) h0 hk hy
  rw [show m - (n + 1) + n + 1 = m by omega] at h1
  exact ⟨zs, h1, h2, h4, fun j hj => by rw [h5 j (Nat.zero_le _) hj, Nat.sub_zero]⟩
end Go.Sx.Tryz
