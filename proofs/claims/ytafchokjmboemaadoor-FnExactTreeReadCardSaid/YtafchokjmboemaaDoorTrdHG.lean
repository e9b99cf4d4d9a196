/- A part of the pure law of FnExactTreeRead, over the printed functions: what they answer. No condition but those of each theorem. -/
import Derived.Test.YtafchokjmboemaaDoorTrdHE
namespace Go.Sx.Tryd
open Go Go.Proofs Go.Sx
set_option linter.unusedVariables false
set_option linter.unusedSimpArgs false

theorem take_set {α : Type} {l : List α} {i n : Nat} {x : α} (h : n ≤ i) : (l.set i x).take n = l.take n := by
  apply List.ext_getElem?
  intro j
  by_cases h1 : j < n
  · simp [List.getElem?_take, h1, List.getElem?_set, show ¬ i = j by omega]
  · simp [List.getElem?_take, h1]

theorem eq_strs_loop (m : Nat) (x : List ByteArray × Nat) (hx : x.2 < 100000000) : ∀ (d k i : Nat), i + d = x.2 → (laws_eqStringS.tab m (k + d + 1)).1 (x, x, (i : Int), ()) = some (true, ())
  | 0, k, i, h => by
    show laws_eqStringS.b0 m (laws_eqStringS.tab m k) x x (i : Int) = _
    unfold laws_eqStringS.b0
    rw [decide_eq_false (show ¬ (i : Int) < (x.2 : Int) by omega)]
    rfl
  | d + 1, k, i, h => by
    show laws_eqStringS.b0 m (laws_eqStringS.tab m (k + d + 1)) x x (i : Int) = _
    unfold laws_eqStringS.b0
    rw [decide_eq_true (show (i : Int) < (x.2 : Int) by omega), decide_eq_true (show (0 : Int) ≤ (i : Int) by omega), sEq_self, w64_succ (by omega)]
    exact eq_strs_loop m x hx d k (i + 1) (by omega)

theorem eq_strs (m : Nat) (hm : 1000000000 ≤ m) (x : List ByteArray × Nat) (hx : x.2 < 100000000) : laws_eqStringS m (x, x, ()) = some (true, ()) := by
  have h := eq_strs_loop m x hx x.2 (m - (x.2 + 1)) 0 (by omega)
  rw [show m - (x.2 + 1) + x.2 + 1 = m by omega] at h
  show laws_eqStringS.start m (laws_eqStringS.tab m m) x x = _
  unfold laws_eqStringS.start
  rw [show ((x.2 : Int) != (x.2 : Int)) = false by simp]
  exact h

theorem eq_files_loop (m : Nat) (hm : 1000000000 ≤ m) (x : STree × Nat) (hx : x.2 < 100000000) (hl : ∀ z ∈ x.1, z.2.2 < 100000000) : ∀ (d k i : Nat), i + d = x.2 → (laws_eqFileS.tab m (k + d + 1)).1 (x, x, (i : Int), ()) = some (true, ())
  | 0, k, i, h => by
    show laws_eqFileS.b0 m (laws_eqFileS.tab m k) x x (i : Int) = _
    unfold laws_eqFileS.b0
    rw [decide_eq_false (show ¬ (i : Int) < (x.2 : Int) by omega)]
    rfl
  | d + 1, k, i, h => by
    show laws_eqFileS.b0 m (laws_eqFileS.tab m (k + d + 1)) x x (i : Int) = _
    unfold laws_eqFileS.b0
    rw [decide_eq_true (show (i : Int) < (x.2 : Int) by omega), decide_eq_true (show (0 : Int) ≤ (i : Int) by omega), w64_succ (by omega)]
    simp only [cond, lett]
    have hz : (getL x.1 (i : Int) gz).2.2 < 100000000 := by
      show (x.1.getD i gz).2.2 < 100000000
      by_cases hi : i < x.1.length
      · exact hl _ (mem_getD hi)
      · rw [List.getD_eq_getElem?_getD, List.getElem?_eq_none (by omega)]
        decide
    rw [show laws_eqFile m ((getL x.1 (i : Int) gz).1, (getL x.1 (i : Int) gz).2, (getL x.1 (i : Int) gz).1, (getL x.1 (i : Int) gz).2, ()) = some (true, ()) from by
      show laws_eqFile.start m _ _ _ _ _ = _
      unfold laws_eqFile.start
      rw [sEq_self, eq_strs m hm _ hz]
      rfl]
    exact eq_files_loop m hm x hx hl d k (i + 1) (by omega)

theorem eq_files (m : Nat) (hm : 1000000000 ≤ m) (x : STree × Nat) (hx : x.2 < 100000000) (hl : ∀ z ∈ x.1, z.2.2 < 100000000) : laws_eqFileS m (x, x, ()) = some (true, ()) := by
  have h := eq_files_loop m hm x hx hl x.2 (m - (x.2 + 1)) 0 (by omega)
  rw [show m - (x.2 + 1) + x.2 + 1 = m by omega] at h
  show laws_eqFileS.start m (laws_eqFileS.tab m m) x x = _
  unfold laws_eqFileS.start
  rw [show ((x.2 : Int) != (x.2 : Int)) = false by simp]
  exact h

theorem mark_loop (m : Nat) : ∀ (d q k : Nat) (acc : ByteArray), k < 10 ^ d → k < 1000000000000000000 → acc.size + d ≤ 1000 → ∃ s, (laws_markText.tab m (q + d + 1)).1 ((k : Int), acc, ()) = some (s, ())
  | 0, q, k, acc, h, h2, ha => by
    obtain rfl : k = 0 := by simpa using h
    have e : s_6d.size = 1 := rfl
    have ca : cap = 140737488355328 := rfl
    refine ⟨ByteArray.append s_6d acc, ?_⟩
    show laws_markText.b0 m (laws_markText.tab m q) ((0 : Nat) : Int) acc = _
    unfold laws_markText.b0
    rw [decide_eq_false (show ¬ ((0 : Nat) : Int) > 0 by omega), decide_eq_true (show s_6d.size + acc.size ≤ cap by omega)]
    rfl
  | d + 1, q, k, acc, h, h2, ha => by
    have e : s_6d.size = 1 := rfl
    have ca : cap = 140737488355328 := rfl
    by_cases hk : k = 0
    · subst hk
      refine ⟨ByteArray.append s_6d acc, ?_⟩
      show laws_markText.b0 m (laws_markText.tab m (q + d + 1)) ((0 : Nat) : Int) acc = _
      unfold laws_markText.b0
      rw [decide_eq_false (show ¬ ((0 : Nat) : Int) > 0 by omega), decide_eq_true (show s_6d.size + acc.size ≤ cap by omega)]
      rfl
    · obtain ⟨s, hs⟩ := mark_loop m d q (k / 10) (ByteArray.append (strOfNums [wr .u8 (w64 (48 + Int.tmod (k : Int) 10))]) acc) (by rw [Nat.pow_succ] at h; omega) (by omega) (by rw [append_size, strOfNums_size]; simp; omega)
      refine ⟨s, ?_⟩
      show laws_markText.b0 m (laws_markText.tab m (q + d + 1)) (k : Int) acc = _
      unfold laws_markText.b0
      rw [decide_eq_true (show (k : Int) > 0 by omega)]
      simp only [cond, lett]
      rw [decide_eq_true (show (strOfNums [wr .u8 (w64 (48 + Int.tmod (k : Int) 10))]).size + acc.size ≤ cap by rw [strOfNums_size]; simp; omega)]
      rw [show w64 (Int.tdiv (k : Int) 10) = ((k / 10 : Nat) : Int) from by
        rw [show Int.tdiv (k : Int) 10 = ((k / 10 : Nat) : Int) from rfl]
        exact w64_ok (by omega) (by omega)]
      exact hs

/-- the k-th mark -/
def mt (m k : Nat) : ByteArray := match laws_markText m ((k : Int), ()) with | some r => r.1 | none => ByteArray.empty
theorem mark_v (m : Nat) (hm : 100 ≤ m) (k : Nat) (h0 : k ≠ 0) (hk : k < 1000000000000000000) : laws_markText m ((k : Int), ()) = some (mt m k, ()) := by
  obtain ⟨s, hs⟩ := mark_loop m 18 (m - 19) k ByteArray.empty (by simpa using hk) hk (by simp)
  rw [show m - 19 + 18 + 1 = m by omega] at hs
  have h : laws_markText m ((k : Int), ()) = some (s, ()) := by
    show laws_markText.start m (laws_markText.tab m m) (k : Int) = _
    unfold laws_markText.start
    rw [decide_eq_false (show ¬ (k : Int) ≤ 0 by omega)]
    exact hs
  unfold mt
  rw [h]

theorem mark_strs_loop (m : Nat) (hm : 100 ≤ m) (n : Nat) (hn : n < 100000000) : ∀ (d q i k : Nat) (ys : List ByteArray), i + d = n → k ≠ 0 → k + d < 1000000000000000000 → n ≤ ys.length →
    ∃ zs, (laws_markStringS.tab m (q + d + 1)).1 (ys, (n : Int), (k : Int), (i : Int), ()) = some (zs, ((k + d : Nat) : Int), ()) ∧ zs.length = ys.length ∧ zs.take i = ys.take i ∧ zs.drop n = ys.drop n ∧ ∀ j, i ≤ j → j < n → zs.getD j ByteArray.empty = mt m (k + (j - i))
  | 0, q, i, k, ys, h, h0, hk, hy => by
    refine ⟨ys, ?_, rfl, rfl, rfl, fun j h1 h2 => by omega⟩
    show laws_markStringS.b0 m (laws_markStringS.tab m q) ys (n : Int) (k : Int) (i : Int) = _
    unfold laws_markStringS.b0
    rw [show ((Int.toNat (n : Int) : Nat) : Int) = (n : Int) from rfl, decide_eq_false (show ¬ (i : Int) < (n : Int) by omega)]
    rfl
  | d + 1, q, i, k, ys, h, h0, hk, hy => by
    obtain ⟨zs, h1, h2, h3, h4, h5⟩ := mark_strs_loop m hm n hn d q (i + 1) (k + 1) (ys.set i (mt m k)) (by omega) (by omega) (by omega) (by rw [List.length_set]; exact hy)
    rw [List.length_set] at h2
    refine ⟨zs, ?_, h2, ?_, ?_, fun j hj1 hj2 => ?_⟩
    · show laws_markStringS.b0 m (laws_markStringS.tab m (q + d + 1)) ys (n : Int) (k : Int) (i : Int) = _
      unfold laws_markStringS.b0
      rw [show ((Int.toNat (n : Int) : Nat) : Int) = (n : Int) from rfl, decide_eq_true (show (i : Int) < (n : Int) by omega), mark_v m hm k h0 (by omega), decide_eq_true (show (0 : Int) ≤ (i : Int) by omega),
        show w64 ((k : Int) + 1) = ((k + 1 : Nat) : Int) from w64_ok (by omega) (by omega), w64_succ (by omega)]
      rw [show k + (d + 1) = k + 1 + d by omega]
      exact h1
    · have := congrArg (List.take i) h3
      rw [List.take_take, List.take_take, Nat.min_eq_left (by omega), take_set (Nat.le_refl _)] at this
      exact this
    · rw [h4, List.drop_set_of_lt (by omega)]
    · rcases Nat.eq_or_lt_of_le hj1 with e | e
      · subst e
        have h6 := congrArg (fun l => l.getD i ByteArray.empty) h3
        simp only [List.getD_eq_getElem?_getD, List.getElem?_take, if_pos (show i < i + 1 by omega), List.getElem?_set_self (show i < ys.length by omega)] at h6
        rw [List.getD_eq_getElem?_getD, h6, Nat.sub_self, Nat.add_zero]
        rfl
      · rw [h5 j e hj2]
        congr 1; omega

/-- marks in a list of strings -/
theorem mark_strs (m : Nat) (hm : 1000000000 ≤ m) (ys : List ByteArray) (n k : Nat) (hn : n < 100000000) (hy : n ≤ ys.length) (h0 : k ≠ 0) (hk : k + n < 1000000000000000000) :
    ∃ zs, laws_markStringS m (ys, (n : Int), (k : Int), ()) = some (zs, ((k + n : Nat) : Int), ()) ∧ zs.length = ys.length ∧ zs.drop n = ys.drop n ∧ ∀ j, j < n → zs.getD j ByteArray.empty = mt m (k + j) := by
  obtain ⟨zs, h1, h2, h3, h4, h5⟩ := mark_strs_loop m (by omega) n hn n (m - (n + 1)) 0 k ys (by omega) h0 hk hy
  rw [show m - (n + 1) + n + 1 = m by omega] at h1
  exact ⟨zs, h1, h2, h4, fun j hj => by rw [h5 j (Nat.zero_le _) hj, Nat.sub_zero]⟩

theorem held_strs_loop (m : Nat) (hm : 100 ≤ m) (zs : List ByteArray) (n k0 : Nat) (hn : n < 100000000) (h0 : k0 ≠ 0) (hk : k0 + n < 1000000000000000000) (hz : ∀ j, j < n → zs.getD j ByteArray.empty = mt m (k0 + j)) : ∀ (d q i : Nat), i + d = n →
    (laws_heldStringS.tab m (q + d + 1)).1 ((zs, n), ((k0 + i : Nat) : Int), (i : Int), ()) = some (((k0 + n : Nat) : Int), ())
  | 0, q, i, h => by
    obtain rfl : i = n := by omega
    show laws_heldStringS.b0 m (laws_heldStringS.tab m q) (zs, i) ((k0 + i : Nat) : Int) (i : Int) = _
    unfold laws_heldStringS.b0
    rw [decide_eq_false (show ¬ (i : Int) < (((zs, i) : List ByteArray × Nat).2 : Int) by show ¬ (i : Int) < (i : Int); omega)]
    rfl
  | d + 1, q, i, h => by
    have ih := held_strs_loop m hm zs n k0 hn h0 hk hz d q (i + 1) (by omega)
    show laws_heldStringS.b0 m (laws_heldStringS.tab m (q + d + 1)) (zs, n) ((k0 + i : Nat) : Int) (i : Int) = _
    unfold laws_heldStringS.b0
    rw [decide_eq_true (show (i : Int) < (((zs, n) : List ByteArray × Nat).2 : Int) by show (i : Int) < (n : Int); omega), decide_eq_true (show (0 : Int) ≤ (i : Int) by omega), mark_v m hm (k0 + i) (by omega) (by omega),
      show w64 (((k0 + i : Nat) : Int) + 1) = ((k0 + (i + 1) : Nat) : Int) from by rw [show ((k0 + i : Nat) : Int) + 1 = ((k0 + (i + 1) : Nat) : Int) by omega]; exact w64_ok (by omega) (by omega), w64_succ (by omega)]
    simp only [cond, lett, Option.bind_some]
    rw [show getL ((zs, n) : List ByteArray × Nat).1 (i : Int) ByteArray.empty = zs.getD i ByteArray.empty from rfl, hz i (by omega), sEq_self]
    exact ih

theorem held_strs (m : Nat) (hm : 1000000000 ≤ m) (zs : List ByteArray) (n k0 : Nat) (hn : n < 100000000) (h0 : k0 ≠ 0) (hk : k0 + n < 1000000000000000000) (hz : ∀ j, j < n → zs.getD j ByteArray.empty = mt m (k0 + j)) :
    laws_heldStringS m ((zs, n), (k0 : Int), ()) = some (((k0 + n : Nat) : Int), ()) := by
  have h := held_strs_loop m (by omega) zs n k0 hn h0 hk hz n (m - (n + 1)) 0 (by omega)
  rw [show m - (n + 1) + n + 1 = m by omega] at h
  exact h

/-- marks in files, and that they are still there -/
theorem mark_held_loop (m : Nat) (hm : 1000000000 ≤ m) (n : Nat) (hn : n < 100000000) : ∀ (d q i k : Nat) (ys : STree), i + d = n → k ≠ 0 → k + 100000000 * d < 1000000000000000000 → n ≤ ys.length → (∀ j, i ≤ j → j < n → (ys.getD j gz).2.2 ≤ (ys.getD j gz).2.1.length ∧ (ys.getD j gz).2.2 < 10000000) →
    ∃ zs k', (laws_markFileS.tab m (q + d + 1)).1 (ys, (n : Int), (k : Int), (i : Int), ()) = some (zs, ((k' : Nat) : Int), ()) ∧ k ≤ k' ∧ k' ≤ k + 100000000 * d ∧ zs.length = ys.length ∧ zs.take i = ys.take i ∧
      ∀ p, (laws_heldFileS.tab m (p + d + 1)).1 ((zs, n), (k : Int), (i : Int), ()) = some (((k' : Nat) : Int), ())
  | 0, q, i, k, ys, h, h0, hk, hy, hz => by
    refine ⟨ys, k, ?_, Nat.le_refl _, Nat.le_refl _, rfl, rfl, fun p => ?_⟩
    · show laws_markFileS.b0 m (laws_markFileS.tab m q) ys (n : Int) (k : Int) (i : Int) = _
      unfold laws_markFileS.b0
      rw [show ((Int.toNat (n : Int) : Nat) : Int) = (n : Int) from rfl, decide_eq_false (show ¬ (i : Int) < (n : Int) by omega)]
      rfl
    · show laws_heldFileS.b0 m (laws_heldFileS.tab m p) (ys, n) (k : Int) (i : Int) = _
      unfold laws_heldFileS.b0
      rw [decide_eq_false (show ¬ (i : Int) < (((ys, n) : STree × Nat).2 : Int) by show ¬ (i : Int) < (n : Int); omega)]
      rfl
  | d + 1, q, i, k, ys, h, h0, hk, hy, hz => by
    have hi : i < ys.length := by omega
    obtain ⟨hz1, hz2⟩ := hz i (Nat.le_refl _) (by omega)
    obtain ⟨us, u1, u2, u3, u4⟩ := mark_strs m hm (ys.getD i gz).2.1 (ys.getD i gz).2.2 (k + 1) (by omega) hz1 (by omega) (by omega)
    have uh := held_strs m hm us (ys.getD i gz).2.2 (k + 1) (by omega) (by omega) (by omega) u4
    obtain ⟨zs, k', h1, h2, h3, h4, h5, h6⟩ := mark_held_loop m hm n hn d q (i + 1) (k + 1 + (ys.getD i gz).2.2) (ys.set i (mt m k, us, (ys.getD i gz).2.2)) (by omega) (by omega) (by omega) (by rw [List.length_set]; exact hy) (fun j hj1 hj2 => by
      have e : (ys.set i (mt m k, us, (ys.getD i gz).2.2)).getD j gz = ys.getD j gz := by
        rw [List.getD_eq_getElem?_getD, List.getElem?_set_ne (by omega)]; exact (List.getD_eq_getElem?_getD ..).symm
      rw [e]; exact hz j (by omega) hj2)
    rw [List.length_set] at h4
    have hgi : zs.getD i gz = (mt m k, us, (ys.getD i gz).2.2) := by
      have h7 := congrArg (fun l => l.getD i gz) h5
      simp only [List.getD_eq_getElem?_getD, List.getElem?_take, if_pos (show i < i + 1 by omega), List.getElem?_set_self hi] at h7
      rw [List.getD_eq_getElem?_getD, h7, List.getD_eq_getElem?_getD]
      rfl
    refine ⟨zs, k', ?_, by omega, by omega, h4, ?_, fun p => ?_⟩
    · show laws_markFileS.b0 m (laws_markFileS.tab m (q + d + 1)) ys (n : Int) (k : Int) (i : Int) = _
      unfold laws_markFileS.b0
      rw [show ((Int.toNat (n : Int) : Nat) : Int) = (n : Int) from rfl, decide_eq_true (show (i : Int) < (n : Int) by omega), mark_v m (by omega) k h0 (by omega), decide_eq_true (show (0 : Int) ≤ (i : Int) by omega),
        show w64 ((k : Int) + 1) = ((k + 1 : Nat) : Int) from w64_ok (by omega) (by omega), w64_succ (by omega)]
      simp only [cond, lett, Option.bind_some]
      rw [show Int.toNat (i : Int) = i from rfl]
      have e1 : (List.set ys i (mt m k, (List.getD ys i gz).2)).getD i gz = (mt m k, (ys.getD i gz).2) := by
        rw [List.getD_eq_getElem?_getD, List.getElem?_set_self hi]; rfl
      rw [e1, u1]
      simp only [Option.bind_some]
      rw [List.set_set]
      exact h1
    · have := congrArg (List.take i) h5
      rw [List.take_take, List.take_take, Nat.min_eq_left (by omega), take_set (Nat.le_refl _)] at this
      exact this
    · show laws_heldFileS.b0 m (laws_heldFileS.tab m (p + d + 1)) (zs, n) (k : Int) (i : Int) = _
      unfold laws_heldFileS.b0
      rw [decide_eq_true (show (i : Int) < (((zs, n) : STree × Nat).2 : Int) by show (i : Int) < (n : Int); omega), decide_eq_true (show (0 : Int) ≤ (i : Int) by omega), mark_v m (by omega) k h0 (by omega),
        show w64 ((k : Int) + 1) = ((k + 1 : Nat) : Int) from w64_ok (by omega) (by omega), w64_succ (by omega),
        show getL ((zs, n) : STree × Nat).1 (i : Int) (ByteArray.empty, ([] : List ByteArray), (0 : Nat)) = (mt m k, us, (ys.getD i gz).2.2) from hgi]
      simp only [cond, lett, Option.bind_some]
      rw [sEq_self, uh]
      simp only [Option.bind_some, Bool.not_true]
      rw [decide_eq_false (show ¬ (((k + 1 + (ys.getD i gz).2.2 : Nat) : Int)) < 0 by omega)]
      exact h6 p

theorem mark_held (m : Nat) (hm : 1000000000 ≤ m) (ys : STree) (hn : ys.length < 100000) (hz : ∀ z ∈ ys, z.2.2 ≤ z.2.1.length ∧ z.2.2 < 10000000) :
    ∃ zs k', laws_markFileS m (ys, (ys.length : Int), (101 : Int), ()) = some (zs, ((k' : Nat) : Int), ()) ∧ laws_heldFileS m ((zs, zs.length), (101 : Int), ()) = some (((k' : Nat) : Int), ()) := by
  obtain ⟨zs, k', h1, h2, h3, h4, h5, h6⟩ := mark_held_loop m hm ys.length (by omega) ys.length (m - (ys.length + 1)) 0 101 ys (by omega) (by omega) (by omega) (Nat.le_refl _) (fun j _ hj => hz _ (mem_getD hj))
  have h7 := h6 (m - (ys.length + 1))
  rw [show m - (ys.length + 1) + ys.length + 1 = m by omega] at h1 h7
  rw [← h4] at h7
  exact ⟨zs, k', h1, h7⟩
end Go.Sx.Tryd
