/- A part of the pure law of FnTreeRead, over the printed functions: what they answer. No condition but those of each theorem. -/
import Derived.Test.YtpchbfkiingmjaaDoorTtrHJ
import Derived.Test.YtpchbfkiingmjaaDoorTtrHI
namespace Go.Sx.Tryd
open Go Go.Proofs Go.Sx
set_option linter.unusedVariables false
set_option linter.unusedSimpArgs false

theorem num_loop (m : Nat) (s : ByteArray) (hs : s.size < 1000000000) : ∀ (d k i : Nat) (a : Int), i + d = s.size → ∃ v : Int, (spec_l1Num.tab m (k + d + 1)).1 (s, a, (i : Int), ()) = some (v, ())
  | 0, k, i, a, h => by
    show ∃ v : Int, spec_l1Num.b0 m (spec_l1Num.tab m k) s a (i : Int) = some (v, ())
    unfold spec_l1Num.b0
    rw [decide_eq_false (show ¬ (i : Int) < sLen s by simp only [sLen]; omega)]
    by_cases h0 : sLen s = 0
    · rw [show ((sLen s) == (0 : Int)) = true by rw [h0]; rfl]; exact ⟨_, rfl⟩
    · have h1 : (0 : Int) < sLen s := by simp only [sLen] at h0 ⊢; omega
      rw [show ((sLen s) == (0 : Int)) = false by rw [beq_eq_false_iff_ne]; exact h0]
      by_cases h2 : sLen s > 1
      · rw [decide_eq_true h2, decide_eq_true h1]
        cases hb : (byteAt s (0 : Int) == 48) with
        | false => exact ⟨a, rfl⟩
        | true => exact ⟨-1, rfl⟩
      · rw [decide_eq_false h2]; exact ⟨_, rfl⟩
  | d + 1, k, i, a, h => by
    show ∃ v : Int, spec_l1Num.b0 m (spec_l1Num.tab m (k + d + 1)) s a (i : Int) = some (v, ())
    unfold spec_l1Num.b0
    rw [decide_eq_true (show (i : Int) < sLen s by simp only [sLen]; omega), decide_eq_true (show (0 : Int) ≤ (i : Int) by omega), w64_succ (by omega)]
    simp only [cond, lett]
    cases decide (byteAt s (i : Int) < 48) with
    | true => exact ⟨_, rfl⟩
    | false =>
      cases decide (byteAt s (i : Int) > 57) with
      | true => exact ⟨_, rfl⟩
      | false =>
        cases decide ((i : Int) ≥ 6) with
        | true => exact ⟨_, rfl⟩
        | false => exact num_loop m s hs d k (i + 1) _ (by omega)
theorem num_total (m : Nat) (s : ByteArray) (hs : s.size < 1000000000) (hm : s.size + 1 ≤ m) : ∃ v : Int, spec_l1Num m (s, ()) = some (v, ()) := by
  obtain ⟨v, h⟩ := num_loop m s hs s.size (m - (s.size + 1)) 0 0 (by omega)
  rw [show m - (s.size + 1) + s.size + 1 = m by omega] at h
  exact ⟨v, h⟩
theorem num_dec (m n : Nat) (hm : 100 ≤ m) (hn : n ≤ 16) : spec_l1Num m (decS n, ()) = some ((n : Int), ()) := by
  obtain ⟨k, rfl⟩ : ∃ k, m = k + 10 := ⟨m - 10, by omega⟩
  rcases (show n = 0 ∨ n = 1 ∨ n = 2 ∨ n = 3 ∨ n = 4 ∨ n = 5 ∨ n = 6 ∨ n = 7 ∨ n = 8 ∨ n = 9 ∨ n = 10 ∨ n = 11 ∨ n = 12 ∨ n = 13 ∨ n = 14 ∨ n = 15 ∨ n = 16 by omega) with rfl | rfl | rfl | rfl | rfl | rfl | rfl | rfl | rfl | rfl | rfl | rfl | rfl | rfl | rfl | rfl | rfl <;> rfl

theorem more_end (m : Nat) (ls : List ByteArray) (at_ : Nat) (hat : at_ < 1000000000) (bad : Bool) (hd : ByteArray) (h : bad = true ∨ ls.length ≤ at_ + 1) : spec_l24Rd_more m (ls, (at_ : Int), bad, hd, ()) = some (ls, (at_ : Int), bad, false, ()) := by
  show spec_l24Rd_more.start m _ ls (at_ : Int) bad hd = _
  unfold spec_l24Rd_more.start
  cases bad with
  | true => rfl
  | false =>
    rcases h with h | h
    · cases h
    · rw [w64_succ (by omega), decide_eq_true (show ((at_ + 1 : Nat) : Int) ≥ lLen ls by simp only [lLen]; omega)]
      rfl
theorem more_v (m : Nat) (ls : List ByteArray) (at_ : Nat) (hat : at_ < 1000000000) (hd : ByteArray) (h : at_ + 1 < ls.length) :
    spec_l24Rd_more m (ls, (at_ : Int), false, hd, ()) = some (ls, (at_ : Int), false, decide (hd.size ≤ (ls.getD at_ ByteArray.empty).size) && sEq (cutS (ls.getD at_ ByteArray.empty) 0 hd.size) hd, ()) := by
  show spec_l24Rd_more.start m _ ls (at_ : Int) false hd = _
  unfold spec_l24Rd_more.start
  rw [w64_succ (by omega), decide_eq_false (show ¬ ((at_ + 1 : Nat) : Int) ≥ lLen ls by simp only [lLen]; omega), decide_eq_true (show (0 : Int) ≤ (at_ : Int) by omega), decide_eq_true (show (at_ : Int) < lLen ls by simp only [lLen]; omega),
    show getL ls (at_ : Int) ByteArray.empty = ls.getD at_ ByteArray.empty from rfl]
  simp only [cond, lett]
  by_cases hsz : hd.size ≤ (ls.getD at_ ByteArray.empty).size
  · rw [decide_eq_true hsz, decide_eq_true (show sLen (ls.getD at_ ByteArray.empty) ≥ sLen hd by simp only [sLen]; omega), decide_eq_true (show (0 : Int) ≤ sLen hd by simp only [sLen]; omega)]
    rfl
  · rw [decide_eq_false hsz, decide_eq_false (show ¬ sLen (ls.getD at_ ByteArray.empty) ≥ sLen hd by simp only [sLen]; omega)]
    rfl

theorem line_end (m : Nat) (ls : List ByteArray) (at_ : Nat) (hat : at_ < 1000000000) (bad : Bool) (h : ls.length ≤ at_ + 1) : spec_l24Rd_line m (ls, (at_ : Int), bad, ()) = some (ls, (at_ : Int), true, ByteArray.empty, ()) := by
  show spec_l24Rd_line.start m _ ls (at_ : Int) bad = _
  unfold spec_l24Rd_line.start
  rw [w64_succ (by omega), decide_eq_true (show ((at_ + 1 : Nat) : Int) ≥ lLen ls by simp only [lLen]; omega)]
  rfl
theorem line_r (m : Nat) (ls : List ByteArray) (at_ : Nat) (hat : at_ < 1000000000) (bad : Bool) (h : at_ + 1 < ls.length) : spec_l24Rd_line m (ls, (at_ : Int), bad, ()) = some (ls, ((at_ + 1 : Nat) : Int), bad, ls.getD at_ ByteArray.empty, ()) := by
  show spec_l24Rd_line.start m _ ls (at_ : Int) bad = _
  unfold spec_l24Rd_line.start
  rw [w64_succ (by omega), decide_eq_false (show ¬ ((at_ + 1 : Nat) : Int) ≥ lLen ls by simp only [lLen]; omega),
    show w64 (((at_ + 1 : Nat) : Int) - 1) = ((at_ : Nat) : Int) from by rw [show ((at_ + 1 : Nat) : Int) - 1 = ((at_ : Nat) : Int) by omega]; exact w64_ok (by omega) (by omega)]
  simp only [cond, lett]
  rw [decide_eq_true (show (0 : Int) ≤ (at_ : Int) by omega), decide_eq_true (show (at_ : Int) < lLen ls by simp only [lLen]; omega)]
  rfl
/-- the next line, whatever there is -/
theorem line_total (m : Nat) (ls : List ByteArray) (hl : ls.length < 1000000000) (hx : ∀ x ∈ ls, x.size ≤ 1000000) (at_ : Nat) (hat : at_ < 1000000000) (bad : Bool) :
    ∃ (at' : Nat) (bad' : Bool) (s : ByteArray), spec_l24Rd_line m (ls, (at_ : Int), bad, ()) = some (ls, (at' : Int), bad', s, ()) ∧ at' ≤ at_ + 1 ∧ s.size ≤ 1000000 := by
  by_cases h : at_ + 1 < ls.length
  · exact ⟨_, _, _, line_r m ls at_ hat bad h, Nat.le_refl _, hx _ (mem_getD (by omega))⟩
  · exact ⟨_, _, _, line_end m ls at_ hat bad (by omega), by omega, by simp⟩

theorem inner_total (m : Nat) (ls : List ByteArray) (hl : ls.length < 1000000000) (hx : ∀ x ∈ ls, x.size ≤ 1000000) (t : Tree) (ht : t.length ≤ 8) (p w0 w1 w2 : ByteArray) (v : Int) (hv : v ≤ 10) (hn : spec_l1Num m (w2, ()) = some (v, ())) : ∀ (d K j at_ : Nat) (bad : Bool) (xs : List ByteArray),
    j + d = v.toNat → at_ + d < 1000000000 → xs.length = j →
    ∃ (at' : Nat) (bad' : Bool) (ys : List ByteArray), (spec_l24Rd_tree.tab m (K + d + 1)).2.1 (ls, (at_ : Int), bad, t, p, xs, [w0, w1, w2], (j : Int), ()) = (spec_l24Rd_tree.tab m K).1 (ls, (at' : Int), bad', t ++ [(p, xs ++ ys)], ()) ∧
      at' ≤ at_ + d ∧ ys.length = d ∧ ∀ x ∈ ys, x.size ≤ 1000000
  | 0, K, j, at_, bad, xs, h, ha, hxs => by
    refine ⟨at_, bad, [], ?_, by omega, rfl, fun x hx => by cases hx⟩
    show spec_l24Rd_tree.b1 m (spec_l24Rd_tree.tab m K) ls (at_ : Int) bad t p xs [w0, w1, w2] (j : Int) = _
    unfold spec_l24Rd_tree.b1
    rw [decide_eq_true (show (0 : Int) ≤ 2 by omega), decide_eq_true (show (2 : Int) < lLen [w0, w1, w2] by simp [lLen]), show getL [w0, w1, w2] (2 : Int) ByteArray.empty = w2 from rfl, hn]
    simp only [cond, Option.bind_some, lett]
    rw [decide_eq_false (show ¬ (j : Int) < v by omega), decide_eq_true (show List.length t + List.length [(p, xs)] ≤ apCap by show t.length + 1 ≤ 1073741824; omega), List.append_nil]
    rfl
  | d + 1, K, j, at_, bad, xs, h, ha, hxs => by
    obtain ⟨at1, bad1, s, l1, l2, l3⟩ := line_total m ls hl hx at_ (by omega) bad
    obtain ⟨at', bad', ys, r1, r2, r3, r4⟩ := inner_total m ls hl hx t ht p w0 w1 w2 v hv hn d K (j + 1) at1 bad1 (xs ++ [s]) (by omega) (by omega) (by simp; omega)
    refine ⟨at', bad', s :: ys, ?_, by omega, by simp; omega, fun x hx' => ?_⟩
    · show spec_l24Rd_tree.b1 m (spec_l24Rd_tree.tab m (K + d + 1)) ls (at_ : Int) bad t p xs [w0, w1, w2] (j : Int) = _
      unfold spec_l24Rd_tree.b1
      rw [decide_eq_true (show (0 : Int) ≤ 2 by omega), decide_eq_true (show (2 : Int) < lLen [w0, w1, w2] by simp [lLen]), show getL [w0, w1, w2] (2 : Int) ByteArray.empty = w2 from rfl, hn]
      simp only [cond, Option.bind_some, lett]
      rw [decide_eq_true (show (j : Int) < v by omega), l1]
      simp only [Option.bind_some]
      rw [decide_eq_true (show List.length xs + List.length [s] ≤ apCap by show xs.length + 1 ≤ 1073741824; omega), w64_succ (by omega)]
      have e : xs ++ s :: ys = (xs ++ [s]) ++ ys := by simp
      rw [e]
      exact r1
    · rcases List.mem_cons.1 hx' with rfl | h1
      · exact l3
      · exact r4 x h1

theorem outer_total (m : Nat) (hm : 10000000 ≤ m) (ls : List ByteArray) (hl : ls.length < 100000000) (hx : ∀ x ∈ ls, x.size ≤ 1000000) : ∀ (e k at_ : Nat) (bad : Bool) (t : Tree), t.length + e = 8 → at_ + 100 * e < 900000000 → (∀ f ∈ t, Bd f) →
    ∃ (at' : Nat) (bad' : Bool) (t' : Tree), (spec_l24Rd_tree.tab m (k + 12 * e + 2)).1 (ls, (at_ : Int), bad, t, ()) = some (ls, (at' : Int), bad', t', ()) ∧ at' < 1000000000 ∧ t'.length ≤ 8 ∧ ∀ f ∈ t', Bd f
  | e, k, at_, bad, t, h, ha, ht => by
    have hsF : s_66696c6520.size = 5 := rfl
    show ∃ (at' : Nat) (bad' : Bool) (t' : Tree), spec_l24Rd_tree.b0 m (spec_l24Rd_tree.tab m (k + 12 * e + 1)) ls (at_ : Int) bad t = _ ∧ _
    unfold spec_l24Rd_tree.b0
    by_cases hend : bad = true ∨ ls.length ≤ at_ + 1
    · rw [more_end m ls at_ (by omega) bad _ hend]
      exact ⟨at_, bad, t, rfl, by omega, by omega, ht⟩
    · obtain ⟨rfl, hat⟩ : bad = false ∧ at_ + 1 < ls.length := by
        constructor
        · cases bad with
          | true => exact absurd (.inl rfl) hend
          | false => rfl
        · have : ¬ ls.length ≤ at_ + 1 := fun h => hend (.inr h)
          omega
      rw [more_v m ls at_ (by omega) _ hat]
      simp only [Option.bind_some]
      cases (decide (s_66696c6520.size ≤ (ls.getD at_ ByteArray.empty).size) && sEq (cutS (ls.getD at_ ByteArray.empty) 0 s_66696c6520.size) s_66696c6520) with
      | false => exact ⟨at_, false, t, rfl, by omega, by omega, ht⟩
      | true =>
        simp only [cond]
        cases e with
        | zero =>
          rw [decide_eq_false (show ¬ lLen t < 8 by simp only [lLen]; omega)]
          exact ⟨at_, false, t, rfl, by omega, by omega, ht⟩
        | succ e =>
          rw [decide_eq_true (show lLen t < 8 by simp only [lLen]; omega), line_r m ls at_ (by omega) false hat]
          simp only [Option.bind_some]
          have hln := hx _ (mem_getD (z := ByteArray.empty) (show at_ < ls.length by omega))
          generalize ls.getD at_ ByteArray.empty = ln at hln ⊢
          obtain ⟨r, r1, r2, r3, r4, r5⟩ := cutC_v 32 3 (by omega) m ln (by omega) (by omega)
          rw [show spec_l1Cut m (ln, (32 : Int), (3 : Int), ()) = some (r, ()) from r1]
          simp only [Option.bind_some]
          by_cases hr : r.length = 3
          · obtain ⟨w0, w1, w2, rfl⟩ : ∃ a b c, r = [a, b, c] := by
              match r, hr with
              | [a, b, c], _ => exact ⟨a, b, c, rfl⟩
            have hw1 : w1.size < 1000000 := by
              have h0 : (splC 32 [] (bL ln)).length ≤ 3 := by
                rcases Nat.lt_or_ge 3 (splC 32 [] (bL ln)).length with h1 | h1
                · have := r4 h1; simp at this
                · exact h1
              have h1 := r3 h0
              have h2 : bL w1 ∈ splC 32 [] (bL ln) := by rw [← h1]; simp
              have h3 := (splC_sum 32 _ _ _ h2).1
              have h4 : (splC 32 [] (bL ln)).length = 3 := by rw [← h1]; rfl
              have h5 := bL_len ln
              rw [← bL_len w1]
              simp only [List.length_nil] at h3
              omega
            have hw2 : w2.size ≤ ln.size := r5 w2 (by simp)
            obtain ⟨v, hv⟩ := num_total m w2 (by omega) (by omega)
            rw [show (lLen [w0, w1, w2] != 3) = false from rfl, decide_eq_true (show (0 : Int) ≤ 2 by omega), decide_eq_true (show (2 : Int) < lLen [w0, w1, w2] by simp [lLen]), show getL [w0, w1, w2] (2 : Int) ByteArray.empty = w2 from rfl, hv]
            simp only [Option.bind_some]
            by_cases hv10 : v > 10
            · rw [decide_eq_true hv10]
              exact ⟨_, true, [], rfl, by omega, by simp, fun f hf => by cases hf⟩
            · rw [decide_eq_false hv10, decide_eq_true (show (0 : Int) ≤ 1 by omega), decide_eq_true (show (1 : Int) < lLen [w0, w1, w2] by simp [lLen]), show getL [w0, w1, w2] (1 : Int) ByteArray.empty = w1 from rfl]
              simp only
              have hd : v.toNat ≤ 10 := by omega
              obtain ⟨at1, bad1, ys, i1, i2, i3, i4⟩ := inner_total m ls (by omega) hx t (by omega) w1 w0 w1 w2 v (by omega) hv v.toNat (k + (10 - v.toNat) + 12 * e + 2) 0 (at_ + 1) false [] (by omega) (by omega) rfl
              obtain ⟨at', bad', t', o1, o2, o3, o4⟩ := outer_total m hm ls hl hx e (k + (10 - v.toNat)) at1 bad1 (t ++ [(w1, [] ++ ys)]) (by simp; omega) (by omega) (fun f hf => by
                rcases List.mem_append.1 hf with h1 | h1
                · exact ht f h1
                · rw [List.mem_singleton] at h1; rw [h1]; exact ⟨hw1, by show ([] ++ ys : List ByteArray).length ≤ _; simp; omega, fun x hx' => i4 x (by simpa using hx')⟩)
              refine ⟨at', bad', t', ?_, o2, o3, o4⟩
              rw [show k + 12 * (e + 1) + 1 = k + (10 - v.toNat) + 12 * e + 2 + v.toNat + 1 by omega]
              exact i1.trans o1
          · rw [show (lLen r != 3) = true from by simp only [lLen]; rw [bne_iff_ne]; omega]
            exact ⟨_, true, [], rfl, by omega, by simp, fun f hf => by cases hf⟩

/-! ### of a text that was written so -/
theorem inner_v (m : Nat) (ls : List ByteArray) (hl : ls.length < 100000000) (t : Tree) (ht : t.length ≤ 8) (p w0 w1 w2 : ByteArray) (n : Nat) (hn10 : n ≤ 10) (hn : spec_l1Num m (w2, ()) = some ((n : Int), ())) (rest : List ByteArray) (hrest : rest ≠ []) : ∀ (ys : List ByteArray) (K j at_ : Nat) (xs : List ByteArray),
    j + ys.length = n → ls.drop at_ = ys ++ rest → xs.length = j →
    (spec_l24Rd_tree.tab m (K + ys.length + 1)).2.1 (ls, (at_ : Int), false, t, p, xs, [w0, w1, w2], (j : Int), ()) = (spec_l24Rd_tree.tab m K).1 (ls, ((at_ + ys.length : Nat) : Int), false, t ++ [(p, xs ++ ys)], ())
  | [], K, j, at_, xs, h, hd, hxs => by
    simp only [List.length_nil] at h
    show spec_l24Rd_tree.b1 m (spec_l24Rd_tree.tab m K) ls (at_ : Int) false t p xs [w0, w1, w2] (j : Int) = _
    unfold spec_l24Rd_tree.b1
    rw [decide_eq_true (show (0 : Int) ≤ 2 by omega), decide_eq_true (show (2 : Int) < lLen [w0, w1, w2] by simp [lLen]), show getL [w0, w1, w2] (2 : Int) ByteArray.empty = w2 from rfl, hn]
    simp only [cond, Option.bind_some, lett]
    rw [decide_eq_false (show ¬ (j : Int) < (n : Int) by omega), decide_eq_true (show List.length t + List.length [(p, xs)] ≤ apCap by show t.length + 1 ≤ 1073741824; omega), List.append_nil]
    rfl
  | y :: ys, K, j, at_, xs, h, hd, hxs => by
    have hlen : (ls.drop at_).length = (y :: ys ++ rest).length := by rw [hd]
    simp only [List.length_drop, List.length_append, List.length_cons] at hlen
    have hr : 1 ≤ rest.length := by
      cases rest with
      | nil => exact absurd rfl hrest
      | cons _ _ => simp
    simp only [List.length_cons] at h
    have hat : at_ + 1 < ls.length := by omega
    have hda := drop_at (l := ls) (i := at_) (by omega) ByteArray.empty
    rw [hd, List.cons_append, List.cons.injEq] at hda
    have ih := inner_v m ls hl t ht p w0 w1 w2 n hn10 hn rest hrest ys K (j + 1) (at_ + 1) (xs ++ [y]) (by omega) hda.2.symm (by simp; omega)
    show spec_l24Rd_tree.b1 m (spec_l24Rd_tree.tab m (K + ys.length + 1)) ls (at_ : Int) false t p xs [w0, w1, w2] (j : Int) = _
    unfold spec_l24Rd_tree.b1
    rw [decide_eq_true (show (0 : Int) ≤ 2 by omega), decide_eq_true (show (2 : Int) < lLen [w0, w1, w2] by simp [lLen]), show getL [w0, w1, w2] (2 : Int) ByteArray.empty = w2 from rfl, hn]
    simp only [cond, Option.bind_some, lett]
    rw [decide_eq_true (show (j : Int) < (n : Int) by omega), line_r m ls at_ (by omega) false hat, ← hda.1]
    simp only [Option.bind_some]
    rw [decide_eq_true (show List.length xs + List.length [y] ≤ apCap by show xs.length + 1 ≤ 1073741824; omega), w64_succ (by omega)]
    have e : xs ++ y :: ys = (xs ++ [y]) ++ ys := by simp
    have e2 : at_ + (y :: ys).length = at_ + 1 + ys.length := by simp only [List.length_cons]; omega
    rw [e, e2]
    exact ih

theorem head_cut (m : Nat) (hm : 10000000 ≤ m) {f : ByteArray × List ByteArray} (h : FileOk f) : spec_l1Cut m (headLn f, (32 : Int), (3 : Int), ()) = some ([s_66696c65, f.1, decS f.2.length], ()) := by
  obtain ⟨h1, h2⟩ := path_no h.1
  obtain ⟨h3, h4⟩ := dec_no (n := f.2.length) (by have := h.2.2.1; omega)
  have e1 : bL s_66696c6520 = [102, 105, 108, 101, 32] := rfl
  have e2 : bL s_20 = [32] := rfl
  have hsz : (headLn f).size < 5000000 := by
    have := decS_size f.2.length
    have := h.2.1
    have e3 : s_66696c6520.size = 5 := rfl
    have e4 : s_20.size = 1 := rfl
    unfold headLn
    simp only [append_size]
    omega
  have e : bL (headLn f) = [102, 105, 108, 101] ++ 32 :: (bL f.1 ++ 32 :: bL (decS f.2.length)) := by
    simp only [headLn, bL_append, e1, e2]; simp
  obtain ⟨r, r1, r2, r3, r4, r5⟩ := cutC_v 32 3 (by omega) m (headLn f) (by omega) (by omega)
  rw [splC_S, e, splAS_cut _ _ _ (by decide), splAS_cut _ _ _ h2, splAS_end _ _ h4] at r3
  have e3 : r = [s_66696c65, f.1, decS f.2.length] := map_bL (by rw [r3 (by simp)]; rfl)
  rw [← e3]
  exact r1

theorem more_head (f : ByteArray × List ByteArray) : (decide (s_66696c6520.size ≤ (headLn f).size) && sEq (cutS (headLn f) 0 s_66696c6520.size) s_66696c6520) = true := by
  have e1 : bL s_66696c6520 = [102, 105, 108, 101, 32] := rfl
  have hs : s_66696c6520.size = 5 := rfl
  have h1 : s_66696c6520.size ≤ (headLn f).size := by
    have e4 : s_20.size = 1 := rfl
    unfold headLn
    simp only [append_size]
    omega
  rw [decide_eq_true h1, sEq_dec, Bool.true_and]
  apply decide_eq_true
  apply bL_inj
  rw [bL_cut, hs]
  unfold headLn
  simp only [bL_append, e1]
  simp

theorem outer_v (m : Nat) (hm : 10000000 ≤ m) (ls : List ByteArray) (hl : ls.length < 100000000) : ∀ (r : Tree) (k at_ : Nat) (t : Tree), t.length + r.length ≤ 8 → (∀ f ∈ r, FileOk f) → ls.drop at_ = tl r ++ [ByteArray.empty] →
    (spec_l24Rd_tree.tab m (k + 12 * r.length + 2)).1 (ls, (at_ : Int), false, t, ()) = some (ls, ((ls.length - 1 : Nat) : Int), false, t ++ r, ())
  | [], k, at_, t, h, hr, hd => by
    have hlen : (ls.drop at_).length = 1 := by rw [hd]; rfl
    rw [List.length_drop] at hlen
    show spec_l24Rd_tree.b0 m (spec_l24Rd_tree.tab m (k + 1)) ls (at_ : Int) false t = _
    unfold spec_l24Rd_tree.b0
    rw [more_end m ls at_ (by omega) false _ (.inr (by omega)), List.append_nil, show ls.length - 1 = at_ by omega]
    rfl
  | f :: r, k, at_, t, h, hr, hd => by
    have hf := hr f (by simp)
    have hn := hf.2.2.1
    simp only [List.length_cons] at h
    have hlen : (ls.drop at_).length = (tl (f :: r) ++ [ByteArray.empty]).length := by rw [hd]
    simp only [List.length_drop, List.length_append, List.length_cons, List.length_nil, tl] at hlen
    have hat : at_ + 1 < ls.length := by omega
    have hda := drop_at (l := ls) (i := at_) (by omega) ByteArray.empty
    rw [hd] at hda
    simp only [tl, List.cons_append, List.cons.injEq] at hda
    have hin := inner_v m ls hl t (by omega) f.1 s_66696c65 f.1 (decS f.2.length) f.2.length hn (num_dec m _ (by omega) (by omega)) (tl r ++ [ByteArray.empty]) (by simp) f.2 (k + (10 - f.2.length) + 12 * r.length + 2) 0 (at_ + 1) [] (by omega) (by rw [← hda.2]; simp) rfl
    have ih := outer_v m hm ls hl r (k + (10 - f.2.length)) (at_ + 1 + f.2.length) (t ++ [(f.1, [] ++ f.2)]) (by simp; omega) (fun g hg => hr g (by simp [hg])) (by
      have := congrArg (List.drop f.2.length) hda.2
      rw [List.drop_drop] at this
      rw [← this]
      simp)
    rw [show k + 12 * (f :: r).length + 2 = (k + (10 - f.2.length) + 12 * r.length + 2 + f.2.length + 1) + 1 by simp only [List.length_cons]; omega]
    show spec_l24Rd_tree.b0 m (spec_l24Rd_tree.tab m (k + (10 - f.2.length) + 12 * r.length + 2 + f.2.length + 1)) ls (at_ : Int) false t = _
    unfold spec_l24Rd_tree.b0
    rw [more_v m ls at_ (by omega) _ hat, ← hda.1, more_head]
    simp only [Option.bind_some, cond]
    rw [decide_eq_true (show lLen t < 8 by simp only [lLen]; omega), line_r m ls at_ (by omega) false hat, ← hda.1]
    simp only [Option.bind_some]
    rw [head_cut m hm hf]
    simp only [Option.bind_some]
    rw [show (lLen [s_66696c65, f.1, decS f.2.length] != 3) = false from rfl, decide_eq_true (show (0 : Int) ≤ 2 by omega), decide_eq_true (show (2 : Int) < lLen [s_66696c65, f.1, decS f.2.length] by simp [lLen]),
      show getL [s_66696c65, f.1, decS f.2.length] (2 : Int) ByteArray.empty = decS f.2.length from rfl, num_dec m _ (by omega) (by omega)]
    simp only [Option.bind_some]
    rw [decide_eq_false (show ¬ (f.2.length : Int) > 10 by omega), decide_eq_true (show (0 : Int) ≤ 1 by omega), decide_eq_true (show (1 : Int) < lLen [s_66696c65, f.1, decS f.2.length] by simp [lLen]),
      show getL [s_66696c65, f.1, decS f.2.length] (1 : Int) ByteArray.empty = f.1 from rfl]
    simp only
    have e : t ++ f :: r = (t ++ [(f.1, [] ++ f.2)]) ++ r := by simp
    rw [e]
    exact hin.trans ih
end Go.Sx.Tryd
