/- A part of the pure law of FnTreeRead, over the printed functions: what they answer. No condition but those of each theorem. -/
import Derived.Test.YtpchbfkiingmjaaDoorTtrHE
namespace Go.Sx.Tryd
open Go Go.Proofs Go.Sx
set_option linter.unusedVariables false
set_option linter.unusedSimpArgs false

def decS (n : Nat) : ByteArray := if 10 ≤ n then ByteArray.append (strOfNums [49]) (strOfNums [((38 + n : Nat) : Int)]) else strOfNums [((48 + n : Nat) : Int)]

theorem dec_v (m n : Nat) (hm : 10 ≤ m) (hn : n ≤ 16) : spec_l1Dec m ((n : Int), ()) = some (decS n, ()) := by
  obtain ⟨k, rfl⟩ : ∃ k, m = k + 1 + 1 := ⟨m - 2, by omega⟩
  rcases (show n = 0 ∨ n = 1 ∨ n = 2 ∨ n = 3 ∨ n = 4 ∨ n = 5 ∨ n = 6 ∨ n = 7 ∨ n = 8 ∨ n = 9 ∨ n = 10 ∨ n = 11 ∨ n = 12 ∨ n = 13 ∨ n = 14 ∨ n = 15 ∨ n = 16 by omega) with rfl | rfl | rfl | rfl | rfl | rfl | rfl | rfl | rfl | rfl | rfl | rfl | rfl | rfl | rfl | rfl | rfl <;> rfl

set_option maxRecDepth 20000 in
theorem itoa_v (m n : Nat) (hn : n ≤ 16) : strconv_Itoa m ((n : Int), ()) = some (decS n, ()) := by
  have e0 : internal_strconv_FormatInt m ((n : Int), (10 : Int), ()) = Option.bind (internal_strconv_small m ((n : Int), ())) fun r => some (r.1, ()) := by
    show internal_strconv_FormatInt.start m (internal_strconv_FormatInt.tab m m) (n : Int) 10 = _
    unfold internal_strconv_FormatInt.start
    rw [decide_eq_true (show (0 : Int) ≤ (n : Int) by omega), decide_eq_true (show (n : Int) < 100 by omega)]
    rfl
  have e1 : internal_strconv_Itoa m ((n : Int), ()) = Option.bind (internal_strconv_small m ((n : Int), ())) fun r => some (r.1, ()) := by
    show Option.bind (internal_strconv_FormatInt m ((n : Int), (10 : Int), ())) _ = _
    rw [e0]
    cases internal_strconv_small m ((n : Int), ()) <;> rfl
  have e : strconv_Itoa m ((n : Int), ()) = Option.bind (internal_strconv_small m ((n : Int), ())) fun r => some (r.1, ()) := by
    show Option.bind (internal_strconv_Itoa m ((n : Int), ())) _ = _
    rw [e1]
    cases internal_strconv_small m ((n : Int), ()) <;> rfl
  rw [e]
  show Option.bind (internal_strconv_small.start m _ (n : Int)) _ = _
  unfold internal_strconv_small.start
  have key : ∀ (s : ByteArray) (a b : Nat), ((bL s).take b).drop a = bL (decS n) → cutS s a b = decS n := fun s a b h => bL_inj (by rw [bL_cut, h])
  rcases (show n = 0 ∨ n = 1 ∨ n = 2 ∨ n = 3 ∨ n = 4 ∨ n = 5 ∨ n = 6 ∨ n = 7 ∨ n = 8 ∨ n = 9 ∨ n = 10 ∨ n = 11 ∨ n = 12 ∨ n = 13 ∨ n = 14 ∨ n = 15 ∨ n = 16 by omega) with rfl | rfl | rfl | rfl | rfl | rfl | rfl | rfl | rfl | rfl | rfl | rfl | rfl | rfl | rfl | rfl | rfl
  · show some (cutS s_30313233343536373839616263646566_36 0 1, ()) = _
    rw [key _ _ _ rfl]
  · show some (cutS s_30313233343536373839616263646566_36 1 2, ()) = _
    rw [key _ _ _ rfl]
  · show some (cutS s_30313233343536373839616263646566_36 2 3, ()) = _
    rw [key _ _ _ rfl]
  · show some (cutS s_30313233343536373839616263646566_36 3 4, ()) = _
    rw [key _ _ _ rfl]
  · show some (cutS s_30313233343536373839616263646566_36 4 5, ()) = _
    rw [key _ _ _ rfl]
  · show some (cutS s_30313233343536373839616263646566_36 5 6, ()) = _
    rw [key _ _ _ rfl]
  · show some (cutS s_30313233343536373839616263646566_36 6 7, ()) = _
    rw [key _ _ _ rfl]
  · show some (cutS s_30313233343536373839616263646566_36 7 8, ()) = _
    rw [key _ _ _ rfl]
  · show some (cutS s_30313233343536373839616263646566_36 8 9, ()) = _
    rw [key _ _ _ rfl]
  · show some (cutS s_30313233343536373839616263646566_36 9 10, ()) = _
    rw [key _ _ _ rfl]
  · show some (cutS s_30303031303230333034303530363037_200 20 22, ()) = _
    rw [key _ _ _ rfl]
  · show some (cutS s_30303031303230333034303530363037_200 22 24, ()) = _
    rw [key _ _ _ rfl]
  · show some (cutS s_30303031303230333034303530363037_200 24 26, ()) = _
    rw [key _ _ _ rfl]
  · show some (cutS s_30303031303230333034303530363037_200 26 28, ()) = _
    rw [key _ _ _ rfl]
  · show some (cutS s_30303031303230333034303530363037_200 28 30, ()) = _
    rw [key _ _ _ rfl]
  · show some (cutS s_30303031303230333034303530363037_200 30 32, ()) = _
    rw [key _ _ _ rfl]
  · show some (cutS s_30303031303230333034303530363037_200 32 34, ()) = _
    rw [key _ _ _ rfl]

theorem decS_size (n : Nat) : (decS n).size ≤ 2 := by
  unfold decS
  split
  · rw [append_size, strOfNums_size, strOfNums_size]; simp
  · rw [strOfNums_size]; simp

theorem app_assoc (a b c : ByteArray) : ByteArray.append (ByteArray.append a b) c = ByteArray.append a (ByteArray.append b c) := ByteArray.append_assoc

def linesT (acc : ByteArray) : List ByteArray → ByteArray
  | [] => acc
  | s :: r => linesT (ByteArray.append (ByteArray.append acc s) s_0a) r
def headT (acc : ByteArray) (f : ByteArray × List ByteArray) : ByteArray :=
  ByteArray.append (ByteArray.append (ByteArray.append (ByteArray.append (ByteArray.append acc s_66696c6520) f.1) s_20) (decS f.2.length)) s_0a
def treeT (acc : ByteArray) : Tree → ByteArray
  | [] => acc
  | f :: r => treeT (linesT (headT acc f) f.2) r

open Classical in
theorem files_ok {t : Tree} (h : treeB t = true) : t.length ≤ 8 ∧ ∀ i, i < t.length → (t.getD i fz).2.length ≤ 10 ∧ ∀ s ∈ (t.getD i fz).2, s.size ≤ 12 := by
  unfold treeB at h
  simp only [Bool.and_eq_true, decide_eq_true_eq] at h
  refine ⟨h.2, fun i hi => ?_⟩
  have h1 := h.1
  unfold treeS at h1
  have h1 := (of_decide_eq_true h1 i (Nat.zero_le _) hi).1
  unfold fileB textB at h1
  simp only [Bool.and_eq_true, decide_eq_true_eq, List.all_eq_true] at h1
  refine ⟨h1.2.1.1, fun s hs => ?_⟩
  have := h1.2.1.2 s hs
  unfold lineB at this
  simp only [Bool.and_eq_true, decide_eq_true_eq] at this
  rw [← bL_len]; exact this.2

theorem headT_size (acc : ByteArray) (f : ByteArray × List ByteArray) : (headT acc f).size ≤ acc.size + f.1.size + 9 := by
  unfold headT
  have := decS_size f.2.length
  simp only [append_size]
  have e1 : s_66696c6520.size = 5 := rfl
  have e2 : s_20.size = 1 := rfl
  have e3 : s_0a.size = 1 := rfl
  omega

theorem spec_lines (m : Nat) (t : Tree) (i : Nat) (hi : i < t.length) (hl : t.length ≤ 8) (hs : ∀ s ∈ (t.getD i fz).2, s.size ≤ 12) (hx : (t.getD i fz).2.length ≤ 10) (K : Nat) : ∀ (d k : Nat) (acc : ByteArray), k + d = (t.getD i fz).2.length → acc.size ≤ 100000000 + 20 * k →
    (spec_l24Tree.tab m (K + d + 1)).2.1 (t, acc, (i : Int), (k : Int), ()) = (spec_l24Tree.tab m K).1 (t, linesT acc ((t.getD i fz).2.drop k), ((i + 1 : Nat) : Int), ())
  | 0, k, acc, h, ha => by
    show spec_l24Tree.b1 m (spec_l24Tree.tab m K) t acc (i : Int) (k : Int) = _
    unfold spec_l24Tree.b1
    rw [decide_eq_true (show (0 : Int) ≤ (i : Int) by omega), decide_eq_true (show (i : Int) < lLen t by simp only [lLen]; omega), w64_succ (i := i) (by omega)]
    simp only [cond, lett]
    rw [show getL t (i : Int) (ByteArray.empty, ([] : List ByteArray)) = t.getD i fz from rfl, decide_eq_false (show ¬ (k : Int) < lLen (t.getD i fz).2 by simp only [lLen]; omega), List.drop_eq_nil_of_le (by omega)]
    rfl
  | d + 1, k, acc, h, ha => by
    have hk : k < (t.getD i fz).2.length := by omega
    have hsz := hs _ (mem_getD (z := ByteArray.empty) hk)
    have e3 : s_0a.size = 1 := rfl
    have ca : cap = 140737488355328 := rfl
    have ih := spec_lines m t i hi hl hs hx K d (k + 1) (ByteArray.append (ByteArray.append acc ((t.getD i fz).2.getD k ByteArray.empty)) s_0a) (by omega) (by simp only [append_size]; omega)
    show spec_l24Tree.b1 m (spec_l24Tree.tab m (K + d + 1)) t acc (i : Int) (k : Int) = _
    unfold spec_l24Tree.b1
    rw [decide_eq_true (show (0 : Int) ≤ (i : Int) by omega), decide_eq_true (show (i : Int) < lLen t by simp only [lLen]; omega), w64_succ (i := k) (by omega)]
    simp only [cond, lett]
    rw [show getL t (i : Int) (ByteArray.empty, ([] : List ByteArray)) = t.getD i fz from rfl, decide_eq_true (show (k : Int) < lLen (t.getD i fz).2 by simp only [lLen]; omega), decide_eq_true (show (0 : Int) ≤ (k : Int) by omega),
      show getL (t.getD i fz).2 (k : Int) ByteArray.empty = (t.getD i fz).2.getD k ByteArray.empty from rfl, decide_eq_true (show acc.size + ((t.getD i fz).2.getD k ByteArray.empty).size ≤ cap by omega),
      decide_eq_true (show (ByteArray.append acc ((t.getD i fz).2.getD k ByteArray.empty)).size + s_0a.size ≤ cap by rw [append_size]; omega), drop_at (l := (t.getD i fz).2) (i := k) hk ByteArray.empty]
    exact ih

theorem linesT_size : ∀ (xs : List ByteArray) (acc : ByteArray), (∀ s ∈ xs, s.size ≤ 12) → (linesT acc xs).size ≤ acc.size + 13 * xs.length
  | [], acc, _ => by simp [linesT]
  | s :: r, acc, h => by
    have h1 := h s (by simp)
    have := linesT_size r (ByteArray.append (ByteArray.append acc s) s_0a) (fun x hx => h x (by simp [hx]))
    have e3 : s_0a.size = 1 := rfl
    simp only [append_size] at this
    simp only [linesT, List.length_cons]
    omega

theorem spec_put_loop (m : Nat) (hm : 10 ≤ m) (t : Tree) (ht : TreeSz t) (hl : t.length ≤ 8) (hf : ∀ i, i < t.length → (t.getD i fz).2.length ≤ 10 ∧ ∀ s ∈ (t.getD i fz).2, s.size ≤ 12) : ∀ (d K i : Nat) (acc : ByteArray), i + d = t.length → acc.size ≤ 2000000 * i →
    (spec_l24Tree.tab m (K + 20 * d + 1)).1 (t, acc, (i : Int), ()) = some (treeT acc (t.drop i), ())
  | 0, K, i, acc, h, ha => by
    show spec_l24Tree.b0 m (spec_l24Tree.tab m K) t acc (i : Int) = _
    unfold spec_l24Tree.b0
    rw [decide_eq_false (show ¬ (i : Int) < lLen t by simp only [lLen]; omega), List.drop_eq_nil_of_le (by omega)]
    rfl
  | d + 1, K, i, acc, h, ha => by
    have hi : i < t.length := by omega
    obtain ⟨hx, hs⟩ := hf i hi
    have hp := (ht.at hi).1
    have hhs := headT_size acc (t.getD i fz)
    have hls := linesT_size (t.getD i fz).2 (headT acc (t.getD i fz)) hs
    have hd := decS_size (t.getD i fz).2.length
    have e1 : s_66696c6520.size = 5 := rfl
    have e2 : s_20.size = 1 := rfl
    have e3 : s_0a.size = 1 := rfl
    have ca : cap = 140737488355328 := rfl
    obtain ⟨K', hK⟩ : ∃ K', K + 20 * (d + 1) + 1 = (K' + 20 * d + 1) + (t.getD i fz).2.length + 1 + 1 := ⟨K + 18 - (t.getD i fz).2.length, by omega⟩
    have ih := spec_put_loop m hm t ht hl hf d K' (i + 1) (linesT (headT acc (t.getD i fz)) (t.getD i fz).2) (by omega) (by omega)
    have hln := spec_lines m t i hi hl hs hx (K' + 20 * d + 1) (t.getD i fz).2.length 0 (headT acc (t.getD i fz)) (by omega) (by omega)
    rw [List.drop_zero] at hln
    rw [hK]
    show spec_l24Tree.b0 m (spec_l24Tree.tab m (K' + 20 * d + 1 + (t.getD i fz).2.length + 1)) t acc (i : Int) = _
    unfold spec_l24Tree.b0
    rw [decide_eq_true (show (i : Int) < lLen t by simp only [lLen]; omega), decide_eq_true (show (0 : Int) ≤ (i : Int) by omega)]
    simp only [cond, lett]
    rw [show getL t (i : Int) (ByteArray.empty, ([] : List ByteArray)) = t.getD i fz from rfl, show lLen (t.getD i fz).2 = (((t.getD i fz).2.length : Nat) : Int) from rfl, dec_v m _ hm (Nat.le_trans hx (by decide))]
    simp only [Option.bind_some]
    rw [decide_eq_true (show acc.size + s_66696c6520.size ≤ cap by omega), decide_eq_true (show (ByteArray.append acc s_66696c6520).size + (t.getD i fz).1.size ≤ cap by simp only [append_size]; omega),
      decide_eq_true (show (ByteArray.append (ByteArray.append acc s_66696c6520) (t.getD i fz).1).size + s_20.size ≤ cap by simp only [append_size]; omega),
      decide_eq_true (show (ByteArray.append (ByteArray.append (ByteArray.append acc s_66696c6520) (t.getD i fz).1) s_20).size + (decS (t.getD i fz).2.length).size ≤ cap by simp only [append_size]; omega),
      decide_eq_true (show (ByteArray.append (ByteArray.append (ByteArray.append (ByteArray.append acc s_66696c6520) (t.getD i fz).1) s_20) (decS (t.getD i fz).2.length)).size + s_0a.size ≤ cap by simp only [append_size]; omega),
      drop_at (l := t) (i := i) hi fz]
    exact hln.trans ih

theorem impl_lines (m : Nat) (t : Tree) (n : Int) (i : Nat) (hi : i < 100) (xs : List ByteArray) (hs : ∀ s ∈ xs, s.size ≤ 12) (hx : xs.length ≤ 10) (K : Nat) : ∀ (d k : Nat) (acc : ByteArray), k + d = xs.length → acc.size ≤ 100000000 + 20 * k →
    (impl_TreePut.tab m (K + d + 1)).2.1 (acc, t, n, (i : Int), xs, lLen xs, (k : Int), ()) = (impl_TreePut.tab m K).1 (linesT acc (xs.drop k), t, n, ((i + 1 : Nat) : Int), ())
  | 0, k, acc, h, ha => by
    show impl_TreePut.b1 m (impl_TreePut.tab m K) acc t n (i : Int) xs (lLen xs) (k : Int) = _
    unfold impl_TreePut.b1
    rw [decide_eq_false (show ¬ (k : Int) < lLen xs by simp only [lLen]; omega), w64_succ (i := i) (by omega), List.drop_eq_nil_of_le (by omega)]
    rfl
  | d + 1, k, acc, h, ha => by
    have hk : k < xs.length := by omega
    have hsz := hs _ (mem_getD (z := ByteArray.empty) hk)
    have e3 : s_0a.size = 1 := rfl
    have ca : cap = 140737488355328 := rfl
    have ih := impl_lines m t n i hi xs hs hx K d (k + 1) (ByteArray.append (ByteArray.append acc (xs.getD k ByteArray.empty)) s_0a) (by omega) (by simp only [append_size]; omega)
    show impl_TreePut.b1 m (impl_TreePut.tab m (K + d + 1)) acc t n (i : Int) xs (lLen xs) (k : Int) = _
    unfold impl_TreePut.b1
    rw [decide_eq_true (show (k : Int) < lLen xs by simp only [lLen]; omega), decide_eq_true (show (0 : Int) ≤ (k : Int) by omega), w64_succ (i := k) (by omega)]
    simp only [cond, lett]
    rw [show getL xs (k : Int) ByteArray.empty = xs.getD k ByteArray.empty from rfl, decide_eq_true (show (xs.getD k ByteArray.empty).size + s_0a.size ≤ cap by omega),
      decide_eq_true (show acc.size + (ByteArray.append (xs.getD k ByteArray.empty) s_0a).size ≤ cap by rw [append_size]; omega), drop_at (l := xs) (i := k) hk ByteArray.empty, ← app_assoc]
    exact ih

theorem impl_put_loop (m : Nat) (t : Tree) (ht : TreeSz t) (hl : t.length ≤ 8) (hf : ∀ i, i < t.length → (t.getD i fz).2.length ≤ 10 ∧ ∀ s ∈ (t.getD i fz).2, s.size ≤ 12) : ∀ (d K i : Nat) (acc : ByteArray), i + d = t.length → acc.size ≤ 2000000 * i →
    (impl_TreePut.tab m (K + 20 * d + 1)).1 (acc, t, lLen t, (i : Int), ()) = some (treeT acc (t.drop i), ())
  | 0, K, i, acc, h, ha => by
    show impl_TreePut.b0 m (impl_TreePut.tab m K) acc t (lLen t) (i : Int) = _
    unfold impl_TreePut.b0
    rw [decide_eq_false (show ¬ (i : Int) < lLen t by simp only [lLen]; omega), List.drop_eq_nil_of_le (by omega)]
    rfl
  | d + 1, K, i, acc, h, ha => by
    have hi : i < t.length := by omega
    obtain ⟨hx, hs⟩ := hf i hi
    have hp := (ht.at hi).1
    have hhs := headT_size acc (t.getD i fz)
    have hls := linesT_size (t.getD i fz).2 (headT acc (t.getD i fz)) hs
    have hd := decS_size (t.getD i fz).2.length
    have e1 : s_66696c6520.size = 5 := rfl
    have e2 : s_20.size = 1 := rfl
    have e3 : s_0a.size = 1 := rfl
    have ca : cap = 140737488355328 := rfl
    obtain ⟨K', hK⟩ : ∃ K', K + 20 * (d + 1) + 1 = (K' + 20 * d + 1) + (t.getD i fz).2.length + 1 + 1 := ⟨K + 18 - (t.getD i fz).2.length, by omega⟩
    have ih := impl_put_loop m t ht hl hf d K' (i + 1) (linesT (headT acc (t.getD i fz)) (t.getD i fz).2) (by omega) (by omega)
    have hln := impl_lines m t (lLen t) i (by omega) (t.getD i fz).2 hs hx (K' + 20 * d + 1) (t.getD i fz).2.length 0 (headT acc (t.getD i fz)) (by omega) (by omega)
    rw [List.drop_zero] at hln
    have hh : headT acc (t.getD i fz) = ByteArray.append acc (ByteArray.append (ByteArray.append (ByteArray.append (ByteArray.append s_66696c6520 (t.getD i fz).1) s_20) (decS (t.getD i fz).2.length)) s_0a) := by
      unfold headT
      simp only [app_assoc]
    rw [hK]
    show impl_TreePut.b0 m (impl_TreePut.tab m (K' + 20 * d + 1 + (t.getD i fz).2.length + 1)) acc t (lLen t) (i : Int) = _
    unfold impl_TreePut.b0
    rw [decide_eq_true (show (i : Int) < lLen t by simp only [lLen]; omega), decide_eq_true (show (0 : Int) ≤ (i : Int) by omega)]
    simp only [cond, lett]
    rw [show getL t (i : Int) (ByteArray.empty, ([] : List ByteArray)) = t.getD i fz from rfl]
    rw [show strconv_Itoa m (lLen (t.getD i fz).2, ()) = some (decS (t.getD i fz).2.length, ()) from itoa_v m _ (Nat.le_trans hx (by decide))]
    simp only [Option.bind_some]
    rw [decide_eq_true (show s_66696c6520.size + (t.getD i fz).1.size ≤ cap by omega), decide_eq_true (show (ByteArray.append s_66696c6520 (t.getD i fz).1).size + s_20.size ≤ cap by simp only [append_size]; omega),
      decide_eq_true (show (ByteArray.append (ByteArray.append s_66696c6520 (t.getD i fz).1) s_20).size + (decS (t.getD i fz).2.length).size ≤ cap by simp only [append_size]; omega),
      decide_eq_true (show (ByteArray.append (ByteArray.append (ByteArray.append s_66696c6520 (t.getD i fz).1) s_20) (decS (t.getD i fz).2.length)).size + s_0a.size ≤ cap by simp only [append_size]; omega),
      decide_eq_true (show acc.size + (ByteArray.append (ByteArray.append (ByteArray.append (ByteArray.append s_66696c6520 (t.getD i fz).1) s_20) (decS (t.getD i fz).2.length)) s_0a).size ≤ cap by simp only [append_size]; omega),
      drop_at (l := t) (i := i) hi fz, ← hh]
    exact hln.trans ih
end Go.Sx.Tryd
