/- A part of the pure law of FnExactViewFree, over the printed functions: what they answer. No condition but those of each theorem. -/
import Derived.Test.YthbdbfbdllcifaaDoorVfrHD
import Derived.Test.YthbdbfbdllcifaaDoorSxD
namespace Go.Sx.Tryd
open Go Go.Proofs Go.Sx
set_option linter.unusedVariables false
set_option linter.unusedSimpArgs false

/-- the sum of lines from a place on, as it is counted -/
def linesFrom (t : Tree) : Nat → Nat → Int → Int
  | 0, _, acc => acc
  | d + 1, i, acc => linesFrom t d (i + 1) (w64 (acc + lLen (t.getD i fz).2))

theorem spec_lines_loop (m : Nat) (t : Tree) (ht : t.length < 1000001) : ∀ (d k i : Nat) (acc : Int), i + d = t.length →
    (spec_StatLines.tab m (k + d + 1)).1 (t, acc, (i : Int), ()) = some (linesFrom t d i acc, ())
  | 0, k, i, acc, h => by
    show spec_StatLines.b0 m (spec_StatLines.tab m k) t acc (i : Int) = _
    unfold spec_StatLines.b0
    rw [decide_eq_false (show ¬ (i : Int) < lLen t by simp only [lLen]; omega)]
    rfl
  | d + 1, k, i, acc, h => by
    show spec_StatLines.b0 m (spec_StatLines.tab m (k + d + 1)) t acc (i : Int) = _
    unfold spec_StatLines.b0
    rw [decide_eq_true (show (i : Int) < lLen t by simp only [lLen]; omega), decide_eq_true (show (0 : Int) ≤ (i : Int) by omega), w64_succ (by omega)]
    exact spec_lines_loop m t ht d k (i + 1) _ (by omega)

theorem impl_lines_loop (m : Nat) (t : Tree) (ht : t.length < 1000001) : ∀ (d k i : Nat) (acc : Int), i + d = t.length →
    (impl_StatLines.tab m (k + d + 1)).1 (acc, t, lLen t, (i : Int), ()) = some (linesFrom t d i acc, ())
  | 0, k, i, acc, h => by
    show impl_StatLines.b0 m (impl_StatLines.tab m k) acc t (lLen t) (i : Int) = _
    unfold impl_StatLines.b0
    rw [decide_eq_false (show ¬ (i : Int) < lLen t by simp only [lLen]; omega)]
    rfl
  | d + 1, k, i, acc, h => by
    show impl_StatLines.b0 m (impl_StatLines.tab m (k + d + 1)) acc t (lLen t) (i : Int) = _
    unfold impl_StatLines.b0
    rw [decide_eq_true (show (i : Int) < lLen t by simp only [lLen]; omega), decide_eq_true (show (0 : Int) ≤ (i : Int) by omega), w64_succ (by omega)]
    exact impl_lines_loop m t ht d k (i + 1) _ (by omega)

theorem lines_same (m : Nat) (hm : 10000000000000 ≤ m) (t : Tree) (ht : TreeSz t) : ∃ v, spec_StatLines m (t, ()) = some (v, ()) ∧ impl_StatLines m (t, ()) = some (v, ()) := by
  have hl := ht.len
  have h1 := spec_lines_loop m t hl t.length (m - (t.length + 1)) 0 0 (by omega)
  have h2 := impl_lines_loop m t hl t.length (m - (t.length + 1)) 0 0 (by omega)
  rw [show m - (t.length + 1) + t.length + 1 = m by omega] at h1 h2
  refine ⟨cond (!treeB t) (-1) (linesFrom t t.length 0 0), ?_, ?_⟩
  · show Option.bind (spec_l4Ok m (t, ())) _ = _
    rw [spec_tree_v m t ht hm]
    cases treeB t
    · rfl
    · exact h1
  · show Option.bind (impl_TreeOk m (t, ())) _ = _
    rw [impl_tree_v m t ht hm]
    cases treeB t
    · rfl
    · exact h2

theorem tree_in {t : Tree} (h : Bnd (.list (.pair .str (.list .str))) t) : TreeIn t :=
  ⟨h.1, fun f hf => (h.2 f hf).1, fun f hf => (h.2 f hf).2.1, fun f hf s hs => (h.2 f hf).2.2 s hs⟩

theorem law_StatLines (t : Tree) (hb : Bnd (.list (.pair .str (.list .str))) t) : laws_FnExactStatLines 10000000000000 (t, ()) = some (true, ()) := by
  have hin := tree_in hb
  show laws_FnExactStatLines.start 10000000000000 _ t = _
  unfold laws_FnExactStatLines.start
  simp only [upped]
  obtain ⟨v, h1, _, h3⟩ := sz_files 10000000000000 (by omega) t hin 1000000 (by omega) (by omega)
  rw [h1]
  simp only [Option.bind_some]
  by_cases hv : v < 0
  · rw [decide_eq_true hv]; rfl
  · rw [decide_eq_false hv]
    have ht := h3 (by omega)
    have hlen := ht.len
    obtain ⟨ys, a1, a2, a3⟩ := to_files 10000000000000 (by omega) t ht false
    obtain ⟨zs, b1, b2, _⟩ := to_files 10000000000000 (by omega) t ht true
    obtain ⟨a4, a5, a6⟩ := a3 rfl
    obtain ⟨r, e1, e2⟩ := lines_same 10000000000000 (by omega) t ht
    rw [a1, b1]
    simp only [cond, Option.bind_some]
    simp only [handed a2, handed b2]
    rw [e1, e2, intact_files 10000000000000 (by omega) ys t.length (by omega) a4 a5 a6]
    simp
end Go.Sx.Tryd
