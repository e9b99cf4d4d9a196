/- A part of the pure law of FnTreeRead, over the printed functions: what they answer. No condition but those of each theorem. -/
import Derived.Test.YtpchbfkiingmjaaDoorTtrHD
namespace Go.Sx.Tryd
open Go Go.Proofs Go.Sx
set_option linter.unusedVariables false
set_option linter.unusedSimpArgs false
abbrev Fil := ByteArray × List ByteArray
theorem smTexts_loop (m : Nat) (x : List ByteArray × Nat) (hx : x.2 < 100000000) : ∀ (d k i : Nat), i + d = x.2 → (laws_smTexts.tab m (k + d + 1)).1 (x, x, (i : Int), ()) = some (true, ())
  | 0, k, i, h => by
    show laws_smTexts.b0 m (laws_smTexts.tab m k) x x (i : Int) = _
    unfold laws_smTexts.b0
    rw [decide_eq_false (show ¬ (i : Int) < (x.2 : Int) by omega)]
    rfl
  | d + 1, k, i, h => by
    show laws_smTexts.b0 m (laws_smTexts.tab m (k + d + 1)) x x (i : Int) = _
    unfold laws_smTexts.b0
    rw [decide_eq_true (show (i : Int) < (x.2 : Int) by omega), decide_eq_true (show (0 : Int) ≤ (i : Int) by omega), sEq_self, w64_succ (by omega)]
    exact smTexts_loop m x hx d k (i + 1) (by omega)

theorem smTexts_self (m : Nat) (hm : 1000000000 ≤ m) (x : List ByteArray × Nat) (hx : x.2 < 100000000) : laws_smTexts m (x, x, ()) = some (true, ()) := by
  have h := smTexts_loop m x hx x.2 (m - (x.2 + 1)) 0 (by omega)
  rw [show m - (x.2 + 1) + x.2 + 1 = m by omega] at h
  show laws_smTexts.start m (laws_smTexts.tab m m) x x = _
  unfold laws_smTexts.start
  rw [show ((x.2 : Int) != (x.2 : Int)) = false by simp]
  exact h

abbrev UTree := List (ByteArray × (List ByteArray × Nat))
abbrev uz : ByteArray × (List ByteArray × Nat) := (ByteArray.empty, ([] : List ByteArray), (0 : Nat))
def upF (f : Fil) : ByteArray × (List ByteArray × Nat) := (f.1, f.2, f.2.length)
theorem uppedF (t : Tree) : List.map (fun z => (z.1, z.2, List.length z.2)) t = t.map upF := rfl

theorem smTree_loop (m : Nat) (hm : 1000000000 ≤ m) (t : Tree) (ht : TreeSz t) : ∀ (d k i : Nat), i + d = t.length → (laws_smTree.tab m (k + d + 1)).1 ((t.map upF, t.length), (t.map upF, t.length), (i : Int), ()) = some (true, ())
  | 0, k, i, h => by
    show laws_smTree.b0 m (laws_smTree.tab m k) (t.map upF, t.length) (t.map upF, t.length) (i : Int) = _
    unfold laws_smTree.b0
    rw [decide_eq_false (show ¬ (i : Int) < ((t.length : Nat) : Int) by omega)]
    rfl
  | d + 1, k, i, h => by
    have hl := ht.len
    have hi : i < t.length := by omega
    have hx := (ht.at hi).2.1
    have e : getL (t.map upF) (i : Int) uz = upF (t.getD i fz) := by
      show (t.map upF).getD i uz = _
      rw [List.getD_eq_getElem?_getD, List.getD_eq_getElem?_getD, List.getElem?_map, List.getElem?_eq_getElem hi]; rfl
    show laws_smTree.b0 m (laws_smTree.tab m (k + d + 1)) (t.map upF, t.length) (t.map upF, t.length) (i : Int) = _
    unfold laws_smTree.b0
    rw [decide_eq_true (show (i : Int) < ((t.length : Nat) : Int) by omega), decide_eq_true (show (0 : Int) ≤ (i : Int) by omega), w64_succ (by omega)]
    simp only [cond, lett]
    rw [show (ByteArray.empty, ([] : List ByteArray), (0 : Nat)) = uz from rfl, e, sEq_self, smTexts_self m hm (upF (t.getD i fz)).2 (by show (t.getD i fz).2.length < _; omega)]
    simp only [Bool.not_true, cond, Option.bind_some]
    exact smTree_loop m hm t ht d k (i + 1) (by omega)

theorem smTree_self (m : Nat) (hm : 1000000000 ≤ m) (t : Tree) (ht : TreeSz t) : laws_smTree m ((t.map upF, t.length), (t.map upF, t.length), ()) = some (true, ()) := by
  have hl := ht.len
  have h := smTree_loop m hm t ht t.length (m - (t.length + 1)) 0 (by omega)
  rw [show m - (t.length + 1) + t.length + 1 = m by omega] at h
  show laws_smTree.start m (laws_smTree.tab m m) (t.map upF, t.length) (t.map upF, t.length) = _
  unfold laws_smTree.start
  rw [show (((t.length : Nat) : Int) != ((t.length : Nat) : Int)) = false by simp]
  exact h
end Go.Sx.Tryd
