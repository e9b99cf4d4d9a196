/- A part of the pure law of FnTreeRead, over the printed functions: what they answer. No condition but those of each theorem. -/
import Derived.Test.YtpchbfkiingmjaaDoorTtrHF
namespace Go.Sx.Tryd
open Go Go.Proofs Go.Sx
set_option linter.unusedVariables false
set_option linter.unusedSimpArgs false

noncomputable def putV (t : Tree) : ByteArray := cond (!treeB t) ByteArray.empty (treeT ByteArray.empty t)
theorem put_v (m : Nat) (hm : 10000000000000 ≤ m) (t : Tree) (ht : TreeSz t) : spec_TreePut m (t, ()) = some (putV t, ()) ∧ impl_TreePut m (t, ()) = some (putV t, ()) := by
  unfold putV
  refine ⟨?_, ?_⟩
  · show spec_TreePut.start m _ t = _
    unfold spec_TreePut.start
    rw [spec_tree_v m t ht hm]
    cases hok : treeB t with
    | false => rfl
    | true =>
      obtain ⟨hl, hf⟩ := files_ok hok
      have h := spec_put_loop m (by omega) t ht hl hf t.length (m - (20 * t.length + 1)) 0 ByteArray.empty (by omega) (by simp)
      rw [show m - (20 * t.length + 1) + 20 * t.length + 1 = m by omega] at h
      show Option.bind (spec_l24Tree m (t, ())) _ = _
      rw [show spec_l24Tree m (t, ()) = some (treeT ByteArray.empty t, ()) from h]
      rfl
  · show impl_TreePut.start m (impl_TreePut.tab m m) t = _
    unfold impl_TreePut.start
    rw [impl_tree_v m t ht hm]
    cases hok : treeB t with
    | false => rfl
    | true =>
      obtain ⟨hl, hf⟩ := files_ok hok
      have h := impl_put_loop m t ht hl hf t.length (m - (20 * t.length + 1)) 0 ByteArray.empty (by omega) (by simp)
      rw [show m - (20 * t.length + 1) + 20 * t.length + 1 = m by omega] at h
      exact h
theorem put_same (m : Nat) (hm : 10000000000000 ≤ m) (t : Tree) (ht : TreeSz t) : ∃ v, spec_TreePut m (t, ()) = some (v, ()) ∧ impl_TreePut m (t, ()) = some (v, ()) := ⟨_, put_v m hm t ht⟩
end Go.Sx.Tryd
