/- A part of the pure law of FnExactSeekTree, over the printed functions: what they answer. No condition but those of each theorem. -/
import Derived.Test.YtafchokjmboemaaDoorSkxHE
import Derived.Test.YtafchokjmboemaaDoorSkxHG
import Derived.Test.YtafchokjmboemaaDoorSxD
namespace Go.Sx.Tryd
open Go Go.Proofs Go.Sx
set_option linter.unusedVariables false
set_option linter.unusedSimpArgs false

theorem name_size {s : ByteArray} (h : nameB (bL s) = true) : s.size ≤ 6 := by
  unfold nameB at h
  simp only [Bool.and_eq_true, decide_eq_true_eq] at h
  rw [← bL_len]; exact h.2.2

theorem impl_tseek_v (m : Nat) (hm : 10000000000000 ≤ m) {t : Tree} (ht : TreeSz t) (w : ByteArray) (hw2 : w.size < 10000000) : impl_SeekTree m (t, w, ()) = some (seekV w t, ()) := by
  show impl_SeekTree.start m (impl_SeekTree.tab m m) t w = _
  unfold impl_SeekTree.start seekV
  rw [impl_tree_v m t ht hm, impl_name_v m w (by omega) (by omega)]
  simp only [Option.bind_some]
  cases hB : treeB t with
  | false => rfl
  | true =>
    cases hw : nameB (bL w) with
    | false => rfl
    | true =>
      have := name_size hw
      rw [impl_seekL_v m hm hB w (by omega) hw]
      rfl

theorem seekV_len (w : ByteArray) {t : Tree} (ht : TreeSz t) : (seekV w t).length < 1000001 := by
  have := ht.len
  unfold seekV
  cases (treeB t && nameB (bL w)) with
  | false => simp
  | true => have := seek_len w t; show (seekL w t).length < _; omega

theorem spec_tseek_v (m : Nat) (hm : 10000000000000 ≤ m) {t : Tree} (ht : TreeSz t) (w : ByteArray) (hw2 : w.size < 10000000) : spec_SeekTree m (t, w, ()) = some (seekV w t, ()) := by
  cases hw : nameB (bL w) with
  | true => exact spec_seek_v m hm ht w (by have := name_size hw; omega)
  | false =>
    show spec_SeekTree.start m (spec_SeekTree.tab m m) t w = _
    unfold spec_SeekTree.start seekV
    rw [spec_tree_v m t ht hm, spec_name_v m w (by omega) (by omega), hw]
    cases treeB t <;> rfl

theorem sz_files_neg (m : Nat) (t : Tree) (hl : t.length ≤ cap) (left : Int) (h : left < 0) (h2 : -1000000000000000 ≤ left) : laws_szFileS m ((t.map up1, t.length), left, ()) = some (-1, ()) := by
  have hcap : cap = 140737488355328 := rfl
  show laws_szFileS.start m (laws_szFileS.tab m m) (t.map up1, t.length) left = _
  unfold laws_szFileS.start
  simp only [lett]
  rw [show w64 (left - (t.length : Int)) = left - t.length from w64_ok (by omega) (by omega), decide_eq_true (show left - (t.length : Int) < 0 by omega)]
  rfl

theorem fnExactSeekTree_true (m : Nat) (hm : 10000000000000 ≤ m) (t : Tree) (w : ByteArray) (bt : TreeIn t) (bw : w.size ≤ 140737488351232) : laws_FnExactSeekTree m (t, w, ()) = some (true, ()) := by
  show laws_FnExactSeekTree.start m _ t w = _
  unfold laws_FnExactSeekTree.start
  rw [show w64 ((1000000 : Int) - sLen w) = 1000000 - w.size from w64_ok (by show _ ≤ (1000000 : Int) - (w.size : Int); omega) (by show (1000000 : Int) - (w.size : Int) < _; omega), upped]
  by_cases hneg : (1000000 : Int) - w.size < 0
  · rw [sz_files_neg m t bt.len _ hneg (by omega)]; rfl
  obtain ⟨v, h1, h2, h3⟩ := sz_files m (by omega) t bt (1000000 - w.size) (by omega) (by omega)
  rw [h1]
  simp only [Option.bind_some]
  by_cases hv : v < 0
  · rw [decide_eq_true hv]; rfl
  rw [decide_eq_false hv]
  have ht := h3 (by omega)
  have htl := ht.len
  simp only [cond]
  obtain ⟨ys, r1, r2, r3⟩ := to_files m (by omega) t ht false
  obtain ⟨ys', r1', r2', r3'⟩ := to_files m (by omega) t ht true
  obtain ⟨l1, l2, l3⟩ := r3 rfl
  rw [r1, r1']
  simp only [Option.bind_some, Int.toNat_natCast]
  rw [handed r2, handed r2', spec_tseek_v m hm ht w (by omega), impl_tseek_v m hm ht w (by omega)]
  simp only [Option.bind_some]
  have hL := seekV_len w ht
  generalize seekV w t = L at hL ⊢
  obtain ⟨zs, k', m1, m2, m3⟩ := mark_files m (by omega) ys t.length 101 (by omega) (by omega) (by omega) (by omega) l2
  obtain ⟨us, u1, u2, u3, u4⟩ := mark_strs m (by omega) L L.length 101 (by omega) (Nat.le_refl _) (by omega) (by omega)
  have hh := held_strs m (by omega) us L.length 101 (by omega) (by omega) (by omega) u4
  rw [eq_strs m (by omega) (L, L.length) (by show L.length < _; omega), show laws_intactFileS m ((ys, t.length), (ys, t.length), ()) = some (true, ()) from intact_files m (by omega) ys t.length (by omega) l1 l2 l3]
  simp only [Option.bind_some]
  rw [show laws_markFileS m (ys, (t.length : Int), (101 : Int), ()) = some (zs, ((k' : Nat) : Int), ()) from m1, show laws_markStringS m (L, (L.length : Int), (101 : Int), ()) = some (us, ((101 + L.length : Nat) : Int), ()) from u1]
  simp only [Option.bind_some]
  rw [decide_eq_false (show ¬ ((k' : Nat) : Int) < 0 by omega), u2, show laws_heldStringS m ((us, L.length), (101 : Int), ()) = some (((101 + L.length : Nat) : Int), ()) from hh]
  simp only [Option.bind_some]
  rw [decide_eq_false (show ¬ ((101 + L.length : Nat) : Int) < 0 by omega), bne_self_eq_false]
  rfl

theorem law_SeekTree (t : Tree) (w : ByteArray) (bt : Bnd (.list (.pair (.str) (.list (.str)))) t) (bw : w.size ≤ 140737488351232) : laws_FnExactSeekTree 10000000000000 (t, w, ()) = some (true, ()) :=
  fnExactSeekTree_true _ (Nat.le_refl _) t w ⟨bt.1, fun f hf => (bt.2 f hf).1, fun f hf => (bt.2 f hf).2.1, fun f hf => (bt.2 f hf).2.2⟩ bw
end Go.Sx.Tryd
