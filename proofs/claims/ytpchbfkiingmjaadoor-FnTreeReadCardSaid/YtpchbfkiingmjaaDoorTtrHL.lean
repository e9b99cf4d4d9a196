/- A part of the pure law of FnTreeRead, over the printed functions: what they answer. No condition but those of each theorem. -/
import Derived.Test.YtpchbfkiingmjaaDoorTtrHK
import Derived.Test.YtpchbfkiingmjaaDoorSxD
namespace Go.Sx.Tryd
open Go Go.Proofs Go.Sx
set_option linter.unusedVariables false
set_option linter.unusedSimpArgs false

theorem names_sum : ∀ (l cur : List UInt8), (∀ p ∈ splA cur l, p.length ≤ 6) → cur.length + l.length + 1 ≤ 7 * (splA cur l).length
  | [], cur, h => by have := h cur (by simp [splA]); simp [splA]; omega
  | b :: l, cur, h => by
    unfold splA at h ⊢
    split at h
    · rename_i hb
      rw [if_pos hb]
      have h1 := h cur (by simp)
      have h2 := names_sum l [] (fun p hp => h p (by simp [hp]))
      simp only [List.length_cons, List.length_nil] at h2 ⊢; omega
    · rename_i hb
      rw [if_neg hb]
      have h2 := names_sum l _ h
      simp only [List.length_append, List.length_cons, List.length_nil] at h2 ⊢; omega
theorem path_size {s : ByteArray} (h : pathB s = true) : s.size ≤ 20 := by
  unfold pathB at h
  simp only [Bool.and_eq_true, decide_eq_true_eq, List.all_eq_true] at h
  have h1 := names_sum (bL s) [] (fun p hp => by
    have := h.2 p hp
    unfold nameB at this
    simp only [Bool.and_eq_true, decide_eq_true_eq] at this
    exact this.2.2)
  have h2 := bL_len s
  have h3 := h.1
  simp only [List.length_nil] at h1
  omega

open Classical in
theorem tree_fileOk {t : Tree} (h : treeB t = true) : ∀ f ∈ t, FileOk f := by
  intro f hf
  unfold treeB at h
  simp only [Bool.and_eq_true] at h
  have h1 := h.1
  unfold treeS at h1
  have h1 := of_decide_eq_true h1
  obtain ⟨i, hi, rfl⟩ := List.getElem_of_mem hf
  have := (h1 i (Nat.zero_le _) hi).1
  unfold fileB at this
  simp only [Bool.and_eq_true] at this
  rw [List.getD_eq_getElem?_getD, List.getElem?_eq_getElem hi] at this
  have h2 : textB (t[i]).2 = true := this.2.1
  unfold textB at h2
  simp only [Bool.and_eq_true, decide_eq_true_eq, List.all_eq_true] at h2
  exact ⟨this.1, path_size this.1, h2.1, h2.2⟩
theorem line_size {s : ByteArray} (h : lineB (bL s) = true) : s.size ≤ 12 := by
  unfold lineB at h
  simp only [Bool.and_eq_true, decide_eq_true_eq] at h
  rw [← bL_len]; exact h.2
theorem file_bd {f : ByteArray × List ByteArray} (h : FileOk f) : Bd f :=
  ⟨by have := h.2.1; omega, by have := h.2.2.1; omega, fun x hx => by have := line_size (h.2.2.2 x hx); omega⟩

/-- a text that is how a tree is written -/
def Wr (s : ByteArray) (t : Tree) : Prop := treeB t = true ∧ treeT ByteArray.empty t = s

theorem spec_tput (m : Nat) (hm : 10000000000000 ≤ m) (t : Tree) (ht : TreeSz t) (h : treeB t = true) : spec_l24Tree m (t, ()) = some (treeT ByteArray.empty t, ()) := by
  obtain ⟨hl, hf⟩ := files_ok h
  have h := spec_put_loop m (by omega) t ht hl hf t.length (m - (20 * t.length + 1)) 0 ByteArray.empty (by omega) (by simp)
  rw [show m - (20 * t.length + 1) + 20 * t.length + 1 = m by omega] at h
  exact h
theorem impl_tput (m : Nat) (hm : 10000000000000 ≤ m) (t : Tree) (ht : TreeSz t) (h : treeB t = true) : impl_TreePut m (t, ()) = some (treeT ByteArray.empty t, ()) := by
  show impl_TreePut.start m (impl_TreePut.tab m m) t = _
  unfold impl_TreePut.start
  rw [impl_tree_v m t ht hm, h]
  obtain ⟨hl, hf⟩ := files_ok h
  have h := impl_put_loop m t ht hl hf t.length (m - (20 * t.length + 1)) 0 ByteArray.empty (by omega) (by simp)
  rw [show m - (20 * t.length + 1) + 20 * t.length + 1 = m by omega] at h
  exact h

theorem impl_read_after (m : Nat) (hm : 10000000000000 ≤ m) (s : ByteArray) (ls rest : List ByteArray) (t : Tree) (h1 : impl_linesOf m (s, ()) = some (ls, ())) (h2 : impl_readFiles m (ls, ()) = some (t, rest, ())) (ht : TreeSz t) :
    impl_TreeRead m (s, ()) = if treeB t = true ∧ treeT ByteArray.empty t = s then some (t, true, ()) else some ([], false, ()) := by
  show impl_TreeRead.start m _ s = _
  unfold impl_TreeRead.start
  rw [h1]
  simp only [Option.bind_some]
  rw [h2]
  simp only [Option.bind_some]
  rw [impl_tree_v m t ht hm]
  simp only [Option.bind_some]
  cases hB : treeB t with
  | false => rw [if_neg (by simp)]; rfl
  | true =>
    rw [impl_tput m hm t ht hB]
    simp only [Option.bind_some, Bool.not_true, cond]
    rw [sEq_dec]
    by_cases hq : treeT ByteArray.empty t = s
    · rw [decide_eq_true hq, if_pos ⟨trivial, hq⟩]; rfl
    · rw [decide_eq_false hq, if_neg (by simp [hq])]; rfl

theorem spec_read_after (m : Nat) (hm : 10000000000000 ≤ m) (s : ByteArray) (ls ls' : List ByteArray) (at_ : Nat) (bad : Bool) (t : Tree) (h1 : spec_l1Cut m (s, 10, 89, ()) = some (ls, ())) (h2 : spec_l24Rd_tree m (ls, 0, false, ()) = some (ls', (at_ : Int), bad, t, ())) (hat : at_ < 1000000000) (ht : TreeSz t) :
    spec_TreeRead m (s, ()) = if bad = false ∧ at_ + 1 = ls'.length ∧ treeB t = true ∧ treeT ByteArray.empty t = s then some (t, true, ()) else some ([], false, ()) := by
  obtain ⟨q, hq⟩ : ∃ q, m = q + 1 := ⟨m - 1, by omega⟩
  have hT : ∀ b, (spec_TreeRead.tab m m).1 (t, b, ()) = cond b (some ([], false, ())) (some (t, true, ())) := fun b => by
    rw [show spec_TreeRead.tab m m = spec_TreeRead.tab m (q + 1) by rw [← hq]]
    rfl
  show spec_TreeRead.start m _ s = _
  unfold spec_TreeRead.start
  rw [h1]
  simp only [Option.bind_some]
  rw [h2]
  simp only [Option.bind_some]
  simp only [hT]
  rw [w64_succ (by omega)]
  cases bad with
  | true => rw [if_neg (by simp)]; rfl
  | false =>
    simp only [cond, lett]
    by_cases hl : at_ + 1 = ls'.length
    · rw [show (((at_ + 1 : Nat) : Int) != lLen ls') = false from by rw [hl]; simp [lLen]]
      simp only
      rw [spec_tree_v m t ht hm]
      simp only [Option.bind_some]
      cases hB : treeB t with
      | false => rw [if_neg (by simp)]; rfl
      | true =>
        rw [spec_tput m hm t ht hB]
        simp only [Option.bind_some, Bool.not_true]
        rw [sEq_dec]
        by_cases hq : treeT ByteArray.empty t = s
        · rw [decide_eq_true hq, if_pos ⟨trivial, hl, trivial, hq⟩]; rfl
        · rw [decide_eq_false hq, if_neg (by simp [hq])]; rfl
    · rw [show (((at_ + 1 : Nat) : Int) != lLen ls') = true from by simp only [lLen]; rw [bne_iff_ne]; omega, if_neg (by simp [hl])]

theorem impl_read_v (m : Nat) (hm : 10000000000000 ≤ m) {s : ByteArray} (hs : s.size ≤ 1000000) {t : Tree} (h : Wr s t) : impl_TreeRead m (s, ()) = some (t, true, ()) := by
  have hf := tree_fileOk h.1
  have h8 := (files_ok h.1).1
  have hlen := tl_len hf
  have e := treeT_txt t ByteArray.empty
  have e0 : bL ByteArray.empty = [] := rfl
  rw [e0, List.nil_append, h.2] at e
  rw [impl_read_after m hm s (tl t) [] t (lines_v m (by omega) (tl t) (by omega) (tree_lines hf) s (by omega) e) (read_v m (by omega) t hf (by omega)) (bd_sz (by omega) fun f hf' => file_bd (hf f hf')), if_pos ⟨h.1, h.2⟩]
theorem impl_read_none (m : Nat) (hm : 10000000000000 ≤ m) {s : ByteArray} (hs : s.size ≤ 1000000) (h : ∀ t, ¬ Wr s t) : impl_TreeRead m (s, ()) = some ([], false, ()) := by
  obtain ⟨ls, l1, l2, l3⟩ := lines_total m (by omega) s hs
  obtain ⟨t, rest, r1, r2, r3⟩ := read_total m (by omega) ls l2 l3
  rw [impl_read_after m hm s ls rest t l1 r1 (bd_sz r2 r3), if_neg (fun hh => h t ⟨hh.1, hh.2⟩)]

theorem spec_read_v (m : Nat) (hm : 10000000000000 ≤ m) {s : ByteArray} (hs : s.size ≤ 1000000) {t : Tree} (h : Wr s t) : spec_TreeRead m (s, ()) = some (t, true, ()) := by
  have hf := tree_fileOk h.1
  have h8 := (files_ok h.1).1
  have hlen := tl_len hf
  have e := treeT_txt t ByteArray.empty
  have e0 : bL ByteArray.empty = [] := rfl
  rw [e0, List.nil_append, h.2] at e
  obtain ⟨r, r1, r2, r3, r4, r5⟩ := cutC_v 10 89 (by omega) m s (by omega) (by omega)
  rw [splC_L, e, splAL_txt (tl t) (tree_lines hf)] at r3
  have e3 : r = tl t ++ [ByteArray.empty] := map_bL (by rw [r3 (by simp; omega)]; simp)
  have hr : r.length = (tl t).length + 1 := by rw [e3]; simp
  have ho := outer_v m (by omega) r (by omega) t (m - (12 * t.length + 2)) 0 [] (by simp; omega) hf (by rw [List.drop_zero]; exact e3)
  rw [show m - (12 * t.length + 2) + 12 * t.length + 2 = m by omega, List.nil_append] at ho
  rw [spec_read_after m hm s r r (r.length - 1) false t r1 ho (by omega) (bd_sz (by omega) fun f hf' => file_bd (hf f hf')), if_pos ⟨rfl, by omega, h.1, h.2⟩]
theorem spec_read_none (m : Nat) (hm : 10000000000000 ≤ m) {s : ByteArray} (hs : s.size ≤ 1000000) (h : ∀ t, ¬ Wr s t) : spec_TreeRead m (s, ()) = some ([], false, ()) := by
  obtain ⟨r, r1, r2, r3, r4, r5⟩ := cutC_v 10 89 (by omega) m s (by omega) (by omega)
  obtain ⟨at', bad', t', o1, o2, o3, o4⟩ := outer_total m (by omega) r (by omega) (fun x hx => by have := r5 x hx; omega) 8 (m - 98) 0 false [] rfl (by omega) (fun f hf => by cases hf)
  rw [show m - 98 + 12 * 8 + 2 = m by omega] at o1
  rw [spec_read_after m hm s r r at' bad' t' r1 o1 o2 (bd_sz (by omega) o4), if_neg (fun hh => h t' ⟨hh.2.2.1, hh.2.2.2⟩)]

/-- both read the same -/
theorem both_read (m : Nat) (hm : 10000000000000 ≤ m) {s : ByteArray} (hs : s.size ≤ 1000000) : ∃ (t : Tree) (b : Bool), spec_TreeRead m (s, ()) = some (t, b, ()) ∧ impl_TreeRead m (s, ()) = some (t, b, ()) ∧ t.length ≤ 8 ∧ (∀ f ∈ t, Bd f) ∧ (b = true → Wr s t) := by
  by_cases h : ∃ t, Wr s t
  · obtain ⟨t, h⟩ := h
    exact ⟨t, true, spec_read_v m hm hs h, impl_read_v m hm hs h, (files_ok h.1).1, fun f hf => file_bd (tree_fileOk h.1 f hf), fun _ => h⟩
  · have h' : ∀ t, ¬ Wr s t := fun t ht => h ⟨t, ht⟩
    exact ⟨[], false, spec_read_none m hm hs h', impl_read_none m hm hs h', by simp, (fun f hf => by cases hf), fun h => by cases h⟩

end Go.Sx.Tryd
