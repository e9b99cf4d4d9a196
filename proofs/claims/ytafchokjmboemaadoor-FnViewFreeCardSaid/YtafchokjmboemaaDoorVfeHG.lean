/- A part of the pure law of FnViewFree, over the printed functions: what they answer. No condition but those of each theorem. -/
import Derived.Test.YtafchokjmboemaaDoorVfeHF
namespace Go.Sx.Tryd
open Go Go.Proofs Go.Sx
set_option linter.unusedVariables false
set_option linter.unusedSimpArgs false

def viewB (a : List ByteArray) : Bool := decide (a.length ≤ 4) && a.all pathB
def visB (a : List ByteArray) (p : ByteArray) : Bool := a.any fun q => decide (q = p) || inB (bL q) (bL p)

/-- paths that are handed in -/
def PathsSz (a : List ByteArray) : Prop := a.length < 1000001 ∧ ∀ s ∈ a, s.size < 1000000
theorem PathsSz.at {a : List ByteArray} (h : PathsSz a) {i : Nat} (hi : i < a.length) : (a.getD i ByteArray.empty).size < 1000000 := h.2 _ (mem_getD hi)

theorem spec_paths_loop (m : Nat) (a : List ByteArray) (ha : PathsSz a) (hm : 10000000 ≤ m) : ∀ (d k i : Nat), i + d = a.length →
    (spec_l25Paths.tab m (k + d + 1)).1 (a, (i : Int), ()) = some ((a.drop i).all pathB && decide (a.length ≤ 4), ())
  | 0, k, i, h => by
    show spec_l25Paths.b0 m (spec_l25Paths.tab m k) a (i : Int) = _
    unfold spec_l25Paths.b0
    rw [decide_eq_false (show ¬ (i : Int) < lLen a by simp only [lLen]; omega), List.drop_eq_nil_of_le (by omega)]
    simp only [cond, List.all_nil, Bool.true_and, lLen]
    rw [show decide ((a.length : Int) ≤ 4) = decide (a.length ≤ 4) by simp only [decide_eq_decide]; omega]
  | d + 1, k, i, h => by
    have ih := spec_paths_loop m a ha hm d k (i + 1) (by omega)
    have hl := ha.1
    show spec_l25Paths.b0 m (spec_l25Paths.tab m (k + d + 1)) a (i : Int) = _
    unfold spec_l25Paths.b0
    rw [decide_eq_true (show (i : Int) < lLen a by simp only [lLen]; omega), decide_eq_true (show (0 : Int) ≤ (i : Int) by omega), drop_at (l := a) (i := i) (by omega) ByteArray.empty,
      show getL a (i : Int) ByteArray.empty = a.getD i ByteArray.empty from rfl, spec_path_v m _ (ha.at (by omega)) hm]
    simp only [cond, Option.bind_some, List.all_cons]
    rw [w64_succ (by omega), ih]
    cases pathB (a.getD i ByteArray.empty) <;> simp

theorem spec_paths_v (m : Nat) (a : List ByteArray) (ha : PathsSz a) (hm : 10000000 ≤ m) : spec_l25Paths m (a, ()) = some (viewB a, ()) := by
  have hl := ha.1
  have := spec_paths_loop m a ha hm a.length (m - (a.length + 1)) 0 (by omega)
  rw [show m - (a.length + 1) + a.length + 1 = m by omega] at this
  show (spec_l25Paths.tab m m).1 (a, ((0 : Nat) : Int), ()) = _
  rw [this]
  unfold viewB
  rw [List.drop_zero, Bool.and_comm]

theorem view_loop (m : Nat) (a : List ByteArray) (ha : PathsSz a) (hm : 10000000 ≤ m) : ∀ (d k i : Nat), i + d = a.length →
    ∃ v : Int, (slices_IndexFunc_string_of_impl_viewOk_1.tab m (k + d + 1)).1 (a, lLen a, (i : Int), ()) = some (v, ()) ∧ decide (v ≥ 0) = !((a.drop i).all pathB)
  | 0, k, i, h => by
    refine ⟨-1, ?_, ?_⟩
    · show slices_IndexFunc_string_of_impl_viewOk_1.b0 m (slices_IndexFunc_string_of_impl_viewOk_1.tab m k) a (lLen a) (i : Int) = _
      unfold slices_IndexFunc_string_of_impl_viewOk_1.b0
      rw [decide_eq_false (show ¬ (i : Int) < lLen a by simp only [lLen]; omega)]
      rfl
    · rw [List.drop_eq_nil_of_le (by omega)]; rfl
  | d + 1, k, i, h => by
    obtain ⟨v, ih, hv⟩ := view_loop m a ha hm d k (i + 1) (by omega)
    have hl := ha.1
    have hs : (slices_IndexFunc_string_of_impl_viewOk_1.tab m (k + (d + 1) + 1)).1 (a, lLen a, (i : Int), ()) = cond (!pathB (a.getD i ByteArray.empty)) (some ((i : Int), ())) (some (v, ())) := by
      show slices_IndexFunc_string_of_impl_viewOk_1.b0 m (slices_IndexFunc_string_of_impl_viewOk_1.tab m (k + d + 1)) a (lLen a) (i : Int) = _
      unfold slices_IndexFunc_string_of_impl_viewOk_1.b0
      rw [decide_eq_true (show (i : Int) < lLen a by simp only [lLen]; omega), decide_eq_true (show (0 : Int) ≤ (i : Int) by omega),
        show getL a (i : Int) ByteArray.empty = a.getD i ByteArray.empty from rfl]
      rw [show impl_viewOk_1 m (a.getD i ByteArray.empty, ()) = some (!pathB (a.getD i ByteArray.empty), ()) from by
        show Option.bind (impl_PathOk m (a.getD i ByteArray.empty, ())) _ = _
        rw [impl_path_v m _ (ha.at (by omega)) hm]; rfl]
      simp only [cond, Option.bind_some]
      rw [w64_succ (by omega), ih]
    rw [hs, drop_at (l := a) (i := i) (by omega) ByteArray.empty]
    simp only [List.all_cons]
    cases pathB (a.getD i ByteArray.empty) with
    | true => exact ⟨v, rfl, by rw [hv]; simp⟩
    | false => exact ⟨(i : Int), rfl, by simp⟩

theorem impl_paths_v (m : Nat) (a : List ByteArray) (ha : PathsSz a) (hm : 10000000 ≤ m) : impl_viewOk m (a, ()) = some (viewB a, ()) := by
  have hl := ha.1
  show impl_viewOk.start m _ a = _
  unfold impl_viewOk.start viewB
  rw [show decide (lLen a ≤ 4) = decide (a.length ≤ 4) by simp only [lLen, decide_eq_decide]; omega]
  obtain ⟨v, h, hv⟩ := view_loop m a ha hm a.length (m - (a.length + 1)) 0 (by omega)
  rw [show m - (a.length + 1) + a.length + 1 = m by omega] at h
  rw [show slices_ContainsFunc_string_of_impl_viewOk_1 m (a, ()) = some (decide (v ≥ 0), ()) from by
    show Option.bind (slices_IndexFunc_string_of_impl_viewOk_1 m (a, ())) _ = _
    rw [show slices_IndexFunc_string_of_impl_viewOk_1 m (a, ()) = some (v, ()) from h]; rfl]
  rw [hv, List.drop_zero]
  cases decide (a.length ≤ 4) <;> simp

theorem spec_in_loop (m : Nat) (a : List ByteArray) (ha : PathsSz a) (p : ByteArray) : ∀ (d k i : Nat), i + d = a.length →
    (spec_l25In.tab m (k + d + 1)).1 (a, p, (i : Int), ()) = some ((a.drop i).any (fun q => decide (q = p) || inB (bL q) (bL p)), ())
  | 0, k, i, h => by
    show spec_l25In.b0 m (spec_l25In.tab m k) a p (i : Int) = _
    unfold spec_l25In.b0
    rw [decide_eq_false (show ¬ (i : Int) < lLen a by simp only [lLen]; omega), List.drop_eq_nil_of_le (by omega)]
    rfl
  | d + 1, k, i, h => by
    have ih := spec_in_loop m a ha p d k (i + 1) (by omega)
    have hl := ha.1
    show spec_l25In.b0 m (spec_l25In.tab m (k + d + 1)) a p (i : Int) = _
    unfold spec_l25In.b0
    rw [decide_eq_true (show (i : Int) < lLen a by simp only [lLen]; omega), decide_eq_true (show (0 : Int) ≤ (i : Int) by omega), drop_at (l := a) (i := i) (by omega) ByteArray.empty,
      show getL a (i : Int) ByteArray.empty = a.getD i ByteArray.empty from rfl, in_v, sEq_dec]
    simp only [cond, Option.bind_some, List.any_cons]
    rw [w64_succ (by omega), ih]
    cases decide (a.getD i ByteArray.empty = p) <;> cases inB (bL (a.getD i ByteArray.empty)) (bL p) <;> simp

theorem spec_in_v (m : Nat) (a : List ByteArray) (ha : PathsSz a) (p : ByteArray) (hm : 10000000 ≤ m) : spec_l25In m (a, p, ()) = some (visB a p, ()) := by
  have hl := ha.1
  have := spec_in_loop m a ha p a.length (m - (a.length + 1)) 0 (by omega)
  rw [show m - (a.length + 1) + a.length + 1 = m by omega] at this
  exact this

theorem isAt_v (m : Nat) (hm : 10000000 ≤ m) (q p : ByteArray) (hq : q.size < 1000000) (hp : p.size < 1000000) (h1 : pathB q = true) (h2 : pathB p = true) : impl_isAt m (q, p, ()) = some (decide (q = p) || inB (bL q) (bL p), ()) := by
  show impl_isAt.start m _ q p = _
  unfold impl_isAt.start
  rw [sEq_dec, pathIn_v m hm q p hq hp, h1, h2]
  cases decide (q = p) <;> simp

theorem impl_vis_loop (m : Nat) (hm : 10000000 ≤ m) (a : List ByteArray) (ha : PathsSz a) (hv : ∀ q ∈ a, pathB q = true) (p : ByteArray) (hp : p.size < 1000000) (hpb : pathB p = true) : ∀ (d k i : Nat), i + d = a.length →
    ∃ v : Int, (slices_IndexFunc_string_of_impl_visible_1.tab m (k + d + 1)).1 (p, a, lLen a, (i : Int), ()) = some (p, v, ()) ∧ decide (v ≥ 0) = (a.drop i).any (fun q => decide (q = p) || inB (bL q) (bL p))
  | 0, k, i, h => by
    refine ⟨-1, ?_, ?_⟩
    · show slices_IndexFunc_string_of_impl_visible_1.b0 m (slices_IndexFunc_string_of_impl_visible_1.tab m k) p a (lLen a) (i : Int) = _
      unfold slices_IndexFunc_string_of_impl_visible_1.b0
      rw [decide_eq_false (show ¬ (i : Int) < lLen a by simp only [lLen]; omega)]
      rfl
    · rw [List.drop_eq_nil_of_le (by omega)]; rfl
  | d + 1, k, i, h => by
    obtain ⟨v, ih, hvv⟩ := impl_vis_loop m hm a ha hv p hp hpb d k (i + 1) (by omega)
    have hl := ha.1
    have hs : (slices_IndexFunc_string_of_impl_visible_1.tab m (k + (d + 1) + 1)).1 (p, a, lLen a, (i : Int), ()) = cond (decide (a.getD i ByteArray.empty = p) || inB (bL (a.getD i ByteArray.empty)) (bL p)) (some (p, (i : Int), ())) (some (p, v, ())) := by
      show slices_IndexFunc_string_of_impl_visible_1.b0 m (slices_IndexFunc_string_of_impl_visible_1.tab m (k + d + 1)) p a (lLen a) (i : Int) = _
      unfold slices_IndexFunc_string_of_impl_visible_1.b0
      rw [decide_eq_true (show (i : Int) < lLen a by simp only [lLen]; omega), decide_eq_true (show (0 : Int) ≤ (i : Int) by omega),
        show getL a (i : Int) ByteArray.empty = a.getD i ByteArray.empty from rfl]
      rw [show impl_visible_1_v0 m (p, a.getD i ByteArray.empty, ()) = some (p, decide (a.getD i ByteArray.empty = p) || inB (bL (a.getD i ByteArray.empty)) (bL p), ()) from by
        show Option.bind (impl_isAt m (a.getD i ByteArray.empty, p, ())) _ = _
        rw [isAt_v m hm _ _ (ha.at (by omega)) hp (hv _ (mem_getD (by omega))) hpb]; rfl]
      simp only [cond, Option.bind_some]
      rw [w64_succ (by omega), ih]
    rw [hs, drop_at (l := a) (i := i) (by omega) ByteArray.empty]
    simp only [List.any_cons]
    cases (decide (a.getD i ByteArray.empty = p) || inB (bL (a.getD i ByteArray.empty)) (bL p)) with
    | false => exact ⟨v, rfl, by rw [hvv]; simp⟩
    | true => exact ⟨(i : Int), rfl, by simp⟩

theorem impl_vis_v (m : Nat) (hm : 10000000 ≤ m) (a : List ByteArray) (ha : PathsSz a) (hv : ∀ q ∈ a, pathB q = true) (p : ByteArray) (hp : p.size < 1000000) (hpb : pathB p = true) : impl_visible m (a, p, ()) = some (visB a p, ()) := by
  have hl := ha.1
  obtain ⟨v, h, hvv⟩ := impl_vis_loop m hm a ha hv p hp hpb a.length (m - (a.length + 1)) 0 (by omega)
  rw [show m - (a.length + 1) + a.length + 1 = m by omega] at h
  show Option.bind (slices_ContainsFunc_string_of_impl_visible_1 m (p, a, ())) _ = _
  rw [show slices_ContainsFunc_string_of_impl_visible_1 m (p, a, ()) = some (p, decide (v ≥ 0), ()) from by
    show Option.bind (slices_IndexFunc_string_of_impl_visible_1 m (p, a, ())) _ = _
    rw [show slices_IndexFunc_string_of_impl_visible_1 m (p, a, ()) = some (p, v, ()) from h]; rfl]
  rw [hvv, List.drop_zero]
  rfl

theorem spec_free_loop (m : Nat) (hm : 10000000 ≤ m) (t : Tree) (ht : TreeSz t) (a b : List ByteArray) (ha : PathsSz a) (hb : PathsSz b) : ∀ (d k i : Nat), i + d = t.length →
    (spec_ViewFree.tab m (k + d + 1)).1 (t, a, b, (i : Int), ()) = some (!(t.drop i).any (fun f => visB a f.1 && visB b f.1), ())
  | 0, k, i, h => by
    show spec_ViewFree.b0 m (spec_ViewFree.tab m k) t a b (i : Int) = _
    unfold spec_ViewFree.b0
    rw [decide_eq_false (show ¬ (i : Int) < lLen t by simp only [lLen]; omega), List.drop_eq_nil_of_le (by omega)]
    rfl
  | d + 1, k, i, h => by
    have ih := spec_free_loop m hm t ht a b ha hb d k (i + 1) (by omega)
    have hl := ht.len
    show spec_ViewFree.b0 m (spec_ViewFree.tab m (k + d + 1)) t a b (i : Int) = _
    unfold spec_ViewFree.b0
    rw [decide_eq_true (show (i : Int) < lLen t by simp only [lLen]; omega), decide_eq_true (show (0 : Int) ≤ (i : Int) by omega), drop_at (l := t) (i := i) (by omega) fz]
    simp only [cond, lett, List.any_cons]
    rw [show getL t (i : Int) (ByteArray.empty, ([] : List ByteArray)) = t.getD i fz from rfl, spec_in_v m a ha _ hm, spec_in_v m b hb _ hm, w64_succ (by omega), ih]
    simp only [Option.bind_some]
    cases visB a (t.getD i fz).1 <;> cases visB b (t.getD i fz).1 <;> simp

theorem impl_free_loop (m : Nat) (hm : 10000000 ≤ m) (t : Tree) (ht : TreeSz t) (hp : ∀ f ∈ t, pathB f.1 = true) (a b : List ByteArray) (ha : PathsSz a) (hb : PathsSz b) (ha2 : ∀ q ∈ a, pathB q = true) (hb2 : ∀ q ∈ b, pathB q = true) : ∀ (d k i : Nat), i + d = t.length →
    ∃ v : Int, (slices_IndexFunc_File_of_impl_ViewFree_1.tab m (k + d + 1)).1 (a, b, t, lLen t, (i : Int), ()) = some (a, b, v, ()) ∧ decide (v ≥ 0) = (t.drop i).any (fun f => visB a f.1 && visB b f.1)
  | 0, k, i, h => by
    refine ⟨-1, ?_, ?_⟩
    · show slices_IndexFunc_File_of_impl_ViewFree_1.b0 m (slices_IndexFunc_File_of_impl_ViewFree_1.tab m k) a b t (lLen t) (i : Int) = _
      unfold slices_IndexFunc_File_of_impl_ViewFree_1.b0
      rw [decide_eq_false (show ¬ (i : Int) < lLen t by simp only [lLen]; omega)]
      rfl
    · rw [List.drop_eq_nil_of_le (by omega)]; rfl
  | d + 1, k, i, h => by
    obtain ⟨v, ih, hvv⟩ := impl_free_loop m hm t ht hp a b ha hb ha2 hb2 d k (i + 1) (by omega)
    have hl := ht.len
    have hs : (slices_IndexFunc_File_of_impl_ViewFree_1.tab m (k + (d + 1) + 1)).1 (a, b, t, lLen t, (i : Int), ()) = cond (visB a (t.getD i fz).1 && visB b (t.getD i fz).1) (some (a, b, (i : Int), ())) (some (a, b, v, ())) := by
      show slices_IndexFunc_File_of_impl_ViewFree_1.b0 m (slices_IndexFunc_File_of_impl_ViewFree_1.tab m (k + d + 1)) a b t (lLen t) (i : Int) = _
      unfold slices_IndexFunc_File_of_impl_ViewFree_1.b0
      rw [decide_eq_true (show (i : Int) < lLen t by simp only [lLen]; omega), decide_eq_true (show (0 : Int) ≤ (i : Int) by omega)]
      simp only [cond, lett]
      rw [show getL t (i : Int) (ByteArray.empty, ([] : List ByteArray)) = t.getD i fz from rfl]
      rw [show impl_ViewFree_1_v0 m (a, b, (t.getD i fz).1, (t.getD i fz).2, ()) = some (a, b, visB a (t.getD i fz).1 && visB b (t.getD i fz).1, ()) from by
        have hpi := hp _ (mem_getD (z := fz) (show i < t.length by omega))
        have hsz := (ht.at (i := i) (by omega)).1
        show Option.bind (impl_visible m (a, (t.getD i fz).1, ())) _ = _
        rw [impl_vis_v m hm a ha ha2 _ hsz hpi]
        simp only [Option.bind_some]
        rw [impl_vis_v m hm b hb hb2 _ hsz hpi]
        cases visB a (t.getD i fz).1 <;> rfl]
      simp only [Option.bind_some]
      rw [w64_succ (by omega), ih]
    rw [hs, drop_at (l := t) (i := i) (by omega) fz]
    simp only [List.any_cons]
    cases (visB a (t.getD i fz).1 && visB b (t.getD i fz).1) with
    | false => exact ⟨v, rfl, by rw [hvv]; simp⟩
    | true => exact ⟨(i : Int), rfl, by simp⟩

open Classical in
theorem tree_paths {t : Tree} (h : treeB t = true) : ∀ f ∈ t, pathB f.1 = true := by
  intro f hf
  unfold treeB at h
  simp only [Bool.and_eq_true] at h
  have h1 := h.1
  unfold treeS at h1
  have h1 := of_decide_eq_true h1
  obtain ⟨i, hi, rfl⟩ := List.getElem_of_mem hf
  have := (h1 i (Nat.zero_le _) hi).1
  unfold fileB at this
  simp only [Bool.and_eq_true] at this
  have := this.1
  rw [List.getD_eq_getElem?_getD, List.getElem?_eq_getElem hi] at this
  exact this

theorem free_v (m : Nat) (hm : 10000000000000 ≤ m) (t : Tree) (ht : TreeSz t) (a b : List ByteArray) (ha : PathsSz a) (hb : PathsSz b) :
    spec_ViewFree m (t, a, b, ()) = some (treeB t && (viewB a && (viewB b && !t.any (fun f => visB a f.1 && visB b f.1))), ()) ∧ impl_ViewFree m (t, a, b, ()) = some (treeB t && (viewB a && (viewB b && !t.any (fun f => visB a f.1 && visB b f.1))), ()) := by
  have hl := ht.len
  refine ⟨?_, ?_⟩
  · show spec_ViewFree.start m (spec_ViewFree.tab m m) t a b = _
    unfold spec_ViewFree.start
    rw [spec_tree_v m t ht hm, spec_paths_v m a ha (by omega), spec_paths_v m b hb (by omega)]
    have h := spec_free_loop m (by omega) t ht a b ha hb t.length (m - (t.length + 1)) 0 (by omega)
    rw [show m - (t.length + 1) + t.length + 1 = m by omega, List.drop_zero] at h
    simp only [Option.bind_some]
    rw [show (spec_ViewFree.tab m m).1 (t, a, b, 0, ()) = some (!t.any (fun f => visB a f.1 && visB b f.1), ()) from h]
    cases treeB t <;> cases viewB a <;> cases viewB b <;> simp
  · show impl_ViewFree.start m (impl_ViewFree.tab m m) t a b = _
    unfold impl_ViewFree.start
    rw [impl_tree_v m t ht hm, impl_paths_v m a ha (by omega), impl_paths_v m b hb (by omega)]
    simp only [Option.bind_some]
    cases h1 : treeB t with
    | false => rfl
    | true =>
      cases h2 : viewB a with
      | false => rfl
      | true =>
        cases h3 : viewB b with
        | false => rfl
        | true =>
          have pa : ∀ q ∈ a, pathB q = true := by unfold viewB at h2; simp only [Bool.and_eq_true, List.all_eq_true] at h2; exact h2.2
          have pb : ∀ q ∈ b, pathB q = true := by unfold viewB at h3; simp only [Bool.and_eq_true, List.all_eq_true] at h3; exact h3.2
          obtain ⟨v, g, hv⟩ := impl_free_loop m (by omega) t ht (tree_paths h1) a b ha hb pa pb t.length (m - (t.length + 1)) 0 (by omega)
          rw [show m - (t.length + 1) + t.length + 1 = m by omega] at g
          rw [show slices_ContainsFunc_File_of_impl_ViewFree_1 m (a, b, t, ()) = some (a, b, decide (v ≥ 0), ()) from by
            show Option.bind (slices_IndexFunc_File_of_impl_ViewFree_1 m (a, b, t, ())) _ = _
            rw [show slices_IndexFunc_File_of_impl_ViewFree_1 m (a, b, t, ()) = some (a, b, v, ()) from g]; rfl]
          rw [hv, List.drop_zero]
          simp
end Go.Sx.Tryd
