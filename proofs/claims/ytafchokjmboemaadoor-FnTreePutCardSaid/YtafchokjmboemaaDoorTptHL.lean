/- A part of the pure law of FnTreePut, over the printed functions: what they answer. No condition but those of each theorem. -/
import Derived.Test.YtafchokjmboemaaDoorTptHJ
import Derived.Test.YtafchokjmboemaaDoorTptHK
import Derived.Test.YtafchokjmboemaaDoorSxD
namespace Go.Sx.Tryd
open Go Go.Proofs Go.Sx
set_option linter.unusedVariables false
set_option linter.unusedSimpArgs false

theorem treeT_small : ∀ (t : Tree) (acc : ByteArray), (∀ f ∈ t, f.1.size ≤ 20 ∧ f.2.length ≤ 10 ∧ ∀ s ∈ f.2, s.size ≤ 12) → (treeT acc t).size ≤ acc.size + 200 * t.length
  | [], acc, _ => by simp [treeT]
  | f :: r, acc, h => by
    obtain ⟨h1, h2, h3⟩ := h f (by simp)
    have a := headT_size acc f
    have b := linesT_size f.2 (headT acc f) h3
    have c := treeT_small r (linesT (headT acc f) f.2) (fun x hx => h x (by simp [hx]))
    simp only [treeT, List.length_cons]
    omega

open Classical in
theorem tree_fileB {t : Tree} (h : treeB t = true) : ∀ f ∈ t, pathB f.1 = true ∧ textB f.2 = true := by
  intro f hf
  unfold treeB at h
  simp only [Bool.and_eq_true] at h
  have h1 := h.1
  unfold treeS at h1
  have h1 := of_decide_eq_true h1
  obtain ⟨i, hi, rfl⟩ := List.getElem_of_mem hf
  have := (h1 i (Nat.zero_le _) hi).1
  unfold fileB at this
  simp only [Bool.and_eq_true] at this
  rw [List.getD_eq_getElem?_getD, List.getElem?_eq_getElem hi] at this
  exact ⟨this.1, this.2.1⟩

theorem tree_fileOk {n : Nat} {t : Tree} (ht : Small n t) (h : treeB t = true) : ∀ f ∈ t, FileOk f := by
  intro f hf
  obtain ⟨h1, h2⟩ := tree_fileB h f hf
  unfold textB at h2
  simp only [Bool.and_eq_true, decide_eq_true_eq, List.all_eq_true] at h2
  exact ⟨h1, (ht.2 f hf).1, h2.1, h2.2⟩

theorem treeread_v (m : Nat) (hm : 10000000000000 ≤ m) {n : Nat} {t : Tree} (ht : Small n t) (hn : n ≤ 1000) (h : treeB t = true) : impl_TreeRead m (treeT ByteArray.empty t, ()) = some (t, true, ()) := by
  have hsz := ht.sz hn
  have hf := tree_fileOk ht h
  have ht8 : t.length ≤ 8 := (files_ok h).1
  have hlen := tl_len hf
  have hs := treeT_small t ByteArray.empty (fun f hf' => ⟨(ht.2 f hf').1, (hf f hf').2.2.1, fun s hs => by
    have := (hf f hf').2.2.2 s hs
    unfold lineB at this
    simp only [Bool.and_eq_true, decide_eq_true_eq] at this
    rw [← bL_len]; exact this.2⟩)
  simp only [ByteArray.size_empty] at hs
  have e := treeT_txt t ByteArray.empty
  have e0 : bL ByteArray.empty = [] := rfl
  rw [e0, List.nil_append] at e
  show impl_TreeRead.start m _ (treeT ByteArray.empty t) = _
  unfold impl_TreeRead.start
  rw [lines_v m (by omega) (tl t) (by omega) (tree_lines hf) _ (by omega) e]
  simp only [Option.bind_some]
  rw [read_v m (by omega) t hf (by omega)]
  simp only [Option.bind_some]
  rw [impl_tree_v m t hsz hm, h, (put_v m hm t hsz).2]
  simp only [Option.bind_some]
  unfold putV
  rw [h]
  simp only [Bool.not_true, cond]
  rw [sEq_self]
  rfl

theorem draw_treeput (m : Nat) (hm : 10000000000000 ≤ m) (l : List Int) (hl : Byt l) : Ok (spec_DrawTreePut m (l, ())) (fun r => Small 244 r.1) := by
  show Ok (spec_DrawTreePut.start m _ l) _
  unfold spec_DrawTreePut.start
  exact ok_bind (open_t m l hl) (fun r1 h1 => ok_bind (anyTree_k m hm h1 (by omega)) (fun r2 h2 => ok_some h2.2))

theorem law_TreePut (l : List Int) (hbn : Bnd (.list (.int .u8)) l) : laws_FnTreePut 10000000000000 (l, ()) = some (true, ()) := by
  have hb := byt_of hbn
  obtain ⟨r, hr, ht⟩ := draw_treeput 10000000000000 (by omega) l hb
  obtain ⟨t, u⟩ := r
  have ht : Small 244 t := ht
  have hsz := ht.sz (by omega)
  obtain ⟨p1, p2⟩ := put_v 10000000000000 (by omega) t hsz
  show laws_FnTreePut.start 10000000000000 _ l = _
  unfold laws_FnTreePut.start
  by_cases g1 : lLen l > 1048576
  · rw [decide_eq_true g1]; rfl
  rw [decide_eq_false g1, hr]
  simp only [cond, Option.bind_some]
  rw [p1, p2]
  simp only [Option.bind_some]
  rw [sEq_self, impl_tree_v 10000000000000 t hsz (by omega)]
  simp only [Option.bind_some, Bool.not_true]
  cases hok : treeB t with
  | false => rfl
  | true =>
    have hv : putV t = treeT ByteArray.empty t := by unfold putV; rw [hok]; rfl
    simp only [Bool.not_true]
    rw [hv, treeread_v 10000000000000 (by omega) ht (by omega) hok]
    simp only [Option.bind_some, uppedF]
    rw [smTree_self 10000000000000 (by omega) t hsz]
    rfl
end Go.Sx.Tryd
