/- A part of the pure law of FnViewFree, over the printed functions: what they answer. No condition but those of each theorem. -/
import Derived.Test.YtafchokjmboemaaDoorVfeHJ
import Derived.Test.YtafchokjmboemaaDoorSxD
namespace Go.Sx.Tryd
open Go Go.Proofs Go.Sx
set_option linter.unusedVariables false
set_option linter.unusedSimpArgs false

theorem draw_viewfree (m : Nat) (hm : 10000000000000 ≤ m) (l : List Int) (hl : Byt l) : Ok (spec_DrawViewFree m (l, ())) (fun r => Small 244 r.1 ∧ (r.2.1.length ≤ 4 ∧ ∀ s ∈ r.2.1, s.size ≤ 3) ∧ r.2.2.1.length ≤ 4 ∧ ∀ s ∈ r.2.2.1, s.size ≤ 3) := by
  show Ok (spec_DrawViewFree.start m _ l) _
  unfold spec_DrawViewFree.start
  exact ok_bind (open_t m l hl) (fun r1 h1 => ok_bind (anyTree_k m hm h1 (by omega)) (fun r2 h2 => ok_bind (paths_k m (by omega) h2.1 (by omega)) (fun r3 h3 => ok_bind (paths_k m (by omega) h3.1 (by omega)) (fun r4 h4 => ok_some ⟨h2.2, h3.2, h4.2⟩))))

theorem tree_nil : treeB [] = true := treeB_iff.2 ⟨by simp, List.Pairwise.nil, fun f hf => (by cases hf), fun f hf => (by cases hf)⟩
theorem nil_sz : TreeSz [] := ⟨by simp, fun f hf => (by cases hf), fun f hf => (by cases hf)⟩

theorem viewput_nil (m : Nat) (hm : 10000000000000 ≤ m) (t : Tree) (ht : TreeSz t) (hok : treeB t = true) (a : List ByteArray) (ha : PathsSz a) (hv : viewB a = true) : impl_ViewPut m (t, a, [], ()) = some (t.filter (fun f => !visB a f.1), true, ()) :=
  viewput_ok m hm t ht hok a ha hv [] nil_sz tree_nil (fun f hf => (by cases hf)) _ (ht.filter _) (treeB_filter hok _) (by rw [List.append_nil])

theorem law_ViewFree (l : List Int) (hbn : Bnd (.list (.int .u8)) l) : laws_FnViewFree 10000000000000 (l, ()) = some (true, ()) := by
  have hb := byt_of hbn
  obtain ⟨r, hr, ht, ha, hbb⟩ := draw_viewfree 10000000000000 (by omega) l hb
  obtain ⟨t, a, b, u⟩ := r
  have ht : Small 244 t := ht
  have hsz := ht.sz (by omega)
  have ha : PathsSz a := paths_sz ha.1 ha.2
  have hbs : PathsSz b := paths_sz hbb.1 hbb.2
  obtain ⟨f1, f2⟩ := free_v 10000000000000 (by omega) t hsz a b ha hbs
  obtain ⟨g1, g2⟩ := free_v 10000000000000 (by omega) t hsz b a hbs ha
  show laws_FnViewFree.start 10000000000000 (laws_FnViewFree.tab 10000000000000 10000000000000) l = _
  unfold laws_FnViewFree.start
  by_cases q1 : lLen l > 1048576
  · rw [decide_eq_true q1]; rfl
  rw [decide_eq_false q1, hr]
  simp only [cond, Option.bind_some]
  rw [f1, f2, g2]
  simp only [Option.bind_some, beq_self_eq_true, Bool.not_true]
  cases hE : (treeB t && (viewB a && (viewB b && !t.any (fun f => visB a f.1 && visB b f.1)))) with
  | false => rfl
  | true =>
    simp only [Bool.and_eq_true, Bool.not_eq_true', List.any_eq_false] at hE
    obtain ⟨h1, h2, h3, h4⟩ := hE
    have hx := treeB_filter h1 (fun f => !visB a f.1)
    have hz := treeB_filter h1 (fun f => !visB b f.1)
    simp only [Bool.not_true, cond]
    rw [viewput_nil 10000000000000 (by omega) t hsz h1 a ha h2, viewput_nil 10000000000000 (by omega) t hsz h1 b hbs h3]
    simp only [Option.bind_some]
    rw [viewput_nil 10000000000000 (by omega) _ (hsz.filter _) hx b hbs h3, viewput_nil 10000000000000 (by omega) _ (hsz.filter _) hz a ha h2]
    simp only [Option.bind_some]
    have e1 : (t.filter (fun f => !visB b f.1)).filter (fun f => !visB a f.1) = (t.filter (fun f => !visB a f.1)).filter (fun f => !visB b f.1) := by
      rw [List.filter_filter, List.filter_filter]
      exact List.filter_congr fun f _ => Bool.and_comm _ _
    rw [e1]
    simp only [uppedF]
    rw [smTree_self 10000000000000 (by omega) _ ((hsz.filter _).filter _)]
    simp only [Option.bind_some]
    rw [impl_viewof_v 10000000000000 (by omega) _ (hsz.filter _) b hbs, impl_viewof_v 10000000000000 (by omega) t hsz b hbs]
    simp only [Option.bind_some]
    have e2 : viewV b (t.filter (fun f => !visB a f.1)) = viewV b t := by
      unfold viewV
      rw [hx, h1, h3]
      show (t.filter (fun f => !visB a f.1)).filter (fun f => visB b f.1) = t.filter (fun f => visB b f.1)
      rw [List.filter_filter]
      refine List.filter_congr fun f hf => ?_
      have := h4 f hf
      cases hb2 : visB b f.1 with
      | false => rfl
      | true =>
        cases ha2 : visB a f.1 with
        | false => rfl
        | true => rw [ha2, hb2] at this; exact absurd ⟨rfl, rfl⟩ this
    have hv : TreeSz (viewV b t) := by
      unfold viewV
      rw [h1, h3]
      exact hsz.filter _
    rw [e2, smTree_self 10000000000000 (by omega) _ hv]
    simp only [Option.bind_some]
    rw [h1, h2, h3, show t.any (fun f => visB b f.1 && visB a f.1) = false from by
      rw [List.any_eq_false]
      intro f hf
      rw [Bool.and_comm]
      simpa using h4 f hf]
    rfl
end Go.Sx.Tryd
