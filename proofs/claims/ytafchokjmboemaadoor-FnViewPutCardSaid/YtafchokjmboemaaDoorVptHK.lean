/- A part of the pure law of FnViewPut, over the printed functions: what they answer. No condition but those of each theorem. -/
import Derived.Test.YtafchokjmboemaaDoorVptHJ
import Derived.Test.YtafchokjmboemaaDoorSxD
namespace Go.Sx.Tryd
open Go Go.Proofs Go.Sx
set_option linter.unusedVariables false
set_option linter.unusedSimpArgs false

theorem draw_viewof (m : Nat) (hm : 10000000000000 ≤ m) (l : List Int) (hl : Byt l) : Ok (spec_DrawViewOf m (l, ())) (fun r => Small 244 r.1 ∧ r.2.1.length ≤ 4 ∧ ∀ s ∈ r.2.1, s.size ≤ 3) := by
  show Ok (spec_DrawViewOf.start m _ l) _
  unfold spec_DrawViewOf.start
  exact ok_bind (open_t m l hl) (fun r1 h1 => ok_bind (anyTree_k m hm h1 (by omega)) (fun r2 h2 => ok_bind (paths_k m (by omega) h2.1 (by omega)) (fun r3 h3 => ok_some ⟨h2.2, h3.2⟩)))

theorem all_loop (m : Nat) (hm : 10000000000000 ≤ m) (t : Tree) (a : List ByteArray) (ha : PathsSz a) (w x : Tree) (ok : Bool)
    (H : a.all pathB = true → ok = true ∧ x = t ∧ TreeSz t ∧ TreeSz w ∧ treeB w = true ∧ viewV a w = w) : ∀ (d k i : Nat) (all : Bool), i + d = a.length → all = (a.take i).all pathB →
    (laws_FnViewPut.tab m (k + d + 1)).1 (t, a, w, x, ok, all, (i : Int), ()) = some (true, ())
  | 0, k, i, all, h, hall => by
    show laws_FnViewPut.b0 m (laws_FnViewPut.tab m k) t a w x ok all (i : Int) = _
    unfold laws_FnViewPut.b0
    rw [decide_eq_false (show ¬ (i : Int) < lLen a by simp only [lLen]; omega)]
    rw [List.take_of_length_le (by omega)] at hall
    cases all with
    | false => rfl
    | true =>
      obtain ⟨rfl, rfl, h3, h4, h5, h6⟩ := H hall.symm
      simp only [cond, Bool.not_true, uppedF]
      rw [smTree_self m (by omega) x h3]
      simp only [Option.bind_some]
      rw [impl_tree_v m w h4 hm, h5]
      simp only [Option.bind_some]
      rw [impl_viewof_v m hm w h4 a ha, h6]
      simp only [Option.bind_some]
      rw [smTree_self m (by omega) w h4]
      rfl
  | d + 1, k, i, all, h, hall => by
    have hl := ha.1
    have hi : i < a.length := by omega
    have hb : (laws_FnViewPut.tab m (k + (d + 1) + 1)).1 (t, a, w, x, ok, all, (i : Int), ()) = (laws_FnViewPut.tab m (k + d + 1)).1 (t, a, w, x, ok, all && pathB (a.getD i ByteArray.empty), ((i + 1 : Nat) : Int), ()) := by
      show laws_FnViewPut.b0 m (laws_FnViewPut.tab m (k + d + 1)) t a w x ok all (i : Int) = _
      unfold laws_FnViewPut.b0
      rw [decide_eq_true (show (i : Int) < lLen a by simp only [lLen]; omega), decide_eq_true (show (0 : Int) ≤ (i : Int) by omega), w64_succ (by omega), show getL a (i : Int) ByteArray.empty = a.getD i ByteArray.empty from rfl, impl_path_v m _ (ha.at hi) (by omega)]
      cases all <;> rfl
    rw [hb]
    refine all_loop m hm t a ha w x ok H d k (i + 1) _ (by omega) ?_
    rw [hall, List.take_add_one, List.getElem?_eq_getElem hi, List.all_append]
    have : a.getD i ByteArray.empty = a[i] := by rw [List.getD_eq_getElem?_getD, List.getElem?_eq_getElem hi]; rfl
    rw [this]
    simp

theorem law_ViewPut (l : List Int) (hbn : Bnd (.list (.int .u8)) l) : laws_FnViewPut 10000000000000 (l, ()) = some (true, ()) := by
  have hb := byt_of hbn
  obtain ⟨r, hr, ht, ha1, ha2⟩ := draw_viewof 10000000000000 (by omega) l hb
  obtain ⟨t, a, u⟩ := r
  have ht : Small 244 t := ht
  have hsz := ht.sz (by omega)
  have ha : PathsSz a := paths_sz ha1 ha2
  have hal : a.length ≤ 4 := ha1
  have hvsz : TreeSz (viewV a t) := by
    unfold viewV
    cases (treeB t && viewB a) with
    | false => exact ⟨by simp, fun f hf => (by cases hf), fun f hf => (by cases hf)⟩
    | true => exact hsz.filter _
  have hself := smTree_self 10000000000000 (by omega) (viewV a t) hvsz
  show laws_FnViewPut.start 10000000000000 (laws_FnViewPut.tab 10000000000000 10000000000000) l = _
  unfold laws_FnViewPut.start
  by_cases g1 : lLen l > 1048576
  · rw [decide_eq_true g1]; rfl
  rw [decide_eq_false g1, hr]
  simp only [cond, Option.bind_some]
  rw [impl_viewof_v 10000000000000 (by omega) t hsz a ha, spec_viewof_v 10000000000000 (by omega) t hsz (fun _ => copy_v 10000000000000 (by omega) ht (by omega)) a ha]
  simp only [Option.bind_some, uppedF]
  rw [hself, impl_tree_v 10000000000000 t hsz (by omega)]
  simp only [Option.bind_some, Bool.not_true]
  cases hok : treeB t with
  | false => rfl
  | true =>
    simp only [Bool.not_true]
    have hput : ∃ x ok, impl_ViewPut 10000000000000 (t, a, viewV a t, ()) = some (x, ok, ()) ∧ (a.all pathB = true → ok = true ∧ x = t ∧ TreeSz t ∧ TreeSz (viewV a t) ∧ treeB (viewV a t) = true ∧ viewV a (viewV a t) = viewV a t) := by
      cases hv : viewB a with
      | true =>
        have e : viewV a t = t.filter fun f => visB a f.1 := by unfold viewV; rw [hok, hv]; rfl
        have hf := treeB_filter hok (fun f => visB a f.1)
        refine ⟨t, true, ?_, fun _ => ⟨rfl, rfl, hsz, hvsz, by rw [e]; exact hf, ?_⟩⟩
        · rw [e]
          refine viewput_ok 10000000000000 (by omega) t hsz hok a ha hv _ (hsz.filter _) hf (fun f hf' => (List.mem_filter.1 hf').2) t hsz hok ?_
          have := List.filter_append_perm (fun f : Fil => !visB a f.1) t
          simp only [Bool.not_not] at this
          exact this.symm
        · rw [e]
          unfold viewV
          rw [hf, hv]
          show (t.filter fun f => visB a f.1).filter (fun f => visB a f.1) = _
          rw [List.filter_filter]
          simp
      | false =>
        refine ⟨[], false, ?_, fun h => ?_⟩
        · show impl_ViewPut.start 10000000000000 _ t a (viewV a t) = _
          unfold impl_ViewPut.start
          rw [impl_tree_v 10000000000000 t hsz (by omega), impl_paths_v 10000000000000 a ha (by omega), hok, hv]
          rfl
        · exfalso
          unfold viewB at hv
          rw [h, decide_eq_true hal] at hv
          cases hv
    obtain ⟨x, ok, p1, p2⟩ := hput
    rw [p1]
    simp only [Option.bind_some]
    have h := all_loop 10000000000000 (by omega) t a ha (viewV a t) x ok p2 a.length (10000000000000 - (a.length + 1)) 0 true (by omega) rfl
    rw [show 10000000000000 - (a.length + 1) + a.length + 1 = 10000000000000 by omega] at h
    exact h
end Go.Sx.Tryd
