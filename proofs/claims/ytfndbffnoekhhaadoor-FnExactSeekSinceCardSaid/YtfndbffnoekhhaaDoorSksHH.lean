/- A part of the pure law of FnExactSeekSince, over the printed functions: what they answer. No condition but those of each theorem. -/
import Derived.Test.YtfndbffnoekhhaaDoorSksHG
import Derived.Test.YtfndbffnoekhhaaDoorSxD
namespace Go.Sx.Tryd
open Go Go.Proofs Go.Sx
set_option linter.unusedVariables false
set_option linter.unusedSimpArgs false

theorem spec_marks_v (m : Nat) (hm : 10000000000000 ≤ m) (xs : List Com) (hs ks : Heads) (hx : ComsSz xs) (hh : HeadsSz hs) (hk : HeadsSz ks) : spec_MarksOk m (xs, hs, ks, ()) = some (repoB xs hs && headsB ks xs.length, ()) := by
  show spec_MarksOk.start m _ xs hs ks = _
  unfold spec_MarksOk.start
  rw [spec_repo_v m hm xs hs hx hh, spec_l23_v m (by omega) xs hs ks hx hk]
  cases repoB xs hs <;> rfl

theorem impl_marks_v (m : Nat) (hm : 10000000000000 ≤ m) (xs : List Com) (hs ks : Heads) (hx : ComsSz xs) (hh : HeadsSz hs) (hk : HeadsSz ks) : impl_MarksOk m (xs, hs, ks, ()) = some (repoB xs hs && headsB ks xs.length, ()) := by
  show impl_MarksOk.start m _ xs hs ks = _
  unfold impl_MarksOk.start
  rw [impl_repo_v m hm xs hs hx hh, show lLen xs = (xs.length : Int) from rfl, impl_heads_v m (by omega) ks hk _ hx.len]
  cases repoB xs hs <;> rfl

theorem coms_in {xs : List Com} (h : Bnd (.list (.pair (.list (.int .i64)) (.pair (.str) (.list (.pair (.str) (.list (.str))))))) xs) : ComsIn xs := by
  refine ⟨h.1, fun c hc => ?_⟩
  obtain ⟨h1, h2, h3⟩ := h.2 c hc
  exact ⟨h1.1, h2, ⟨h3.1, fun f hf => (h3.2 f hf).1, fun f hf => (h3.2 f hf).2.1, fun f hf => (h3.2 f hf).2.2⟩⟩
theorem heads_in {hs : Heads} (h : Bnd (.list (.pair (.str) (.int .i64))) hs) : HeadsIn hs := ⟨h.1, fun x hx => (h.2 x hx).1⟩

theorem upped_c (xs : List Com) : List.map (fun z : Com => ((z.1, List.length z.1), z.2.1, (List.map (fun z18 => (z18.1, z18.2, (List.length z18.2))) z.2.2), (List.length z.2.2))) xs = xs.map upC := rfl
theorem handed_c {ys : List SCom} {n : Nat} {xs : List Com} (h : (ys.take n).map downC = xs) : List.map (fun z : SCom => ((List.take z.1.2 z.1.1), z.2.1, (List.map (fun z22 => (z22.1, (List.take z22.2.2 z22.2.1))) (List.take z.2.2.2 z.2.2.1)))) (List.take n ys) = xs := h

theorem fnExactMarksOk_true (m : Nat) (hm : 10000000000000 ≤ m) (xs : List Com) (hs ks : Heads) (bx : ComsIn xs) (bh : HeadsIn hs) (bk : HeadsIn ks) : laws_FnExactMarksOk m (xs, hs, ks, ()) = some (true, ()) := by
  show laws_FnExactMarksOk.start m _ xs hs ks = _
  unfold laws_FnExactMarksOk.start
  obtain ⟨v, h1, h2, h3⟩ := sz_repo m (by omega) xs hs bx bh 1000000 (by omega) (by omega)
  rw [upped_c, h1]
  simp only [Option.bind_some]
  by_cases hv : v < 0
  · rw [decide_eq_true hv]; rfl
  rw [decide_eq_false hv]
  obtain ⟨hx, hh⟩ := h3 (by omega)
  obtain ⟨u, g1, g2, g3⟩ := sz_heads m (by omega) ks bk v (by omega) (by omega)
  simp only [cond]
  rw [g1]
  simp only [Option.bind_some]
  by_cases hu : u < 0
  · rw [decide_eq_true hu]
  rw [decide_eq_false hu]
  have hk := g3 (by omega)
  have hkl := hk.len
  simp only [cond]
  obtain ⟨ys, ws, r1, r2, r3, r4⟩ := to_repo m (by omega) xs hs hx hh false
  obtain ⟨ys', ws', r1', r2', r3', r4'⟩ := to_repo m (by omega) xs hs hx hh true
  obtain ⟨zs, t1, t2, t3⟩ := to_heads m (by omega) ks (by omega) false
  obtain ⟨zs', t1', t2', t3'⟩ := to_heads m (by omega) ks (by omega) true
  rw [r1, r1', t1, t1']
  simp only [Option.bind_some]
  rw [handed_c r2, handed_c r2', r3, r3', t2, t2', spec_marks_v m hm xs hs ks hx hh hk, impl_marks_v m hm xs hs ks hx hh hk]
  simp only [Option.bind_some]
  rw [r4 rfl, show laws_intactHeadS m ((zs, ks.length), (zs, ks.length), ()) = some (true, ()) from intact_heads m (by omega) (zs, ks.length) (t3 rfl) (by show ks.length < _; omega)]
  cases (repoB xs hs && headsB ks xs.length) <;> rfl

theorem law_MarksOk (xs : List Com) (hs ks : Heads) (bx : Bnd (.list (.pair (.list (.int .i64)) (.pair (.str) (.list (.pair (.str) (.list (.str))))))) xs) (bh : Bnd (.list (.pair (.str) (.int .i64))) hs) (bk : Bnd (.list (.pair (.str) (.int .i64))) ks) :
    laws_FnExactMarksOk 10000000000000 (xs, hs, ks, ()) = some (true, ()) := fnExactMarksOk_true _ (Nat.le_refl _) xs hs ks (coms_in bx) (heads_in bh) (heads_in bk)
end Go.Sx.Tryd
