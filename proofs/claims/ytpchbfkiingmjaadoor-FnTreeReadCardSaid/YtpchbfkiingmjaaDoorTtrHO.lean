/- A part of the pure law of FnTreeRead, over the printed functions: what they answer. No condition but those of each theorem. -/
import Derived.Test.YtpchbfkiingmjaaDoorTtrHN
import Derived.Test.YtpchbfkiingmjaaDoorTtrHD
namespace Go.Sx.Tryd
open Go Go.Proofs Go.Sx
set_option linter.unusedVariables false
set_option linter.unusedSimpArgs false

/-- a file as it is drawn: all is short -/
def FileS (f : ByteArray × List ByteArray) : Prop := f.1.size ≤ 20 ∧ f.2.length ≤ 20 ∧ ∀ s ∈ f.2, s.size ≤ 20
def Small (n : Nat) (t : Tree) : Prop := t.length ≤ n ∧ ∀ f ∈ t, FileS f

theorem Small.mono {n n' : Nat} {t : Tree} (h : Small n t) (hn : n ≤ n') : Small n' t := ⟨Nat.le_trans h.1 hn, h.2⟩
theorem Small.sz {n : Nat} {t : Tree} (h : Small n t) (hn : n ≤ 1000) : TreeSz t :=
  ⟨by have := h.1; omega, fun f hf => by have := (h.2 f hf).1; omega, fun f hf => ⟨by have := (h.2 f hf).2.1; omega, fun s hs => by have := (h.2 f hf).2.2 s hs; omega⟩⟩
theorem Small.at {n : Nat} {t : Tree} (h : Small n t) {i : Nat} (hi : i < t.length) : FileS (t.getD i fz) := by
  rw [List.getD_eq_getElem?_getD, List.getElem?_eq_getElem hi]
  exact h.2 _ (List.getElem_mem hi)
theorem Small.snoc {n : Nat} {t : Tree} (h : Small n t) {f : ByteArray × List ByteArray} (hf : FileS f) : Small (n + 1) (t ++ [f]) :=
  ⟨by have := h.1; simp; omega, fun g hg => by
    rcases List.mem_append.1 hg with h1 | h1
    · exact h.2 g h1
    · simp at h1; rw [h1]; exact hf⟩

theorem copy_loop (m : Nat) (n : Nat) (t : Tree) (ht : Small n t) (hn : n ≤ 1000) : ∀ (d k i : Nat), i + d = t.length → (spec_l4Copy.tab m (k + d + 1)).1 (t.take i, t, (i : Int), ()) = some (t, ())
  | 0, k, i, h => by
    show spec_l4Copy.b0 m (spec_l4Copy.tab m k) (t.take i) t (i : Int) = _
    unfold spec_l4Copy.b0
    rw [decide_eq_false (show ¬ (i : Int) < lLen t by simp only [lLen]; omega), List.take_of_length_le (by omega)]
    rfl
  | d + 1, k, i, h => by
    have hl := ht.1
    have hf := ht.at (i := i) (by omega)
    have ih := copy_loop m n t ht hn d k (i + 1) (by omega)
    show spec_l4Copy.b0 m (spec_l4Copy.tab m (k + d + 1)) (t.take i) t (i : Int) = _
    unfold spec_l4Copy.b0
    rw [decide_eq_true (show (i : Int) < lLen t by simp only [lLen]; omega), decide_eq_true (show (0 : Int) ≤ (i : Int) by omega), w64_succ (by omega)]
    simp only [cond, lett]
    rw [show getL t (i : Int) (ByteArray.empty, ([] : List ByteArray)) = t.getD i fz from rfl]
    rw [decide_eq_true (show List.length ([] : List ByteArray) + List.length (t.getD i fz).2 ≤ apCap by show 0 + (t.getD i fz).2.length ≤ 1073741824; have := hf.2.1; omega),
      decide_eq_true (show List.length (t.take i) + List.length ([((t.getD i fz).1, (List.append ([] : List ByteArray) (t.getD i fz).2))] : List (ByteArray × List ByteArray)) ≤ apCap by show (t.take i).length + 1 ≤ 1073741824; rw [List.length_take]; omega)]
    rw [show List.append (t.take i) [((t.getD i fz).1, List.append ([] : List ByteArray) (t.getD i fz).2)] = t.take (i + 1) from by
      rw [List.take_add_one, List.getElem?_eq_getElem (show i < t.length by omega)]
      have : t.getD i fz = t[i] := by rw [List.getD_eq_getElem?_getD, List.getElem?_eq_getElem (show i < t.length by omega)]; rfl
      rw [this]
      rfl]
    exact ih

theorem copy_v (m : Nat) (hm : 10000 ≤ m) {n : Nat} {t : Tree} (ht : Small n t) (hn : n ≤ 1000) : spec_l4Copy m (t, ()) = some (t, ()) := by
  have hl := ht.1
  have h := copy_loop m n t ht hn t.length (m - (t.length + 1)) 0 (by omega)
  rw [show m - (t.length + 1) + t.length + 1 = m by omega] at h
  exact h

theorem set_loop (m : Nat) (n : Nat) (t : Tree) (ht : Small n t) (hn : n ≤ 400) (p : ByteArray) (x : List ByteArray) (hp : FileS (p, x)) : ∀ (d k i : Nat) (out : Tree) (put : Bool), i + d = t.length → Small (2 * i) out →
    Ok ((spec_l4Set.tab m (k + 3 * d + 1)).1 (p, x, out, t, put, (i : Int), ())) (fun r => Small (2 * t.length + 1) r.1)
  | 0, k, i, out, put, h, ho => by
    have hl := ht.1
    have ho1 := ho.1
    have hx : x.length ≤ 20 := hp.2.1
    show Ok (spec_l4Set.b0 m (spec_l4Set.tab m k) p x out t put (i : Int)) _
    unfold spec_l4Set.b0
    refine ok_if (fun hlt => absurd hlt (by simp only [lLen]; omega)) (fun _ => ok_cond (fun _ => ?_) (fun _ => ok_some (ho.mono (by omega))))
    refine ok_chk (by show 0 + x.length ≤ 1073741824; omega) (ok_chk (by show out.length + 1 ≤ 1073741824; omega) (ok_lett fun v hv => ok_some ?_))
    rw [hv]
    exact (ho.snoc hp).mono (by omega)
  | d + 1, k, i, out, put, h, ho => by
    have hl := ht.1
    have ho1 := ho.1
    have hx : x.length ≤ 20 := hp.2.1
    have hi : (i : Int) < lLen t := by simp only [lLen]; omega
    have h0 : (0 : Int) ≤ (i : Int) := by omega
    have hf := ht.at (i := i) (by omega)
    have g2 : ∀ (out : Tree) (put : Bool), Small (2 * i + 1) out → Ok ((spec_l4Set.tab m (k + 3 * d + 1 + 1)).2.2.1 (p, x, out, t, put, (i : Int), ())) (fun r => Small (2 * t.length + 1) r.1) := by
      intro out put ho
      have ho1 := ho.1
      show Ok (spec_l4Set.b2 m (spec_l4Set.tab m (k + 3 * d + 1)) p x out t put (i : Int)) _
      unfold spec_l4Set.b2
      rw [w64_succ (by omega)]
      refine ok_chk h0 (ok_chk hi (ok_lett fun v hv => ok_cond (fun _ => ok_chk h0 (ok_chk hi (ok_lett fun v2 hv2 => ok_chk (by show out.length + 1 ≤ 1073741824; omega) (ok_lett fun v3 hv3 => ?_)))) (fun _ => ?_)))
      · refine set_loop m n t ht hn p x hp d k (i + 1) v3 put (by omega) ?_
        rw [hv3, hv2]
        exact (ho.snoc hf).mono (by omega)
      · exact set_loop m n t ht hn p x hp d k (i + 1) out put (by omega) (ho.mono (by omega))
    have g1 : ∀ b, Ok ((spec_l4Set.tab m (k + 3 * d + 1 + 1 + 1)).2.1 (p, x, out, t, put, (i : Int), b, ())) (fun r => Small (2 * t.length + 1) r.1) := by
      intro b
      show Ok (spec_l4Set.b1 m (spec_l4Set.tab m (k + 3 * d + 1 + 1)) p x out t put (i : Int) b) _
      unfold spec_l4Set.b1
      refine ok_cond (fun _ => ok_chk (by show 0 + x.length ≤ 1073741824; omega) (ok_chk (by show out.length + 1 ≤ 1073741824; omega) (ok_lett fun v hv => g2 _ _ ?_))) (fun _ => g2 _ _ (ho.mono (by omega)))
      rw [hv]
      exact ho.snoc hp
    rw [show k + 3 * (d + 1) + 1 = k + 3 * d + 1 + 1 + 1 + 1 by omega]
    show Ok (spec_l4Set.b0 m (spec_l4Set.tab m (k + 3 * d + 1 + 1 + 1)) p x out t put (i : Int)) _
    unfold spec_l4Set.b0
    exact ok_chk hi (ok_cond (fun _ => ok_chk h0 (ok_chk hi (ok_lett fun v hv => g1 _))) (fun _ => g1 _))

theorem set_t (m : Nat) (hm : 10000 ≤ m) {n : Nat} {t : Tree} (ht : Small n t) (hn : n ≤ 400) {p : ByteArray} {x : List ByteArray} (hp : FileS (p, x)) : Ok (spec_l4Set m (t, p, x, ())) (fun r => Small (2 * n + 1) r.1) := by
  have hl := ht.1
  have h := set_loop m n t ht hn p x hp t.length (m - (3 * t.length + 1)) 0 [] false (by omega) ⟨by simp, by simp⟩
  rw [show m - (3 * t.length + 1) + 3 * t.length + 1 = m by omega] at h
  exact h.mono fun r hr => hr.mono (by omega)

theorem treeSet_t (m : Nat) (hm : 10000000000000 ≤ m) {n : Nat} {t : Tree} (ht : Small n t) (hn : n ≤ 400) {p : ByteArray} {x : List ByteArray} (hp : FileS (p, x)) : Ok (spec_TreeSet m (t, p, x, ())) (fun r => Small (2 * n + 1) r.1) := by
  show Ok (spec_TreeSet.start m _ t p x) _
  unfold spec_TreeSet.start
  refine ok_bind (ok_eq (P := fun _ => True) (spec_tree_v m t (ht.sz (by omega)) hm) trivial) (fun r1 _ => ok_cond (fun _ => ok_some ⟨by simp, by simp⟩) (fun _ => ?_))
  refine ok_bind (ok_eq (P := fun r => r.1 = t) (copy_v m (by omega) ht (by omega)) rfl) (fun r2 h2 => ?_)
  rw [h2]
  refine ok_bind (set_t m (by omega) ht hn hp) (fun r3 h3 => ?_)
  refine ok_bind (ok_eq (P := fun _ => True) (spec_tree_v m r3.1 (h3.sz (by omega)) hm) trivial) (fun r4 _ => ok_cond (fun _ => ?_) (fun _ => ok_some h3))
  exact ok_bind (ok_eq (P := fun r => r.1 = t) (copy_v m (by omega) ht (by omega)) rfl) (fun r5 h5 => ok_some (by rw [h5]; exact ht.mono (by omega)))

theorem tree_loop (m : Nat) (hm : 10000000000000 ≤ m) : ∀ (d k : Nat) (l : List Int) (p c : Int) (t : Tree), d ≤ 5 → Rd l p c → c + 10 * d < 100000 → Small (3 ^ (5 - d)) t →
    Ok ((spec_l30Tree.tab m (k + d + 1)).1 (l, p, t, (d : Int), ())) (fun r => Rd r.1 r.2.1 (c + 10 * d) ∧ Small 243 r.2.2.1)
  | 0, k, l, p, c, t, hd, h, hc, ht => by
    show Ok (spec_l30Tree.b0 m (spec_l30Tree.tab m k) l p t 0) _
    unfold spec_l30Tree.b0
    refine ok_if (fun h => absurd h (by decide)) (fun _ => ?_)
    have ht : Small 243 t := ht
    exact ok_bind (ok_eq (P := fun r => r.1 = t) (copy_v m (by omega) ht (by omega)) rfl) (fun r hr => ok_some ⟨h.mono (by omega), by rw [hr]; exact ht⟩)
  | d + 1, k, l, p, c, t, hd, h, hc, ht => by
    have e3 : 3 ^ (5 - d) = 3 ^ (5 - (d + 1)) * 3 := by rw [← Nat.pow_succ]; congr 1; omega
    have h1 : 1 ≤ 3 ^ (5 - (d + 1)) := Nat.pow_pos (by decide)
    have h2 : 3 ^ (5 - (d + 1)) ≤ 3 ^ 4 := Nat.pow_le_pow_right (by decide) (by omega)
    show Ok (spec_l30Tree.b0 m (spec_l30Tree.tab m (k + d + 1)) l p t ((d + 1 : Nat) : Int)) _
    unfold spec_l30Tree.b0
    refine ok_chk (by omega) ?_
    refine ok_bind (path_k m h (by omega)) (fun r1 h3 => ok_bind (text_k m (by omega) h3.1 (by omega)) (fun r2 h4 => ?_))
    refine ok_bind (treeSet_t m hm ht (by omega) (p := r1.2.2.1) (x := r2.2.2.1) ⟨by have := h3.2; show r1.2.2.1.size ≤ 20; omega, by have := h4.2.1; show r2.2.2.1.length ≤ 20; omega, fun s hs => by have := h4.2.2 s hs; omega⟩) (fun r3 h5 => ?_)
    rw [show w64 (((d + 1 : Nat) : Int) - 1) = (d : Int) from by rw [show (((d + 1 : Nat) : Int) - 1) = (d : Int) by omega]; exact w64_ok (by omega) (by omega)]
    exact (tree_loop m hm d k _ _ _ _ (by omega) h4.1 (by omega) (h5.mono (by omega))).mono (fun y hy => ⟨hy.1.mono (by omega), hy.2⟩)

theorem tree_k (m : Nat) (hm : 10000000000000 ≤ m) {l : List Int} {p c : Int} (h : Rd l p c) (hc : c < 10000) : Ok (spec_l30Tree m (l, p, ())) (fun r => Rd r.1 r.2.1 (c + 60) ∧ Small 243 r.2.2.1) := by
  show Ok (spec_l30Tree.start m (spec_l30Tree.tab m m) l p) _
  unfold spec_l30Tree.start
  refine ok_bind (pick_k m 6 h (by omega) (by omega) (by omega)) (fun r hr => ?_)
  obtain ⟨d, hd⟩ := Int.eq_ofNat_of_zero_le hr.2.1
  have hd6 : ((d : Nat) : Int) < 6 := by
    have h6 : (r.2.2.1 : Int) < 6 := hr.2.2
    rw [hd] at h6; exact h6
  rw [hd]
  have := tree_loop m hm d (m - (d + 1)) _ _ _ [] (by omega) hr.1 (by omega) ⟨by simp, by simp⟩
  rw [show m - (d + 1) + d + 1 = m by omega] at this
  exact this.mono (fun y hy => ⟨hy.1.mono (by omega), hy.2⟩)
end Go.Sx.Tryd
