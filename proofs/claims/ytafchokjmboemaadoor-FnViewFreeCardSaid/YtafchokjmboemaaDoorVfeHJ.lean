/- A part of the pure law of FnViewFree, over the printed functions: what they answer. No condition but those of each theorem. -/
import Derived.Test.YtafchokjmboemaaDoorVfeHI
namespace Go.Sx.Tryd
open Go Go.Proofs Go.Sx
set_option linter.unusedVariables false
set_option linter.unusedSimpArgs false

theorem smTexts_loop (m : Nat) (x : List ByteArray × Nat) (hx : x.2 < 100000000) : ∀ (d k i : Nat), i + d = x.2 → (laws_smTexts.tab m (k + d + 1)).1 (x, x, (i : Int), ()) = some (true, ())
  | 0, k, i, h => by
    show laws_smTexts.b0 m (laws_smTexts.tab m k) x x (i : Int) = _
    unfold laws_smTexts.b0
    rw [decide_eq_false (show ¬ (i : Int) < (x.2 : Int) by omega)]
    rfl
  | d + 1, k, i, h => by
    show laws_smTexts.b0 m (laws_smTexts.tab m (k + d + 1)) x x (i : Int) = _
    unfold laws_smTexts.b0
    rw [decide_eq_true (show (i : Int) < (x.2 : Int) by omega), decide_eq_true (show (0 : Int) ≤ (i : Int) by omega), sEq_self, w64_succ (by omega)]
    exact smTexts_loop m x hx d k (i + 1) (by omega)

theorem smTexts_self (m : Nat) (hm : 1000000000 ≤ m) (x : List ByteArray × Nat) (hx : x.2 < 100000000) : laws_smTexts m (x, x, ()) = some (true, ()) := by
  have h := smTexts_loop m x hx x.2 (m - (x.2 + 1)) 0 (by omega)
  rw [show m - (x.2 + 1) + x.2 + 1 = m by omega] at h
  show laws_smTexts.start m (laws_smTexts.tab m m) x x = _
  unfold laws_smTexts.start
  rw [show ((x.2 : Int) != (x.2 : Int)) = false by simp]
  exact h

abbrev UTree := List (ByteArray × (List ByteArray × Nat))
abbrev uz : ByteArray × (List ByteArray × Nat) := (ByteArray.empty, ([] : List ByteArray), (0 : Nat))
def upF (f : Fil) : ByteArray × (List ByteArray × Nat) := (f.1, f.2, f.2.length)
theorem uppedF (t : Tree) : List.map (fun z => (z.1, z.2, List.length z.2)) t = t.map upF := rfl

theorem smTree_loop (m : Nat) (hm : 1000000000 ≤ m) (t : Tree) (ht : TreeSz t) : ∀ (d k i : Nat), i + d = t.length → (laws_smTree.tab m (k + d + 1)).1 ((t.map upF, t.length), (t.map upF, t.length), (i : Int), ()) = some (true, ())
  | 0, k, i, h => by
    show laws_smTree.b0 m (laws_smTree.tab m k) (t.map upF, t.length) (t.map upF, t.length) (i : Int) = _
    unfold laws_smTree.b0
    rw [decide_eq_false (show ¬ (i : Int) < ((t.length : Nat) : Int) by omega)]
    rfl
  | d + 1, k, i, h => by
    have hl := ht.len
    have hi : i < t.length := by omega
    have hx := (ht.at hi).2.1
    have e : getL (t.map upF) (i : Int) uz = upF (t.getD i fz) := by
      show (t.map upF).getD i uz = _
      rw [List.getD_eq_getElem?_getD, List.getD_eq_getElem?_getD, List.getElem?_map, List.getElem?_eq_getElem hi]; rfl
    show laws_smTree.b0 m (laws_smTree.tab m (k + d + 1)) (t.map upF, t.length) (t.map upF, t.length) (i : Int) = _
    unfold laws_smTree.b0
    rw [decide_eq_true (show (i : Int) < ((t.length : Nat) : Int) by omega), decide_eq_true (show (0 : Int) ≤ (i : Int) by omega), w64_succ (by omega)]
    simp only [cond, lett]
    rw [show (ByteArray.empty, ([] : List ByteArray), (0 : Nat)) = uz from rfl, e, sEq_self, smTexts_self m hm (upF (t.getD i fz)).2 (by show (t.getD i fz).2.length < _; omega)]
    simp only [Bool.not_true, cond, Option.bind_some]
    exact smTree_loop m hm t ht d k (i + 1) (by omega)

theorem smTree_self (m : Nat) (hm : 1000000000 ≤ m) (t : Tree) (ht : TreeSz t) : laws_smTree m ((t.map upF, t.length), (t.map upF, t.length), ()) = some (true, ()) := by
  have hl := ht.len
  have h := smTree_loop m hm t ht t.length (m - (t.length + 1)) 0 (by omega)
  rw [show m - (t.length + 1) + t.length + 1 = m by omega] at h
  show laws_smTree.start m (laws_smTree.tab m m) (t.map upF, t.length) (t.map upF, t.length) = _
  unfold laws_smTree.start
  rw [show (((t.length : Nat) : Int) != ((t.length : Nat) : Int)) = false by simp]
  exact h

/-! ### Drawn paths -/
theorem paths_loop (m : Nat) : ∀ (d k : Nat) (l : List Int) (p c : Int) (xs : List ByteArray), Rd l p c → c + 2 * d + 2 < 1000000 → xs.length + d ≤ 3 → (∀ s ∈ xs, s.size ≤ 3) →
    Ok ((spec_l30Paths.tab m (k + d + 1)).1 (l, p, xs, (d : Int), ())) (fun r => Rd r.1 r.2.1 (c + 2 * d + 2) ∧ r.2.2.1.length ≤ 4 ∧ ∀ s ∈ r.2.2.1, s.size ≤ 3)
  | 0, k, l, p, c, xs, h, hc, hx, hs => by
    show Ok (spec_l30Paths.b0 m (spec_l30Paths.tab m k) l p xs 0) _
    unfold spec_l30Paths.b0
    refine ok_if (fun h => absurd h (by decide)) (fun _ => ok_bind (pick_k m 14 h (by omega) (by omega) (by omega)) (fun r2 h2 => ok_cond (fun _ => ?_) (fun _ => ok_some ⟨h2.1.mono (by omega), by show xs.length ≤ 4; omega, hs⟩)))
    refine ok_bind (of_k m _ h2.1 (by omega) (by decide) (by decide)) (fun r3 h3 => ok_chk (by show xs.length + 1 ≤ 1073741824; omega) (ok_some ⟨h3.1.mono (by omega), by show (xs ++ _).length ≤ 4; simp; omega, ?_⟩))
    intro s hs2
    have hs2 : s ∈ xs ++ [r3.2.2.1] := hs2
    rcases List.mem_append.1 hs2 with e | e
    · exact hs s e
    · rw [List.mem_singleton.1 e]
      have := h3.2
      simp only [List.mem_cons, List.not_mem_nil, or_false] at this
      rcases this with e | e <;> rw [e] <;> decide
  | d + 1, k, l, p, c, xs, h, hc, hx, hs => by
    show Ok (spec_l30Paths.b0 m (spec_l30Paths.tab m (k + d + 1)) l p xs ((d + 1 : Nat) : Int)) _
    unfold spec_l30Paths.b0
    refine ok_chk (by omega) ?_
    refine ok_bind (of_k m _ h (by omega) (by decide) (by decide)) (fun r hr => ?_)
    refine ok_chk (by show xs.length + 1 ≤ 1073741824; omega) ?_
    rw [show w64 (((d + 1 : Nat) : Int) - 1) = (d : Int) from by rw [show (((d + 1 : Nat) : Int) - 1) = (d : Int) by omega]; exact w64_ok (by omega) (by omega)]
    refine (paths_loop m d k _ _ _ _ hr.1 (by omega) ?_ ?_).mono (fun y hy => ⟨hy.1.mono (by omega), hy.2⟩)
    · show (xs ++ _).length + d ≤ 3
      simp; omega
    · intro s hs2
      have hs2 : s ∈ xs ++ [r.2.2.1] := hs2
      rcases List.mem_append.1 hs2 with e | e
      · exact hs s e
      · rw [List.mem_singleton.1 e]
        have := hr.2
        simp only [List.mem_cons, List.not_mem_nil, or_false] at this
        rcases this with e | e | e | e | e | e <;> rw [e] <;> decide

theorem paths_k (m : Nat) (hm : 9 ≤ m) {l : List Int} {p c : Int} (h : Rd l p c) (hc : c < 100000) :
    Ok (spec_l30Paths m (l, p, ())) (fun r => Rd r.1 r.2.1 (c + 9) ∧ r.2.2.1.length ≤ 4 ∧ ∀ s ∈ r.2.2.1, s.size ≤ 3) := by
  show Ok (spec_l30Paths.start m (spec_l30Paths.tab m m) l p) _
  unfold spec_l30Paths.start
  refine ok_bind (pick_k m 4 h (by omega) (by decide) (by decide)) (fun r hr => ?_)
  have key : ∀ z : Int, 0 ≤ z → z < 4 → ∃ d : Nat, z = d ∧ d ≤ 3 := fun z h0 h1 => ⟨z.toNat, by omega, by omega⟩
  obtain ⟨d, e, hd⟩ := key r.2.2.1 hr.2.1 hr.2.2
  have := paths_loop m d (m - (d + 1)) _ _ _ [] hr.1 (by omega) (by simp; omega) (fun s hs => by cases hs)
  rw [show m - (d + 1) + d + 1 = m by omega] at this
  rw [e]
  exact this.mono (fun y hy => ⟨hy.1.mono (by omega), hy.2⟩)
theorem paths_sz {a : List ByteArray} (h1 : a.length ≤ 4) (h2 : ∀ s ∈ a, s.size ≤ 3) : PathsSz a := ⟨by omega, fun s hs => by have := h2 s hs; omega⟩
end Go.Sx.Tryd
