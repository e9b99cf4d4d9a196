/- A part of the pure law of FnTreeRead, over the printed functions: what they answer. No condition but those of each theorem. -/
import Derived.Test.YtpchbfkiingmjaaDoorTtrHH
namespace Go.Sx.Tryd
open Go Go.Proofs Go.Sx
set_option linter.unusedVariables false
set_option linter.unusedSimpArgs false

theorem splS_sum : ∀ (l cur p : List UInt8), p ∈ splAS cur l → p.length + (splAS cur l).length ≤ cur.length + l.length + 1
  | [], cur, p, h => by simp [splAS] at h; subst h; simp [splAS]
  | b :: l, cur, p, h => by
    unfold splAS at h ⊢
    have hc := splA_countS l []
    have hcl : l.count 32 ≤ l.length := List.count_le_length
    split at h
    · rename_i hb
      rw [if_pos hb]
      rcases List.mem_cons.1 h with rfl | h
      · simp only [List.length_cons]; omega
      · have := splS_sum l [] p h; simp only [List.length_cons, List.length_nil] at this ⊢; omega
    · rename_i hb
      rw [if_neg hb]
      have := splS_sum l _ p h; simp only [List.length_append, List.length_cons, List.length_nil] at this ⊢; omega

/-- a file of which not much is known -/
def Bd (f : ByteArray × List ByteArray) : Prop := f.1.size < 1000000 ∧ f.2.length ≤ 1000000 ∧ ∀ x ∈ f.2, x.size ≤ 1000000
theorem bd_sz {t : Tree} (hl : t.length ≤ 1000000) (h : ∀ f ∈ t, Bd f) : TreeSz t :=
  ⟨by omega, fun f hf => (h f hf).1, fun f hf => ⟨by have := (h f hf).2.1; omega, fun x hx => by have := (h f hf).2.2 x hx; omega⟩⟩

theorem lines_total (m : Nat) (hm : 10000000 ≤ m) (s : ByteArray) (hs : s.size ≤ 1000000) : ∃ ls : List ByteArray, impl_linesOf m (s, ()) = some (ls, ()) ∧ ls.length ≤ 1000000 ∧ ∀ x ∈ ls, x.size ≤ 1000000 := by
  obtain ⟨r, r1, r2⟩ := split_vL m hm s (by omega)
  have hl := bL_len s
  have hlen : r.length = (bL s).count 10 + 1 := by rw [← List.length_map (f := bL), r2, splA_countL]
  have hcl : (bL s).count 10 ≤ (bL s).length := List.count_le_length
  refine ⟨r.take (r.length - 1), ?_, by simp; omega, fun x hx => ?_⟩
  · show impl_linesOf.start m _ s = _
    unfold impl_linesOf.start
    rw [r1]
    simp only [Option.bind_some]
    rw [show w64 (lLen r - 1) = ((r.length - 1 : Nat) : Int) from by
      rw [show lLen r - 1 = ((r.length - 1 : Nat) : Int) by simp only [lLen]; omega]
      exact w64_ok (by omega) (by omega)]
    rw [decide_eq_true (show (0 : Int) ≤ ((r.length - 1 : Nat) : Int) by omega), decide_eq_true (show ((r.length - 1 : Nat) : Int) ≤ (r.length : Int) by omega)]
    simp only [cond, lett, Int.toNat_natCast]
    rfl
  · have hx' : bL x ∈ r.map bL := List.mem_map_of_mem (List.mem_of_mem_take hx)
    rw [r2] at hx'
    have := splA_sizeL _ _ _ hx'
    rw [← bL_len x]
    simp only [List.length_nil] at this
    omega

theorem read_exit (m K : Nat) (acc : Tree) (ls : List ByteArray) : (impl_readFiles.tab m (K + 1)).2.1 (acc, ls, ()) = some (acc, ls, ()) := rfl

theorem read_total_loop (m : Nat) (hm : 10000000 ≤ m) : ∀ (n k : Nat) (ls : List ByteArray) (acc : Tree), ls.length ≤ n → (∀ x ∈ ls, x.size ≤ 1000000) → acc.length + n ≤ 1000001 →
    ∃ (t : Tree) (rest : List ByteArray), (impl_readFiles.tab m (k + n + 2)).1 (acc, ls, ()) = some (acc ++ t, rest, ()) ∧ t.length ≤ n ∧ ∀ f ∈ t, Bd f
  | 0, k, ls, acc, h, hx, ha => by
    obtain rfl : ls = [] := List.eq_nil_of_length_eq_zero (by omega)
    refine ⟨[], [], ?_, Nat.le_refl _, fun f hf => by cases hf⟩
    show impl_readFiles.b0 m (impl_readFiles.tab m (k + 1)) acc [] = _
    unfold impl_readFiles.b0
    rw [decide_eq_false (show ¬ lLen ([] : List ByteArray) > 0 by simp [lLen]), List.append_nil]
    rfl
  | n + 1, k, ls, acc, h, hx, ha => by
    have hexit : ∀ l, (impl_readFiles.tab m (k + n + 2)).2.1 (acc, l, ()) = some (acc ++ ([] : Tree), l, ()) := fun l => by rw [List.append_nil]; rfl
    show ∃ (t : Tree) (rest : List ByteArray), impl_readFiles.b0 m (impl_readFiles.tab m (k + n + 2)) acc ls = _ ∧ _
    cases ls with
    | nil =>
      refine ⟨[], [], ?_, by simp, fun f hf => by cases hf⟩
      unfold impl_readFiles.b0
      rw [decide_eq_false (show ¬ lLen ([] : List ByteArray) > 0 by simp [lLen])]
      exact hexit []
    | cons l0 lr =>
      have hl0 := hx l0 (by simp)
      simp only [List.length_cons] at h
      obtain ⟨r, r1, r2⟩ := split_vS m hm l0 (by omega)
      have hL : lLen (l0 :: lr) = ((lr.length + 1 : Nat) : Int) := by simp [lLen]
      unfold impl_readFiles.b0
      rw [hL, decide_eq_true (show ((lr.length + 1 : Nat) : Int) > 0 by omega), decide_eq_true (show (0 : Int) ≤ 0 by omega),
        show getL (l0 :: lr) (0 : Int) ByteArray.empty = l0 from rfl, r1]
      simp only [cond, Option.bind_some]
      by_cases hr : r.length = 3
      · obtain ⟨w0, w1, w2, rfl⟩ : ∃ a b c, r = [a, b, c] := by
          match r, hr with
          | [a, b, c], _ => exact ⟨a, b, c, rfl⟩
        rw [show (lLen [w0, w1, w2] != 3) = false from rfl, decide_eq_true (show (0 : Int) < lLen [w0, w1, w2] by simp [lLen]), show getL [w0, w1, w2] (0 : Int) ByteArray.empty = w0 from rfl, decide_eq_true (show (0 : Int) ≤ 2 by omega),
          decide_eq_true (show (2 : Int) < lLen [w0, w1, w2] by simp [lLen]), show getL [w0, w1, w2] (2 : Int) ByteArray.empty = w2 from rfl, show strconv_Atoi m (w2, ()) = some ((atoiV w2).1, (atoiV w2).2, ()) from rfl]
        simp only [lett, Option.bind_some]
        have hw1 : w1.size < 1000000 := by
          have h1 : bL w1 ∈ splAS [] (bL l0) := by rw [← r2]; simp
          have h2 := splS_sum _ _ _ h1
          have h3 : (splAS [] (bL l0)).length = 3 := by rw [← r2]; rfl
          have h4 := bL_len l0
          rw [← bL_len w1]
          simp only [List.length_nil] at h2
          omega
        cases hq : sEq w0 s_66696c65 with
        | false => exact ⟨[], _, hexit _, by simp, fun f hf => by cases hf⟩
        | true =>
          simp only [Bool.not_true]
          generalize atoiV w2 = av
          obtain ⟨v, e⟩ := av
          cases e with
          | true => exact ⟨[], _, hexit _, by simp, fun f hf => by cases hf⟩
          | false =>
            simp only
            rw [within_v, show w64 (((lr.length + 1 : Nat) : Int) - 1) = ((lr.length : Nat) : Int) from by rw [show ((lr.length + 1 : Nat) : Int) - 1 = ((lr.length : Nat) : Int) by omega]; exact w64_ok (by omega) (by omega)]
            simp only [Option.bind_some]
            by_cases hv : v ≥ 0 ∧ v ≤ ((lr.length : Nat) : Int)
            · obtain ⟨n0, rfl⟩ : ∃ n0 : Nat, v = n0 := ⟨v.toNat, by omega⟩
              have hn0 : n0 ≤ lr.length := by omega
              have c1 : cutL (l0 :: lr) 1 (n0 + 1) = lr.take n0 := by simp only [cutL, List.take_succ_cons, List.drop_succ_cons, List.drop_zero]
              have c2 : cutL (l0 :: lr) (n0 + 1) (l0 :: lr).length = lr.drop n0 := by simp only [cutL, List.take_length, List.drop_succ_cons]
              have e1 : List.length (lr.take n0) = n0 := by rw [List.length_take]; omega
              obtain ⟨t, rest, h1, h2, h3⟩ := read_total_loop m hm n k (lr.drop n0) (acc ++ [(w1, lr.take n0)]) (by rw [List.length_drop]; omega) (fun x hx' => hx x (by simp [List.mem_of_mem_drop hx'])) (by simp; omega)
              refine ⟨(w1, lr.take n0) :: t, rest, ?_, by simp; omega, fun f hf => ?_⟩
              · rw [decide_eq_true hv.1, decide_eq_true hv.2, w64_succ (by omega), decide_eq_true (show (0 : Int) ≤ 1 by omega), decide_eq_true (show (1 : Int) < lLen [w0, w1, w2] by simp [lLen]), decide_eq_true (show (0 : Int) ≤ ((n0 + 1 : Nat) : Int) by omega),
                  decide_eq_true (show ((n0 + 1 : Nat) : Int) ≤ ((l0 :: lr).length : Int) by simp only [List.length_cons]; omega), decide_eq_true (show (1 : Int) ≤ ((n0 + 1 : Nat) : Int) by omega)]
                simp only [Bool.and_self, Bool.not_true, Int.toNat_natCast]
                rw [show Int.toNat (1 : Int) = 1 from rfl]
                rw [decide_eq_true (show List.length ([] : List ByteArray) + List.length (cutL (l0 :: lr) 1 (n0 + 1)) ≤ apCap by rw [c1, e1]; show 0 + n0 ≤ 1073741824; omega)]
                simp only
                rw [decide_eq_true (show List.length acc + List.length ([(getL [w0, w1, w2] (1 : Int) ByteArray.empty, List.append ([] : List ByteArray) (cutL (l0 :: lr) 1 (n0 + 1)))] : List (ByteArray × List ByteArray)) ≤ apCap by show acc.length + 1 ≤ 1073741824; omega)]
                simp only
                rw [c1, c2, show getL [w0, w1, w2] (1 : Int) ByteArray.empty = w1 from rfl, show List.append ([] : List ByteArray) (lr.take n0) = lr.take n0 from rfl]
                have e : acc ++ ((w1, lr.take n0) :: t) = (acc ++ [(w1, lr.take n0)]) ++ t := by simp
                rw [e]
                exact h1
              · rcases List.mem_cons.1 hf with rfl | hf
                · exact ⟨hw1, by show (lr.take n0).length ≤ _; omega, fun x hx' => hx x (by simp [List.mem_of_mem_take hx'])⟩
                · exact h3 f hf
            · have hv2 : (decide (v ≥ 0) && decide (v ≤ ((lr.length : Nat) : Int))) = false := by
                rw [← Bool.decide_and]; exact decide_eq_false hv
              rw [hv2]
              exact ⟨[], _, hexit _, by simp, fun f hf => by cases hf⟩
      · rw [show (lLen r != 3) = true from by simp only [lLen]; rw [bne_iff_ne]; omega]
        exact ⟨[], _, hexit _, by simp, fun f hf => by cases hf⟩

theorem read_total (m : Nat) (hm : 10000000 ≤ m) (ls : List ByteArray) (hl : ls.length ≤ 1000000) (hx : ∀ x ∈ ls, x.size ≤ 1000000) :
    ∃ (t : Tree) (rest : List ByteArray), impl_readFiles m (ls, ()) = some (t, rest, ()) ∧ t.length ≤ 1000000 ∧ ∀ f ∈ t, Bd f := by
  obtain ⟨t, rest, h1, h2, h3⟩ := read_total_loop m hm ls.length (m - (ls.length + 2)) ls [] (Nat.le_refl _) hx (by simp; omega)
  rw [show m - (ls.length + 2) + ls.length + 2 = m by omega] at h1
  refine ⟨t, rest, ?_, by omega, h3⟩
  exact h1
end Go.Sx.Tryd
