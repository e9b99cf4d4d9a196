/- A part of the pure law of FnExactRepoPut, over the printed functions: what they answer. No condition but those of each theorem. -/
import Derived.Test.YtafchokjmboemaaGreatDoorRptHF
namespace Go.Sx.Tryz
open Go Go.Proofs Go.Sx
set_option linter.unusedVariables false
set_option linter.unusedSimpArgs false

def allF (b : Nat → Bool) : Nat → Nat → Bool
  | 0, _ => true
  | d + 1, i => b i && allF b d (i + 1)
theorem allF_iff {b : Nat → Bool} : ∀ {d i : Nat}, allF b d i = true ↔ ∀ j, i ≤ j → j < i + d → b j = true
  | 0, i => ⟨fun _ j h1 h2 => by omega, fun _ => rfl⟩
  | d + 1, i => by
    unfold allF
    rw [Bool.and_eq_true, allF_iff (d := d)]
    constructor
    · rintro ⟨h1, h2⟩ j h3 h4
      rcases Nat.eq_or_lt_of_le h3 with e | e
      · subst e; exact h1
      · exact h2 j e (by omega)
    · intro h
      exact ⟨h i (Nat.le_refl _) (by omega), fun j h1 h2 => h j (by omega) (by omega)⟩
theorem allF_congr {b c : Nat → Bool} : ∀ {d i : Nat}, (∀ j, i ≤ j → j < i + d → b j = c j) → allF b d i = allF c d i
  | 0, _, _ => rfl
  | d + 1, i, h => by
    unfold allF
    rw [h i (Nat.le_refl _) (by omega), allF_congr (d := d) (i := i + 1) (fun j h1 h2 => h j (by omega) (by omega))]

/-- a loop that goes on while all is well -/
theorem walk_gen {R : Type} (n C : Nat) (A : Nat → Nat → Option R) (b : Nat → Bool) (bad : R) (good : Option R)
    (hA : ∀ i, i < n → ∃ c, c ≤ C ∧ ∀ k, A (k + c) i = cond (b i) (A k (i + 1)) (some bad)) (hA' : ∀ k, A (k + 1) n = good) : ∀ (d i : Nat), i + d = n → ∃ c, c ≤ C * d + 1 ∧ ∀ k, A (k + c) i = cond (allF b d i) good (some bad)
  | 0, i, h => by
    obtain rfl : i = n := by omega
    exact ⟨1, by omega, fun k => hA' k⟩
  | d + 1, i, h => by
    obtain ⟨c, h1, h2⟩ := hA i (by omega)
    obtain ⟨e, g1, g2⟩ := walk_gen n C A b bad good hA hA' d (i + 1) (by omega)
    refine ⟨e + c, by rw [Nat.mul_succ]; omega, fun k => ?_⟩
    rw [show k + (e + c) = (k + e) + c by omega, h2, g2]
    show _ = cond (b i && allF b d (i + 1)) good (some bad)
    cases b i <;> cases allF b d (i + 1) <;> rfl

/-- the same, each step with as many places as each other -/
theorem walk_fix {R : Type} (n C : Nat) (A : Nat → Nat → Option R) (b : Nat → Bool) (bad : R) (good : Nat → Option R)
    (hA : ∀ i k, i < n → A (k + C) i = cond (b i) (A k (i + 1)) (some bad)) (hA' : ∀ k, A (k + 1) n = good k) : ∀ (d k i : Nat), i + d = n → A (k + C * d + 1) i = cond (allF b d i) (good k) (some bad)
  | 0, k, i, h => by
    obtain rfl : i = n := by omega
    exact hA' k
  | d + 1, k, i, h => by
    rw [show k + C * (d + 1) + 1 = (k + C * d + 1) + C by rw [Nat.mul_succ]; omega, hA _ _ (by omega), walk_fix n C A b bad good hA hA' d k (i + 1) (by omega)]
    show _ = cond (b i && allF b d (i + 1)) (good k) (some bad)
    cases b i <;> cases allF b d (i + 1) <;> rfl

/-- the same, where the good end needs places of its own -/
theorem walk_genk {R : Type} (n C D : Nat) (A : Nat → Nat → Option R) (b : Nat → Bool) (bad : R) (good : Option R)
    (hA : ∀ i, i < n → ∃ c, c ≤ C ∧ ∀ k, A (k + c) i = cond (b i) (A k (i + 1)) (some bad)) (hA' : ∃ c, c ≤ D ∧ ∀ k, A (k + c) n = good) : ∀ (d i : Nat), i + d = n → ∃ c, c ≤ C * d + D ∧ ∀ k, A (k + c) i = cond (allF b d i) good (some bad)
  | 0, i, h => by
    obtain rfl : i = n := by omega
    obtain ⟨c, h1, h2⟩ := hA'
    exact ⟨c, by omega, fun k => h2 k⟩
  | d + 1, i, h => by
    obtain ⟨c, h1, h2⟩ := hA i (by omega)
    obtain ⟨e, g1, g2⟩ := walk_genk n C D A b bad good hA hA' d (i + 1) (by omega)
    refine ⟨e + c, by rw [Nat.mul_succ]; omega, fun k => ?_⟩
    rw [show k + (e + c) = (k + e) + c by omega, h2, g2]
    show _ = cond (b i && allF b d (i + 1)) good (some bad)
    cases b i <;> cases allF b d (i + 1) <;> rfl

theorem w64_pred {i : Nat} (h : i < 1000000000000) : w64 ((i : Int) - 1) = (i : Int) - 1 := w64_ok (by omega) (by omega)
theorem w64_prev {i : Nat} (h : i < 1000000000000) (h0 : i ≠ 0) : w64 ((i : Int) - 1) = ((i - 1 : Nat) : Int) := by
  rw [w64_pred h]; omega

def inR (a : Int) (n : Nat) : Bool := decide (a ≥ 0) && decide (a ≤ (n : Int) - 1)
/-- one branch at its place -/
def headB (hs : Heads) (n i : Nat) : Bool := nameB (bL (hs.getD i hz0).1) && (inR (hs.getD i hz0).2 n && (decide (i = 0) || Op.bytesLess (bL (hs.getD (i - 1) hz0).1) (bL (hs.getD i hz0).1)))
def headsB (hs : Heads) (n : Nat) : Bool := allF (headB hs n) hs.length 0 && decide (hs.length ≤ 5)
def parS (p : List Int) (n k : Nat) : Bool := inR (p.getD k 0) n && (decide (k = 0) || (p.getD k 0 != p.getD 0 0))
def parI (p : List Int) (n k : Nat) : Bool := inR (p.getD k 0) n && !(p.take k).contains (p.getD k 0)
noncomputable def comS (c : Com) (n : Nat) : Bool := allF (parS c.1 n) c.1.length 0 && (decide (c.1.length ≤ 2) && (nameB (bL c.2.1) && treeB c.2.2))
noncomputable def comI (c : Com) (n : Nat) : Bool := allF (parI c.1 n) c.1.length 0 && (decide (c.1.length ≤ 2) && (nameB (bL c.2.1) && treeB c.2.2))
noncomputable def repoB (xs : List Com) (hs : Heads) : Bool := allF (fun i => comS (xs.getD i kz) i) xs.length 0 && (decide (xs.length ≤ 16) && headsB hs xs.length)

theorem com_same (c : Com) (n : Nat) : comS c n = comI c n := by
  obtain ⟨p, w, t⟩ := c
  unfold comS comI
  simp only
  match p with
  | [] => rfl
  | [a] => simp [allF, parS, parI]
  | [a, b] =>
    have e : (b != a) = !decide (b = a) := rfl
    simp [allF, parS, parI, e]
  | a :: b :: c :: r =>
    have : decide ((a :: b :: c :: r).length ≤ 2) = false := by simp
    rw [this]; simp

/-! ### the reference -/
theorem HeadsSz.at {hs : Heads} (h : HeadsSz hs) {i : Nat} (hi : i < hs.length) : (hs.getD i hz0).1.size < 1000000 := h.name _ (mem_getD hi)

theorem spec_heads_step (m : Nat) (hm : 10000000 ≤ m) (hs : Heads) (hh : HeadsSz hs) (n : Nat) (hn : n < 1000001) (i : Nat) (hi : i < hs.length) (F : Bool → Option (Bool × Unit)) (G : Option (Bool × Unit))
    (hF : ∀ b, F b = cond b (some (false, ())) G) :
    (cond (decide ((i : Int) < (lLen hs))) (cond (decide ((0 : Int) ≤ (i : Int))) (cond (decide ((i : Int) < lLen hs)) (lett ((getL hs (i : Int) (ByteArray.empty, (0 : Int))) : ByteArray × Int) fun v1 => Option.bind (spec_l4Name m (v1.1, ())) fun r2 => cond (!r2.1) (F true) (cond (decide ((0 : Int) ≤ (i : Int))) (cond (decide ((i : Int) < lLen hs)) (lett ((getL hs (i : Int) (ByteArray.empty, (0 : Int))) : ByteArray × Int) fun v3 => Option.bind (spec_l1In m (v3.2, (0 : Int), (w64 ((n : Int) - (1 : Int))), ())) fun r4 => cond (!r4.1) (F true) (cond (decide ((i : Int) > (0 : Int))) (cond (decide ((0 : Int) ≤ (i : Int))) (cond (decide ((i : Int) < lLen hs)) (lett ((getL hs (i : Int) (ByteArray.empty, (0 : Int))) : ByteArray × Int) fun v5 => cond (decide ((0 : Int) ≤ (w64 ((i : Int) - (1 : Int))))) (cond (decide ((w64 ((i : Int) - (1 : Int))) < lLen hs)) (lett ((getL hs (w64 ((i : Int) - (1 : Int))) (ByteArray.empty, (0 : Int))) : ByteArray × Int) fun v6 => F (sLt v5.1 v6.1 || sEq v5.1 v6.1)) none) none) none) none) (F false))) none) none)) none) none) (none : Option (Bool × Unit))) = cond (headB hs n i) G (some (false, ())) := by
  have hl := hh.len
  have hsz := hh.at hi
  rw [decide_eq_true (show (i : Int) < lLen hs by simp only [lLen]; omega), decide_eq_true (show (0 : Int) ≤ (i : Int) by omega), w64_pred (i := n) (by omega)]
  simp only [cond, lett]
  rw [show getL hs (i : Int) (ByteArray.empty, (0 : Int)) = hs.getD i hz0 from rfl, spec_name_v m _ (by omega) (by omega), l1In_v]
  simp only [Option.bind_some, hF]
  unfold headB inR
  cases nameB (bL (hs.getD i hz0).1) with
  | false => rfl
  | true =>
    cases (decide ((hs.getD i hz0).2 ≥ 0) && decide ((hs.getD i hz0).2 ≤ (n : Int) - 1)) with
    | false => rfl
    | true =>
      by_cases hz : i = 0
      · subst hz; rfl
      · rw [decide_eq_true (show (i : Int) > 0 by omega), w64_prev (by omega) hz, decide_eq_true (show (0 : Int) ≤ ((i - 1 : Nat) : Int) by omega), decide_eq_true (show ((i - 1 : Nat) : Int) < lLen hs by simp only [lLen]; omega), decide_eq_false hz]
        simp only [cond]
        rw [show getL hs ((i - 1 : Nat) : Int) (ByteArray.empty, (0 : Int)) = hs.getD (i - 1) hz0 from rfl, sLt_bL, sEq_bL, le_not_less]
        cases Op.bytesLess (bL (hs.getD (i - 1) hz0).1) (bL (hs.getD i hz0).1) <;> rfl

theorem spec_heads_loop7 (m : Nat) (hm : 10000000 ≤ m) (xs : List Com) (hs : Heads) (hx : ComsSz xs) (hh : HeadsSz hs) : ∃ c, c ≤ 2 * hs.length + 1 ∧ ∀ k, (spec_l7Ok.tab m (k + c)).2.2.1 (xs, hs, ((0 : Nat) : Int), ()) = cond (allF (headB hs xs.length) hs.length 0) (some (decide (xs.length ≤ 16) && decide (hs.length ≤ 5), ())) (some (false, ())) := by
  have hl := hh.len
  refine walk_gen hs.length 2 (fun k i => (spec_l7Ok.tab m k).2.2.1 (xs, hs, (i : Int), ())) (headB hs xs.length) (false, ()) _ (fun i hi => ⟨2, Nat.le_refl _, fun k => ?_⟩) (fun k => ?_) hs.length 0 (by omega)
  · have h := spec_heads_step m hm hs hh xs.length hx.len i hi (fun b => (spec_l7Ok.tab m (k + 1)).2.2.2.1 (xs, hs, (i : Int), b, ())) ((spec_l7Ok.tab m k).2.2.1 (xs, hs, ((i + 1 : Nat) : Int), ())) (fun b => by
      show spec_l7Ok.b3 m (spec_l7Ok.tab m k) xs hs (i : Int) b = _
      unfold spec_l7Ok.b3
      rw [w64_succ (by omega)])
    rw [decide_eq_true (show (i : Int) < lLen hs by simp only [lLen]; omega)] at h
    show spec_l7Ok.b2 m (spec_l7Ok.tab m (k + 1)) xs hs (i : Int) = _
    unfold spec_l7Ok.b2
    rw [decide_eq_true (show (i : Int) < lLen hs by simp only [lLen]; omega)]
    exact h
  · show spec_l7Ok.b2 m (spec_l7Ok.tab m k) xs hs (hs.length : Int) = _
    unfold spec_l7Ok.b2
    rw [decide_eq_false (show ¬ (hs.length : Int) < lLen hs by simp only [lLen]; omega), show decide (lLen xs ≤ 16) = decide (xs.length ≤ 16) by simp only [lLen, decide_eq_decide]; omega, show decide (lLen hs ≤ 5) = decide (hs.length ≤ 5) by simp only [lLen, decide_eq_decide]; omega]
    cases decide (xs.length ≤ 16) <;> rfl

theorem spec_pars (m : Nat) (xs : List Com) (hs : Heads) (c : Com) (hc : ComSz c) (i : Nat) (hi : i < 1000001) (hm : 10000000000000 ≤ m) (k : Nat) : (spec_l7Ok.tab m (k + 1 * c.1.length + 1)).2.1 (xs, hs, c.1, c.2.1, c.2.2, (i : Int), ((0 : Nat) : Int), ()) =
    cond (comS c i) ((spec_l7Ok.tab m k).1 (xs, hs, ((i + 1 : Nat) : Int), ())) (some (false, ())) := by
  have hp := hc.ps
  have hw := hc.who
  have h := walk_fix c.1.length 1 (fun k j => (spec_l7Ok.tab m k).2.1 (xs, hs, c.1, c.2.1, c.2.2, (i : Int), (j : Int), ())) (parS c.1 i) (false, ())
    (fun k => cond (decide (c.1.length ≤ 2) && (nameB (bL c.2.1) && treeB c.2.2)) ((spec_l7Ok.tab m k).1 (xs, hs, ((i + 1 : Nat) : Int), ())) (some (false, ())))
    (fun j k hj => by
      show spec_l7Ok.b1 m (spec_l7Ok.tab m k) xs hs c.1 c.2.1 c.2.2 (i : Int) (j : Int) = _
      unfold spec_l7Ok.b1
      rw [decide_eq_true (show (j : Int) < lLen c.1 by simp only [lLen]; omega), decide_eq_true (show (0 : Int) ≤ (j : Int) by omega), w64_pred (by omega), l1In_v, w64_succ (by omega)]
      simp only [cond, lett, Option.bind_some]
      rw [show getL c.1 (j : Int) (0 : Int) = c.1.getD j 0 from rfl]
      unfold parS inR
      cases (decide (c.1.getD j 0 ≥ 0) && decide (c.1.getD j 0 ≤ (i : Int) - 1)) with
      | false => rfl
      | true =>
        by_cases hz : j = 0
        · subst hz; rfl
        · rw [decide_eq_true (show (j : Int) > 0 by omega), decide_eq_true (show (0 : Int) < lLen c.1 by simp only [lLen]; omega), decide_eq_false hz]
          rw [show getL c.1 (0 : Int) (0 : Int) = c.1.getD 0 0 from rfl]
          show cond (c.1.getD j 0 == c.1.getD 0 0) _ _ = cond (true && (false || !(c.1.getD j 0 == c.1.getD 0 0))) _ _
          cases (c.1.getD j 0 == c.1.getD 0 0) <;> rfl)
    (fun k => by
      show spec_l7Ok.b1 m (spec_l7Ok.tab m k) xs hs c.1 c.2.1 c.2.2 (i : Int) (c.1.length : Int) = _
      unfold spec_l7Ok.b1
      rw [decide_eq_false (show ¬ (c.1.length : Int) < lLen c.1 by simp only [lLen]; omega), spec_name_v m _ (by omega) (by omega), spec_tree_v m _ hc.tree hm, w64_succ (i := i) (by omega), show decide (lLen c.1 > 2) = !decide (c.1.length ≤ 2) by
        simp only [lLen]; by_cases h : c.1.length ≤ 2
        · rw [decide_eq_true h, decide_eq_false (by omega)]; rfl
        · rw [decide_eq_false h, decide_eq_true (by omega)]; rfl]
      cases decide (c.1.length ≤ 2) <;> cases nameB (bL c.2.1) <;> cases treeB c.2.2 <;> rfl)
    c.1.length k 0 (by omega)
  refine h.trans ?_
  unfold comS
  cases allF (parS c.1 i) c.1.length 0 <;> rfl

theorem spec_repo_v (m : Nat) (hm : 10000000000000 ≤ m) (xs : List Com) (hs : Heads) (hx : ComsSz xs) (hh : HeadsSz hs) : spec_l7Ok m (xs, hs, ()) = some (repoB xs hs, ()) := by
  have hl := hh.len
  have hxl := hx.len
  obtain ⟨c0, a1, a2⟩ := spec_heads_loop7 m (by omega) xs hs hx hh
  obtain ⟨c, h1, h2⟩ := walk_genk xs.length 1000004 (c0 + 1) (fun k i => (spec_l7Ok.tab m k).1 (xs, hs, (i : Int), ())) (fun i => comS (xs.getD i kz) i) (false, ()) (cond (allF (headB hs xs.length) hs.length 0) (some (decide (xs.length ≤ 16) && decide (hs.length ≤ 5), ())) (some (false, ())))
    (fun i hi => by
      have hc := hx.com _ (mem_getD (z := kz) hi)
      have hp := hc.ps
      refine ⟨1 * (xs.getD i kz).1.length + 1 + 1, by omega, fun k => ?_⟩
      rw [show k + (1 * (xs.getD i kz).1.length + 1 + 1) = (k + 1 * (xs.getD i kz).1.length + 1) + 1 by omega]
      show spec_l7Ok.b0 m (spec_l7Ok.tab m (k + 1 * (xs.getD i kz).1.length + 1)) xs hs (i : Int) = _
      unfold spec_l7Ok.b0
      rw [decide_eq_true (show (i : Int) < lLen xs by simp only [lLen]; omega), decide_eq_true (show (0 : Int) ≤ (i : Int) by omega)]
      simp only [cond, lett]
      rw [show getL xs (i : Int) (([] : List Int), ByteArray.empty, ([] : List (ByteArray × List ByteArray))) = xs.getD i kz from rfl]
      exact (spec_pars m xs hs (xs.getD i kz) hc i (by omega) hm k).trans (by cases comS (xs.getD i kz) i <;> rfl))
    ⟨c0 + 1, Nat.le_refl _, fun k => by
      rw [show k + (c0 + 1) = (k + c0) + 1 by omega]
      show spec_l7Ok.b0 m (spec_l7Ok.tab m (k + c0)) xs hs (xs.length : Int) = _
      unfold spec_l7Ok.b0
      rw [decide_eq_false (show ¬ (xs.length : Int) < lLen xs by simp only [lLen]; omega)]
      exact a2 k⟩ xs.length 0 (by omega)
  have : 1000004 * xs.length ≤ 1000004 * 1000001 := Nat.mul_le_mul (Nat.le_refl _) (by omega)
  have h3 := h2 (m - c)
  rw [show m - c + c = m by omega] at h3
  refine h3.trans ?_
  unfold repoB headsB
  cases allF (fun i => comS (xs.getD i kz) i) xs.length 0 <;> cases allF (headB hs xs.length) hs.length 0 <;> cases decide (xs.length ≤ 16) <;> rfl

/-! ### the program -/
theorem contains_v (m : Nat) (hm : 10000000 ≤ m) (l : List Int) (x : Int) (hl : l.length < 1000001) : slices_Contains_int m (l, x, ()) = some (l.contains x, ()) := by
  have h : ∀ (d k i : Nat), i + d = l.length → ∃ v : Int, (slices_Index_int.tab m (k + d + 1)).1 (l, x, lLen l, (i : Int), ()) = some (v, ()) ∧ decide (v ≥ 0) = (l.drop i).contains x := by
    intro d
    induction d with
    | zero =>
      intro k i h
      refine ⟨-1, ?_, ?_⟩
      · show slices_Index_int.b0 m (slices_Index_int.tab m k) l x (lLen l) (i : Int) = _
        unfold slices_Index_int.b0
        rw [decide_eq_false (show ¬ (i : Int) < lLen l by simp only [lLen]; omega)]
        rfl
      · rw [List.drop_eq_nil_of_le (by omega)]; rfl
    | succ d ih =>
      intro k i h
      have hb : (slices_Index_int.tab m (k + (d + 1) + 1)).1 (l, x, lLen l, (i : Int), ()) = cond (x == l.getD i 0) (some ((i : Int), ())) ((slices_Index_int.tab m (k + d + 1)).1 (l, x, lLen l, ((i + 1 : Nat) : Int), ())) := by
        show slices_Index_int.b0 m (slices_Index_int.tab m (k + d + 1)) l x (lLen l) (i : Int) = _
        unfold slices_Index_int.b0
        rw [decide_eq_true (show (i : Int) < lLen l by simp only [lLen]; omega), decide_eq_true (show (0 : Int) ≤ (i : Int) by omega), w64_succ (by omega)]
        rfl
      rw [hb, drop_at (l := l) (i := i) (by omega) 0, List.contains_cons]
      cases hx : (x == l.getD i 0) with
      | true => exact ⟨(i : Int), rfl, by rw [decide_eq_true (show (i : Int) ≥ 0 by omega)]; rfl⟩
      | false =>
        obtain ⟨v, h1, h2⟩ := ih k (i + 1) (by omega)
        exact ⟨v, h1, by rw [h2]; rfl⟩
  obtain ⟨v, h1, h2⟩ := h l.length (m - (l.length + 1)) 0 (by omega)
  rw [show m - (l.length + 1) + l.length + 1 = m by omega] at h1
  show Option.bind (slices_Index_int m (l, x, ())) _ = _
  rw [show slices_Index_int m (l, x, ()) = some (v, ()) from h1]
  rw [List.drop_zero] at h2
  rw [← h2]; rfl

theorem impl_commit_v (m : Nat) (hm : 10000000000000 ≤ m) (c : Com) (hc : ComSz c) (i : Nat) (hi : i < 1000001) : impl_commitOk m (c.1, c.2.1, c.2.2, (i : Int), ()) = some (comS c i, ()) := by
  have hp := hc.ps
  have hw := hc.who
  have h := walk_fix c.1.length 1 (fun k j => (impl_commitOk.tab m k).1 (c.1, c.2.1, c.2.2, (i : Int), c.1, lLen c.1, (j : Int), ())) (parI c.1 i) (false, ())
    (fun k => some (decide (c.1.length ≤ 2) && (nameB (bL c.2.1) && treeB c.2.2), ()))
    (fun j k hj => by
      show impl_commitOk.b0 m (impl_commitOk.tab m k) c.1 c.2.1 c.2.2 (i : Int) c.1 (lLen c.1) (j : Int) = _
      unfold impl_commitOk.b0
      rw [decide_eq_true (show (j : Int) < lLen c.1 by simp only [lLen]; omega), decide_eq_true (show (0 : Int) ≤ (j : Int) by omega), w64_pred (by omega), within_v, w64_succ (by omega), decide_eq_true (show (j : Int) ≤ (c.1.length : Int) by omega)]
      rw [show getL c.1 (j : Int) (0 : Int) = c.1.getD j 0 from rfl, show cutL c.1 0 (Int.toNat (j : Int)) = c.1.take j from rfl, contains_v m (by omega) _ _ (by rw [List.length_take]; omega)]
      simp only [Option.bind_some]
      unfold parI inR
      cases (decide (c.1.getD j 0 ≥ 0) && decide (c.1.getD j 0 ≤ (i : Int) - 1)) <;> cases (c.1.take j).contains (c.1.getD j 0) <;> rfl)
    (fun k => by
      show impl_commitOk.b0 m (impl_commitOk.tab m k) c.1 c.2.1 c.2.2 (i : Int) c.1 (lLen c.1) (c.1.length : Int) = _
      unfold impl_commitOk.b0
      rw [decide_eq_false (show ¬ (c.1.length : Int) < lLen c.1 by simp only [lLen]; omega), impl_name_v m _ (by omega) (by omega), impl_tree_v m _ hc.tree hm, show decide (lLen c.1 ≤ 2) = decide (c.1.length ≤ 2) by simp only [lLen, decide_eq_decide]; omega]
      cases decide (c.1.length ≤ 2) <;> cases nameB (bL c.2.1) <;> cases treeB c.2.2 <;> rfl)
    c.1.length (m - (1 * c.1.length + 1)) 0 (by omega)
  rw [show m - (1 * c.1.length + 1) + 1 * c.1.length + 1 = m by omega] at h
  refine Eq.trans h ?_
  rw [com_same]
  unfold comI
  cases allF (parI c.1 i) c.1.length 0 <;> rfl

theorem impl_heads_v (m : Nat) (hm : 10000000 ≤ m) (hs : Heads) (hh : HeadsSz hs) (n : Nat) (hn : n < 1000001) : impl_headsOk m (hs, (n : Int), ()) = some (headsB hs n, ()) := by
  have hl := hh.len
  obtain ⟨c, h1, h2⟩ := walk_gen hs.length 2 (fun k i => (impl_headsOk.tab m k).1 (hs, (n : Int), hs, lLen hs, (i : Int), ())) (headB hs n) (false, ()) (some (decide (hs.length ≤ 5), ())) (fun i hi => ⟨2, Nat.le_refl _, fun k => by
      have hsz := hh.at hi
      have g : ∀ b, (impl_headsOk.tab m (k + 1)).2.1 (hs, (n : Int), hs, lLen hs, (i : Int), b, ()) = cond b (some (false, ())) ((impl_headsOk.tab m k).1 (hs, (n : Int), hs, lLen hs, ((i + 1 : Nat) : Int), ())) := fun b => by
        show impl_headsOk.b1 m (impl_headsOk.tab m k) hs (n : Int) hs (lLen hs) (i : Int) b = _
        unfold impl_headsOk.b1
        rw [w64_succ (by omega)]
      show impl_headsOk.b0 m (impl_headsOk.tab m (k + 1)) hs (n : Int) hs (lLen hs) (i : Int) = _
      unfold impl_headsOk.b0
      rw [decide_eq_true (show (i : Int) < lLen hs by simp only [lLen]; omega), decide_eq_true (show (0 : Int) ≤ (i : Int) by omega), w64_pred (i := n) (by omega)]
      simp only [cond, lett]
      rw [show getL hs (i : Int) (ByteArray.empty, (0 : Int)) = hs.getD i hz0 from rfl, impl_name_v m _ (by omega) (by omega), within_v]
      simp only [Option.bind_some, g]
      unfold headB inR
      cases nameB (bL (hs.getD i hz0).1) with
      | false => rfl
      | true =>
        cases (decide ((hs.getD i hz0).2 ≥ 0) && decide ((hs.getD i hz0).2 ≤ (n : Int) - 1)) with
        | false => rfl
        | true =>
          by_cases hz : i = 0
          · subst hz; rfl
          · rw [decide_eq_true (show (i : Int) > 0 by omega), w64_prev (by omega) hz, decide_eq_true (show (0 : Int) ≤ ((i - 1 : Nat) : Int) by omega), decide_eq_true (show ((i - 1 : Nat) : Int) < lLen hs by simp only [lLen]; omega), decide_eq_false hz]
            rw [show getL hs ((i - 1 : Nat) : Int) (ByteArray.empty, (0 : Int)) = hs.getD (i - 1) hz0 from rfl, sLt_bL]
            cases Op.bytesLess (bL (hs.getD (i - 1) hz0).1) (bL (hs.getD i hz0).1) <;> rfl⟩) (fun k => by
      show impl_headsOk.b0 m (impl_headsOk.tab m k) hs (n : Int) hs (lLen hs) (hs.length : Int) = _
      unfold impl_headsOk.b0
      rw [decide_eq_false (show ¬ (hs.length : Int) < lLen hs by simp only [lLen]; omega), show decide (lLen hs ≤ 5) = decide (hs.length ≤ 5) by simp only [lLen, decide_eq_decide]; omega]
      rfl) hs.length 0 (by omega)
  have := h2 (m - c)
  rw [show m - c + c = m by omega] at this
  refine Eq.trans this ?_
  unfold headsB
  cases allF (headB hs n) hs.length 0 <;> rfl

theorem impl_repo_v (m : Nat) (hm : 10000000000000 ≤ m) (xs : List Com) (hs : Heads) (hx : ComsSz xs) (hh : HeadsSz hs) : impl_RepoOk m (xs, hs, ()) = some (repoB xs hs, ()) := by
  have hl := hh.len
  have hxl := hx.len
  have h := walk_fix xs.length 1 (fun k i => (impl_RepoOk.tab m k).1 (xs, hs, xs, lLen xs, (i : Int), ())) (fun i => !decide (i = 16) && comS (xs.getD i kz) i) (false, ()) (fun _ => some (headsB hs xs.length, ()))
    (fun i k hi => by
      have hc := hx.com _ (mem_getD (z := kz) hi)
      show impl_RepoOk.b0 m (impl_RepoOk.tab m k) xs hs xs (lLen xs) (i : Int) = _
      unfold impl_RepoOk.b0
      rw [decide_eq_true (show (i : Int) < lLen xs by simp only [lLen]; omega), decide_eq_true (show (0 : Int) ≤ (i : Int) by omega), w64_succ (by omega)]
      simp only [cond, lett]
      rw [show getL xs (i : Int) (([] : List Int), ByteArray.empty, ([] : List (ByteArray × List ByteArray))) = xs.getD i kz from rfl, impl_commit_v m hm _ hc i (by omega)]
      simp only [Option.bind_some]
      rw [show ((i : Int) == 16) = decide (i = 16) from by
        by_cases h : i = 16
        · subst h; rfl
        · rw [decide_eq_false h, beq_eq_false_iff_ne]; omega]
      cases decide (i = 16) <;> cases comS (xs.getD i kz) i <;> rfl)
    (fun k => by
      show impl_RepoOk.b0 m (impl_RepoOk.tab m k) xs hs xs (lLen xs) (xs.length : Int) = _
      unfold impl_RepoOk.b0
      rw [decide_eq_false (show ¬ (xs.length : Int) < lLen xs by simp only [lLen]; omega), show lLen xs = (xs.length : Int) from rfl, impl_heads_v m (by omega) hs hh _ hxl]
      rfl) xs.length (m - (1 * xs.length + 1)) 0 (by omega)
  rw [show m - (1 * xs.length + 1) + 1 * xs.length + 1 = m by omega] at h
  refine Eq.trans h ?_
  have e : allF (fun i => !decide (i = 16) && comS (xs.getD i kz) i) xs.length 0 = (decide (xs.length ≤ 16) && allF (fun i => comS (xs.getD i kz) i) xs.length 0) := by
    rw [Bool.eq_iff_iff, Bool.and_eq_true, allF_iff, allF_iff, decide_eq_true_eq]
    constructor
    · intro h
      refine ⟨?_, fun j h1 h2 => ?_⟩
      · apply Classical.byContradiction
        intro hn
        have := h 16 (by omega) (by omega)
        simp at this
      · have := h j h1 h2
        rw [Bool.and_eq_true] at this
        exact this.2
    · rintro ⟨h1, h2⟩ j h3 h4
      rw [Bool.and_eq_true, Bool.not_eq_true', decide_eq_false_iff_not]
      exact ⟨by omega, h2 j h3 h4⟩
  rw [e]
  unfold repoB
  cases allF (fun i => comS (xs.getD i kz) i) xs.length 0 <;> cases decide (xs.length ≤ 16) <;> rfl
end Go.Sx.Tryz
