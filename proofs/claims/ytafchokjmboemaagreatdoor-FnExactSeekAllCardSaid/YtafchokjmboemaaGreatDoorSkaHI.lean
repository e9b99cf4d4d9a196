/- A part of the pure law of FnExactSeekAll, over the printed functions: what they answer. No condition but those of each theorem. -/
import Derived.Test.YtafchokjmboemaaGreatDoorSkaHA
namespace Go.Sx.Tryz
open Go Go.Proofs Go.Sx
set_option linter.unusedVariables false
set_option linter.unusedSimpArgs false

/-- a word stands in a line at a place, and nothing of a name is just ahead or behind -/
def hitAt (l w : List UInt8) (i : Nat) : Prop :=
  i + w.length ≤ l.length ∧ (l.drop i).take w.length = w ∧ (i = 0 ∨ nameC (l.getD (i - 1) 0) = false) ∧ (i + w.length = l.length ∨ nameC (l.getD (i + w.length) 0) = false)

theorem hit_name {l w : List UInt8} {j : Nat} (h : hitAt l w j) (hw : w.all nameC = true) {k : Nat} (h1 : j ≤ k) (h2 : k < j + w.length) : nameC (l.getD k 0) = true := by
  have hk : k < l.length := by have := h.1; omega
  have hm : l.getD k 0 ∈ w := by
    rw [← h.2.1, List.getD_eq_getElem?_getD, List.getElem?_eq_getElem hk]
    rw [List.mem_take_iff_getElem]
    refine ⟨k - j, by rw [List.length_drop]; omega, ?_⟩
    rw [List.getElem_drop]
    simp only [Option.getD_some]
    congr 1; omega
  exact List.all_eq_true.1 hw _ hm

/-- at the end of a run of letters -/
theorem hit_stop {l w : List UInt8} {fr i : Nat} (hw : w.all nameC = true) (hi : i ≤ l.length) (hfi : fr ≤ i) (hin : ∀ j, fr ≤ j → j < i → nameC (l.getD j 0) = true) (hfr : fr = 0 ∨ nameC (l.getD (fr - 1) 0) = false)
    (hst : i = l.length ∨ nameC (l.getD i 0) = false) : (∃ j, fr ≤ j ∧ hitAt l w j) ↔ ((l.take i).drop fr = w ∨ ∃ j, i + 1 ≤ j ∧ hitAt l w j) := by
  constructor
  · rintro ⟨j, hj, h⟩
    have hle := h.1
    rcases Nat.lt_or_ge i j with h1 | h1
    · exact .inr ⟨j, h1, h⟩
    rcases Nat.eq_or_lt_of_le hj with e | e
    · subst e
      have hend := h.2.2.2
      rcases Nat.lt_trichotomy (fr + w.length) i with h2 | h2 | h2
      · rcases hend with h3 | h3
        · omega
        · rw [hin _ (by omega) h2] at h3; cases h3
      · left
        rw [List.drop_take, ← h2, Nat.add_sub_cancel_left]
        exact h.2.1
      · have := hit_name h hw hfi h2
        rcases hst with h3 | h3
        · omega
        · rw [this] at h3; cases h3
    · exfalso
      rcases h.2.2.1 with h3 | h3
      · omega
      · rw [hin (j - 1) (by omega) (by omega)] at h3; cases h3
  · rintro (h | ⟨j, hj, h⟩)
    · have hlen := congrArg List.length h
      rw [List.length_drop, List.length_take, Nat.min_eq_left hi] at hlen
      refine ⟨fr, Nat.le_refl _, by omega, ?_, hfr, ?_⟩
      · rw [List.drop_take] at h
        rw [← hlen]; exact h
      · rw [← hlen, show fr + (i - fr) = i by omega]; exact hst
    · exact ⟨j, by omega, h⟩

theorem no_hit {l w : List UInt8} {i : Nat} (hw : w ≠ []) (h : l.length ≤ i) : ¬ ∃ j, i ≤ j ∧ hitAt l w j := by
  rintro ⟨j, hj, hh⟩
  have := hh.1
  have : 0 < w.length := List.length_pos_iff.2 hw
  omega

theorem isN_ge (b : UInt8) (x : Int) (n : Nat) (hx : x = (n : Int)) : decide (((b.toNat : Nat) : Int) ≥ x) = decide (n ≤ b.toNat) := by
  rw [hx]; simp only [decide_eq_decide]; omega
theorem isN_le (b : UInt8) (x : Int) (n : Nat) (hx : x = (n : Int)) : decide (((b.toNat : Nat) : Int) ≤ x) = decide (b.toNat ≤ n) := by
  rw [hx]; simp only [decide_eq_decide]; omega

open Classical in
theorem has_loop (m : Nat) (s w : ByteArray) (hs : s.size < 1000000000) (hw : (bL w).all nameC = true) (hne : bL w ≠ []) : ∀ (d k fr i : Nat), i + d = s.size + 1 → fr ≤ i → (∀ j, fr ≤ j → j < i → nameC ((bL s).getD j 0) = true) → (fr = 0 ∨ nameC ((bL s).getD (fr - 1) 0) = false) → (i = s.size + 1 → fr = i) →
    (spec_l22Has.tab m (k + 3 * d + 1)).1 (s, w, (fr : Int), (i : Int), ()) = some (decide (∃ j, fr ≤ j ∧ hitAt (bL s) (bL w) j), ())
  | 0, k, fr, i, h, hfi, hin, hfr, hend => by
    have hl := bL_len s
    show spec_l22Has.b0 m (spec_l22Has.tab m k) s w (fr : Int) (i : Int) = _
    unfold spec_l22Has.b0
    rw [decide_eq_false (show ¬ (i : Int) ≤ sLen s by simp only [sLen]; omega), decide_eq_false (no_hit hne (by have := hend (by omega); omega))]
    rfl
  | d + 1, k, fr, i, h, hfi, hin, hfr, hend => by
    have hl := bL_len s
    have h0 : decide ((0 : Int) ≤ (i : Int)) = true := decide_eq_true (by omega)
    have g2 : (i = (bL s).length ∨ nameC ((bL s).getD i 0) = false) → (spec_l22Has.tab m (k + 3 * d + 1 + 1)).2.2.1 (s, w, (fr : Int), (i : Int), ()) = some (decide (∃ j, fr ≤ j ∧ hitAt (bL s) (bL w) j), ()) := by
      intro hst
      show spec_l22Has.b2 m (spec_l22Has.tab m (k + 3 * d + 1)) s w (fr : Int) (i : Int) = _
      unfold spec_l22Has.b2
      rw [h0, decide_eq_true (show (i : Int) ≤ (s.size : Int) by omega), decide_eq_true (show (0 : Int) ≤ (fr : Int) by omega), decide_eq_true (show (fr : Int) ≤ (i : Int) by omega), w64_succ (by omega)]
      simp only [cond, lett, Int.toNat_natCast]
      rw [sEq_bL, bL_cut]
      have hiff := hit_stop hw (show i ≤ (bL s).length by omega) hfi hin hfr hst
      by_cases e : ((bL s).take i).drop fr = bL w
      · rw [e, beq_self_eq_true, decide_eq_true (hiff.2 (.inl e))]
      · rw [beq_eq_false_iff_ne.2 e]
        simp only
        rw [has_loop m s w hs hw hne d k (i + 1) (i + 1) (by omega) (Nat.le_refl _) (fun j h1 h2 => by omega) (by
          rcases hst with h1 | h1
          · right
            rw [Nat.add_sub_cancel, List.getD_eq_getElem?_getD, List.getElem?_eq_none (by omega)]
            rfl
          · right; rw [Nat.add_sub_cancel]; exact h1) (fun _ => rfl)]
        congr 2
        rw [decide_eq_decide, hiff]
        constructor
        · exact fun hh => .inr hh
        · rintro (hh | hh)
          · exact absurd hh e
          · exact hh
    have g1 : ∀ b, (spec_l22Has.tab m (k + 3 * d + 1 + 1 + 1)).2.1 (s, w, (fr : Int), (i : Int), b, ()) = cond b ((spec_l22Has.tab m (k + 3 * d + 1 + 1)).1 (s, w, (fr : Int), ((i + 1 : Nat) : Int), ())) ((spec_l22Has.tab m (k + 3 * d + 1 + 1)).2.2.1 (s, w, (fr : Int), (i : Int), ())) := by
      intro b
      show spec_l22Has.b1 m (spec_l22Has.tab m (k + 3 * d + 1 + 1)) s w (fr : Int) (i : Int) b = _
      unfold spec_l22Has.b1
      rw [w64_succ (by omega)]
    rw [show k + 3 * (d + 1) + 1 = k + 3 * d + 1 + 1 + 1 + 1 by omega]
    show spec_l22Has.b0 m (spec_l22Has.tab m (k + 3 * d + 1 + 1 + 1)) s w (fr : Int) (i : Int) = _
    unfold spec_l22Has.b0
    rw [decide_eq_true (show (i : Int) ≤ sLen s by simp only [sLen]; omega)]
    by_cases hlt : i < s.size
    · have hb : decide ((i : Int) < sLen s) = true := decide_eq_true (by simp only [sLen]; omega)
      rw [hb, h0, byteAt_bL, Int.toNat_natCast, isN_ge _ 97 97 rfl, isN_le _ 122 122 rfl, isN_ge _ 48 48 rfl, isN_le _ 57 57 rfl]
      simp only [cond, g1]
      have hgo : ∀ b, b = nameC ((bL s).getD i 0) → (match b with | true => (spec_l22Has.tab m (k + 3 * d + 1 + 1)).1 (s, w, (fr : Int), ((i + 1 : Nat) : Int), ()) | false => (spec_l22Has.tab m (k + 3 * d + 1 + 1)).2.2.1 (s, w, (fr : Int), (i : Int), ())) = some (decide (∃ j, fr ≤ j ∧ hitAt (bL s) (bL w) j), ()) := by
        intro b hbn
        cases b with
        | false => exact g2 (.inr hbn.symm)
        | true =>
          have := has_loop m s w hs hw hne d (k + 1) fr (i + 1) (by omega) (by omega) (fun j h1 h2 => by
            rcases Nat.eq_or_lt_of_le (Nat.le_of_lt_succ h2) with e | e
            · rw [e]; exact hbn.symm
            · exact hin j h1 e) hfr (fun h => by omega)
          rw [show k + 1 + 3 * d + 1 = k + 3 * d + 1 + 1 by omega] at this
          exact this
      have hn : nameC ((bL s).getD i 0) = ((decide (97 ≤ ((bL s).getD i 0).toNat) && decide (((bL s).getD i 0).toNat ≤ 122)) || (decide (48 ≤ ((bL s).getD i 0).toNat) && decide (((bL s).getD i 0).toNat ≤ 57))) := rfl
      cases h97 : decide (97 ≤ ((bL s).getD i 0).toNat) <;> cases h122 : decide (((bL s).getD i 0).toNat ≤ 122) <;> cases h48 : decide (48 ≤ ((bL s).getD i 0).toNat) <;> cases h57 : decide (((bL s).getD i 0).toNat ≤ 57) <;>
        exact hgo _ (by rw [hn, h97, h122, h48, h57])
    · rw [decide_eq_false (show ¬ (i : Int) < sLen s by simp only [sLen]; omega)]
      simp only [cond, g1]
      exact g2 (.inl (by omega))

open Classical in
theorem has_v (m : Nat) (hm : 10000 ≤ m) (s w : ByteArray) (hs : s.size ≤ 1000) (hw : nameB (bL w) = true) : spec_l22Has m (s, w, ()) = some (decide (∃ j, hitAt (bL s) (bL w) j), ()) := by
  unfold nameB at hw
  simp only [Bool.and_eq_true, decide_eq_true_eq] at hw
  have h := has_loop m s w (by omega) hw.1 (by intro e; rw [e] at hw; simp at hw) (s.size + 1) (m - (3 * (s.size + 1) + 1)) 0 0 (by omega) (Nat.le_refl _) (fun j h1 h2 => by omega) (.inl rfl) (fun h => by omega)
  rw [show m - (3 * (s.size + 1) + 1) + 3 * (s.size + 1) + 1 = m by omega] at h
  have e : (∃ j, 0 ≤ j ∧ hitAt (bL s) (bL w) j) ↔ ∃ j, hitAt (bL s) (bL w) j := ⟨fun ⟨j, _, h⟩ => ⟨j, h⟩, fun ⟨j, h⟩ => ⟨j, Nat.zero_le _, h⟩⟩
  show (spec_l22Has.tab m m).1 (s, w, ((0 : Nat) : Int), ((0 : Nat) : Int), ()) = _
  rw [h]
  congr 2
  rw [decide_eq_decide]; exact e

open Classical in
theorem con_loop (m : Nat) (s w : ByteArray) (hs : s.size < 1000000) (hw : w.size < 1000000) (hne : bL w ≠ []) : ∀ (d k i : Nat), i + d = s.size + 1 →
    (impl_contains.tab m (k + 2 * d + 1)).1 (s, w, (i : Int), ()) = some (decide (∃ j, i ≤ j ∧ hitAt (bL s) (bL w) j), ())
  | 0, k, i, h => by
    have hl := bL_len s
    have hl2 := bL_len w
    show impl_contains.b0 m (impl_contains.tab m k) s w (i : Int) = _
    unfold impl_contains.b0
    have e1 : w64 ((i : Int) + sLen w) = ((i + w.size : Nat) : Int) := by
      rw [show (i : Int) + sLen w = ((i + w.size : Nat) : Int) by simp only [sLen]; omega]
      exact w64_ok (by omega) (by omega)
    rw [e1]
    simp only [lett]
    rw [decide_eq_false (show ¬ ((i + w.size : Nat) : Int) ≤ sLen s by simp only [sLen]; omega), decide_eq_false (no_hit hne (by omega))]
    rfl
  | d + 1, k, i, h => by
    have hl := bL_len s
    have hl2 := bL_len w
    have ih := con_loop m s w hs hw hne d k (i + 1) (by omega)
    have e1 : w64 ((i : Int) + sLen w) = ((i + w.size : Nat) : Int) := by
      rw [show (i : Int) + sLen w = ((i + w.size : Nat) : Int) by simp only [sLen]; omega]
      exact w64_ok (by omega) (by omega)
    have g1 : ∀ b, (impl_contains.tab m (k + 2 * d + 1 + 1)).2.1 (s, w, (i : Int), b, ()) = cond b (some (true, ())) (some (decide (∃ j, i + 1 ≤ j ∧ hitAt (bL s) (bL w) j), ())) := by
      intro b
      show impl_contains.b1 m (impl_contains.tab m (k + 2 * d + 1)) s w (i : Int) b = _
      unfold impl_contains.b1
      rw [w64_succ (by omega), ih]
    have split1 : (∃ j, i ≤ j ∧ hitAt (bL s) (bL w) j) ↔ (hitAt (bL s) (bL w) i ∨ ∃ j, i + 1 ≤ j ∧ hitAt (bL s) (bL w) j) := by
      constructor
      · rintro ⟨j, hj, hh⟩
        rcases Nat.eq_or_lt_of_le hj with e | e
        · subst e; exact .inl hh
        · exact .inr ⟨j, e, hh⟩
      · rintro (hh | ⟨j, hj, hh⟩)
        · exact ⟨i, Nat.le_refl _, hh⟩
        · exact ⟨j, by omega, hh⟩
    have fin : ∀ b : Bool, (b = true ↔ hitAt (bL s) (bL w) i) → cond b (some (true, ())) (some (decide (∃ j, i + 1 ≤ j ∧ hitAt (bL s) (bL w) j), ())) = some (decide (∃ j, i ≤ j ∧ hitAt (bL s) (bL w) j), ()) := by
      intro b hb
      cases b with
      | true => rw [decide_eq_true (split1.2 (.inl (hb.1 rfl)))]; rfl
      | false =>
        show some (decide (∃ j, i + 1 ≤ j ∧ hitAt (bL s) (bL w) j), ()) = _
        congr 2
        rw [decide_eq_decide, split1]
        constructor
        · exact .inr
        · rintro (hh | hh)
          · have := hb.2 hh; cases this
          · exact hh
    show impl_contains.b0 m (impl_contains.tab m (k + 2 * d + 1 + 1)) s w (i : Int) = _
    unfold impl_contains.b0
    rw [e1]
    simp only [lett]
    by_cases hle : i + w.size ≤ s.size
    · have c1 : decide (((i + w.size : Nat) : Int) ≤ sLen s) = true := decide_eq_true (by simp only [sLen]; omega)
      rw [c1, decide_eq_true (show (0 : Int) ≤ ((i + w.size : Nat) : Int) by omega), decide_eq_true (show (0 : Int) ≤ (i : Int) by omega), decide_eq_true (show (i : Int) ≤ ((i + w.size : Nat) : Int) by omega)]
      simp only [cond, Int.toNat_natCast, g1]
      rw [sEq_bL, bL_cut, List.drop_take, Nat.add_sub_cancel_left, ← hl2]
      by_cases heq : ((bL s).drop i).take (bL w).length = bL w
      · rw [heq, beq_self_eq_true]
        simp only
        -- what is behind
        have hbeh : ∀ (F : Bool → Option (Den [.bool])), (match (((i + (bL w).length : Nat) : Int) == sLen s) with
            | true => F true
            | false => (match decide (((i + (bL w).length : Nat) : Int) < sLen s) with
              | true => Option.bind (impl_isNameByte m (byteAt s ((i + (bL w).length : Nat) : Int), ())) fun r => F (!r.1)
              | false => none)) = F (decide (i + (bL w).length = (bL s).length ∨ nameC ((bL s).getD (i + (bL w).length) 0) = false)) := by
          intro F
          by_cases he : i + (bL w).length = s.size
          · rw [show (((i + (bL w).length : Nat) : Int) == sLen s) = true from by rw [beq_iff_eq]; simp only [sLen]; omega, decide_eq_true (show (i + (bL w).length = (bL s).length ∨ nameC ((bL s).getD (i + (bL w).length) 0) = false) from .inl (by omega))]
          · rw [show (((i + (bL w).length : Nat) : Int) == sLen s) = false from by rw [beq_eq_false_iff_ne]; simp only [sLen]; omega, decide_eq_true (show ((i + (bL w).length : Nat) : Int) < sLen s by simp only [sLen]; omega)]
            simp only
            rw [byteAt_bL, Int.toNat_natCast, isName_v]
            simp only [Option.bind_some]
            congr 1
            cases hn : nameC ((bL s).getD (i + (bL w).length) 0) with
            | true =>
              rw [decide_eq_false (show ¬ (i + (bL w).length = (bL s).length ∨ true = false) by
                rintro (h1 | h1)
                · omega
                · cases h1)]; rfl
            | false => rw [decide_eq_true (show (i + (bL w).length = (bL s).length ∨ false = false) from .inr rfl)]; rfl
        have hhit : ∀ P : Prop, (P ↔ (i = 0 ∨ nameC ((bL s).getD (i - 1) 0) = false)) → (hitAt (bL s) (bL w) i ↔ (P ∧ (i + (bL w).length = (bL s).length ∨ nameC ((bL s).getD (i + (bL w).length) 0) = false))) := by
          intro P hP
          rw [hP]
          exact ⟨fun hh => hh.2.2, fun hh => ⟨by omega, heq, hh⟩⟩
        by_cases hz : i = 0
        · rw [show ((i : Int) == 0) = true from by rw [beq_iff_eq]; omega]
          simp only
          refine (hbeh (fun b => match b with | true => some (true, ()) | false => some (decide (∃ j, i + 1 ≤ j ∧ hitAt (bL s) (bL w) j), ()))).trans ?_
          have := fin (decide (i + (bL w).length = (bL s).length ∨ nameC ((bL s).getD (i + (bL w).length) 0) = false)) (by rw [decide_eq_true_eq, hhit True ⟨fun _ => .inl hz, fun _ => trivial⟩]; exact ⟨fun h => ⟨trivial, h⟩, fun h => h.2⟩)
          rw [← this]
          cases decide (i + (bL w).length = (bL s).length ∨ nameC ((bL s).getD (i + (bL w).length) 0) = false) <;> rfl
        · rw [show ((i : Int) == 0) = false from by rw [beq_eq_false_iff_ne]; omega, show w64 ((i : Int) - 1) = ((i - 1 : Nat) : Int) from by rw [show (i : Int) - 1 = ((i - 1 : Nat) : Int) by omega]; exact w64_ok (by omega) (by omega)]
          simp only
          rw [decide_eq_true (show (0 : Int) ≤ ((i - 1 : Nat) : Int) by omega), decide_eq_true (show ((i - 1 : Nat) : Int) < sLen s by simp only [sLen]; omega), byteAt_bL s ((i - 1 : Nat) : Int), Int.toNat_natCast, isName_v]
          simp only [Option.bind_some]
          cases hn : nameC ((bL s).getD (i - 1) 0) with
          | true =>
            simp only [Bool.not_true]
            exact fin false ⟨fun h => (by cases h), fun hh => by
              rcases hh.2.2.1 with h1 | h1
              · omega
              · rw [hn] at h1; cases h1⟩
          | false =>
            simp only [Bool.not_false]
            refine (hbeh (fun b => match b with | true => some (true, ()) | false => some (decide (∃ j, i + 1 ≤ j ∧ hitAt (bL s) (bL w) j), ()))).trans ?_
            have := fin (decide (i + (bL w).length = (bL s).length ∨ nameC ((bL s).getD (i + (bL w).length) 0) = false)) (by rw [decide_eq_true_eq, hhit True ⟨fun _ => .inr hn, fun _ => trivial⟩]; exact ⟨fun h => ⟨trivial, h⟩, fun h => h.2⟩)
            rw [← this]
            cases decide (i + (bL w).length = (bL s).length ∨ nameC ((bL s).getD (i + (bL w).length) 0) = false) <;> rfl
      · rw [beq_eq_false_iff_ne.2 heq]
        exact fin false ⟨fun h => (by cases h), fun hh => absurd hh.2.1 heq⟩
    · rw [decide_eq_false (show ¬ ((i + w.size : Nat) : Int) ≤ sLen s by simp only [sLen]; omega), decide_eq_false (show ¬ ∃ j, i ≤ j ∧ hitAt (bL s) (bL w) j by
        rintro ⟨j, hj, hh⟩
        have := hh.1
        omega)]
      rfl

open Classical in
theorem con_v (m : Nat) (hm : 10000 ≤ m) (s w : ByteArray) (hs : s.size ≤ 1000) (hw2 : w.size ≤ 1000) (hw : nameB (bL w) = true) : impl_contains m (s, w, ()) = some (decide (∃ j, hitAt (bL s) (bL w) j), ()) := by
  unfold nameB at hw
  simp only [Bool.and_eq_true, decide_eq_true_eq] at hw
  have h := con_loop m s w (by omega) (by omega) (by intro e; rw [e] at hw; simp at hw) (s.size + 1) (m - (2 * (s.size + 1) + 1)) 0 (by omega)
  rw [show m - (2 * (s.size + 1) + 1) + 2 * (s.size + 1) + 1 = m by omega] at h
  have e : (∃ j, 0 ≤ j ∧ hitAt (bL s) (bL w) j) ↔ ∃ j, hitAt (bL s) (bL w) j := ⟨fun ⟨j, _, h⟩ => ⟨j, h⟩, fun ⟨j, h⟩ => ⟨j, Nat.zero_le _, h⟩⟩
  show (impl_contains.tab m m).1 (s, w, ((0 : Nat) : Int), ()) = _
  rw [h]
  congr 2
  rw [decide_eq_decide]; exact e
end Go.Sx.Tryz
