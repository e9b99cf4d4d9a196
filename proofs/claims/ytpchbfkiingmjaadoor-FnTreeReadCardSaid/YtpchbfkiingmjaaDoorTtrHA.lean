/- A part of the pure law of FnTreeRead, over the printed functions: what they answer. No condition but those of each theorem. -/
import Derived.Test.YtpchbfkiingmjaaDoorSxD
import Derived.Test.YtpchbfkiingmjaaDoorSxD
import Derived.Test.YtpchbfkiingmjaaDoorTtrG
namespace Go.Sx.Tryd
open Go Go.Proofs Go.Sx
set_option linter.unusedVariables false
set_option linter.unusedSimpArgs false

theorem w64_succ {i : Nat} (h : i < 1000000000000) : w64 ((i : Int) + 1) = ((i + 1 : Nat) : Int) := by
  rw [show ((i : Int) + 1) = ((i + 1 : Nat) : Int) by omega]
  exact w64_ok (by omega) (by omega)

def nameC (b : UInt8) : Bool := (decide (97 ≤ b.toNat) && decide (b.toNat ≤ 122)) || (decide (48 ≤ b.toNat) && decide (b.toNat ≤ 57))
def lineC (b : UInt8) : Bool := decide (32 ≤ b.toNat) && decide (b.toNat ≤ 126)
def nameB (l : List UInt8) : Bool := l.all nameC && (decide (1 ≤ l.length) && decide (l.length ≤ 6))
def lineB (l : List UInt8) : Bool := l.all lineC && decide (l.length ≤ 12)
def textB (xs : List ByteArray) : Bool := decide (xs.length ≤ 10) && xs.all fun s => lineB (bL s)

theorem drop_at {α : Type} {l : List α} {i : Nat} (h : i < l.length) (z : α) : l.drop i = l.getD i z :: l.drop (i + 1) := by
  rw [List.drop_eq_getElem_cons h, List.getD_eq_getElem?_getD, List.getElem?_eq_getElem h]; rfl

theorem l1In_v (m : Nat) (a b c : Int) : spec_l1In m (a, b, c, ()) = some ((decide (a ≥ b) && decide (a ≤ c)), ()) := by
  show spec_l1In.start m () a b c = _
  unfold spec_l1In.start
  by_cases h : a ≥ b
  · rw [decide_eq_true h]; rfl
  · rw [decide_eq_false h]; rfl
theorem within_v (m : Nat) (a b c : Int) : impl_within m (a, b, c, ()) = some ((decide (a ≥ b) && decide (a ≤ c)), ()) := by
  show impl_within.start m () a b c = _
  unfold impl_within.start
  by_cases h : a ≥ b
  · rw [decide_eq_true h]; rfl
  · rw [decide_eq_false h]; rfl

theorem len_b (l : List UInt8) (s : ByteArray) (h : bL s = l) : (decide (sLen s ≥ 1) && decide (sLen s ≤ 6)) = (decide (1 ≤ l.length) && decide (l.length ≤ 6)) := by
  have := bL_len s
  rw [h] at this
  unfold sLen
  congr 1
  · simp only [decide_eq_decide]; omega
  · simp only [decide_eq_decide]; omega

theorem spec_name_loop (m : Nat) (s : ByteArray) (hs : s.size < 1000000000) : ∀ (d k i : Nat), i + d = s.size →
    (spec_l4Name.tab m (k + 2 * d + 1)).1 (s, (i : Int), ()) = some (((bL s).drop i).all nameC && (decide (1 ≤ (bL s).length) && decide ((bL s).length ≤ 6)), ())
  | 0, k, i, h => by
    show spec_l4Name.b0 m (spec_l4Name.tab m k) s (i : Int) = _
    unfold spec_l4Name.b0
    rw [decide_eq_false (show ¬ (i : Int) < sLen s by simp only [sLen]; omega), l1In_v]
    have hl := bL_len s
    rw [List.drop_eq_nil_of_le (by omega)]
    simp only [cond, Option.bind_some, List.all_nil, Bool.true_and]
    rw [len_b _ s rfl]
  | d + 1, k, i, h => by
    have hl := bL_len s
    have ih := spec_name_loop m s hs d k (i + 1) (by omega)
    have hn : ∀ b, (spec_l4Name.tab m (k + 2 * d + 1 + 1)).2.1 (s, (i : Int), b, ()) = cond b (some (false, ())) (some (((bL s).drop (i + 1)).all nameC && (decide (1 ≤ (bL s).length) && decide ((bL s).length ≤ 6)), ())) := by
      intro b
      show spec_l4Name.b1 m (spec_l4Name.tab m (k + 2 * d + 1)) s (i : Int) b = _
      unfold spec_l4Name.b1
      rw [w64_succ (by omega), ih]
    show spec_l4Name.b0 m (spec_l4Name.tab m (k + 2 * d + 1 + 1)) s (i : Int) = _
    have hi : decide ((i : Int) < sLen s) = true := decide_eq_true (by simp only [sLen]; omega)
    have h0 : decide ((0 : Int) ≤ (i : Int)) = true := decide_eq_true (by omega)
    unfold spec_l4Name.b0
    rw [hi, h0, byteAt_bL, Int.toNat_natCast, drop_at (i := i) (by omega) 0]
    simp only [cond, hn, List.all_cons]
    generalize (bL s).getD i 0 = b
    have e : nameC b = ((decide (97 ≤ b.toNat) && decide (b.toNat ≤ 122)) || (decide (48 ≤ b.toNat) && decide (b.toNat ≤ 57))) := rfl
    rw [e]
    by_cases h1 : b.toNat < 97
    · rw [decide_eq_true (show ((b.toNat : Nat) : Int) < 97 by omega), decide_eq_false (show ¬ 97 ≤ b.toNat by omega)]
      by_cases h2 : b.toNat < 48
      · rw [decide_eq_true (show ((b.toNat : Nat) : Int) < 48 by omega), decide_eq_false (show ¬ 48 ≤ b.toNat by omega)]
        simp
      · rw [decide_eq_false (show ¬ ((b.toNat : Nat) : Int) < 48 by omega), decide_eq_true (show 48 ≤ b.toNat by omega)]
        by_cases h3 : b.toNat ≤ 57
        · rw [decide_eq_false (show ¬ ((b.toNat : Nat) : Int) > 57 by omega), decide_eq_true h3]; simp
        · rw [decide_eq_true (show ((b.toNat : Nat) : Int) > 57 by omega), decide_eq_false h3]; simp
    · rw [decide_eq_false (show ¬ ((b.toNat : Nat) : Int) < 97 by omega), decide_eq_true (show 97 ≤ b.toNat by omega)]
      by_cases h2 : b.toNat ≤ 122
      · rw [decide_eq_false (show ¬ ((b.toNat : Nat) : Int) > 122 by omega), decide_eq_true h2]; simp
      · rw [decide_eq_true (show ((b.toNat : Nat) : Int) > 122 by omega), decide_eq_false h2, decide_eq_false (show ¬ ((b.toNat : Nat) : Int) < 48 by omega), decide_eq_true (show ((b.toNat : Nat) : Int) > 57 by omega), decide_eq_false (show ¬ b.toNat ≤ 57 by omega)]
        simp

theorem spec_name_v (m : Nat) (s : ByteArray) (hs : s.size < 1000000000) (hm : 2 * s.size + 1 ≤ m) : spec_l4Name m (s, ()) = some (nameB (bL s), ()) := by
  have := spec_name_loop m s hs s.size (m - (2 * s.size + 1)) 0 (by omega)
  rw [show m - (2 * s.size + 1) + 2 * s.size + 1 = m by omega] at this
  exact this

theorem isName_v (m : Nat) (b : UInt8) : impl_isNameByte m (((b.toNat : Nat) : Int), ()) = some (nameC b, ()) := by
  show impl_isNameByte.start m () ((b.toNat : Nat) : Int) = _
  unfold impl_isNameByte.start nameC
  by_cases h1 : 97 ≤ b.toNat
  · rw [decide_eq_true (show ((b.toNat : Nat) : Int) ≥ 97 by omega), decide_eq_true h1, decide_eq_true (show ((b.toNat : Nat) : Int) ≥ 48 by omega), decide_eq_true (show 48 ≤ b.toNat by omega)]
    by_cases h2 : b.toNat ≤ 122
    · rw [decide_eq_true (show ((b.toNat : Nat) : Int) ≤ 122 by omega), decide_eq_true h2]; simp
    · rw [decide_eq_false (show ¬ ((b.toNat : Nat) : Int) ≤ 122 by omega), decide_eq_false h2, decide_eq_false (show ¬ ((b.toNat : Nat) : Int) ≤ 57 by omega), decide_eq_false (show ¬ b.toNat ≤ 57 by omega)]; simp
  · rw [decide_eq_false (show ¬ ((b.toNat : Nat) : Int) ≥ 97 by omega), decide_eq_false h1]
    by_cases h2 : 48 ≤ b.toNat
    · rw [decide_eq_true (show ((b.toNat : Nat) : Int) ≥ 48 by omega), decide_eq_true h2]
      by_cases h3 : b.toNat ≤ 57
      · rw [decide_eq_true (show ((b.toNat : Nat) : Int) ≤ 57 by omega), decide_eq_true h3]; simp
      · rw [decide_eq_false (show ¬ ((b.toNat : Nat) : Int) ≤ 57 by omega), decide_eq_false h3]; simp
    · rw [decide_eq_false (show ¬ ((b.toNat : Nat) : Int) ≥ 48 by omega), decide_eq_false h2]; simp

theorem impl_name_loop (m : Nat) (s : ByteArray) (hs : s.size < 1000000000) : ∀ (d k i : Nat), i + d = s.size →
    (impl_nameOk.tab m (k + d + 1)).1 (s, sLen s, (i : Int), ()) = some (((bL s).drop i).all nameC && (decide (1 ≤ (bL s).length) && decide ((bL s).length ≤ 6)), ())
  | 0, k, i, h => by
    show impl_nameOk.b0 m (impl_nameOk.tab m k) s (sLen s) (i : Int) = _
    unfold impl_nameOk.b0
    rw [decide_eq_false (show ¬ (i : Int) < sLen s by simp only [sLen]; omega), within_v]
    have hl := bL_len s
    rw [List.drop_eq_nil_of_le (by omega)]
    simp only [cond, Option.bind_some, List.all_nil, Bool.true_and]
    rw [len_b _ s rfl]
  | d + 1, k, i, h => by
    have hl := bL_len s
    have ih := impl_name_loop m s hs d k (i + 1) (by omega)
    show impl_nameOk.b0 m (impl_nameOk.tab m (k + d + 1)) s (sLen s) (i : Int) = _
    unfold impl_nameOk.b0
    rw [decide_eq_true (show (i : Int) < sLen s by simp only [sLen]; omega), decide_eq_true (show (0 : Int) ≤ (i : Int) by omega), byteAt_bL, Int.toNat_natCast, drop_at (i := i) (by omega) 0, isName_v]
    simp only [cond, Option.bind_some, List.all_cons]
    rw [w64_succ (by omega), ih]
    cases nameC ((bL s).getD i 0) <;> simp

theorem impl_name_v (m : Nat) (s : ByteArray) (hs : s.size < 1000000000) (hm : s.size + 1 ≤ m) : impl_nameOk m (s, ()) = some (nameB (bL s), ()) := by
  have := impl_name_loop m s hs s.size (m - (s.size + 1)) 0 (by omega)
  rw [show m - (s.size + 1) + s.size + 1 = m by omega] at this
  exact this

theorem spec_line_loop (m : Nat) (s : ByteArray) (hs : s.size < 1000000000) : ∀ (d k i : Nat), i + d = s.size →
    (spec_l1Line.tab m (k + d + 1)).1 (s, (i : Int), ()) = some (((bL s).drop i).all lineC && decide ((bL s).length ≤ 12), ())
  | 0, k, i, h => by
    show spec_l1Line.b0 m (spec_l1Line.tab m k) s (i : Int) = _
    unfold spec_l1Line.b0
    rw [decide_eq_false (show ¬ (i : Int) < sLen s by simp only [sLen]; omega)]
    have hl := bL_len s
    rw [List.drop_eq_nil_of_le (by omega)]
    simp only [cond, List.all_nil, Bool.true_and, sLen]
    rw [show decide ((s.size : Int) ≤ 12) = decide ((bL s).length ≤ 12) by simp only [decide_eq_decide]; omega]
  | d + 1, k, i, h => by
    have hl := bL_len s
    have ih := spec_line_loop m s hs d k (i + 1) (by omega)
    show spec_l1Line.b0 m (spec_l1Line.tab m (k + d + 1)) s (i : Int) = _
    unfold spec_l1Line.b0
    rw [decide_eq_true (show (i : Int) < sLen s by simp only [sLen]; omega), decide_eq_true (show (0 : Int) ≤ (i : Int) by omega), byteAt_bL, Int.toNat_natCast, drop_at (i := i) (by omega) 0]
    simp only [cond, List.all_cons]
    rw [w64_succ (by omega), ih]
    generalize (bL s).getD i 0 = b
    rw [show lineC b = (decide (32 ≤ b.toNat) && decide (b.toNat ≤ 126)) from rfl]
    by_cases h1 : 32 ≤ b.toNat
    · rw [decide_eq_false (show ¬ ((b.toNat : Nat) : Int) < 32 by omega), decide_eq_true h1]
      by_cases h2 : b.toNat ≤ 126
      · rw [decide_eq_false (show ¬ ((b.toNat : Nat) : Int) > 126 by omega), decide_eq_true h2]; simp
      · rw [decide_eq_true (show ((b.toNat : Nat) : Int) > 126 by omega), decide_eq_false h2]; simp
    · rw [decide_eq_true (show ((b.toNat : Nat) : Int) < 32 by omega), decide_eq_false h1]; simp

theorem spec_line_v (m : Nat) (s : ByteArray) (hs : s.size < 1000000000) (hm : s.size + 1 ≤ m) : spec_l1Line m (s, ()) = some (lineB (bL s), ()) := by
  have := spec_line_loop m s hs s.size (m - (s.size + 1)) 0 (by omega)
  rw [show m - (s.size + 1) + s.size + 1 = m by omega] at this
  exact this

theorem impl_line_loop (m : Nat) (s : ByteArray) (hs : s.size < 1000000000) : ∀ (d k i : Nat), i + d = s.size →
    (impl_lineOk.tab m (k + d + 1)).1 (s, sLen s, (i : Int), ()) = some (((bL s).drop i).all lineC && decide ((bL s).length ≤ 12), ())
  | 0, k, i, h => by
    show impl_lineOk.b0 m (impl_lineOk.tab m k) s (sLen s) (i : Int) = _
    unfold impl_lineOk.b0
    rw [decide_eq_false (show ¬ (i : Int) < sLen s by simp only [sLen]; omega)]
    have hl := bL_len s
    rw [List.drop_eq_nil_of_le (by omega)]
    simp only [cond, List.all_nil, Bool.true_and, sLen]
    rw [show decide ((s.size : Int) ≤ 12) = decide ((bL s).length ≤ 12) by simp only [decide_eq_decide]; omega]
  | d + 1, k, i, h => by
    have hl := bL_len s
    have ih := impl_line_loop m s hs d k (i + 1) (by omega)
    show impl_lineOk.b0 m (impl_lineOk.tab m (k + d + 1)) s (sLen s) (i : Int) = _
    unfold impl_lineOk.b0
    rw [decide_eq_true (show (i : Int) < sLen s by simp only [sLen]; omega), decide_eq_true (show (0 : Int) ≤ (i : Int) by omega), byteAt_bL, Int.toNat_natCast, drop_at (i := i) (by omega) 0]
    simp only [cond, List.all_cons]
    rw [w64_succ (by omega), ih]
    generalize (bL s).getD i 0 = b
    rw [show lineC b = (decide (32 ≤ b.toNat) && decide (b.toNat ≤ 126)) from rfl]
    by_cases h1 : 32 ≤ b.toNat
    · rw [decide_eq_false (show ¬ ((b.toNat : Nat) : Int) < 32 by omega), decide_eq_true h1]
      by_cases h2 : b.toNat ≤ 126
      · rw [decide_eq_false (show ¬ ((b.toNat : Nat) : Int) > 126 by omega), decide_eq_true h2]; simp
      · rw [decide_eq_true (show ((b.toNat : Nat) : Int) > 126 by omega), decide_eq_false h2]; simp
    · rw [decide_eq_true (show ((b.toNat : Nat) : Int) < 32 by omega), decide_eq_false h1]; simp

theorem impl_line_v (m : Nat) (s : ByteArray) (hs : s.size < 1000000000) (hm : s.size + 1 ≤ m) : impl_lineOk m (s, ()) = some (lineB (bL s), ()) := by
  have := impl_line_loop m s hs s.size (m - (s.size + 1)) 0 (by omega)
  rw [show m - (s.size + 1) + s.size + 1 = m by omega] at this
  exact this

/-- all strings are short, and they are few -/
def Shorts (D : Nat) (xs : List ByteArray) : Prop := xs.length < D ∧ ∀ s ∈ xs, s.size < D
theorem Shorts.get {D : Nat} {xs : List ByteArray} (h : Shorts D xs) {i : Nat} (hi : i < xs.length) : (xs.getD i ByteArray.empty).size < D := by
  rw [List.getD_eq_getElem?_getD, List.getElem?_eq_getElem hi]
  exact h.2 _ (List.getElem_mem hi)

theorem spec_text_loop (m : Nat) (xs : List ByteArray) (hx : Shorts 10000000 xs) (hm : 10000000 ≤ m) : ∀ (d k i : Nat), i + d = xs.length →
    (spec_l1Ok.tab m (k + d + 1)).1 (xs, (i : Int), ()) = some ((xs.drop i).all (fun s => lineB (bL s)) && decide (xs.length ≤ 10), ())
  | 0, k, i, h => by
    show spec_l1Ok.b0 m (spec_l1Ok.tab m k) xs (i : Int) = _
    unfold spec_l1Ok.b0
    rw [decide_eq_false (show ¬ (i : Int) < lLen xs by simp only [lLen]; omega), List.drop_eq_nil_of_le (by omega)]
    simp only [cond, List.all_nil, Bool.true_and, lLen]
    rw [show decide ((xs.length : Int) ≤ 10) = decide (xs.length ≤ 10) by simp only [decide_eq_decide]; omega]
  | d + 1, k, i, h => by
    have ih := spec_text_loop m xs hx hm d k (i + 1) (by omega)
    have hl := hx.1
    show spec_l1Ok.b0 m (spec_l1Ok.tab m (k + d + 1)) xs (i : Int) = _
    unfold spec_l1Ok.b0
    have hg := hx.get (i := i) (by omega)
    rw [decide_eq_true (show (i : Int) < lLen xs by simp only [lLen]; omega), decide_eq_true (show (0 : Int) ≤ (i : Int) by omega), drop_at (l := xs) (i := i) (by omega) ByteArray.empty,
      show getL xs (i : Int) ByteArray.empty = xs.getD i ByteArray.empty from rfl, spec_line_v m _ (by omega) (by omega)]
    simp only [cond, Option.bind_some, List.all_cons]
    rw [w64_succ (by omega), ih]
    cases lineB (bL (xs.getD i ByteArray.empty)) <;> simp

theorem spec_text_v (m : Nat) (xs : List ByteArray) (hx : Shorts 10000000 xs) (hm : 10000000 ≤ m) : spec_l1Ok m (xs, ()) = some (textB xs, ()) := by
  have hl := hx.1
  have := spec_text_loop m xs hx hm xs.length (m - (xs.length + 1)) 0 (by omega)
  rw [show m - (xs.length + 1) + xs.length + 1 = m by omega] at this
  show (spec_l1Ok.tab m m).1 (xs, ((0 : Nat) : Int), ()) = _
  rw [this]
  unfold textB
  rw [List.drop_zero, Bool.and_comm]

theorem impl_text1_loop (m : Nat) (xs : List ByteArray) (hx : Shorts 10000000 xs) (hm : 10000000 ≤ m) : ∀ (d k i : Nat), i + d = xs.length →
    ∃ v : Int, (slices_IndexFunc_string_of_impl_TextOk_1.tab m (k + d + 1)).1 (xs, lLen xs, (i : Int), ()) = some (v, ()) ∧ decide (v ≥ 0) = !((xs.drop i).all (fun s => lineB (bL s)))
  | 0, k, i, h => by
    refine ⟨-1, ?_, ?_⟩
    · show slices_IndexFunc_string_of_impl_TextOk_1.b0 m (slices_IndexFunc_string_of_impl_TextOk_1.tab m k) xs (lLen xs) (i : Int) = _
      unfold slices_IndexFunc_string_of_impl_TextOk_1.b0
      rw [decide_eq_false (show ¬ (i : Int) < lLen xs by simp only [lLen]; omega)]
      rfl
    · rw [List.drop_eq_nil_of_le (by omega)]; rfl
  | d + 1, k, i, h => by
    obtain ⟨v, ih, hv⟩ := impl_text1_loop m xs hx hm d k (i + 1) (by omega)
    have hl := hx.1
    have hg := hx.get (i := i) (by omega)
    have hs : (slices_IndexFunc_string_of_impl_TextOk_1.tab m (k + (d + 1) + 1)).1 (xs, lLen xs, (i : Int), ()) = cond (!lineB (bL (xs.getD i ByteArray.empty))) (some ((i : Int), ())) (some (v, ())) := by
      show slices_IndexFunc_string_of_impl_TextOk_1.b0 m (slices_IndexFunc_string_of_impl_TextOk_1.tab m (k + d + 1)) xs (lLen xs) (i : Int) = _
      unfold slices_IndexFunc_string_of_impl_TextOk_1.b0
      rw [decide_eq_true (show (i : Int) < lLen xs by simp only [lLen]; omega), decide_eq_true (show (0 : Int) ≤ (i : Int) by omega),
        show getL xs (i : Int) ByteArray.empty = xs.getD i ByteArray.empty from rfl]
      rw [show impl_TextOk_1 m (xs.getD i ByteArray.empty, ()) = some (!lineB (bL (xs.getD i ByteArray.empty)), ()) from by
        show Option.bind (impl_lineOk m (xs.getD i ByteArray.empty, ())) _ = _
        rw [impl_line_v m _ (by omega) (by omega)]; rfl]
      simp only [cond, Option.bind_some]
      rw [w64_succ (by omega), ih]
    rw [hs, drop_at (l := xs) (i := i) (by omega) ByteArray.empty]
    simp only [List.all_cons]
    cases lineB (bL (xs.getD i ByteArray.empty)) with
    | true => exact ⟨v, rfl, by rw [hv]; simp⟩
    | false => exact ⟨(i : Int), rfl, by simp⟩

theorem impl_text_v (m : Nat) (xs : List ByteArray) (hx : Shorts 10000000 xs) (hm : 10000000 ≤ m) : impl_TextOk m (xs, ()) = some (textB xs, ()) := by
  have hl := hx.1
  show impl_TextOk.start m _ xs = _
  unfold impl_TextOk.start textB
  rw [show decide (lLen xs ≤ 10) = decide (xs.length ≤ 10) by simp only [lLen, decide_eq_decide]; omega]
  obtain ⟨v, h, hv⟩ := impl_text1_loop m xs hx hm xs.length (m - (xs.length + 1)) 0 (by omega)
  rw [show m - (xs.length + 1) + xs.length + 1 = m by omega] at h
  rw [show slices_ContainsFunc_string_of_impl_TextOk_1 m (xs, ()) = some (decide (v ≥ 0), ()) from by
    show Option.bind (slices_IndexFunc_string_of_impl_TextOk_1 m (xs, ())) _ = _
    rw [show slices_IndexFunc_string_of_impl_TextOk_1 m (xs, ()) = some (v, ()) from h]; rfl]
  rw [hv, List.drop_zero]
  cases decide (xs.length ≤ 10) <;> simp
end Go.Sx.Tryd
