/- A part of the pure law of FnExactRepoPut, over the printed functions: what they answer. No condition but those of each theorem. -/
import Derived.Test.YtafchokjmboemaaGreatDoorRptHD
import Derived.Test.YtafchokjmboemaaGreatDoorSxD
namespace Go.Sx.Tryz
open Go Go.Proofs Go.Sx
set_option linter.unusedVariables false
set_option linter.unusedSimpArgs false

/-! ### Loops of one shape -/
theorem set_getD_take {S : Type} {n N : Nat} (es : List S) (hes : es.length = n) (hN : n ≤ N) (fill : S) {ys : List S} {i : Nat} (hy : ys.length = N) (hi : i < n) (ht : ys.take i = es.take i) : (ys.set i (es.getD i fill)).take (i + 1) = es.take (i + 1) := by
  rw [set_take (by omega), ht, List.take_add_one, List.getD_eq_getElem?_getD, List.getElem?_eq_getElem (show i < es.length by omega)]
  rfl

theorem fill_gen {S R : Type} (n N : Nat) (pre : List S) (fill : S) (B : Nat → List S → Nat → Option R) (fin : List S → R)
    (hB : ∀ k ys i, ys.length = N → n ≤ i → i < N → B (k + 1) ys i = B k (ys.set i fill) (i + 1)) (hB' : ∀ k ys, ys.length = N → B (k + 1) ys N = some (fin ys)) :
    ∀ (d k i : Nat) (ys : List S), i + d = N → ys.length = N → n ≤ i → ys.take i = pre ++ List.replicate (i - n) fill → pre.length = n → B (k + d + 1) ys i = some (fin (pre ++ List.replicate (N - n) fill))
  | 0, k, i, ys, h, hy, hi, ht, hp => by
    obtain rfl : i = N := by omega
    rw [Nat.add_zero, hB' k ys hy, ← ht, List.take_of_length_le (by omega)]
  | d + 1, k, i, ys, h, hy, hi, ht, hp => by
    rw [show k + (d + 1) + 1 = (k + d + 1) + 1 by omega, hB _ ys i hy hi (by omega)]
    refine fill_gen n N pre fill B fin hB hB' d k (i + 1) (ys.set i fill) (by omega) (by rw [List.length_set]; exact hy) (by omega) ?_ hp
    rw [set_take (by omega), ht, show i + 1 - n = (i - n) + 1 by omega, List.replicate_succ', List.append_assoc]

theorem copy_gen {S R : Type} (n N : Nat) (hN : n ≤ N) (es : List S) (hes : es.length = n) (fill : S) (A B : Nat → List S → Nat → Option R) (fin : List S → R)
    (hA : ∀ k ys i, ys.length = N → i < n → A (k + 1) ys i = A k (ys.set i (es.getD i fill)) (i + 1)) (hA' : ∀ k ys, ys.length = N → A (k + 1) ys n = B k ys n)
    (hB : ∀ k ys i, ys.length = N → n ≤ i → i < N → B (k + 1) ys i = B k (ys.set i fill) (i + 1)) (hB' : ∀ k ys, ys.length = N → B (k + 1) ys N = some (fin ys)) :
    ∀ (d k i : Nat) (ys : List S), i + d = n → ys.length = N → ys.take i = es.take i → A (k + d + (N - n) + 2) ys i = some (fin (es ++ List.replicate (N - n) fill))
  | 0, k, i, ys, h, hy, ht => by
    obtain rfl : i = n := by omega
    rw [show k + 0 + (N - i) + 2 = (k + (N - i) + 1) + 1 by omega, hA' _ ys hy]
    exact fill_gen i N es fill B fin hB hB' (N - i) k i ys (by omega) hy (Nat.le_refl _) (by rw [ht, Nat.sub_self, List.replicate_zero, List.append_nil, List.take_of_length_le (by omega)]) hes
  | d + 1, k, i, ys, h, hy, ht => by
    rw [show k + (d + 1) + (N - n) + 2 = (k + d + (N - n) + 2) + 1 by omega, hA _ ys i hy (by omega)]
    exact copy_gen n N hN es hes fill A B fin hA hA' hB hB' d k (i + 1) _ (by omega) (by rw [List.length_set]; exact hy) (set_getD_take es hes hN fill hy (by omega) ht)

theorem all_gen {R : Type} (n : Nat) (A : Nat → Nat → Option R) (r : R) (hA : ∀ k i, i < n → A (k + 1) i = A k (i + 1)) (hA' : ∀ k, A (k + 1) n = some r) : ∀ (d k i : Nat), i + d = n → A (k + d + 1) i = some r
  | 0, k, i, h => by
    obtain rfl : i = n := by omega
    exact hA' k
  | d + 1, k, i, h => by
    rw [show k + (d + 1) + 1 = (k + d + 1) + 1 by omega, hA _ i (by omega)]
    exact all_gen n A r hA hA' d k (i + 1) (by omega)

theorem sz_gen {R : Type} (n : Nat) (A : Nat → Int → Nat → Option R) (mk : Int → R) (Q : Nat → Int → Prop)
    (hA : ∀ k left i, i < n → 0 ≤ left → left ≤ 1000000 → ∃ v : Int, v ≤ left ∧ A (k + 1) left i = cond (decide (v < 0)) (some (mk (-1))) (A k v (i + 1)) ∧ (0 ≤ v → Q i left))
    (hA' : ∀ k left, A (k + 1) left n = some (mk left)) : ∀ (d k i : Nat) (left : Int), i + d = n → 0 ≤ left → left ≤ 1000000 →
      ∃ v : Int, A (k + d + 1) left i = some (mk v) ∧ v ≤ left ∧ (0 ≤ v → ∀ j, i ≤ j → j < n → ∃ l : Int, l ≤ left ∧ Q j l)
  | 0, k, i, left, h, l0, l1 => by
    obtain rfl : i = n := by omega
    exact ⟨left, hA' k left, Int.le_refl _, fun _ j h1 h2 => by omega⟩
  | d + 1, k, i, left, h, l0, l1 => by
    obtain ⟨v, h1, h2, h3⟩ := hA (k + d + 1) left i (by omega) l0 l1
    rw [show k + (d + 1) + 1 = (k + d + 1) + 1 by omega, h2]
    by_cases hv : v < 0
    · rw [decide_eq_true hv]
      exact ⟨-1, rfl, by omega, fun h => by omega⟩
    · rw [decide_eq_false hv]
      obtain ⟨u, g1, g2, g3⟩ := sz_gen n A mk Q hA hA' d k (i + 1) v (by omega) (by omega) (by omega)
      refine ⟨u, g1, by omega, fun hu j hj hjn => ?_⟩
      rcases Nat.eq_or_lt_of_le hj with e | e
      · subst e; exact ⟨left, Int.le_refl _, h3 (by omega)⟩
      · obtain ⟨l, g4, g5⟩ := g3 hu j e hjn
        exact ⟨l, by omega, g5⟩

theorem w64_room {n : Nat} (h : n < 10000000) : w64 ((n : Int) + (room n : Int)) = ((n + room n : Nat) : Int) := by
  have := room_le n
  rw [show (n : Int) + (room n : Int) = ((n + room n : Nat) : Int) by omega]
  exact w64_ok (by omega) (by omega)

/-! ### Whole numbers -/
abbrev bigI : Int := -7000000000000000101
theorem sz_ints (m : Nat) (xs : List Int) (hl : xs.length ≤ cap) (left : Int) (l0 : 0 ≤ left) (l1 : left ≤ 1000000) :
    ∃ v : Int, laws_szIntS m ((xs, xs.length), left, ()) = some (v, ()) ∧ v ≤ left ∧ (0 ≤ v → (xs.length : Int) ≤ left) := by
  show ∃ v : Int, laws_szIntS.start m _ (xs, xs.length) left = some (v, ()) ∧ _
  unfold laws_szIntS.start
  simp only [lett]
  rw [show w64 (left - (((xs, xs.length) : List Int × Nat).2 : Int)) = left - xs.length from w64_sub l0 l1 hl]
  by_cases h : left - (xs.length : Int) < 0
  · rw [decide_eq_true h]; exact ⟨-1, rfl, by omega, fun h => by omega⟩
  · rw [decide_eq_false h]; exact ⟨_, rfl, by omega, fun h => by omega⟩

theorem to_ints (m : Nat) (hm : 1000000000 ≤ m) (xs : List Int) (hx : xs.length < 10000000) (bare : Bool) :
    ∃ ys, laws_toIntS m ((xs, xs.length), bare, ()) = some ((ys, xs.length), ()) ∧ ys.take xs.length = xs ∧ (bare = false → ys.length = xs.length + room xs.length) := by
  have hr := room_le xs.length
  obtain ⟨q, hq⟩ : ∃ q, m = q + 1 := ⟨m - 1, by omega⟩
  have hmain : (laws_toIntS.tab m m).2.2.1 ((xs, xs.length), ()) = some ((xs ++ List.replicate (room xs.length) bigI, xs.length), ()) := by
    have h := copy_gen xs.length (xs.length + room xs.length) (by omega) xs rfl bigI (fun k ys i => (laws_toIntS.tab m k).1 (ys, (xs, xs.length), (i : Int), ())) (fun k ys i => (laws_toIntS.tab m k).2.1 (ys, (xs, xs.length), (i : Int), ()))
      (fun ys => ((ys, xs.length), ()))
      (fun k ys i hy hi => by
        show laws_toIntS.b0 m (laws_toIntS.tab m k) ys (xs, xs.length) (i : Int) = _
        unfold laws_toIntS.b0
        rw [decide_eq_true (show (i : Int) < (((xs, xs.length) : List Int × Nat).2 : Int) by show (i : Int) < (xs.length : Int); omega), decide_eq_true (show (0 : Int) ≤ (i : Int) by omega), decide_eq_true (show (i : Int) < lLen ys by simp only [lLen]; omega), w64_succ (by omega)]
        show (laws_toIntS.tab m k).1 (ys.set i (xs.getD i 0), (xs, xs.length), ((i + 1 : Nat) : Int), ()) = (laws_toIntS.tab m k).1 (ys.set i (xs.getD i bigI), (xs, xs.length), ((i + 1 : Nat) : Int), ())
        rw [List.getD_eq_getElem?_getD, List.getD_eq_getElem?_getD, List.getElem?_eq_getElem hi]
        rfl)
      (fun k ys hy => by
        show laws_toIntS.b0 m (laws_toIntS.tab m k) ys (xs, xs.length) (xs.length : Int) = _
        unfold laws_toIntS.b0
        rw [decide_eq_false (show ¬ (xs.length : Int) < (((xs, xs.length) : List Int × Nat).2 : Int) by show ¬ (xs.length : Int) < (xs.length : Int); omega)]
        rfl)
      (fun k ys i hy hi hi2 => by
        show laws_toIntS.b1 m (laws_toIntS.tab m k) ys (xs, xs.length) (i : Int) = _
        unfold laws_toIntS.b1
        rw [decide_eq_true (show (i : Int) < lLen ys by simp only [lLen]; omega), decide_eq_true (show (0 : Int) ≤ (i : Int) by omega), w64_succ (by omega)]
        rfl)
      (fun k ys hy => by
        show laws_toIntS.b1 m (laws_toIntS.tab m k) ys (xs, xs.length) ((xs.length + room xs.length : Nat) : Int) = _
        unfold laws_toIntS.b1
        rw [decide_eq_false (show ¬ ((xs.length + room xs.length : Nat) : Int) < lLen ys by simp only [lLen]; omega), decide_eq_true (show (0 : Int) ≤ (((xs, xs.length) : List Int × Nat).2 : Int) by show (0 : Int) ≤ (xs.length : Int); omega),
          decide_eq_true (show (((xs, xs.length) : List Int × Nat).2 : Int) ≤ ((List.length ys) : Int) by show (xs.length : Int) ≤ (ys.length : Int); omega)]
        rfl)
      xs.length (q - (xs.length + room xs.length + 2)) 0 (List.replicate (xs.length + room xs.length) 0) (by omega) (by simp) (by simp)
    rw [show q - (xs.length + room xs.length + 2) + xs.length + (xs.length + room xs.length - xs.length) + 2 = q by omega, Nat.add_sub_cancel_left] at h
    rw [show laws_toIntS.tab m m = laws_toIntS.tab m (q + 1) by rw [← hq]]
    show laws_toIntS.b2 m (laws_toIntS.tab m q) (xs, xs.length) = _
    unfold laws_toIntS.b2
    rw [show laws_roomBehind m ((((xs, xs.length) : List Int × Nat).2 : Int), ()) = some ((room xs.length : Int), ()) from room_v m xs.length]
    simp only [Option.bind_some]
    rw [show w64 ((((xs, xs.length) : List Int × Nat).2 : Int) + (room xs.length : Int)) = ((xs.length + room xs.length : Nat) : Int) from w64_room hx]
    rw [decide_eq_true (show (0 : Int) ≤ ((xs.length + room xs.length : Nat) : Int) by omega), Int.toNat_natCast, decide_eq_true (show xs.length + room xs.length ≤ apCap by show xs.length + room xs.length ≤ 1073741824; omega)]
    exact h
  have hgood : (xs ++ List.replicate (room xs.length) bigI).take xs.length = xs := List.take_left' rfl
  show ∃ ys, laws_toIntS.start m (laws_toIntS.tab m m) (xs, xs.length) bare = some ((ys, xs.length), ()) ∧ _
  unfold laws_toIntS.start
  cases bare with
  | false => exact ⟨_, hmain, hgood, fun _ => by simp⟩
  | true =>
    by_cases h0 : xs.length = 0
    · rw [show ((((xs, xs.length) : List Int × Nat).2 : Int) == 0) = true from by show ((xs.length : Int) == 0) = true; rw [h0]; rfl]
      refine ⟨[], by rw [h0]; rfl, ?_, fun h => by cases h⟩
      rw [List.eq_nil_of_length_eq_zero h0]; rfl
    · rw [show ((((xs, xs.length) : List Int × Nat).2 : Int) == 0) = false from by show ((xs.length : Int) == 0) = false; rw [beq_eq_false_iff_ne]; omega]
      exact ⟨_, hmain, hgood, fun h => by cases h⟩

theorem eq_ints (m : Nat) (hm : 1000000000 ≤ m) (x : List Int × Nat) (hx : x.2 < 100000000) : laws_eqIntS m (x, x, ()) = some (true, ()) := by
  have h := all_gen x.2 (fun k i => (laws_eqIntS.tab m k).1 (x, x, (i : Int), ())) (true, ())
    (fun k i hi => by
      show laws_eqIntS.b0 m (laws_eqIntS.tab m k) x x (i : Int) = _
      unfold laws_eqIntS.b0
      rw [decide_eq_true (show (i : Int) < (x.2 : Int) by omega), decide_eq_true (show (0 : Int) ≤ (i : Int) by omega), show (getL x.1 (i : Int) (0 : Int) != getL x.1 (i : Int) (0 : Int)) = false by simp, w64_succ (by omega)]
      rfl)
    (fun k => by
      show laws_eqIntS.b0 m (laws_eqIntS.tab m k) x x (x.2 : Int) = _
      unfold laws_eqIntS.b0
      rw [decide_eq_false (show ¬ (x.2 : Int) < (x.2 : Int) by omega)]
      rfl) x.2 (m - (x.2 + 1)) 0 (by omega)
  rw [show m - (x.2 + 1) + x.2 + 1 = m by omega] at h
  show laws_eqIntS.start m (laws_eqIntS.tab m m) x x = _
  unfold laws_eqIntS.start
  rw [show ((x.2 : Int) != (x.2 : Int)) = false by simp]
  exact h

theorem intact_ints (m : Nat) (hm : 1000000000 ≤ m) (x : List Int × Nat) (h1 : x.1.length = x.2 + room x.2) (hx : x.2 < 10000000) : laws_intactIntS m (x, x, ()) = some (true, ()) := by
  have hr := room_le x.2
  show laws_intactIntS.start m _ x x = _
  unfold laws_intactIntS.start
  rw [room_v]
  simp only [Option.bind_some]
  rw [w64_room hx, show ((x.2 : Int) == (x.2 : Int)) = true by simp, decide_eq_true (show (0 : Int) ≤ ((x.2 + room x.2 : Nat) : Int) by omega), decide_eq_true (show ((x.2 + room x.2 : Nat) : Int) ≤ ((List.length x.1) : Int) by omega)]
  simp only [cond, lett]
  rw [eq_ints m hm _ (by show (List.length (cutL x.1 0 (Int.toNat ((x.2 + room x.2 : Nat) : Int)))) < 100000000; simp only [cutL, List.drop_zero, List.length_take]; omega)]
  rfl

/-! ### Branches -/
abbrev Heads := List (ByteArray × Int)
abbrev hz0 : ByteArray × Int := (ByteArray.empty, (0 : Int))
abbrev hfill : ByteArray × Int := (s_7e73706172657e, bigI)
structure HeadsIn (h : Heads) : Prop where
  len : h.length ≤ cap
  name : ∀ x ∈ h, x.1.size ≤ cap
structure HeadsSz (h : Heads) : Prop where
  len : h.length < 1000001
  name : ∀ x ∈ h, x.1.size < 1000000

theorem sz_heads (m : Nat) (hm : 10000000 ≤ m) (h : Heads) (hin : HeadsIn h) (left : Int) (l0 : 0 ≤ left) (l1 : left ≤ 1000000) :
    ∃ v : Int, laws_szHeadS m ((h, h.length), left, ()) = some (v, ()) ∧ v ≤ left ∧ (0 ≤ v → HeadsSz h) := by
  have hb : laws_szHeadS m ((h, h.length), left, ()) = cond (decide (left - (h.length : Int) < 0)) (some (-1, ())) ((laws_szHeadS.tab m m).1 ((h, h.length), left - (h.length : Int), ((0 : Nat) : Int), ())) := by
    show laws_szHeadS.start m (laws_szHeadS.tab m m) (h, h.length) left = _
    unfold laws_szHeadS.start
    simp only [lett]
    rw [show w64 (left - (((h, h.length) : Heads × Nat).2 : Int)) = left - h.length from w64_sub l0 l1 hin.len]
    rfl
  rw [hb]
  by_cases hneg : left - (h.length : Int) < 0
  · rw [decide_eq_true hneg]; exact ⟨-1, rfl, by omega, fun h => by omega⟩
  · rw [decide_eq_false hneg]
    obtain ⟨v, h1, h2, h3⟩ := sz_gen h.length (fun k left i => (laws_szHeadS.tab m k).1 ((h, h.length), left, (i : Int), ())) (fun v => (v, ())) (fun i left => ((h.getD i hz0).1.size : Int) ≤ left)
      (fun k left i hi l0 l1 => by
        have hmem : h.getD i hz0 ∈ h := mem_getD hi
        refine ⟨left - (h.getD i hz0).1.size, by omega, ?_, fun _ => by omega⟩
        show laws_szHeadS.b0 m (laws_szHeadS.tab m k) (h, h.length) left (i : Int) = _
        unfold laws_szHeadS.b0
        rw [decide_eq_true (show (i : Int) < (((h, h.length) : Heads × Nat).2 : Int) by show (i : Int) < (h.length : Int); omega), decide_eq_true (show (0 : Int) ≤ (i : Int) by omega), w64_succ (by omega)]
        simp only [cond, lett]
        rw [show getL ((h, h.length) : Heads × Nat).1 (i : Int) (ByteArray.empty, (0 : Int)) = h.getD i hz0 from rfl]
        rw [show laws_szHead m ((h.getD i hz0).1, (h.getD i hz0).2, left, ()) = some (cond (decide (left - (h.getD i hz0).1.size < 0)) (-1) (left - (h.getD i hz0).1.size), ()) from by
          show laws_szHead.start m _ (h.getD i hz0).1 (h.getD i hz0).2 left = _
          unfold laws_szHead.start
          simp only [lett]
          rw [show w64 (left - sLen (h.getD i hz0).1) = left - (h.getD i hz0).1.size from w64_sub l0 l1 (hin.name _ hmem)]
          cases decide (left - ((h.getD i hz0).1.size : Int) < 0) <;> rfl]
        simp only [Option.bind_some]
        by_cases hv : left - ((h.getD i hz0).1.size : Int) < 0
        · rw [decide_eq_true hv]; rfl
        · rw [decide_eq_false hv]
          simp only [cond]
          rw [decide_eq_false hv])
      (fun k left => by
        show laws_szHeadS.b0 m (laws_szHeadS.tab m k) (h, h.length) left (h.length : Int) = _
        unfold laws_szHeadS.b0
        rw [decide_eq_false (show ¬ (h.length : Int) < (((h, h.length) : Heads × Nat).2 : Int) by show ¬ (h.length : Int) < (h.length : Int); omega)]
        rfl)
      h.length (m - (h.length + 1)) 0 (left - h.length) (by omega) (by omega) (by omega)
    rw [show m - (h.length + 1) + h.length + 1 = m by omega] at h1
    refine ⟨v, h1, by omega, fun hv => ⟨by omega, fun x hx => ?_⟩⟩
    obtain ⟨i, hi, rfl⟩ := List.getElem_of_mem hx
    obtain ⟨l, g1, g2⟩ := h3 hv i (Nat.zero_le _) hi
    rw [List.getD_eq_getElem?_getD, List.getElem?_eq_getElem hi] at g2
    have g2 : (h[i].1.size : Int) ≤ l := g2
    omega

theorem to_heads (m : Nat) (hm : 1000000000 ≤ m) (xs : Heads) (hx : xs.length < 10000000) (bare : Bool) :
    ∃ ys, laws_toHeadS m ((xs, xs.length), bare, ()) = some ((ys, xs.length), ()) ∧ ys.take xs.length = xs ∧ (bare = false → ys.length = xs.length + room xs.length) := by
  have hr := room_le xs.length
  obtain ⟨q, hq⟩ : ∃ q, m = q + 1 := ⟨m - 1, by omega⟩
  have hmain : (laws_toHeadS.tab m m).2.2.1 ((xs, xs.length), ()) = some ((xs ++ List.replicate (room xs.length) hfill, xs.length), ()) := by
    have h := copy_gen xs.length (xs.length + room xs.length) (by omega) xs rfl hfill (fun k ys i => (laws_toHeadS.tab m k).1 (ys, (xs, xs.length), (i : Int), ())) (fun k ys i => (laws_toHeadS.tab m k).2.1 (ys, (xs, xs.length), (i : Int), ()))
      (fun ys => ((ys, xs.length), ()))
      (fun k ys i hy hi => by
        show laws_toHeadS.b0 m (laws_toHeadS.tab m k) ys (xs, xs.length) (i : Int) = _
        unfold laws_toHeadS.b0
        rw [decide_eq_true (show (i : Int) < (((xs, xs.length) : Heads × Nat).2 : Int) by show (i : Int) < (xs.length : Int); omega), decide_eq_true (show (0 : Int) ≤ (i : Int) by omega), decide_eq_true (show (i : Int) < lLen ys by simp only [lLen]; omega), w64_succ (by omega)]
        show (laws_toHeadS.tab m k).1 (ys.set i (xs.getD i hz0), (xs, xs.length), ((i + 1 : Nat) : Int), ()) = (laws_toHeadS.tab m k).1 (ys.set i (xs.getD i hfill), (xs, xs.length), ((i + 1 : Nat) : Int), ())
        rw [List.getD_eq_getElem?_getD, List.getD_eq_getElem?_getD, List.getElem?_eq_getElem hi]
        rfl)
      (fun k ys hy => by
        show laws_toHeadS.b0 m (laws_toHeadS.tab m k) ys (xs, xs.length) (xs.length : Int) = _
        unfold laws_toHeadS.b0
        rw [decide_eq_false (show ¬ (xs.length : Int) < (((xs, xs.length) : Heads × Nat).2 : Int) by show ¬ (xs.length : Int) < (xs.length : Int); omega)]
        rfl)
      (fun k ys i hy hi hi2 => by
        show laws_toHeadS.b1 m (laws_toHeadS.tab m k) ys (xs, xs.length) (i : Int) = _
        unfold laws_toHeadS.b1
        rw [decide_eq_true (show (i : Int) < lLen ys by simp only [lLen]; omega), decide_eq_true (show (0 : Int) ≤ (i : Int) by omega), w64_succ (by omega)]
        rfl)
      (fun k ys hy => by
        show laws_toHeadS.b1 m (laws_toHeadS.tab m k) ys (xs, xs.length) ((xs.length + room xs.length : Nat) : Int) = _
        unfold laws_toHeadS.b1
        rw [decide_eq_false (show ¬ ((xs.length + room xs.length : Nat) : Int) < lLen ys by simp only [lLen]; omega), decide_eq_true (show (0 : Int) ≤ (((xs, xs.length) : Heads × Nat).2 : Int) by show (0 : Int) ≤ (xs.length : Int); omega),
          decide_eq_true (show (((xs, xs.length) : Heads × Nat).2 : Int) ≤ ((List.length ys) : Int) by show (xs.length : Int) ≤ (ys.length : Int); omega)]
        rfl)
      xs.length (q - (xs.length + room xs.length + 2)) 0 (List.replicate (xs.length + room xs.length) hz0) (by omega) (by simp) (by simp)
    rw [show q - (xs.length + room xs.length + 2) + xs.length + (xs.length + room xs.length - xs.length) + 2 = q by omega, Nat.add_sub_cancel_left] at h
    rw [show laws_toHeadS.tab m m = laws_toHeadS.tab m (q + 1) by rw [← hq]]
    show laws_toHeadS.b2 m (laws_toHeadS.tab m q) (xs, xs.length) = _
    unfold laws_toHeadS.b2
    rw [show laws_roomBehind m ((((xs, xs.length) : Heads × Nat).2 : Int), ()) = some ((room xs.length : Int), ()) from room_v m xs.length]
    simp only [Option.bind_some]
    rw [show w64 ((((xs, xs.length) : Heads × Nat).2 : Int) + (room xs.length : Int)) = ((xs.length + room xs.length : Nat) : Int) from w64_room hx]
    rw [decide_eq_true (show (0 : Int) ≤ ((xs.length + room xs.length : Nat) : Int) by omega), Int.toNat_natCast, decide_eq_true (show xs.length + room xs.length ≤ apCap by show xs.length + room xs.length ≤ 1073741824; omega)]
    exact h
  have hgood : (xs ++ List.replicate (room xs.length) hfill).take xs.length = xs := List.take_left' rfl
  show ∃ ys, laws_toHeadS.start m (laws_toHeadS.tab m m) (xs, xs.length) bare = some ((ys, xs.length), ()) ∧ _
  unfold laws_toHeadS.start
  cases bare with
  | false => exact ⟨_, hmain, hgood, fun _ => by simp⟩
  | true =>
    by_cases h0 : xs.length = 0
    · rw [show ((((xs, xs.length) : Heads × Nat).2 : Int) == 0) = true from by show ((xs.length : Int) == 0) = true; rw [h0]; rfl]
      refine ⟨[], by rw [h0]; rfl, ?_, fun h => by cases h⟩
      rw [List.eq_nil_of_length_eq_zero h0]; rfl
    · rw [show ((((xs, xs.length) : Heads × Nat).2 : Int) == 0) = false from by show ((xs.length : Int) == 0) = false; rw [beq_eq_false_iff_ne]; omega]
      exact ⟨_, hmain, hgood, fun h => by cases h⟩

theorem eq_heads (m : Nat) (hm : 1000000000 ≤ m) (x : Heads × Nat) (hx : x.2 < 100000000) : laws_eqHeadS m (x, x, ()) = some (true, ()) := by
  have h := all_gen x.2 (fun k i => (laws_eqHeadS.tab m k).1 (x, x, (i : Int), ())) (true, ())
    (fun k i hi => by
      show laws_eqHeadS.b0 m (laws_eqHeadS.tab m k) x x (i : Int) = _
      unfold laws_eqHeadS.b0
      rw [decide_eq_true (show (i : Int) < (x.2 : Int) by omega), decide_eq_true (show (0 : Int) ≤ (i : Int) by omega), w64_succ (by omega)]
      simp only [cond, lett]
      generalize getL x.1 (i : Int) (ByteArray.empty, (0 : Int)) = z
      rw [show laws_eqHead m (z.1, z.2, z.1, z.2, ()) = some (true, ()) from by
        show laws_eqHead.start m _ z.1 z.2 z.1 z.2 = _
        unfold laws_eqHead.start
        rw [sEq_self, show (z.2 != z.2) = false by simp]
        rfl]
      rfl)
    (fun k => by
      show laws_eqHeadS.b0 m (laws_eqHeadS.tab m k) x x (x.2 : Int) = _
      unfold laws_eqHeadS.b0
      rw [decide_eq_false (show ¬ (x.2 : Int) < (x.2 : Int) by omega)]
      rfl) x.2 (m - (x.2 + 1)) 0 (by omega)
  rw [show m - (x.2 + 1) + x.2 + 1 = m by omega] at h
  show laws_eqHeadS.start m (laws_eqHeadS.tab m m) x x = _
  unfold laws_eqHeadS.start
  rw [show ((x.2 : Int) != (x.2 : Int)) = false by simp]
  exact h

theorem intact_heads (m : Nat) (hm : 1000000000 ≤ m) (x : Heads × Nat) (h1 : x.1.length = x.2 + room x.2) (hx : x.2 < 10000000) : laws_intactHeadS m (x, x, ()) = some (true, ()) := by
  have hr := room_le x.2
  show laws_intactHeadS.start m _ x x = _
  unfold laws_intactHeadS.start
  rw [room_v]
  simp only [Option.bind_some]
  rw [w64_room hx, show ((x.2 : Int) == (x.2 : Int)) = true by simp, decide_eq_true (show (0 : Int) ≤ ((x.2 + room x.2 : Nat) : Int) by omega), decide_eq_true (show ((x.2 + room x.2 : Nat) : Int) ≤ ((List.length x.1) : Int) by omega)]
  simp only [cond, lett]
  rw [eq_heads m hm _ (by show (List.length (cutL x.1 0 (Int.toNat ((x.2 + room x.2 : Nat) : Int)))) < 100000000; simp only [cutL, List.drop_zero, List.length_take]; omega)]
  rfl
end Go.Sx.Tryz
