/- A part of the pure law of FnCrc, over the printed functions: what they answer. No condition but those of each theorem. -/
import Derived.Test.YthbdbfbdllcifaaCrcHA
namespace Go.Sx.Try
open Go Go.Proofs Go.Sx
set_option linter.unusedVariables false
set_option linter.unusedSimpArgs false

theorem w64_succ {i : Int} (h0 : 0 ≤ i) (h : i < 1000000000000) : w64 (i + 1) = i + 1 := w64_ok (by omega) (by omega)

theorem l1In_t (m : Nat) (a b c : Int) : Ok (spec_l1In m (a, b, c, ())) (fun _ => True) := by
  show Ok (spec_l1In.start m () a b c) _
  unfold spec_l1In.start
  exact ok_if (fun _ => ok_some trivial) (fun _ => ok_some trivial)

theorem l4Name_loop (m : Nat) (s : ByteArray) (hs : s.size < 1000000000) : ∀ (d k : Nat) (i : Int), 0 ≤ i → i + d = s.size →
    Ok ((spec_l4Name.tab m (k + 2 * d + 1)).1 (s, i, ())) (fun _ => True)
  | 0, k, i, h0, h => by
    show Ok (spec_l4Name.b0 m (spec_l4Name.tab m k) s i) _
    unfold spec_l4Name.b0
    refine ok_if (fun h => absurd h (by simp only [sLen]; omega)) (fun _ => ok_bind (l1In_t m _ _ _) (fun _ _ => ok_some trivial))
  | d + 1, k, i, h0, h => by
    show Ok (spec_l4Name.b0 m (spec_l4Name.tab m (k + 2 * d + 1 + 1)) s i) _
    have hn : ∀ b, Ok ((spec_l4Name.tab m (k + 2 * d + 1 + 1)).2.1 (s, i, b, ())) (fun _ => True) := by
      intro b
      show Ok (spec_l4Name.b1 m (spec_l4Name.tab m (k + 2 * d + 1)) s i b) _
      unfold spec_l4Name.b1
      refine ok_cond (fun _ => ok_some trivial) (fun _ => ?_)
      rw [w64_succ h0 (by omega)]
      exact l4Name_loop m s hs d k (i + 1) (by omega) (by omega)
    have hi : i < sLen s := by simp only [sLen]; omega
    unfold spec_l4Name.b0
    repeat' (first
      | exact hn _
      | exact h0
      | exact hi
      | refine ok_chk h0 ?_
      | refine ok_chk hi ?_
      | refine ok_if (fun _ => ?_) (fun _ => ?_))

theorem l4Name_t (m : Nat) (s : ByteArray) (hs : s.size < 1000000000) (hm : 2 * s.size + 1 ≤ m) : Ok (spec_l4Name m (s, ())) (fun _ => True) := by
  show Ok (spec_l4Name.start m (spec_l4Name.tab m m) s) _
  unfold spec_l4Name.start
  have := l4Name_loop m s hs s.size (m - (2 * s.size + 1)) 0 (by omega) (by omega)
  rw [show m - (2 * s.size + 1) + 2 * s.size + 1 = m by omega] at this
  exact this

theorem l1Cut_loop (m : Nat) (s : ByteArray) (c n : Int) (hs : s.size < 1000000) : ∀ (d k : Nat) (xs : List ByteArray) (a i : Int), 0 ≤ a → a ≤ i → i + d = s.size → xs.length ≤ i → (∀ x ∈ xs, x.size ≤ s.size) →
    Ok ((spec_l1Cut.tab m (k + d + 1)).1 (xs, s, c, n, a, i, ())) (fun r => Strs (s.size + 1) s.size r.1)
  | 0, k, xs, a, i, h0, h1, h, hx, hz => by
    show Ok (spec_l1Cut.b0 m (spec_l1Cut.tab m k) xs s c n a i) _
    unfold spec_l1Cut.b0
    refine ok_if (fun h => absurd h (by simp only [sLen]; omega)) (fun _ => ?_)
    refine ok_chk h0 (ok_chk (by omega) (ok_lett fun v hv => ok_chk (by show xs.length + 1 ≤ 1073741824; omega) (ok_some ?_)))
    have hx' : Strs s.size s.size xs := ⟨by omega, hz⟩
    exact hx'.snoc (by rw [hv]; exact cutS_size _ _ _)
  | d + 1, k, xs, a, i, h0, h1, h, hx, hz => by
    show Ok (spec_l1Cut.b0 m (spec_l1Cut.tab m (k + d + 1)) xs s c n a i) _
    unfold spec_l1Cut.b0
    have hx' : Strs s.size s.size xs := ⟨by omega, hz⟩
    have hi : i < sLen s := by simp only [sLen]; omega
    refine ok_chk hi (ok_if (fun _ => ok_chk (by omega) (ok_chk hi (ok_cond (fun _ => ?_) (fun _ => ?_)))) (fun _ => ?_))
    · refine ok_chk (by omega) (ok_chk (by omega) (ok_chk h0 (ok_chk h1 (ok_chk (by show xs.length + 1 ≤ 1073741824; omega) (ok_lett fun v hv => ?_)))))
      rw [w64_succ (by omega) (by omega)]
      have h2 : Strs (s.size + 1) s.size v := by rw [hv]; exact hx'.snoc (cutS_size _ _ _)
      exact l1Cut_loop m s c n hs d k v (i + 1) (i + 1) (by omega) (by omega) (by omega) (by rw [hv]; simp; omega) h2.2
    · rw [w64_succ (by omega) (by omega)]
      exact l1Cut_loop m s c n hs d k xs a (i + 1) (by omega) (by omega) (by omega) (by omega) hz
    · refine ok_chk h0 (ok_chk (by omega) (ok_lett fun v hv => ok_chk (by show xs.length + 1 ≤ 1073741824; omega) (ok_some ?_)))
      exact hx'.snoc (by rw [hv]; exact cutS_size _ _ _)

theorem l1Cut_t (m : Nat) (s : ByteArray) (c n : Int) (hs : s.size < 1000000) (hm : s.size + 1 ≤ m) : Ok (spec_l1Cut m (s, c, n, ())) (fun r => Strs (s.size + 1) s.size r.1) := by
  show Ok (spec_l1Cut.start m (spec_l1Cut.tab m m) s c n) _
  unfold spec_l1Cut.start
  have := l1Cut_loop m s c n hs s.size (m - (s.size + 1)) [] 0 0 (by omega) (by omega) (by omega) (by simp) (by simp)
  rw [show m - (s.size + 1) + s.size + 1 = m by omega] at this
  exact this

theorem l4Path_loop (m : Nat) (N D : Nat) (xs : List ByteArray) (hx : Strs N D xs) (hN : N < 1000000) (hD : D < 1000000) (hm : 2 * D + 1 ≤ m) : ∀ (d k : Nat) (i : Int), 0 ≤ i → i + d = xs.length →
    Ok ((spec_l4Path.tab m (k + d + 1)).1 (xs, i, ())) (fun _ => True)
  | 0, k, i, h0, h => by
    show Ok (spec_l4Path.b0 m (spec_l4Path.tab m k) xs i) _
    unfold spec_l4Path.b0
    exact ok_if (fun h => absurd h (by simp only [lLen]; omega)) (fun _ => ok_some trivial)
  | d + 1, k, i, h0, h => by
    show Ok (spec_l4Path.b0 m (spec_l4Path.tab m (k + d + 1)) xs i) _
    unfold spec_l4Path.b0
    have hi : i < lLen xs := by simp only [lLen]; omega
    have hl := hx.1
    refine ok_chk hi (ok_chk h0 (ok_chk hi (ok_bind (l4Name_t m _ (Nat.lt_of_le_of_lt hx.get (by omega)) (Nat.le_trans (by have := hx.get (k := i); omega) hm)) (fun r _ => ok_cond (fun _ => ok_some trivial) (fun _ => ?_)))))
    rw [w64_succ (by omega) (by omega)]
    exact l4Path_loop m N D xs hx hN hD hm d k (i + 1) (by omega) (by omega)

theorem l4Path_t (m : Nat) (s : ByteArray) (hs : s.size < 100000) (hm : 2 * s.size + 2 ≤ m) : Ok (spec_l4Path m (s, ())) (fun _ => True) := by
  show Ok (spec_l4Path.start m (spec_l4Path.tab m m) s) _
  unfold spec_l4Path.start
  refine ok_bind (l1Cut_t m s _ _ (by omega) (by omega)) (fun r hr => ?_)
  have h1 := hr.1
  have := l4Path_loop m _ _ r.1 hr (by omega) (by omega) (by omega) r.1.length (m - (r.1.length + 1)) 0 (by omega) (by omega)
  rw [show m - (r.1.length + 1) + r.1.length + 1 = m by omega] at this
  exact this

theorem l1Line_loop (m : Nat) (s : ByteArray) (hs : s.size < 1000000000) : ∀ (d k : Nat) (i : Int), 0 ≤ i → i + d = s.size →
    Ok ((spec_l1Line.tab m (k + d + 1)).1 (s, i, ())) (fun _ => True)
  | 0, k, i, h0, h => by
    show Ok (spec_l1Line.b0 m (spec_l1Line.tab m k) s i) _
    unfold spec_l1Line.b0
    exact ok_if (fun h => absurd h (by simp only [sLen]; omega)) (fun _ => ok_some trivial)
  | d + 1, k, i, h0, h => by
    show Ok (spec_l1Line.b0 m (spec_l1Line.tab m (k + d + 1)) s i) _
    have hi : i < sLen s := by simp only [sLen]; omega
    unfold spec_l1Line.b0
    refine ok_chk hi (ok_chk h0 (ok_chk hi (ok_if (fun _ => ok_some trivial) (fun _ => ok_chk h0 (ok_chk hi (ok_if (fun _ => ok_some trivial) (fun _ => ?_)))))))
    rw [w64_succ h0 (by omega)]
    exact l1Line_loop m s hs d k (i + 1) (by omega) (by omega)

theorem l1Line_t (m : Nat) (s : ByteArray) (hs : s.size < 1000000000) (hm : s.size + 1 ≤ m) : Ok (spec_l1Line m (s, ())) (fun _ => True) := by
  show Ok (spec_l1Line.start m (spec_l1Line.tab m m) s) _
  unfold spec_l1Line.start
  have := l1Line_loop m s hs s.size (m - (s.size + 1)) 0 (by omega) (by omega)
  rw [show m - (s.size + 1) + s.size + 1 = m by omega] at this
  exact this

theorem l1Ok_loop (m : Nat) (N D : Nat) (xs : List ByteArray) (hx : Strs N D xs) (hN : N < 1000000) (hD : D < 1000000) (hm : D + 1 ≤ m) : ∀ (d k : Nat) (i : Int), 0 ≤ i → i + d = xs.length →
    Ok ((spec_l1Ok.tab m (k + d + 1)).1 (xs, i, ())) (fun _ => True)
  | 0, k, i, h0, h => by
    show Ok (spec_l1Ok.b0 m (spec_l1Ok.tab m k) xs i) _
    unfold spec_l1Ok.b0
    exact ok_if (fun h => absurd h (by simp only [lLen]; omega)) (fun _ => ok_some trivial)
  | d + 1, k, i, h0, h => by
    show Ok (spec_l1Ok.b0 m (spec_l1Ok.tab m (k + d + 1)) xs i) _
    unfold spec_l1Ok.b0
    have hi : i < lLen xs := by simp only [lLen]; omega
    have hl := hx.1
    refine ok_chk hi (ok_chk h0 (ok_chk hi (ok_bind (l1Line_t m _ (Nat.lt_of_le_of_lt hx.get (by omega)) (Nat.le_trans (by have := hx.get (k := i); omega) hm)) (fun r _ => ok_cond (fun _ => ok_some trivial) (fun _ => ?_)))))
    rw [w64_succ (by omega) (by omega)]
    exact l1Ok_loop m N D xs hx hN hD hm d k (i + 1) (by omega) (by omega)

theorem l1Ok_t (m : Nat) (N D : Nat) (xs : List ByteArray) (hx : Strs N D xs) (hN : N < 1000000) (hD : D < 1000000) (hm : D + 1 ≤ m) (hm2 : N + 1 ≤ m) : Ok (spec_l1Ok m (xs, ())) (fun _ => True) := by
  show Ok (spec_l1Ok.start m (spec_l1Ok.tab m m) xs) _
  unfold spec_l1Ok.start
  have hl := hx.1
  have := l1Ok_loop m N D xs hx hN hD hm xs.length (m - (xs.length + 1)) 0 (by omega) (by omega)
  rw [show m - (xs.length + 1) + xs.length + 1 = m by omega] at this
  exact this

/-- one line: it goes on, or there is a bar -/
theorem l19Lines_in (m : Nat) (N D : Nat) (xs : List ByteArray) (hx : Strs N D xs) (hD : D < 1000000) (i : Int) (h0 : 0 ≤ i) (hi : i < lLen xs) (P : Den [.bool] → Prop) (hP : ∀ b, P b) (k : Nat)
    (go : ∀ q, k ≤ q → Ok ((spec_l19Lines.tab m q).1 (xs, w64 (i + 1), ())) P) : ∀ (d q : Nat) (j : Int), k ≤ q → 0 ≤ j → j + d = (getL xs i ByteArray.empty).size →
    Ok ((spec_l19Lines.tab m (q + d + 1)).2.1 (xs, i, j, ())) P
  | 0, q, j, hq, j0, h => by
    show Ok (spec_l19Lines.b1 m (spec_l19Lines.tab m q) xs i j) _
    unfold spec_l19Lines.b1
    refine ok_chk h0 (ok_chk hi (ok_lett fun v hv => ok_cond (fun h' => ?_) (fun _ => go q hq)))
    rw [hv] at h'
    exact absurd (by simpa using h') (show ¬ j < sLen (getL xs i ByteArray.empty) by simp only [sLen]; omega)
  | d + 1, q, j, hq, j0, h => by
    show Ok (spec_l19Lines.b1 m (spec_l19Lines.tab m (q + d + 1)) xs i j) _
    unfold spec_l19Lines.b1
    refine ok_chk h0 (ok_chk hi (ok_lett fun v hv => ok_cond (fun h' => ?_) (fun _ => go (q + d + 1) (by omega))))
    have hg := hx.get (k := i)
    refine ok_chk h0 (ok_chk hi (ok_chk j0 (ok_chk (by simp only [sLen]; omega) (ok_lett fun v2 _ => ok_cond (fun _ => ok_some (hP _)) (fun _ => ?_)))))
    rw [w64_succ j0 (by omega)]
    exact l19Lines_in m N D xs hx hD i h0 hi P hP k go d q (j + 1) hq (by omega) (by omega)

theorem l19Lines_loop (m : Nat) (N D : Nat) (xs : List ByteArray) (hx : Strs N D xs) (hN : N < 1000000) (hD : D < 1000000) (hm : D + 1 ≤ m) (hm2 : N + 1 ≤ m) : ∀ (d k : Nat) (i : Int), (D + 2) * d + 1 ≤ k → 0 ≤ i → i + d = xs.length →
    Ok ((spec_l19Lines.tab m k).1 (xs, i, ())) (fun _ => True)
  | 0, k, i, hk, h0, h => by
    obtain ⟨k, rfl⟩ : ∃ k', k = k' + 1 := ⟨k - 1, by omega⟩
    show Ok (spec_l19Lines.b0 m (spec_l19Lines.tab m k) xs i) _
    unfold spec_l19Lines.b0
    exact ok_if (fun h => absurd h (by simp only [lLen]; omega)) (fun _ => ok_bind (l1Ok_t m N D xs hx hN hD hm hm2) (fun _ _ => ok_some trivial))
  | d + 1, k, i, hk, h0, h => by
    have hg := hx.get (k := i)
    have hl := hx.1
    have hk2 : (D + 2) * d + (D + 2) + 1 ≤ k := by rw [← Nat.mul_succ]; exact hk
    obtain ⟨q, hq, hq2⟩ : ∃ q, k = q + (getL xs i ByteArray.empty).size + 1 + 1 ∧ (D + 2) * d + 1 ≤ q := ⟨k - ((getL xs i ByteArray.empty).size + 1 + 1), by omega, by omega⟩
    rw [hq]
    show Ok (spec_l19Lines.b0 m (spec_l19Lines.tab m (q + (getL xs i ByteArray.empty).size + 1)) xs i) _
    unfold spec_l19Lines.b0
    refine ok_chk (by simp only [lLen]; omega) ?_
    refine l19Lines_in m N D xs hx hD i h0 (by simp only [lLen]; omega) _ (fun _ => trivial) ((D + 2) * d + 1) (fun q' hq' => ?_) (getL xs i ByteArray.empty).size q 0 hq2 (by omega) (by omega)
    rw [w64_succ h0 (by omega)]
    exact l19Lines_loop m N D xs hx hN hD hm hm2 d q' (i + 1) hq' (by omega) (by omega)

theorem l19Lines_t (m : Nat) (N D : Nat) (xs : List ByteArray) (hx : Strs N D xs) (hN : N < 1000000) (hD : D < 1000000) (hm : (D + 2) * (N + 1) ≤ m) : Ok (spec_l19Lines m (xs, ())) (fun _ => True) := by
  show Ok (spec_l19Lines.start m (spec_l19Lines.tab m m) xs) _
  unfold spec_l19Lines.start
  have hl := hx.1
  have h1 : (D + 2) * xs.length ≤ (D + 2) * N := Nat.mul_le_mul_left _ hl
  have h2 : (D + 2) * (N + 1) = (D + 2) * N + (D + 2) := Nat.mul_succ _ _
  have h3 : 2 * N ≤ (D + 2) * N := Nat.mul_le_mul_right _ (by omega)
  exact l19Lines_loop m N D xs hx hN hD (by omega) (by omega) xs.length m 0 (by omega) (by omega) (by omega)

theorem l19Bare_t (m : Nat) (hm : 1 ≤ m) (k : Int) (a b c d : ByteArray) (n : Int) (xs : List ByteArray) (w x y z : Bool) : Ok (spec_l19Bare m (k, a, b, c, d, n, xs, w, x, y, z, ())) (fun _ => True) := by
  obtain ⟨q, rfl⟩ : ∃ q, m = q + 1 := ⟨m - 1, by omega⟩
  show Ok (spec_l19Bare.start (q + 1) (spec_l19Bare.tab (q + 1) (q + 1)) k a b c d n xs w x y z) _
  have h : ∀ b, Ok ((spec_l19Bare.tab (q + 1) (q + 1)).1 (b, ())) (fun _ => True) := fun b => ok_some trivial
  unfold spec_l19Bare.start
  repeat' (first
    | exact h _
    | refine ok_cond (fun _ => ?_) (fun _ => ?_))
end Go.Sx.Try
