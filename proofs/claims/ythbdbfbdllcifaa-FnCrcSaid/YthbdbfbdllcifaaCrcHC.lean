/- A part of the pure law of FnCrc, over the printed functions: what they answer. No condition but those of each theorem. -/
import Derived.Test.YthbdbfbdllcifaaCrcHB
namespace Go.Sx.Try
open Go Go.Proofs Go.Sx
set_option linter.unusedVariables false
set_option linter.unusedSimpArgs false

theorem l1Dec_t : ∀ (d k : Nat) (x : Int), d ≤ 17 → 0 ≤ x → x < 10 ^ (d + 1) → Ok (spec_l1Dec (k + d + 1) (x, ())) (fun r => r.1.size ≤ d + 1)
  | d, k, x, hd, h0, h1 => by
    show Ok (spec_l1Dec.start (k + d) (spec_l1Dec (k + d)) _ x) _
    unfold spec_l1Dec.start
    refine ok_lett fun v hv => ok_cond (fun h => ?_) (fun _ => ok_if (fun h => absurd h (by omega)) (fun _ => ok_if (fun _ => ok_lett fun v3 h3 => ok_some ?_) (fun h10 => ?_)))
    · rw [hv] at h
      exact absurd (by simpa using h) (show ¬ x < -9223372036854775807 by omega)
    · rw [h3]
      show (strOfNums _).size ≤ _
      rw [strOfNums_size]; simp
    · cases d with
      | zero => exact absurd h1 (by simp; omega)
      | succ d =>
        have hx : (10 : Int) ^ (d + 1 + 1) = 10 ^ (d + 1) * 10 := by rw [Int.pow_succ]
        have hle : (10 : Int) ^ (d + 1) ≤ 1000000000000000000 := by
          obtain ⟨e, he⟩ : ∃ e, d + 1 + e = 18 := ⟨17 - d, by omega⟩
          have h18 : (10 : Int) ^ (d + 1) * 10 ^ e = 1000000000000000000 := by rw [← Int.pow_add, he]; rfl
          have hp : (1 : Int) ≤ 10 ^ e := by have : (0 : Int) < 10 ^ e := Int.pow_pos (by decide); omega
          have hq : (0 : Int) ≤ 10 ^ (d + 1) := Int.pow_nonneg (by decide)
          calc (10 : Int) ^ (d + 1) = 10 ^ (d + 1) * 1 := by omega
            _ ≤ 10 ^ (d + 1) * 10 ^ e := Int.mul_le_mul_of_nonneg_left hp hq
            _ = _ := h18
        have hq : Int.tdiv x 10 = x / 10 := Int.tdiv_eq_ediv_of_nonneg h0
        rw [hq]
        have hw : w64 (x / 10) = x / 10 := w64_ok (by omega) (by omega)
        rw [hw]
        refine ok_ine (by decide) (ok_bind (l1Dec_t d k (x / 10) (by omega) (by omega) (by omega)) (fun r hr => ok_ine (by decide) (ok_lett fun v _ => ok_chk ?_ (ok_lett fun v6 h6 => ok_some ?_))))
        · rw [strOfNums_size]
          show _ + 1 ≤ 140737488355328
          omega
        · rw [h6]
          show (ByteArray.append _ _).size ≤ _
          rw [append_size, strOfNums_size]
          simp; omega

/-- an operation that is drawn -/
structure OpIs (k : Int) (a b c d : ByteArray) (n : Int) (xs : List ByteArray) : Prop where
  k1 : 1 ≤ k
  k2 : k ≤ 7
  a1 : a.size ≤ 8
  b1 : b.size ≤ 8
  c1 : c.size ≤ 8
  d1 : d.size ≤ 8
  n0 : 0 ≤ n
  n1 : n < 10
  xs1 : Strs 8 8 xs

theorem l19Ok_t (m : Nat) (hm : 1000 ≤ m) {k : Int} {a b c d : ByteArray} {n : Int} {xs : List ByteArray} (h : OpIs k a b c d n xs) :
    Ok (spec_l19Ok m (k, a, b, c, d, n, xs, ())) (fun _ => True) := by
  obtain ⟨k1, k2, a1, b1, c1, d1, n0, n1, xs1⟩ := h
  obtain ⟨q, hq⟩ : ∃ q, m = q + 1 + 1 := ⟨m - 2, by omega⟩
  show Ok (spec_l19Ok.start m (spec_l19Ok.tab m m) k a b c d n xs) _
  rw [show spec_l19Ok.tab m m = spec_l19Ok.tab m (q + 1 + 1) by rw [← hq]]
  have g1 : ∀ p, Ok (spec_l19Ok.b1 m (spec_l19Ok.tab m q) k a b c d n xs p) (fun _ => True) := by
    intro p
    unfold spec_l19Ok.b1
    exact ok_cond (fun _ => ok_bind (l19Bare_t m (by omega) _ _ _ _ _ _ _ _ _ _ _) (fun _ _ => ok_cond (fun _ => ok_bind (l1In_t m _ _ _) (fun _ _ => ok_some trivial)) (fun _ => ok_some trivial))) (fun _ => ok_some trivial)
  have g1' : ∀ p, Ok ((spec_l19Ok.tab m (q + 1)).2.1 (k, a, b, c, d, n, xs, p, ())) (fun _ => True) := g1
  have g0 : ∀ z p, Ok (spec_l19Ok.b0 m (spec_l19Ok.tab m (q + 1)) k a b c d n xs z p) (fun _ => True) := by
    intro z p
    unfold spec_l19Ok.b0
    refine ok_cond (fun _ => ok_bind (l19Bare_t m (by omega) _ _ _ _ _ _ _ _ _ _ _) (fun _ _ => ok_cond (fun _ => ok_bind (l4Name_t m d (by omega) (by omega)) (fun _ _ => ok_some trivial)) (fun _ => ok_some trivial))) (fun _ => ok_cond (fun _ => g1' _) (fun _ => g1' _))
  have g0' : ∀ z p, Ok ((spec_l19Ok.tab m (q + 1 + 1)).1 (k, a, b, c, d, n, xs, z, p, ())) (fun _ => True) := g0
  unfold spec_l19Ok.start
  refine ok_bind (l4Name_t m a (by omega) (by omega)) (fun _ _ => ok_cond (fun _ => ok_some trivial) (fun _ => ?_))
  refine ok_bind (l4Name_t m b (by omega) (by omega)) (fun _ _ => ok_cond (fun _ => ok_some trivial) (fun _ => ?_))
  repeat' (first
    | exact g0' _ _
    | exact ok_some trivial
    | refine ok_cond (fun _ => ?_) (fun _ => ?_)
    | refine ok_bind (l19Bare_t m (by omega) _ _ _ _ _ _ _ _ _ _ _) (fun _ _ => ?_)
    | refine ok_bind (l4Path_t m _ (by omega) (by omega)) (fun _ _ => ?_)
    | refine ok_bind (l19Lines_t m 8 8 xs xs1 (by omega) (by omega) (by omega)) (fun _ _ => ?_))

theorem words_t (m : Nat) : Ok (spec_l19Words m ()) (fun r => Strs 8 8 r.1 ∧ r.1.length = 8) := by
  show Ok (spec_l19Words.start m ()) _
  unfold spec_l19Words.start
  refine ok_lett fun v hv => ok_some ?_
  show Strs 8 8 v ∧ v.length = 8
  rw [hv]
  refine ⟨⟨by decide, ?_⟩, rfl⟩
  intro s hs
  simp only [List.mem_cons, List.not_mem_nil, or_false] at hs
  rcases hs with e | e | e | e | e | e | e | e <;> rw [e] <;> decide

theorem l19Put_loop (m : Nat) (k : Int) (a b c d : ByteArray) (n : Int) (xs : List ByteArray) (hx : Strs 8 8 xs) (k0 : Nat) : ∀ (e q : Nat) (s : ByteArray) (i : Int), 0 ≤ i → i + e = xs.length → s.size + 16 * e < 1000000 →
    Ok ((spec_l19Put.tab m (k0 + e + 1 + 1)).1 (k, a, b, c, d, n, xs, s, i, ())) (fun r => r.1.size < 1000000)
  | 0, q, s, i, h0, h, hs => by
    show Ok (spec_l19Put.b0 m (spec_l19Put.tab m (k0 + 1)) k a b c d n xs s i) _
    unfold spec_l19Put.b0
    exact ok_if (fun h => absurd h (by simp only [lLen]; omega)) (fun _ => ok_some (by show s.size < _; omega))
  | e + 1, q, s, i, h0, h, hs => by
    show Ok (spec_l19Put.b0 m (spec_l19Put.tab m (k0 + e + 1 + 1)) k a b c d n xs s i) _
    unfold spec_l19Put.b0
    have hi : i < lLen xs := by simp only [lLen]; omega
    have hg := hx.get (k := i)
    have c30 : str30.size = 1 := rfl
    have ca : cap = 140737488355328 := rfl
    have hl := hx.1
    refine ok_chk hi (ok_chk (by omega) (ok_chk h0 (ok_chk hi (ok_chk (by rw [append_size]; omega) (ok_lett fun v hv => ?_)))))
    rw [w64_succ h0 (by omega)]
    exact l19Put_loop m k a b c d n xs hx k0 e q v (i + 1) (by omega) (by omega) (by rw [hv, append_size, append_size]; omega)

theorem l19Put_t (m : Nat) (hm : 1000 ≤ m) {k : Int} {a b c d : ByteArray} {n : Int} {xs : List ByteArray} (h : OpIs k a b c d n xs) :
    Ok (spec_l19Put m (k, a, b, c, d, n, xs, ())) (fun r => r.1.size < 1000000) := by
  obtain ⟨k1, k2, a1, b1, c1, d1, n0, n1, xs1⟩ := h
  obtain ⟨q, hq⟩ : ∃ q, m = q + 1 + 1 := ⟨m - 2, by omega⟩
  show Ok (spec_l19Put.start m (spec_l19Put.tab m m) k a b c d n xs) _
  have c27 : str27.size = 1 := rfl
  have ca : cap = 140737488355328 := rfl
  have hl := xs1.1
  have g2 : ∀ (z : Nat) (s : ByteArray), s.size < 1000000 → Ok ((spec_l19Put.tab m (z + 1)).2.2.1 (s, ())) (fun r => r.1.size < 1000000) := by
    intro z s hs
    exact ok_some hs
  have g1 : ∀ (s : ByteArray) (p : Bool), s.size < 1000 → Ok ((spec_l19Put.tab m m).2.1 (k, a, b, c, d, n, xs, s, p, ())) (fun r => r.1.size < 1000000) := by
    intro s p hs
    rw [show spec_l19Put.tab m m = spec_l19Put.tab m (q + 1 + 1) by rw [← hq]]
    show Ok (spec_l19Put.b1 m (spec_l19Put.tab m (q + 1)) k a b c d n xs s p) _
    unfold spec_l19Put.b1
    refine ok_cond (fun _ => ok_chk (by omega) (ok_chk (by rw [append_size]; omega) (ok_lett fun v hv => g2 _ _ (by rw [hv, append_size, append_size]; omega)))) (fun _ => ?_)
    have hd := l1Dec_t 0 q n (by omega) n0 (by omega)
    have hd' : Ok (spec_l1Dec m (n, ())) (fun r => r.1.size ≤ 20) := by
      have hd := l1Dec_t 0 (m - 1) n (by omega) n0 (by omega)
      rw [show m - 1 + 0 + 1 = m by omega] at hd
      exact hd.mono (fun y hy => by omega)
    refine ok_chk (by omega) (ok_bind hd' (fun r hr => ok_chk (by rw [append_size]; omega) (ok_lett fun v hv => g2 _ _ (by rw [hv, append_size, append_size]; omega))))
  have g0 : ∀ (s : ByteArray), s.size < 1000 → Ok ((spec_l19Put.tab m m).1 (k, a, b, c, d, n, xs, s, 0, ())) (fun r => r.1.size < 1000000) := by
    intro s hs
    have := l19Put_loop m k a b c d n xs xs1 (m - (xs.length + 2)) xs.length 0 s 0 (by omega) (by omega) (by omega)
    rw [show m - (xs.length + 2) + xs.length + 1 + 1 = m by omega] at this
    exact this
  have g2' : ∀ (s : ByteArray), s.size < 1000000 → Ok ((spec_l19Put.tab m m).2.2.1 (s, ())) (fun r => r.1.size < 1000000) := by
    intro s hs
    rw [show spec_l19Put.tab m m = spec_l19Put.tab m (q + 1 + 1) by rw [← hq]]
    exact g2 _ _ hs
  generalize spec_l19Put.tab m m = t at g0 g1 g2'
  unfold spec_l19Put.start
  refine ok_bind (words_t m) (fun r hr => ?_)
  have hg := hr.1.get (k := k)
  refine ok_chk (by omega) (ok_chk (by simp only [lLen]; omega) (ok_chk (by omega) (ok_lett fun v2 hv2 => ?_)))
  have s2 : v2.size ≤ 9 := by rw [hv2, append_size]; omega
  refine ok_chk (by omega) (ok_chk (by rw [append_size]; omega) (ok_lett fun v3 hv3 => ?_))
  have s3 : v3.size ≤ 18 := by rw [hv3, append_size, append_size]; omega
  refine ok_chk (by omega) ?_
  have s4 : (ByteArray.append v3 b).size ≤ 26 := by rw [append_size]; omega
  refine ok_cond (fun _ => ?_) (fun _ => ok_cond (fun _ => ?_) (fun _ => ok_cond (fun _ => ?_) (fun _ => ok_cond (fun _ => ?_) (fun _ => ?_))))
  · refine ok_chk (by omega) (ok_lett fun v4 hv4 => ?_)
    have s5 : v4.size ≤ 27 := by rw [hv4, append_size]; omega
    refine ok_chk (by omega) (ok_chk (by rw [append_size]; omega) (ok_lett fun v5 hv5 => ?_))
    exact g0 _ (by rw [hv5, append_size, append_size]; omega)
  · refine ok_chk (by omega) (ok_lett fun v4 hv4 => ?_)
    have s5 : v4.size ≤ 27 := by rw [hv4, append_size]; omega
    refine ok_chk (by omega) ?_
    exact g2' _ (by rw [append_size]; omega)
  · refine ok_chk (by omega) (ok_lett fun v4 hv4 => ?_)
    have s5 : v4.size ≤ 27 := by rw [hv4, append_size]; omega
    refine ok_chk (by omega) (ok_chk (by rw [append_size]; omega) (ok_lett fun v5 hv5 => ?_))
    have s6 : v5.size ≤ 36 := by rw [hv5, append_size, append_size]; omega
    refine ok_chk (by omega) ?_
    exact g2' _ (by rw [append_size]; omega)
  · exact g1 _ _ (by omega)
  · exact g1 _ _ (by omega)

theorem OpPut_t (m : Nat) (hm : 1000 ≤ m) {k : Int} {a b c d : ByteArray} {n : Int} {xs : List ByteArray} (h : OpIs k a b c d n xs) :
    Ok (spec_OpPut m (k, a, b, c, d, n, xs, ())) (fun r => r.1.size < 1000000) := by
  show Ok (spec_OpPut.start m _ k a b c d n xs) _
  unfold spec_OpPut.start
  refine ok_bind (l19Ok_t m hm h) (fun _ _ => ok_cond (fun _ => ok_some (by decide)) (fun _ => ok_bind (l19Put_t m hm h) (fun r hr => ok_some hr)))

theorem op_t (m : Nat) (hm : 1000 ≤ m) {l : List Int} {p c : Int} (h : Rd l p c) (hc : c < 10000) :
    Ok (spec_l30Op m (l, p, ())) (fun r => Rd r.1 r.2.1 (c + 20) ∧ OpIs r.2.2.1 r.2.2.2.1 r.2.2.2.2.1 r.2.2.2.2.2.1 r.2.2.2.2.2.2.1 r.2.2.2.2.2.2.2.1 r.2.2.2.2.2.2.2.2.1) := by
  obtain ⟨q, hq⟩ : ∃ q, m = q + 1 + 1 := ⟨m - 2, by omega⟩
  show Ok (spec_l30Op.start m (spec_l30Op.tab m m) l p) _
  have z : ByteArray.size ByteArray.empty ≤ 8 := by decide
  have g1 : ∀ (l : List Int) (p : Int) (e1 e2 e3 e4 e5 e6 e7 e8 e9 e10 e11 e12 e13 e14 : _), Rd l p (c + 3) → ByteArray.size e8 ≤ 8 → ByteArray.size e9 ≤ 8 → ByteArray.size e10 ≤ 8 → ByteArray.size e11 ≤ 8 → (0 : Int) ≤ e12 → e12 < 10 →
      Ok ((spec_l30Op.tab m (q + 1)).2.1 (l, p, e1, e2, e3, e4, e5, e6, e7, e8, e9, e10, e11, e12, e13, e14, ())) (fun r => Rd r.1 r.2.1 (c + 20) ∧ OpIs r.2.2.1 r.2.2.2.1 r.2.2.2.2.1 r.2.2.2.2.2.1 r.2.2.2.2.2.2.1 r.2.2.2.2.2.2.2.1 r.2.2.2.2.2.2.2.2.1) := by
    intro l p e1 e2 e3 e4 e5 e6 e7 e8 e9 e10 e11 e12 e13 e14 h h8 h9 h10 h11 h12 h12'
    show Ok (spec_l30Op.b1 m (spec_l30Op.tab m q) l p e1 e2 e3 e4 e5 e6 e7 e8 e9 e10 e11 e12 e13 e14) _
    unfold spec_l30Op.b1
    refine ok_cond (fun _ => ?_) (fun _ => ok_cond (fun _ => ?_) (fun _ => ok_cond (fun _ => ?_) (fun _ => ?_)))
    · refine ok_bind (branch_k m h (by omega)) (fun r hr => ok_some ⟨hr.1.mono (by omega), ⟨by dsimp only; omega, by dsimp only; omega, h8, h9, h10, hr.2, h12, h12', Strs.nil⟩⟩)
    · refine ok_bind (pick_k m 10 h (by omega) (by omega) (by omega)) (fun r hr => ok_some ⟨hr.1.mono (by omega), ⟨by dsimp only; omega, by dsimp only; omega, h8, h9, h10, h11, hr.2.1, hr.2.2, Strs.nil⟩⟩)
    · refine ok_bind (pick_k m 10 h (by omega) (by omega) (by omega)) (fun r hr => ok_some ⟨hr.1.mono (by omega), ⟨by dsimp only; omega, by dsimp only; omega, h8, h9, h10, h11, hr.2.1, hr.2.2, Strs.nil⟩⟩)
    · refine ok_bind (path_k m h (by omega)) (fun r hr => ok_bind (text_k m (by omega) hr.1 (by omega)) (fun r' hr' => ok_some ⟨hr'.1.mono (by omega), ⟨by dsimp only; omega, by dsimp only; omega, h8, h9, hr.2, h11, h12, h12', hr'.2⟩⟩))
  have g0 : ∀ (l : List Int) (p : Int) (e1 e2 e3 e4 e5 e6 e7 e8 e9 e10 e11 e12 e13 e14 : _), Rd l p (c + 3) → ByteArray.size e8 ≤ 8 → ByteArray.size e9 ≤ 8 → ByteArray.size e10 ≤ 8 → ByteArray.size e11 ≤ 8 → (0 : Int) ≤ e12 → e12 < 10 →
      Ok ((spec_l30Op.tab m m).1 (l, p, e1, e2, e3, e4, e5, e6, e7, e8, e9, e10, e11, e12, e13, e14, ())) (fun r => Rd r.1 r.2.1 (c + 20) ∧ OpIs r.2.2.1 r.2.2.2.1 r.2.2.2.2.1 r.2.2.2.2.2.1 r.2.2.2.2.2.2.1 r.2.2.2.2.2.2.2.1 r.2.2.2.2.2.2.2.2.1) := by
    intro l p e1 e2 e3 e4 e5 e6 e7 e8 e9 e10 e11 e12 e13 e14 h h8 h9 h10 h11 h12 h12'
    rw [show spec_l30Op.tab m m = spec_l30Op.tab m (q + 1 + 1) by rw [← hq]]
    show Ok (spec_l30Op.b0 m (spec_l30Op.tab m (q + 1)) l p e1 e2 e3 e4 e5 e6 e7 e8 e9 e10 e11 e12 e13 e14) _
    unfold spec_l30Op.b0
    refine ok_cond (fun _ => ?_) (fun _ => ok_cond (fun _ => ?_) (fun _ => ok_cond (fun _ => ?_) (fun _ => ?_)))
    · refine ok_bind (of_k m _ h (by omega) (by decide) (by decide)) (fun r hr => ok_some ⟨hr.1.mono (by omega), ⟨by dsimp only; omega, by dsimp only; omega, h8, h9, h10, ?_, h12, h12', Strs.nil⟩⟩)
      have := hr.2
      simp only [List.mem_cons, List.not_mem_nil, or_false] at this
      rcases this with e | e | e <;> rw [e] <;> decide
    · exact g1 _ _ _ _ _ _ _ _ _ _ _ _ _ _ _ _ h h8 h9 h10 h11 h12 h12'
    · exact g1 _ _ _ _ _ _ _ _ _ _ _ _ _ _ _ _ h h8 h9 h10 h11 h12 h12'
    · exact g1 _ _ _ _ _ _ _ _ _ _ _ _ _ _ _ _ h h8 h9 h10 h11 h12 h12'
  generalize spec_l30Op.tab m m = t at g0
  unfold spec_l30Op.start
  refine ok_bind (branch_k m h (by omega)) (fun r1 h1 => ok_bind (of_k m _ h1.1 (by omega) (by decide) (by decide)) (fun r2 h2 => ok_bind (pick_k m 12 h2.1 (by omega) (by omega) (by omega)) (fun r3 h3 => ?_)))
  have hw : r2.2.2.1.size ≤ 8 := by
    have := h2.2
    simp only [List.mem_cons, List.not_mem_nil, or_false] at this
    rcases this with e | e | e <;> rw [e] <;> decide
  have h3' := h3.1.mono (d := c + 3) (by omega)
  refine ok_cond (fun _ => ?_) (fun _ => ok_cond (fun _ => ?_) (fun _ => ok_cond (fun _ => ?_) (fun _ => ?_)))
  · refine ok_bind (path_k m h3' (by omega)) (fun r hr => ok_some ⟨hr.1.mono (by omega), ⟨by dsimp only; omega, by dsimp only; omega, h1.2, hw, hr.2, z, by dsimp only; omega, by dsimp only; omega, Strs.nil⟩⟩)
  · refine ok_bind (path_k m h3' (by omega)) (fun r hr => ok_bind (path_k m hr.1 (by omega)) (fun r' hr' => ok_some ⟨hr'.1.mono (by omega), ⟨by dsimp only; omega, by dsimp only; omega, h1.2, hw, hr.2, hr'.2, by dsimp only; omega, by dsimp only; omega, Strs.nil⟩⟩))
  · exact g0 _ _ _ _ _ _ _ _ _ _ _ _ _ _ _ _ h3' h1.2 hw z z (by omega) (by omega)
  · exact g0 _ _ _ _ _ _ _ _ _ _ _ _ _ _ _ _ h3' h1.2 hw z z (by omega) (by omega)

theorem open_t (m : Nat) (l : List Int) (hl : Byt l) : Ok (spec_l30Open m (l, ())) (fun r => Rd r.1 r.2.1 0) := by
  show Ok (spec_l30Open.start m () l) _
  unfold spec_l30Open.start
  refine ok_if (fun h => ok_chk (by decide) (ok_chk (by simp only [lLen] at h; omega) (ok_some ⟨?_, ?_, by show (0:Int) ≤ 0; omega, by show (0:Int) ≤ 0; omega⟩))) (fun h => ok_some ⟨hl, ?_, by show (0:Int) ≤ 0; omega, by show (0:Int) ≤ 0; omega⟩)
  · intro n hn
    exact hl n (List.mem_of_mem_take (List.mem_of_mem_drop hn))
  · show (List.drop 0 (List.take _ l)).length ≤ 2000
    simp; omega
  · simp only [lLen] at h
    show l.length ≤ 2000
    omega

theorem draw_t (m : Nat) (hm : 1000 ≤ m) (l : List Int) (hl : Byt l) : Ok (spec_DrawCrc m (l, ())) (fun r => r.1.size < 1000000) := by
  show Ok (spec_DrawCrc.start m _ l) _
  unfold spec_DrawCrc.start
  refine ok_bind (open_t m l hl) (fun r1 h1 => ok_bind (op_t m hm h1 (by omega)) (fun r2 h2 => ok_bind (OpPut_t m hm h2.2) (fun r3 h3 => ok_bind (of_k m _ h2.1 (by omega) (by simp) (by simp)) (fun r4 h4 => ok_some ?_))))
  have := h4.2
  simp only [List.mem_cons, List.not_mem_nil, or_false] at this
  rcases this with e | e | e | e
  · rw [e]; decide
  · rw [e]; decide
  · rw [e]; decide
  · rw [e]; exact h3
end Go.Sx.Try
