/- A part of the pure law of FnTreeRead, over the printed functions: what they answer. No condition but those of each theorem. -/
import Derived.Test.YtpchbfkiingmjaaDoorSxD
import Derived.Test.YtpchbfkiingmjaaDoorTtrG
namespace Go.Sx.Tryd
open Go Go.Proofs Go.Sx
set_option linter.unusedVariables false
set_option linter.unusedSimpArgs false

/-- bytes -/
def Byt (l : List Int) : Prop := ∀ n ∈ l, 0 ≤ n ∧ n < 256

theorem byt_of {l : List Int} (h : Bnd (.list (.int .u8)) l) : Byt l := by
  intro n hn
  have : IntKind.u8.wrap n = n := h.2 n hn
  rw [wrap_iff] at this
  simp [IntKind.signed, IntKind.bits] at this
  omega

theorem getL_byt {l : List Int} (hl : Byt l) (i : Int) : 0 ≤ getL l i 0 ∧ getL l i 0 < 256 := by
  unfold getL
  rw [List.getD_eq_getElem?_getD]
  cases h : l[i.toNat]? with
  | none => simp
  | some v => exact hl v (List.mem_of_getElem? h)

theorem tmod_range {a n : Int} (ha : 0 ≤ a) (hn : 1 ≤ n) : 0 ≤ Int.tmod a n ∧ Int.tmod a n < n := by
  rw [Int.tmod_eq_emod_of_nonneg ha]
  exact ⟨Int.emod_nonneg _ (by omega), Int.emod_lt_of_pos _ (by omega)⟩

theorem pick_ok (m : Nat) (l : List Int) (p n : Int) (hl : Byt l) (hlen : l.length ≤ 2000) (hp : 0 ≤ p) (hp2 : p < 1000000000) (hn : 1 ≤ n) (hn2 : n < 1000000000) :
    ∃ k : Int, spec_l30Rd_pick m (l, p, n, ()) = some (l, p + 1, k, ()) ∧ 0 ≤ k ∧ k < n := by
  show ∃ k : Int, spec_l30Rd_pick.start m () l p n = some (l, p + 1, k, ()) ∧ 0 ≤ k ∧ k < n
  unfold spec_l30Rd_pick.start
  have w1 : w64 (p + 1) = p + 1 := w64_ok (x := p + 1) (by omega) (by omega)
  have w2 : w64 (p + 1 - 1) = p := by
    have e : p + 1 - 1 = p := by omega
    have h := w64_ok (x := p + 1 - 1) (by omega) (by omega)
    exact h.trans e
  have c1 : decide (n < 1) = false := by simp; omega
  have c2 : (n == 0) = false := by simp; omega
  simp only [w1, w2, c1, c2, cond, lett]
  by_cases h0 : l.length = 0
  · refine ⟨0, ?_, by omega, by omega⟩
    rw [show (lLen l == 0) = true by simp [lLen, h0]]
  · have c3 : (lLen l == 0) = false := by
      unfold lLen; rw [beq_eq_false_iff_ne]; omega
    have hL : (1 : Int) ≤ lLen l := by simp only [lLen]; omega
    rw [c3]
    simp only
    by_cases hlt : p < lLen l
    · rw [show decide (p < lLen l) = true by simpa using hlt, show decide ((0 : Int) ≤ p) = true by simpa using hp]
      simp only
      have hb := getL_byt hl p
      have : wr .i64 (getL l p 0) = getL l p 0 := w64_ok (by omega) (by omega)
      rw [this]
      exact ⟨_, rfl, tmod_range hb.1 hn⟩
    · rw [show decide (p < lLen l) = false by simpa using hlt]
      simp only
      obtain ⟨a1, a2⟩ := tmod_range hp hL
      have w3 : w64 (w64 (p * 7) + 3) = p * 7 + 3 := by
        rw [show w64 (p * 7) = p * 7 from w64_ok (by omega) (by omega)]; exact w64_ok (by omega) (by omega)
      obtain ⟨b1, b2⟩ := tmod_range (a := p * 7 + 3) (by omega) hL
      rw [show decide ((0 : Int) ≤ Int.tmod p (lLen l)) = true by simpa using a1, show decide (Int.tmod p (lLen l) < lLen l) = true by simpa using a2, w3,
        show decide ((0 : Int) ≤ Int.tmod (p * 7 + 3) (lLen l)) = true by simpa using b1, show decide (Int.tmod (p * 7 + 3) (lLen l) < lLen l) = true by simpa using b2]
      simp only
      have hb1 := getL_byt hl (Int.tmod p (lLen l))
      have hb2 := getL_byt hl (Int.tmod (p * 7 + 3) (lLen l))
      generalize getL l (Int.tmod p (lLen l)) 0 = y1 at hb1
      generalize getL l (Int.tmod (p * 7 + 3) (lLen l)) 0 = y2 at hb2
      have e1 : wr .i64 y1 = y1 := w64_ok (by omega) (by omega)
      have e2 : wr .i64 y2 = y2 := w64_ok (by omega) (by omega)
      have e3 : w64 (y1 * 131) = y1 * 131 := w64_ok (by omega) (by omega)
      have e4 : w64 (y2 * 1117) = y2 * 1117 := w64_ok (by omega) (by omega)
      have e5 : w64 (y1 * 131 + y2 * 1117) = y1 * 131 + y2 * 1117 := w64_ok (by omega) (by omega)
      have hq : 0 ≤ Int.tdiv p (lLen l) ∧ Int.tdiv p (lLen l) ≤ p := by
        rw [Int.tdiv_eq_ediv_of_nonneg hp]
        exact ⟨Int.ediv_nonneg hp (by omega), Int.ediv_le_self _ hp⟩
      generalize Int.tdiv p (lLen l) = q at hq
      have e6 : w64 q = q := w64_ok (by omega) (by omega)
      have e7 : w64 (q * 53) = q * 53 := w64_ok (by omega) (by omega)
      have e8 : w64 (p * 29) = p * 29 := w64_ok (by omega) (by omega)
      have e9 : w64 (y1 * 131 + y2 * 1117 + p * 29) = y1 * 131 + y2 * 1117 + p * 29 := w64_ok (by omega) (by omega)
      have e10 : w64 (y1 * 131 + y2 * 1117 + p * 29 + q * 53) = y1 * 131 + y2 * 1117 + p * 29 + q * 53 := w64_ok (by omega) (by omega)
      simp only [e1, e2, e3, e4, e5, e6, e7, e8, e9, e10]
      obtain ⟨N, hN⟩ := Int.eq_ofNat_of_zero_le (show 0 ≤ y1 * 131 + y2 * 1117 + p * 29 + q * 53 by omega)
      have hN2 : N < 2 ^ 60 := by omega
      rw [hN]
      have e11 : w64 (Int.tdiv (N : Int) 64) = ((N / 64 : Nat) : Int) := by
        rw [show Int.tdiv (N : Int) 64 = ((N / 64 : Nat) : Int) by rw [Int.tdiv_eq_ediv_of_nonneg (by omega)]; omega]
        exact w64_ok (by omega) (by omega)
      rw [e11, xor_i64 (by omega) (by omega), show ((64 : Int) == 0) = false from rfl]
      exact ⟨_, rfl, tmod_range (by omega) hn⟩

theorem of_ok (m : Nat) (l : List Int) (p : Int) (xs : List ByteArray) (hl : Byt l) (hlen : l.length ≤ 2000) (hp : 0 ≤ p) (hp2 : p < 1000000000) (hx : 1 ≤ xs.length) (hx2 : xs.length < 1000000) :
    ∃ y, y ∈ xs ∧ spec_l30Rd_of m (l, p, xs, ()) = some (l, p + 1, y, ()) := by
  obtain ⟨k, h, h0, h1⟩ := pick_ok m l p (lLen xs) hl hlen hp hp2 (by unfold lLen; omega) (by unfold lLen; omega)
  refine ⟨getL xs k ByteArray.empty, getL_mem h0 h1, ?_⟩
  show spec_l30Rd_of.start m () l p xs = _
  unfold spec_l30Rd_of.start
  rw [h]
  simp only [Option.bind_some]
  rw [show decide ((0 : Int) ≤ k) = true by simpa using h0, show decide (k < lLen xs) = true by simpa using h1]
  rfl

theorem one_ok (m : Nat) (l : List Int) (p : Int) (xs : List Int) (hl : Byt l) (hlen : l.length ≤ 2000) (hp : 0 ≤ p) (hp2 : p < 1000000000) (hx : 1 ≤ xs.length) (hx2 : xs.length < 1000000) :
    ∃ y : Int, y ∈ xs ∧ spec_l30Rd_one m (l, p, xs, ()) = some (l, p + 1, y, ()) := by
  obtain ⟨k, h, h0, h1⟩ := pick_ok m l p (lLen xs) hl hlen hp hp2 (by unfold lLen; omega) (by unfold lLen; omega)
  refine ⟨getL xs k 0, getL_mem h0 h1, ?_⟩
  show spec_l30Rd_one.start m () l p xs = _
  unfold spec_l30Rd_one.start
  rw [h]
  simp only [Option.bind_some]
  rw [show decide ((0 : Int) ≤ k) = true by simpa using h0, show decide (k < lLen xs) = true by simpa using h1]
  rfl


/-- a reader of so many bytes, after at most so many picks -/
structure Rd (l : List Int) (p : Int) (c : Int) : Prop where
  byt : Byt l
  len : l.length ≤ 2000
  lo : 0 ≤ p
  hi : p ≤ c

theorem Rd.mono {l : List Int} {p c d : Int} (h : Rd l p c) (hd : c ≤ d) : Rd l p d := ⟨h.byt, h.len, h.lo, by have := h.hi; omega⟩

theorem pick_k (m : Nat) {l : List Int} {p c : Int} (n : Int) (h : Rd l p c) (hc : c < 1000000) (hn : 1 ≤ n) (hn2 : n < 1000000000) :
    Ok (spec_l30Rd_pick m (l, p, n, ())) (fun r => Rd r.1 r.2.1 (c + 1) ∧ (0 : Int) ≤ r.2.2.1 ∧ r.2.2.1 < n) := by
  have hh := h.hi
  obtain ⟨k, e, k0, k1⟩ := pick_ok m l p n h.byt h.len h.lo (by omega) hn hn2
  have := h.lo
  exact ⟨_, e, ⟨h.byt, h.len, by show (0 : Int) ≤ p + 1; omega, by show p + 1 ≤ c + 1; omega⟩, k0, k1⟩
theorem of_k (m : Nat) {l : List Int} {p c : Int} (xs : List ByteArray) (h : Rd l p c) (hc : c < 1000000) (hx : 1 ≤ xs.length) (hx2 : xs.length < 1000000) :
    Ok (spec_l30Rd_of m (l, p, xs, ())) (fun r => Rd r.1 r.2.1 (c + 1) ∧ r.2.2.1 ∈ xs) := by
  have hh := h.hi
  obtain ⟨y, hy, e⟩ := of_ok m l p xs h.byt h.len h.lo (by omega) hx hx2
  have := h.lo
  exact ⟨_, e, ⟨h.byt, h.len, by show (0 : Int) ≤ p + 1; omega, by show p + 1 ≤ c + 1; omega⟩, hy⟩
theorem one_k (m : Nat) {l : List Int} {p c : Int} (xs : List Int) (h : Rd l p c) (hc : c < 1000000) (hx : 1 ≤ xs.length) (hx2 : xs.length < 1000000) :
    Ok (spec_l30Rd_one m (l, p, xs, ())) (fun r => Rd r.1 r.2.1 (c + 1) ∧ r.2.2.1 ∈ xs) := by
  have hh := h.hi
  obtain ⟨y, hy, e⟩ := one_ok m l p xs h.byt h.len h.lo (by omega) hx hx2
  have := h.lo
  exact ⟨_, e, ⟨h.byt, h.len, by show (0 : Int) ≤ p + 1; omega, by show p + 1 ≤ c + 1; omega⟩, hy⟩

theorem path_k (m : Nat) {l : List Int} {p c : Int} (h : Rd l p c) (hc : c < 1000000) :
    Ok (spec_l30Path m (l, p, ())) (fun r => Rd r.1 r.2.1 (c + 1) ∧ r.2.2.1.size ≤ 8) := by
  show Ok (spec_l30Path.start m () l p) _
  unfold spec_l30Path.start
  refine ok_bind (of_k m _ h hc (by decide) (by decide)) (fun r hr => ok_some ⟨hr.1, ?_⟩)
  have := hr.2
  simp only [List.mem_cons, List.not_mem_nil, or_false] at this
  rcases this with e | e | e | e | e | e | e <;> rw [e] <;> decide

theorem line_k (m : Nat) {l : List Int} {p c : Int} (h : Rd l p c) (hc : c < 1000000) :
    Ok (spec_l30Line m (l, p, ())) (fun r => Rd r.1 r.2.1 (c + 1) ∧ r.2.2.1.size ≤ 8) := by
  show Ok (spec_l30Line.start m () l p) _
  unfold spec_l30Line.start
  refine ok_lett fun v hv => ?_
  refine ok_bind (of_k m v h hc (by rw [hv]; decide) (by rw [hv]; decide)) (fun r hr => ok_some ⟨hr.1, ?_⟩)
  have := hr.2
  rw [hv] at this
  simp only [List.mem_cons, List.not_mem_nil, or_false] at this
  rcases this with e | e | e | e | e | e | e | e | e <;> rw [e] <;> decide

theorem text_loop (m : Nat) : ∀ (d k : Nat) (l : List Int) (p c : Int) (xs : List ByteArray), Rd l p c → c + d < 1000000 → xs.length + d ≤ 8 → Strs 8 8 xs →
    Ok ((spec_l30Text.tab m (k + d + 1)).1 (l, p, xs, (d : Int), ())) (fun r => Rd r.1 r.2.1 (c + d) ∧ Strs 8 8 r.2.2.1)
  | 0, k, l, p, c, xs, h, hc, hx, hs => by
    show Ok (spec_l30Text.b0 m (spec_l30Text.tab m k) l p xs 0) _
    unfold spec_l30Text.b0
    exact ok_if (fun h => absurd h (by decide)) (fun _ => ok_some ⟨h.mono (by omega), hs⟩)
  | d + 1, k, l, p, c, xs, h, hc, hx, hs => by
    show Ok (spec_l30Text.b0 m (spec_l30Text.tab m (k + d + 1)) l p xs ((d + 1 : Nat) : Int)) _
    unfold spec_l30Text.b0
    refine ok_chk (by omega) ?_
    refine ok_bind (line_k m h (by omega)) (fun r hr => ?_)
    refine ok_chk (by show xs.length + 1 ≤ 1073741824; omega) ?_
    rw [show w64 (((d + 1 : Nat) : Int) - 1) = (d : Int) from by rw [show (((d + 1 : Nat) : Int) - 1) = (d : Int) by omega]; exact w64_ok (by omega) (by omega)]
    refine (text_loop m d k _ _ _ _ hr.1 (by omega) ?_ ?_).mono (fun y hy => ⟨hy.1.mono (by omega), hy.2⟩)
    · show (xs ++ _).length + d ≤ 8
      simp; omega
    · exact ⟨by show (xs ++ _).length ≤ 8; simp; omega, (hs.snoc hr.2).2⟩

theorem text_k (m : Nat) (hm : 9 ≤ m) {l : List Int} {p c : Int} (h : Rd l p c) (hc : c < 100000) :
    Ok (spec_l30Text m (l, p, ())) (fun r => Rd r.1 r.2.1 (c + 9) ∧ Strs 8 8 r.2.2.1) := by
  show Ok (spec_l30Text.start m (spec_l30Text.tab m m) l p) _
  unfold spec_l30Text.start
  refine ok_bind (one_k m _ h (by omega) (by decide) (by decide)) (fun r hr => ?_)
  have := hr.2
  simp only [List.mem_cons, List.not_mem_nil, or_false] at this
  obtain ⟨d, e, hd⟩ : ∃ d : Nat, r.2.2.1 = (d : Int) ∧ d ≤ 8 := by
    rcases this with e | e | e | e | e <;> rw [e]
    · exact ⟨0, rfl, by omega⟩
    · exact ⟨1, rfl, by omega⟩
    · exact ⟨3, rfl, by omega⟩
    · exact ⟨5, rfl, by omega⟩
    · exact ⟨8, rfl, by omega⟩
  have := text_loop m d (m - (d + 1)) _ _ _ [] hr.1 (by omega) (by simp; omega) Strs.nil
  rw [show m - (d + 1) + d + 1 = m by omega] at this
  rw [e]
  exact this.mono (fun y hy => ⟨hy.1.mono (by omega), hy.2⟩)
theorem open_t (m : Nat) (l : List Int) (hl : Byt l) : Ok (spec_l30Open m (l, ())) (fun r => Rd r.1 r.2.1 0) := by
  show Ok (spec_l30Open.start m () l) _
  unfold spec_l30Open.start
  refine ok_if (fun h => ok_chk (by decide) (ok_chk (by simp only [lLen] at h; omega) (ok_some ⟨?_, ?_, by show (0:Int) ≤ 0; omega, by show (0:Int) ≤ 0; omega⟩))) (fun h => ok_some ⟨hl, ?_, by show (0:Int) ≤ 0; omega, by show (0:Int) ≤ 0; omega⟩)
  · intro n hn
    exact hl n (List.mem_of_mem_take (List.mem_of_mem_drop hn))
  · show (List.drop 0 (List.take _ l)).length ≤ 2000
    simp; omega
  · simp only [lLen] at h
    show l.length ≤ 2000
    omega

end Go.Sx.Tryd
