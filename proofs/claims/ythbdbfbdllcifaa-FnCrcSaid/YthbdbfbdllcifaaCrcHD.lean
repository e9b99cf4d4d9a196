/- A part of the pure law of FnCrc, over the printed functions: what they answer. No condition but those of each theorem. -/
import Derived.Test.YthbdbfbdllcifaaCrcHC
namespace Go.Sx.Try
open Go Go.Proofs Go.Sx
set_option linter.unusedVariables false
set_option linter.unusedSimpArgs false

def bit (c : Nat) : Nat := if c % 2 = 1 then (c / 2) ^^^ 3988292384 else c / 2
def bits : Nat → Nat → Nat
  | 0, c => c
  | n + 1, c => bits n (bit c)
def runC (s : ByteArray) : Nat → Nat → Nat → Nat
  | 0, _, c => c
  | d + 1, i, c => runC s d (i + 1) (bits 8 (c ^^^ (s.data.getD i 0).toNat))
def crcN (s : ByteArray) : Nat := (runC s s.size 0 4294967295) ^^^ 4294967295

theorem bit_lt {c : Nat} (h : c < 2 ^ 32) : bit c < 2 ^ 32 := by
  unfold bit
  split
  · exact Nat.xor_lt_two_pow (by omega) (by decide)
  · omega
theorem bits_lt : ∀ {n c : Nat}, c < 2 ^ 32 → bits n c < 2 ^ 32
  | 0, _, h => h
  | n + 1, _, h => bits_lt (n := n) (bit_lt h)
theorem byte_lt (s : ByteArray) (i : Nat) : (s.data.getD i 0).toNat < 256 := (s.data.getD i 0).toNat_lt
theorem mix_lt {c : Nat} (s : ByteArray) (i : Nat) (h : c < 2 ^ 32) : c ^^^ (s.data.getD i 0).toNat < 2 ^ 32 := Nat.xor_lt_two_pow h (Nat.lt_trans (byte_lt s i) (by decide))
theorem runC_lt {s : ByteArray} : ∀ {d i c : Nat}, c < 2 ^ 32 → runC s d i c < 2 ^ 32
  | 0, _, _, h => h
  | d + 1, i, c, h => runC_lt (d := d) (bits_lt (mix_lt s i h))

theorem spec_bits (m k : Nat) (s : ByteArray) (i : Int) : ∀ (d c : Nat), d ≤ 8 → c < 2 ^ 32 →
    (spec_l20Crc.tab m (k + d + 1)).2.1 (s, (c : Int), i, ((8 - d : Nat) : Int), ()) = (spec_l20Crc.tab m k).1 (s, (bits d c : Nat), w64 (i + 1), ())
  | 0, c, hd, hc => by
    show spec_l20Crc.b1 m (spec_l20Crc.tab m k) s (c : Int) i ((8 : Nat) : Int) = _
    rfl
  | d + 1, c, hd, hc => by
    show spec_l20Crc.b1 m (spec_l20Crc.tab m (k + d + 1)) s (c : Int) i ((8 - (d + 1) : Nat) : Int) = _
    unfold spec_l20Crc.b1
    have h1 : decide (((8 - (d + 1) : Nat) : Int) < 8) = true := by simp; omega
    have h2 : ((2 : Int) == 0) = false := rfl
    have h3 : w64 (((8 - (d + 1) : Nat) : Int) + 1) = ((8 - d : Nat) : Int) := by
      rw [show (((8 - (d + 1) : Nat) : Int) + 1) = ((8 - d : Nat) : Int) by omega]
      exact w64_ok (by omega) (by omega)
    have h4 : w64 (Int.tdiv (c : Int) 2) = ((c / 2 : Nat) : Int) := by
      rw [show Int.tdiv (c : Int) 2 = ((c / 2 : Nat) : Int) by rw [Int.tdiv_eq_ediv_of_nonneg (by omega)]; omega]
      exact w64_ok (by omega) (by omega)
    have h5 : (Int.tmod (c : Int) 2 == 1) = decide (c % 2 = 1) := by
      have : Int.tmod (c : Int) 2 = ((c % 2 : Nat) : Int) := by rw [Int.tmod_eq_emod_of_nonneg (by omega)]; omega
      rw [this]
      by_cases hm : c % 2 = 1
      · simp [hm]
      · simp [hm]; omega
    rw [h1, h2, h3, h4, h5]
    simp only [cond]
    have h6 : xorI .i64 ((c / 2 : Nat) : Int) 3988292384 = (((c / 2) ^^^ 3988292384 : Nat) : Int) := xor_i64 (b := 3988292384) (by omega) (by decide)
    rw [h6]
    have ih := spec_bits m k s i d (bit c) (by omega) (bit_lt hc)
    show _ = (spec_l20Crc.tab m k).1 (s, (bits d (bit c) : Nat), w64 (i + 1), ())
    rw [← ih]
    unfold bit
    by_cases hm : c % 2 = 1
    · simp only [hm, decide_true, if_true]
    · simp only [hm, decide_false, if_false]

theorem spec_run (m k : Nat) (s : ByteArray) (hs : s.size ≤ 1000000) : ∀ (d i c : Nat), i + d = s.size → c < 2 ^ 32 →
    (spec_l20Crc.tab m (k + 10 * d + 1)).1 (s, (c : Int), (i : Int), ()) = some ((((runC s d i c) ^^^ 4294967295 : Nat) : Int), ())
  | 0, i, c, hd, hc => by
    show spec_l20Crc.b0 m (spec_l20Crc.tab m k) s (c : Int) (i : Int) = _
    unfold spec_l20Crc.b0
    have h1 : decide ((i : Int) < sLen s) = false := by simp [sLen]; omega
    rw [h1]
    simp only [cond]
    rw [show xorI .i64 (c : Int) 4294967295 = ((c ^^^ 4294967295 : Nat) : Int) from xor_i64 (b := 4294967295) (by omega) (by decide)]
    rfl
  | d + 1, i, c, hd, hc => by
    rw [show k + 10 * (d + 1) + 1 = (k + 10 * d + 1) + 8 + 1 + 1 by omega]
    show spec_l20Crc.b0 m (spec_l20Crc.tab m (k + 10 * d + 1 + 8 + 1)) s (c : Int) (i : Int) = _
    unfold spec_l20Crc.b0
    have h1 : decide ((i : Int) < sLen s) = true := by simp [sLen]; omega
    have h2 : decide ((0 : Int) ≤ (i : Int)) = true := by simp
    rw [h1, h2]
    simp only [cond]
    have hb := byte_lt s i
    have h3 : xorI .i64 (c : Int) (wr .i64 (byteAt s (i : Int))) = ((c ^^^ (s.data.getD i 0).toNat : Nat) : Int) := by
      rw [byteAt_nat, Int.toNat_natCast]
      rw [show wr .i64 (((s.data.getD i 0).toNat : Nat) : Int) = (((s.data.getD i 0).toNat : Nat) : Int) from w64_ok (by omega) (by omega)]
      exact xor_i64 (by omega) (by omega)
    rw [h3]
    have := spec_bits m (k + 10 * d + 1) s (i : Int) 8 (c ^^^ (s.data.getD i 0).toNat) (by omega) (mix_lt s i hc)
    rw [show ((8 - 8 : Nat) : Int) = 0 from rfl] at this
    rw [this]
    rw [show w64 ((i : Int) + 1) = ((i + 1 : Nat) : Int) from w64_ok (by omega) (by omega)]
    exact spec_run m k s hs d (i + 1) _ (by omega) (bits_lt (mix_lt s i hc))

theorem spec_ok (m : Nat) (s : ByteArray) (hs : s.size ≤ 1000000) (hm : 10 * s.size + 1 ≤ m) : spec_Crc m (s, ()) = some (((crcN s : Nat) : Int), ()) := by
  have h := spec_run m (m - (10 * s.size + 1)) s hs s.size 0 4294967295 (by omega) (by decide)
  rw [show m - (10 * s.size + 1) + 10 * s.size + 1 = m by omega] at h
  show Option.bind (spec_l20Crc m (s, ())) (fun r1 => some (r1.1, ())) = _
  rw [show spec_l20Crc m (s, ()) = (spec_l20Crc.tab m m).1 (s, ((4294967295 : Nat) : Int), ((0 : Nat) : Int), ()) from rfl, h]
  rfl

theorem impl_bits (m k : Nat) (s : ByteArray) (n i : Int) : ∀ (d c : Nat), d ≤ 8 → c < 2 ^ 32 →
    (impl_Crc.tab m (k + d + 1)).2.1 (s, (c : Int), n, i, ((8 - d : Nat) : Int), ()) = (impl_Crc.tab m k).1 (s, (bits d c : Nat), n, w64 (i + 1), ())
  | 0, c, hd, hc => rfl
  | d + 1, c, hd, hc => by
    show impl_Crc.b1 m (impl_Crc.tab m (k + d + 1)) s (c : Int) n i ((8 - (d + 1) : Nat) : Int) = _
    unfold impl_Crc.b1
    have h1 : decide (((8 - (d + 1) : Nat) : Int) < 8) = true := by simp; omega
    have h2 : decide ((1 : Int) < 0) = false := rfl
    have h3 : w64 (((8 - (d + 1) : Nat) : Int) + 1) = ((8 - d : Nat) : Int) := by
      rw [show (((8 - (d + 1) : Nat) : Int) + 1) = ((8 - d : Nat) : Int) by omega]
      exact w64_ok (by omega) (by omega)
    have h4 : shrI .u32 (c : Int) 1 = ((c / 2 : Nat) : Int) := shr_u32
    have h5 : (andI .u32 (c : Int) 1 == 1) = decide (c % 2 = 1) := by
      rw [show andI .u32 (c : Int) 1 = ((c &&& 1 : Nat) : Int) from and_u32 (b := 1) hc (by decide), Nat.and_one_is_mod]
      by_cases hm : c % 2 = 1
      · simp [hm]
      · simp [hm]; omega
    rw [h1, h2, h3, h4, h5]
    simp only [cond]
    have h6 : xorI .u32 ((c / 2 : Nat) : Int) 3988292384 = (((c / 2) ^^^ 3988292384 : Nat) : Int) := xor_u32 (b := 3988292384) (by omega) (by decide)
    rw [h6]
    have ih := impl_bits m k s n i d (bit c) (by omega) (bit_lt hc)
    show _ = (impl_Crc.tab m k).1 (s, (bits d (bit c) : Nat), n, w64 (i + 1), ())
    rw [← ih]
    unfold bit
    by_cases hm : c % 2 = 1
    · simp only [hm, decide_true, if_true]
    · simp only [hm, decide_false, if_false]

theorem impl_run (m k : Nat) (s : ByteArray) (hs : s.size ≤ 1000000) : ∀ (d i c : Nat), i + d = s.size → c < 2 ^ 32 →
    (impl_Crc.tab m (k + 10 * d + 1)).1 (s, (c : Int), sLen s, (i : Int), ()) = some ((((runC s d i c) ^^^ 4294967295 : Nat) : Int), ())
  | 0, i, c, hd, hc => by
    show impl_Crc.b0 m (impl_Crc.tab m k) s (c : Int) (sLen s) (i : Int) = _
    unfold impl_Crc.b0
    have h1 : decide ((i : Int) < sLen s) = false := by simp [sLen]; omega
    rw [h1]
    simp only [cond]
    rw [not_u32 hc]
    have := Nat.xor_lt_two_pow hc (show 4294967295 < 2 ^ 32 by decide)
    rw [show wr .i64 ((c ^^^ 4294967295 : Nat) : Int) = ((c ^^^ 4294967295 : Nat) : Int) from w64_ok (by omega) (by omega)]
    rfl
  | d + 1, i, c, hd, hc => by
    rw [show k + 10 * (d + 1) + 1 = (k + 10 * d + 1) + 8 + 1 + 1 by omega]
    show impl_Crc.b0 m (impl_Crc.tab m (k + 10 * d + 1 + 8 + 1)) s (c : Int) (sLen s) (i : Int) = _
    unfold impl_Crc.b0
    have h1 : decide ((i : Int) < sLen s) = true := by simp [sLen]; omega
    have h2 : decide ((0 : Int) ≤ (i : Int)) = true := by simp
    rw [h1, h2]
    simp only [cond]
    have hb := byte_lt s i
    have h3 : xorI .u32 (c : Int) (wr .u32 (byteAt s (i : Int))) = ((c ^^^ (s.data.getD i 0).toNat : Nat) : Int) := by
      rw [byteAt_nat, Int.toNat_natCast]
      rw [show wr .u32 (((s.data.getD i 0).toNat : Nat) : Int) = (((s.data.getD i 0).toNat : Nat) : Int) from u32_ok (by omega) (by omega)]
      exact xor_u32 hc (by omega)
    rw [h3]
    have := impl_bits m (k + 10 * d + 1) s (sLen s) (i : Int) 8 (c ^^^ (s.data.getD i 0).toNat) (by omega) (mix_lt s i hc)
    rw [show ((8 - 8 : Nat) : Int) = 0 from rfl] at this
    rw [this]
    rw [show w64 ((i : Int) + 1) = ((i + 1 : Nat) : Int) from w64_ok (by omega) (by omega)]
    exact impl_run m k s hs d (i + 1) _ (by omega) (bits_lt (mix_lt s i hc))

theorem impl_ok (m : Nat) (s : ByteArray) (hs : s.size ≤ 1000000) (hm : 10 * s.size + 1 ≤ m) : impl_Crc m (s, ()) = some (((crcN s : Nat) : Int), ()) := by
  have h := impl_run m (m - (10 * s.size + 1)) s hs s.size 0 4294967295 (by omega) (by decide)
  rw [show m - (10 * s.size + 1) + 10 * s.size + 1 = m by omega] at h
  exact h


theorem xor_cancel {a b c : Nat} (h : a ^^^ c = b ^^^ c) : a = b := by
  have := congrArg (fun x => x ^^^ c) h
  simpa [Nat.xor_assoc] using this

theorem bit_top {c : Nat} (h : c < 2 ^ 32) : (bit c).testBit 31 = decide (c % 2 = 1) := by
  have h2 : (c / 2).testBit 31 = false := Nat.testBit_lt_two_pow (by omega)
  unfold bit
  split
  · rename_i e
    rw [Nat.testBit_xor, h2, decide_eq_true e]
    rfl
  · rename_i e
    rw [h2, decide_eq_false e]

theorem bit_inj {c d : Nat} (hc : c < 2 ^ 32) (hd : d < 2 ^ 32) (h : bit c = bit d) : c = d := by
  have e : decide (c % 2 = 1) = decide (d % 2 = 1) := by rw [← bit_top hc, ← bit_top hd, h]
  have e2 : (c % 2 = 1) ↔ (d % 2 = 1) := by simpa using e
  have e3 : c / 2 = d / 2 := by
    unfold bit at h
    by_cases hm : c % 2 = 1
    · rw [if_pos hm, if_pos (e2.1 hm)] at h
      exact xor_cancel h
    · rw [if_neg hm, if_neg (fun h' => hm (e2.2 h'))] at h
      exact h
  omega

theorem bits_inj : ∀ {n c d : Nat}, c < 2 ^ 32 → d < 2 ^ 32 → bits n c = bits n d → c = d
  | 0, _, _, _, _, h => h
  | n + 1, _, _, hc, hd, h => bit_inj hc hd (bits_inj (n := n) (bit_lt hc) (bit_lt hd) h)

theorem runC_inj {s : ByteArray} : ∀ {d i c c' : Nat}, c < 2 ^ 32 → c' < 2 ^ 32 → runC s d i c = runC s d i c' → c = c'
  | 0, _, _, _, _, _, h => h
  | d + 1, i, c, c', hc, hc', h => by
    have := runC_inj (d := d) (bits_lt (mix_lt s i hc)) (bits_lt (mix_lt s i hc')) h
    exact xor_cancel (bits_inj (mix_lt s i hc) (mix_lt s i hc') this)

theorem runC_same {s t : ByteArray} : ∀ {d i c : Nat}, (∀ j, i ≤ j → s.data.getD j 0 = t.data.getD j 0) → runC s d i c = runC t d i c
  | 0, _, _, _ => rfl
  | d + 1, i, c, h => by
    show runC s d (i + 1) _ = runC t d (i + 1) _
    rw [h i (Nat.le_refl i)]
    exact runC_same (fun j hj => h j (by omega))

theorem runC_ne {s t : ByteArray} {k : Nat} (hk : (s.data.getD k 0).toNat ≠ (t.data.getD k 0).toNat) (h : ∀ j, j ≠ k → s.data.getD j 0 = t.data.getD j 0) :
    ∀ {d i c : Nat}, i ≤ k → k < i + d → c < 2 ^ 32 → runC s d i c ≠ runC t d i c
  | 0, _, _, h1, h2, _ => by omega
  | d + 1, i, c, h1, h2, hc => by
    show runC s d (i + 1) _ ≠ runC t d (i + 1) _
    by_cases e : i = k
    · subst e
      rw [runC_same (s := s) (t := t) (fun j hj => h j (by omega))]
      intro he
      have h3 := runC_inj (bits_lt (mix_lt s i hc)) (bits_lt (mix_lt t i hc)) he
      have h4 := bits_inj (mix_lt s i hc) (mix_lt t i hc) h3
      rw [Nat.xor_comm c, Nat.xor_comm c] at h4
      exact hk (xor_cancel h4)
    · rw [h i e]
      exact runC_ne hk h (by omega) (by omega) (bits_lt (mix_lt t i hc))

theorem crcN_ne {s t : ByteArray} (hs : s.size = t.size) {k : Nat} (hk : k < s.size) (hne : (s.data.getD k 0).toNat ≠ (t.data.getD k 0).toNat) (h : ∀ j, j ≠ k → s.data.getD j 0 = t.data.getD j 0) : crcN s ≠ crcN t := by
  intro e
  unfold crcN at e
  rw [← hs] at e
  exact runC_ne hne h (Nat.zero_le k) (by omega) (by decide) (xor_cancel e)

/-- a bit of a byte turned -/
theorem turned {v b : Nat} (hv : v < 256) (hb : b < 8) : ∃ w : Nat, w < 256 ∧ xorI .u8 (v : Int) (shlI .u8 1 (b : Int)) = (w : Int) ∧ w ≠ v := by
  have h1 : shlI .u8 1 (b : Int) = ((2 ^ b : Nat) : Int) := by
    rcases (show b = 0 ∨ b = 1 ∨ b = 2 ∨ b = 3 ∨ b = 4 ∨ b = 5 ∨ b = 6 ∨ b = 7 by omega) with rfl | rfl | rfl | rfl | rfl | rfl | rfl | rfl <;> rfl
  have h2 : 2 ^ b < 256 := by
    rcases (show b = 0 ∨ b = 1 ∨ b = 2 ∨ b = 3 ∨ b = 4 ∨ b = 5 ∨ b = 6 ∨ b = 7 by omega) with rfl | rfl | rfl | rfl | rfl | rfl | rfl | rfl <;> decide
  have h3 : v ^^^ 2 ^ b < 2 ^ 8 := Nat.xor_lt_two_pow hv h2
  refine ⟨v ^^^ 2 ^ b, h3, ?_, ?_⟩
  · rw [h1]
    unfold xorI
    rw [BitVec.toNat_xor, bv_nat (w := IntKind.u8.bits) hv, bv_nat (w := IntKind.u8.bits) h2]
    rw [wrap_iff]
    simp only [IntKind.signed, IntKind.bits]
    simp
    omega
  · intro e
    have h4 : (v ^^^ 2 ^ b) ^^^ v = 0 := by rw [e, Nat.xor_self]
    rw [Nat.xor_comm, ← Nat.xor_assoc, Nat.xor_self, Nat.zero_xor] at h4
    have : 0 < 2 ^ b := Nat.pow_pos (by decide)
    omega

theorem bytesI_len (s : ByteArray) : (bytesI s).length = s.size := by
  unfold bytesI
  rw [List.length_map, Array.length_toList]
  rfl

theorem strOf_set (s : ByteArray) (k w : Nat) (hk : k < s.size) (hw : w < 256) :
    (strOfNums (List.set (bytesI s) k (w : Int))).size = s.size ∧ ((strOfNums (List.set (bytesI s) k (w : Int))).data.getD k 0).toNat = w ∧
      ∀ j, j ≠ k → (strOfNums (List.set (bytesI s) k (w : Int))).data.getD j 0 = s.data.getD j 0 := by
  have hl := bytesI_len s
  refine ⟨by rw [strOfNums_size, List.length_set, hl], ?_, ?_⟩
  · unfold strOfNums
    rw [Array.getD_eq_getD_getElem?, List.getElem?_toArray, List.getElem?_map, List.getElem?_set_self (by omega)]
    simp
    omega
  · intro j hj
    unfold strOfNums
    rw [Array.getD_eq_getD_getElem?, List.getElem?_toArray, List.getElem?_map, List.getElem?_set_ne (by omega)]
    unfold bytesI
    rw [List.getElem?_map, Array.getElem?_toList, Array.getD_eq_getD_getElem?]
    cases s.data[j]? with
    | none => rfl
    | some v => simp

theorem crc_known : crcN str31 = 3421780262 := by decide +kernel

theorem law (l r : List Int) (hl : Byt l) : laws_FnCrc 20000000 (l, r, ()) = some (true, ()) := by
  have hb : ∀ s : ByteArray, s.size < 1000000 → laws_FnCrc.b0 20000000 (laws_FnCrc.tab 20000000 19999999) r s ((crcN s : Nat) : Int) (sLen s == 0) = some (true, ()) := by
    intro s hs
    unfold laws_FnCrc.b0
    by_cases h0 : s.size = 0
    · have e : crcN s = 0 := by
        unfold crcN
        rw [h0]; show 4294967295 ^^^ 4294967295 = 0; decide
      have e1 : (sLen s == 0) = true := by simp [sLen, h0]
      rw [e1, spec_ok _ s (by omega) (by omega), impl_ok _ str31 (by decide) (by decide), crc_known, e]
      rfl
    · have e1 : (sLen s == 0) = false := by simp [sLen, h0]
      have e2 : lLen (bytesI s) = (s.size : Int) := by unfold lLen; rw [bytesI_len]
      have e3 : ((s.size : Int) == 0) = false := e1
      have k0 := tmod_range (a := lLen r) (n := (s.size : Int)) (by simp only [lLen]; omega) (by omega)
      have b0 := tmod_range (a := lLen r) (n := 8) (by simp only [lLen]; omega) (by omega)
      rw [e1, e2, e3, decide_eq_true k0.1, decide_eq_true k0.2]
      generalize Int.tmod (lLen r) (s.size : Int) = k at k0
      generalize Int.tmod (lLen r) 8 = b at b0
      obtain ⟨k, rfl⟩ := Int.eq_ofNat_of_zero_le k0.1
      obtain ⟨b, rfl⟩ := Int.eq_ofNat_of_zero_le b0.1
      have hg : List.getD (bytesI s) k (0 : Int) = (((s.data.getD k 0).toNat : Nat) : Int) := by
        rw [List.getD_eq_getElem?_getD]
        unfold bytesI
        rw [List.getElem?_map, Array.getElem?_toList, Array.getD_eq_getD_getElem?, Array.getElem?_eq_getElem (show k < s.data.size from by have : s.data.size = s.size := rfl; omega)]
        rfl
      obtain ⟨w, w1, w2, w3⟩ := turned (v := (s.data.getD k 0).toNat) (b := b) (byte_lt s k) (by omega)
      obtain ⟨t1, t2, t3⟩ := strOf_set s k w (by omega) w1
      simp only [cond, lett, hg, w2, Int.toNat_natCast, show decide ((b : Int) < 0) = false from decide_eq_false (by omega), show ((8 : Int) == 0) = false from rfl]
      rw [impl_ok _ _ (by rw [t1]; omega) (by rw [t1]; omega)]
      have hne := crcN_ne (s := s) t1.symm (k := k) (by omega) (by rw [t2]; exact fun e => w3 e.symm) (fun j hj => (t3 j hj).symm)
      simp only [Option.bind_some]
      have : ((crcN (strOfNums (List.set (bytesI s) k (w : Int))) : Int) != (crcN s : Int)) = true := by
        rw [bne_iff_ne]; omega
      rw [this]
  show laws_FnCrc.start 20000000 (laws_FnCrc.tab 20000000 (19999999 + 1)) l r = _
  unfold laws_FnCrc.start
  by_cases g1 : lLen l > 1048576
  · rw [decide_eq_true g1]; rfl
  by_cases g2 : lLen r > 1048576
  · rw [decide_eq_false g1, decide_eq_true g2]; rfl
  rw [decide_eq_false g1, decide_eq_false g2]
  obtain ⟨d, e, hd⟩ := draw_t 20000000 (by decide) l hl
  rw [e]
  simp only [cond, Option.bind_some]
  rw [impl_ok _ d.1 (by omega) (by omega), spec_ok _ d.1 (by omega) (by omega), impl_ok _ str31 (by decide) (by decide), crc_known]
  simp only [Option.bind_some]
  rw [show (((crcN d.1 : Nat) : Int) != ((crcN d.1 : Nat) : Int)) = false by simp, show (((3421780262 : Nat) : Int) != 3421780262) = false from rfl]
  exact hb d.1 hd
end Go.Sx.Try
