/- For every string the two sums of FnExactCrc are the same, if it has no more than 1000000 bytes; else the law is true at once. -/
import Derived.Test.YthbdbfbdllcifaaSxD
import Derived.Test.YthbdbfbdllcifaaFcrcG
namespace Go.Sx.Try
open Go Go.Proofs Go.Sx
set_option linter.unusedVariables false
set_option linter.unusedSimpArgs false

def bit (c : Nat) : Nat := if c % 2 = 1 then (c / 2) ^^^ 3988292384 else c / 2
def bits : Nat → Nat → Nat
  | 0, c => c
  | n + 1, c => bits n (bit c)
def runC (s : ByteArray) : Nat → Nat → Nat → Nat
  | 0, _, c => c
  | d + 1, i, c => runC s d (i + 1) (bits 8 (c ^^^ (s.data.getD i 0).toNat))
def crcN (s : ByteArray) : Nat := (runC s s.size 0 4294967295) ^^^ 4294967295

theorem bit_lt {c : Nat} (h : c < 2 ^ 32) : bit c < 2 ^ 32 := by
  unfold bit
  split
  · exact Nat.xor_lt_two_pow (by omega) (by decide)
  · omega
theorem bits_lt : ∀ {n c : Nat}, c < 2 ^ 32 → bits n c < 2 ^ 32
  | 0, _, h => h
  | n + 1, _, h => bits_lt (n := n) (bit_lt h)
theorem byte_lt (s : ByteArray) (i : Nat) : (s.data.getD i 0).toNat < 256 := (s.data.getD i 0).toNat_lt
theorem mix_lt {c : Nat} (s : ByteArray) (i : Nat) (h : c < 2 ^ 32) : c ^^^ (s.data.getD i 0).toNat < 2 ^ 32 := Nat.xor_lt_two_pow h (Nat.lt_trans (byte_lt s i) (by decide))
theorem runC_lt {s : ByteArray} : ∀ {d i c : Nat}, c < 2 ^ 32 → runC s d i c < 2 ^ 32
  | 0, _, _, h => h
  | d + 1, i, c, h => runC_lt (d := d) (bits_lt (mix_lt s i h))

theorem spec_bits (m k : Nat) (s : ByteArray) (i : Int) : ∀ (d c : Nat), d ≤ 8 → c < 2 ^ 32 →
    (spec_l20Crc.tab m (k + d + 1)).2.1 (s, (c : Int), i, ((8 - d : Nat) : Int), ()) = (spec_l20Crc.tab m k).1 (s, (bits d c : Nat), w64 (i + 1), ())
  | 0, c, hd, hc => by
    show spec_l20Crc.b1 m (spec_l20Crc.tab m k) s (c : Int) i ((8 : Nat) : Int) = _
    rfl
  | d + 1, c, hd, hc => by
    show spec_l20Crc.b1 m (spec_l20Crc.tab m (k + d + 1)) s (c : Int) i ((8 - (d + 1) : Nat) : Int) = _
    unfold spec_l20Crc.b1
    have h1 : decide (((8 - (d + 1) : Nat) : Int) < 8) = true := by simp; omega
    have h2 : ((2 : Int) == 0) = false := rfl
    have h3 : w64 (((8 - (d + 1) : Nat) : Int) + 1) = ((8 - d : Nat) : Int) := by
      rw [show (((8 - (d + 1) : Nat) : Int) + 1) = ((8 - d : Nat) : Int) by omega]
      exact w64_ok (by omega) (by omega)
    have h4 : w64 (Int.tdiv (c : Int) 2) = ((c / 2 : Nat) : Int) := by
      rw [show Int.tdiv (c : Int) 2 = ((c / 2 : Nat) : Int) by rw [Int.tdiv_eq_ediv_of_nonneg (by omega)]; omega]
      exact w64_ok (by omega) (by omega)
    have h5 : (Int.tmod (c : Int) 2 == 1) = decide (c % 2 = 1) := by
      have : Int.tmod (c : Int) 2 = ((c % 2 : Nat) : Int) := by rw [Int.tmod_eq_emod_of_nonneg (by omega)]; omega
      rw [this]
      by_cases hm : c % 2 = 1
      · simp [hm]
      · simp [hm]; omega
    rw [h1, h2, h3, h4, h5]
    simp only [cond]
    have h6 : xorI .i64 ((c / 2 : Nat) : Int) 3988292384 = (((c / 2) ^^^ 3988292384 : Nat) : Int) := xor_i64 (b := 3988292384) (by omega) (by decide)
    rw [h6]
    have ih := spec_bits m k s i d (bit c) (by omega) (bit_lt hc)
    show _ = (spec_l20Crc.tab m k).1 (s, (bits d (bit c) : Nat), w64 (i + 1), ())
    rw [← ih]
    unfold bit
    by_cases hm : c % 2 = 1
    · simp only [hm, decide_true, if_true]
    · simp only [hm, decide_false, if_false]

theorem spec_run (m k : Nat) (s : ByteArray) (hs : s.size ≤ 1000000) : ∀ (d i c : Nat), i + d = s.size → c < 2 ^ 32 →
    (spec_l20Crc.tab m (k + 10 * d + 1)).1 (s, (c : Int), (i : Int), ()) = some ((((runC s d i c) ^^^ 4294967295 : Nat) : Int), ())
  | 0, i, c, hd, hc => by
    show spec_l20Crc.b0 m (spec_l20Crc.tab m k) s (c : Int) (i : Int) = _
    unfold spec_l20Crc.b0
    have h1 : decide ((i : Int) < sLen s) = false := by simp [sLen]; omega
    rw [h1]
    simp only [cond]
    rw [show xorI .i64 (c : Int) 4294967295 = ((c ^^^ 4294967295 : Nat) : Int) from xor_i64 (b := 4294967295) (by omega) (by decide)]
    rfl
  | d + 1, i, c, hd, hc => by
    rw [show k + 10 * (d + 1) + 1 = (k + 10 * d + 1) + 8 + 1 + 1 by omega]
    show spec_l20Crc.b0 m (spec_l20Crc.tab m (k + 10 * d + 1 + 8 + 1)) s (c : Int) (i : Int) = _
    unfold spec_l20Crc.b0
    have h1 : decide ((i : Int) < sLen s) = true := by simp [sLen]; omega
    have h2 : decide ((0 : Int) ≤ (i : Int)) = true := by simp
    rw [h1, h2]
    simp only [cond]
    have hb := byte_lt s i
    have h3 : xorI .i64 (c : Int) (wr .i64 (byteAt s (i : Int))) = ((c ^^^ (s.data.getD i 0).toNat : Nat) : Int) := by
      rw [byteAt_nat, Int.toNat_natCast]
      rw [show wr .i64 (((s.data.getD i 0).toNat : Nat) : Int) = (((s.data.getD i 0).toNat : Nat) : Int) from w64_ok (by omega) (by omega)]
      exact xor_i64 (by omega) (by omega)
    rw [h3]
    have := spec_bits m (k + 10 * d + 1) s (i : Int) 8 (c ^^^ (s.data.getD i 0).toNat) (by omega) (mix_lt s i hc)
    rw [show ((8 - 8 : Nat) : Int) = 0 from rfl] at this
    rw [this]
    rw [show w64 ((i : Int) + 1) = ((i + 1 : Nat) : Int) from w64_ok (by omega) (by omega)]
    exact spec_run m k s hs d (i + 1) _ (by omega) (bits_lt (mix_lt s i hc))

theorem spec_ok (m : Nat) (s : ByteArray) (hs : s.size ≤ 1000000) (hm : 10 * s.size + 1 ≤ m) : spec_Crc m (s, ()) = some (((crcN s : Nat) : Int), ()) := by
  have h := spec_run m (m - (10 * s.size + 1)) s hs s.size 0 4294967295 (by omega) (by decide)
  rw [show m - (10 * s.size + 1) + 10 * s.size + 1 = m by omega] at h
  show Option.bind (spec_l20Crc m (s, ())) (fun r1 => some (r1.1, ())) = _
  rw [show spec_l20Crc m (s, ()) = (spec_l20Crc.tab m m).1 (s, ((4294967295 : Nat) : Int), ((0 : Nat) : Int), ()) from rfl, h]
  rfl

theorem impl_bits (m k : Nat) (s : ByteArray) (n i : Int) : ∀ (d c : Nat), d ≤ 8 → c < 2 ^ 32 →
    (impl_Crc.tab m (k + d + 1)).2.1 (s, (c : Int), n, i, ((8 - d : Nat) : Int), ()) = (impl_Crc.tab m k).1 (s, (bits d c : Nat), n, w64 (i + 1), ())
  | 0, c, hd, hc => rfl
  | d + 1, c, hd, hc => by
    show impl_Crc.b1 m (impl_Crc.tab m (k + d + 1)) s (c : Int) n i ((8 - (d + 1) : Nat) : Int) = _
    unfold impl_Crc.b1
    have h1 : decide (((8 - (d + 1) : Nat) : Int) < 8) = true := by simp; omega
    have h2 : decide ((1 : Int) < 0) = false := rfl
    have h3 : w64 (((8 - (d + 1) : Nat) : Int) + 1) = ((8 - d : Nat) : Int) := by
      rw [show (((8 - (d + 1) : Nat) : Int) + 1) = ((8 - d : Nat) : Int) by omega]
      exact w64_ok (by omega) (by omega)
    have h4 : shrI .u32 (c : Int) 1 = ((c / 2 : Nat) : Int) := shr_u32
    have h5 : (andI .u32 (c : Int) 1 == 1) = decide (c % 2 = 1) := by
      rw [show andI .u32 (c : Int) 1 = ((c &&& 1 : Nat) : Int) from and_u32 (b := 1) hc (by decide), Nat.and_one_is_mod]
      by_cases hm : c % 2 = 1
      · simp [hm]
      · simp [hm]; omega
    rw [h1, h2, h3, h4, h5]
    simp only [cond]
    have h6 : xorI .u32 ((c / 2 : Nat) : Int) 3988292384 = (((c / 2) ^^^ 3988292384 : Nat) : Int) := xor_u32 (b := 3988292384) (by omega) (by decide)
    rw [h6]
    have ih := impl_bits m k s n i d (bit c) (by omega) (bit_lt hc)
    show _ = (impl_Crc.tab m k).1 (s, (bits d (bit c) : Nat), n, w64 (i + 1), ())
    rw [← ih]
    unfold bit
    by_cases hm : c % 2 = 1
    · simp only [hm, decide_true, if_true]
    · simp only [hm, decide_false, if_false]

theorem impl_run (m k : Nat) (s : ByteArray) (hs : s.size ≤ 1000000) : ∀ (d i c : Nat), i + d = s.size → c < 2 ^ 32 →
    (impl_Crc.tab m (k + 10 * d + 1)).1 (s, (c : Int), sLen s, (i : Int), ()) = some ((((runC s d i c) ^^^ 4294967295 : Nat) : Int), ())
  | 0, i, c, hd, hc => by
    show impl_Crc.b0 m (impl_Crc.tab m k) s (c : Int) (sLen s) (i : Int) = _
    unfold impl_Crc.b0
    have h1 : decide ((i : Int) < sLen s) = false := by simp [sLen]; omega
    rw [h1]
    simp only [cond]
    rw [not_u32 hc]
    have := Nat.xor_lt_two_pow hc (show 4294967295 < 2 ^ 32 by decide)
    rw [show wr .i64 ((c ^^^ 4294967295 : Nat) : Int) = ((c ^^^ 4294967295 : Nat) : Int) from w64_ok (by omega) (by omega)]
    rfl
  | d + 1, i, c, hd, hc => by
    rw [show k + 10 * (d + 1) + 1 = (k + 10 * d + 1) + 8 + 1 + 1 by omega]
    show impl_Crc.b0 m (impl_Crc.tab m (k + 10 * d + 1 + 8 + 1)) s (c : Int) (sLen s) (i : Int) = _
    unfold impl_Crc.b0
    have h1 : decide ((i : Int) < sLen s) = true := by simp [sLen]; omega
    have h2 : decide ((0 : Int) ≤ (i : Int)) = true := by simp
    rw [h1, h2]
    simp only [cond]
    have hb := byte_lt s i
    have h3 : xorI .u32 (c : Int) (wr .u32 (byteAt s (i : Int))) = ((c ^^^ (s.data.getD i 0).toNat : Nat) : Int) := by
      rw [byteAt_nat, Int.toNat_natCast]
      rw [show wr .u32 (((s.data.getD i 0).toNat : Nat) : Int) = (((s.data.getD i 0).toNat : Nat) : Int) from u32_ok (by omega) (by omega)]
      exact xor_u32 hc (by omega)
    rw [h3]
    have := impl_bits m (k + 10 * d + 1) s (sLen s) (i : Int) 8 (c ^^^ (s.data.getD i 0).toNat) (by omega) (mix_lt s i hc)
    rw [show ((8 - 8 : Nat) : Int) = 0 from rfl] at this
    rw [this]
    rw [show w64 ((i : Int) + 1) = ((i + 1 : Nat) : Int) from w64_ok (by omega) (by omega)]
    exact impl_run m k s hs d (i + 1) _ (by omega) (bits_lt (mix_lt s i hc))

theorem impl_ok (m : Nat) (s : ByteArray) (hs : s.size ≤ 1000000) (hm : 10 * s.size + 1 ≤ m) : impl_Crc m (s, ()) = some (((crcN s : Nat) : Int), ()) := by
  have h := impl_run m (m - (10 * s.size + 1)) s hs s.size 0 4294967295 (by omega) (by decide)
  rw [show m - (10 * s.size + 1) + 10 * s.size + 1 = m by omega] at h
  exact h

theorem law (s : ByteArray) : laws_FnExactCrc (10 * s.size + 1) (s, ()) = some (true, ()) := by
  show cond (decide (sLen s > 1000000)) (some (true, ())) (Option.bind (spec_Crc (10 * s.size + 1) (s, ())) fun r1 => Option.bind (impl_Crc (10 * s.size + 1) (s, ())) fun r2 => cond (r2.1 != r1.1) (some (false, ())) (some (true, ()))) = _
  by_cases hs : s.size ≤ 1000000
  · rw [show decide (sLen s > 1000000) = false by simp [sLen]; omega]
    rw [spec_ok _ s hs (Nat.le_refl _), impl_ok _ s hs (Nat.le_refl _)]
    simp
  · rw [show decide (sLen s > 1000000) = true by simp [sLen]; omega]
    rfl
end Go.Sx.Try
