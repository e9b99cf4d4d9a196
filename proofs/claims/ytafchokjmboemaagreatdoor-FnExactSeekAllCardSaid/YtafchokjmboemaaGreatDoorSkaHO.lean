/- A part of the pure law of FnExactSeekAll, over the printed functions: what they answer. No condition but those of each theorem. -/
import Derived.Test.YtafchokjmboemaaGreatDoorSkaHN
import Derived.Test.YtafchokjmboemaaGreatDoorSkaHK
import Derived.Test.YtafchokjmboemaaGreatDoorSkaHH
import Derived.Test.YtafchokjmboemaaGreatDoorSkaHJ
namespace Go.Sx.Tryz
open Go Go.Proofs Go.Sx
set_option linter.unusedVariables false
set_option linter.unusedSimpArgs false

/-- has the commit at a place the word -/
noncomputable def comHit (w : ByteArray) (xs : List Com) (i : Nat) : Bool := decide (0 < (seekL w (xs.getD i kz).2.2).length)
/-- the commits with the word, from a place on -/
noncomputable def allHit (w : ByteArray) (xs : List Com) : Nat → Nat → List Int
  | 0, _ => []
  | d + 1, i => cond (comHit w xs i) ((i : Int) :: allHit w xs d (i + 1)) (allHit w xs d (i + 1))

theorem allHit_len (w : ByteArray) (xs : List Com) : ∀ (d i : Nat), (allHit w xs d i).length ≤ d
  | 0, _ => Nat.le_refl _
  | d + 1, i => by
    unfold allHit
    have := allHit_len w xs d (i + 1)
    cases comHit w xs i
    · simp only [cond]; omega
    · simp only [cond, List.length_cons]; omega

theorem spec_all_loop (m : Nat) (hm : 10000000000000 ≤ m) (xs : List Com) (hs : Heads) (hx : ComsSz xs) (hok : repoB xs hs = true) (w : ByteArray) (hw : nameB (bL w) = true) : ∀ (d k i : Nat) (acc : List Int), i + d = xs.length → acc.length ≤ i →
    (spec_SeekAll.tab m (k + d + 1)).1 (xs, hs, acc, w, (i : Int), ()) = some (acc ++ allHit w xs d i, ())
  | 0, k, i, acc, h, ha => by
    show spec_SeekAll.b0 m (spec_SeekAll.tab m k) xs hs acc w (i : Int) = _
    unfold spec_SeekAll.b0
    rw [decide_eq_false (show ¬ (i : Int) < lLen xs by simp only [lLen]; omega)]
    simp [allHit]
  | d + 1, k, i, acc, h, ha => by
    have hxl := repo_len hok
    have hi : i < xs.length := by omega
    have ht := com_tree (repo_com hok hi)
    have hsz := (hx.com _ (mem_getD (z := kz) hi)).tree
    have hw2 := name_size hw
    have e1 : spec_SeekTree m ((xs.getD i kz).2.2, w, ()) = some (seekL w (xs.getD i kz).2.2, ()) := by
      rw [spec_seek_v m hm hsz w (by omega)]
      unfold seekV
      rw [ht, hw]; rfl
    show spec_SeekAll.b0 m (spec_SeekAll.tab m (k + d + 1)) xs hs acc w (i : Int) = _
    unfold spec_SeekAll.b0 allHit comHit
    rw [decide_eq_true (show (i : Int) < lLen xs by simp only [lLen]; omega), decide_eq_true (show (0 : Int) ≤ (i : Int) by omega), w64_succ (by omega)]
    simp only [cond, lett]
    rw [show getL xs (i : Int) (([] : List Int), ByteArray.empty, ([] : List (ByteArray × List ByteArray))) = xs.getD i kz from rfl, e1]
    simp only [Option.bind_some]
    rw [show decide (lLen (seekL w (xs.getD i kz).2.2) > 0) = decide (0 < (seekL w (xs.getD i kz).2.2).length) by simp only [lLen, decide_eq_decide]; omega]
    by_cases hh : 0 < (seekL w (xs.getD i kz).2.2).length
    · rw [decide_eq_true hh, decide_eq_true (show List.length acc + List.length ([(i : Int)] : List Int) ≤ apCap by show acc.length + 1 ≤ 1073741824; omega)]
      have := spec_all_loop m hm xs hs hx hok w hw d k (i + 1) (acc ++ [(i : Int)]) (by omega) (by simp; omega)
      rw [List.append_assoc] at this
      exact this
    · rw [decide_eq_false hh]
      exact spec_all_loop m hm xs hs hx hok w hw d k (i + 1) acc (by omega) (by omega)

theorem impl_all_loop (m : Nat) (hm : 10000000000000 ≤ m) (xs : List Com) (hs : Heads) (hx : ComsSz xs) (hok : repoB xs hs = true) (w : ByteArray) (hw : nameB (bL w) = true) : ∀ (d k i : Nat) (acc : List Int), i + d = xs.length → acc.length ≤ i →
    (impl_Repo_commitsBy_of_impl_SeekAll_1.tab m (k + d + 1)).1 (xs, hs, w, acc, lLen xs, (i : Int), ()) = some (xs, hs, w, acc ++ allHit w xs d i, ())
  | 0, k, i, acc, h, ha => by
    show impl_Repo_commitsBy_of_impl_SeekAll_1.b0 m (impl_Repo_commitsBy_of_impl_SeekAll_1.tab m k) xs hs w acc (lLen xs) (i : Int) = _
    unfold impl_Repo_commitsBy_of_impl_SeekAll_1.b0
    rw [decide_eq_false (show ¬ (i : Int) < lLen xs by simp only [lLen]; omega)]
    simp [allHit]
  | d + 1, k, i, acc, h, ha => by
    have hxl := repo_len hok
    have hi : i < xs.length := by omega
    have ht := com_tree (repo_com hok hi)
    have hw2 := name_size hw
    have e2 := impl_seekL_v m hm ht w (by omega) hw
    show impl_Repo_commitsBy_of_impl_SeekAll_1.b0 m (impl_Repo_commitsBy_of_impl_SeekAll_1.tab m (k + d + 1)) xs hs w acc (lLen xs) (i : Int) = _
    unfold impl_Repo_commitsBy_of_impl_SeekAll_1.b0 allHit comHit
    rw [decide_eq_true (show (i : Int) < lLen xs by simp only [lLen]; omega), w64_succ (by omega)]
    rw [show impl_SeekAll_1_v0 m (xs, hs, w, (i : Int), ()) = some (xs, hs, w, decide (0 < (seekL w (xs.getD i kz).2.2).length), ()) from by
      show impl_SeekAll_1_v0.start m _ xs hs w (i : Int) = _
      unfold impl_SeekAll_1_v0.start
      rw [decide_eq_true (show (0 : Int) ≤ (i : Int) by omega), decide_eq_true (show (i : Int) < lLen xs by simp only [lLen]; omega)]
      simp only [cond, lett]
      rw [show getL xs (i : Int) (([] : List Int), ByteArray.empty, ([] : List (ByteArray × List ByteArray))) = xs.getD i kz from rfl, e2]
      simp only [Option.bind_some]
      rw [show decide (lLen (seekL w (xs.getD i kz).2.2) > 0) = decide (0 < (seekL w (xs.getD i kz).2.2).length) by simp only [lLen, decide_eq_decide]; omega]]
    simp only [cond, Option.bind_some]
    by_cases hh : 0 < (seekL w (xs.getD i kz).2.2).length
    · rw [decide_eq_true hh, decide_eq_true (show List.length acc + List.length ([(i : Int)] : List Int) ≤ apCap by show acc.length + 1 ≤ 1073741824; omega)]
      have := impl_all_loop m hm xs hs hx hok w hw d k (i + 1) (acc ++ [(i : Int)]) (by omega) (by simp; omega)
      rw [List.append_assoc] at this
      exact this
    · rw [decide_eq_false hh]
      exact impl_all_loop m hm xs hs hx hok w hw d k (i + 1) acc (by omega) (by omega)

theorem all_v (m : Nat) (hm : 10000000000000 ≤ m) (xs : List Com) (hs : Heads) (hx : ComsSz xs) (hh : HeadsSz hs) (w : ByteArray) (hw : w.size < 10000000) :
    ∃ L : List Int, spec_SeekAll m (xs, hs, w, ()) = some (L, ()) ∧ impl_SeekAll m (xs, hs, w, ()) = some (L, ()) ∧ L.length ≤ xs.length := by
  have hxl := hx.len
  have es : spec_SeekAll m (xs, hs, w, ()) = cond (repoB xs hs) (cond (nameB (bL w)) ((spec_SeekAll.tab m m).1 (xs, hs, [], w, ((0 : Nat) : Int), ())) (some ([], ()))) (some ([], ())) := by
    show spec_SeekAll.start m (spec_SeekAll.tab m m) xs hs w = _
    unfold spec_SeekAll.start
    rw [spec_repo_v m hm xs hs hx hh, spec_name_v m w (by omega) (by omega)]
    cases repoB xs hs <;> cases nameB (bL w) <;> rfl
  have ei : impl_SeekAll m (xs, hs, w, ()) = cond (repoB xs hs) (cond (nameB (bL w)) (Option.bind ((impl_Repo_commitsBy_of_impl_SeekAll_1.tab m m).1 (xs, hs, w, [], lLen xs, ((0 : Nat) : Int), ())) fun r3 => some (r3.2.2.2.1, ())) (some ([], ()))) (some ([], ())) := by
    show impl_SeekAll.start m (impl_SeekAll.tab m m) xs hs w = _
    unfold impl_SeekAll.start
    rw [impl_repo_v m hm xs hs hx hh, impl_name_v m w (by omega) (by omega)]
    cases repoB xs hs <;> cases nameB (bL w) <;> rfl
  rw [es, ei]
  cases hok : repoB xs hs with
  | false => exact ⟨[], rfl, rfl, by simp⟩
  | true =>
    cases hwn : nameB (bL w) with
    | false => exact ⟨[], rfl, rfl, by simp⟩
    | true =>
      have h1 := spec_all_loop m hm xs hs hx hok w hwn xs.length (m - (xs.length + 1)) 0 [] (by omega) (by simp)
      have h2 := impl_all_loop m hm xs hs hx hok w hwn xs.length (m - (xs.length + 1)) 0 [] (by omega) (by simp)
      rw [show m - (xs.length + 1) + xs.length + 1 = m by omega, List.nil_append] at h1 h2
      refine ⟨allHit w xs xs.length 0, h1, ?_, allHit_len _ _ _ _⟩
      show Option.bind _ _ = _
      rw [h2]; rfl

theorem held_ints_loop (m : Nat) (zs : List Int) (n k0 : Nat) (hn : n < 100000000) (hk : k0 + n < 1000000000000000000) (hz : ∀ j, j < n → zs.getD j 0 = ((k0 + j : Nat) : Int)) : ∀ (d q i : Nat), i + d = n →
    (laws_heldIntS.tab m (q + d + 1)).1 ((zs, n), ((k0 + i : Nat) : Int), (i : Int), ()) = some (((k0 + n : Nat) : Int), ())
  | 0, q, i, h => by
    obtain rfl : i = n := by omega
    show laws_heldIntS.b0 m (laws_heldIntS.tab m q) (zs, i) ((k0 + i : Nat) : Int) (i : Int) = _
    unfold laws_heldIntS.b0
    rw [decide_eq_false (show ¬ (i : Int) < (((zs, i) : List Int × Nat).2 : Int) by show ¬ (i : Int) < (i : Int); omega)]
    rfl
  | d + 1, q, i, h => by
    have ih := held_ints_loop m zs n k0 hn hk hz d q (i + 1) (by omega)
    show laws_heldIntS.b0 m (laws_heldIntS.tab m (q + d + 1)) (zs, n) ((k0 + i : Nat) : Int) (i : Int) = _
    unfold laws_heldIntS.b0
    rw [decide_eq_true (show (i : Int) < (((zs, n) : List Int × Nat).2 : Int) by show (i : Int) < (n : Int); omega), decide_eq_true (show (0 : Int) ≤ (i : Int) by omega),
      show w64 (((k0 + i : Nat) : Int) + 1) = ((k0 + (i + 1) : Nat) : Int) from by rw [show ((k0 + i : Nat) : Int) + 1 = ((k0 + (i + 1) : Nat) : Int) by omega]; exact w64_ok (by omega) (by omega), w64_succ (by omega)]
    simp only [cond, lett]
    rw [show getL ((zs, n) : List Int × Nat).1 (i : Int) (0 : Int) = zs.getD i 0 from rfl, hz i (by omega), bne_self_eq_false]
    exact ih

theorem held_ints (m : Nat) (hm : 1000000000 ≤ m) (zs : List Int) (n k0 : Nat) (hn : n < 100000000) (hk : k0 + n < 1000000000000000000) (hz : ∀ j, j < n → zs.getD j 0 = ((k0 + j : Nat) : Int)) :
    laws_heldIntS m ((zs, n), (k0 : Int), ()) = some (((k0 + n : Nat) : Int), ()) := by
  have h := held_ints_loop m zs n k0 hn hk hz n (m - (n + 1)) 0 (by omega)
  rw [show m - (n + 1) + n + 1 = m by omega] at h
  exact h

theorem sz_repo_neg (m : Nat) (xs : List Com) (hs : Heads) (hx : ComsIn xs) (left : Int) (h : left < 0) (h2 : -1000000000000000 ≤ left) : laws_szRepo m ((xs.map upC, xs.length), (hs, hs.length), left, ()) = some (-1, ()) := by
  have hl := hx.len
  have hcap : cap = 140737488355328 := rfl
  show laws_szRepo.start m _ (xs.map upC, xs.length) (hs, hs.length) left = _
  unfold laws_szRepo.start
  rw [show laws_szCommitS m ((xs.map upC, xs.length), left, ()) = some (-1, ()) from by
    show laws_szCommitS.start m (laws_szCommitS.tab m m) (xs.map upC, xs.length) left = _
    unfold laws_szCommitS.start
    simp only [lett]
    rw [show w64 (left - (xs.length : Int)) = left - xs.length from w64_ok (by omega) (by omega), decide_eq_true (show left - (xs.length : Int) < 0 by omega)]
    rfl]
  rfl

theorem fnExactSeekAll_true (m : Nat) (hm : 10000000000000 ≤ m) (xs : List Com) (hs : Heads) (w : ByteArray) (bx : ComsIn xs) (bh : HeadsIn hs) (bw : w.size ≤ 140737488351232) : laws_FnExactSeekAll m (xs, hs, w, ()) = some (true, ()) := by
  show laws_FnExactSeekAll.start m _ xs hs w = _
  unfold laws_FnExactSeekAll.start
  rw [show w64 ((1000000 : Int) - sLen w) = 1000000 - w.size from w64_ok (by show _ ≤ (1000000 : Int) - (w.size : Int); omega) (by show (1000000 : Int) - (w.size : Int) < _; omega), upped_c]
  by_cases hneg : (1000000 : Int) - w.size < 0
  · rw [sz_repo_neg m xs hs bx _ hneg (by omega)]; rfl
  obtain ⟨v, h1, h2, h3⟩ := sz_repo m (by omega) xs hs bx bh (1000000 - w.size) (by omega) (by omega)
  rw [h1]
  simp only [Option.bind_some]
  by_cases hv : v < 0
  · rw [decide_eq_true hv]; rfl
  rw [decide_eq_false hv]
  obtain ⟨hx, hh⟩ := h3 (by omega)
  have hwt := sz_repo_w m (by omega) xs hs bx bh (1000000 - w.size) (by omega) (by omega) v h1 (by omega)
  have hxl := hx.len
  have hhl := hh.len
  simp only [cond]
  obtain ⟨ys, ws, r1, r2, r3, r4, r5, r6⟩ := to_repoF m (by omega) xs hs hx hh
  obtain ⟨ys', ws', r1', r2', r3', r4'⟩ := to_repo m (by omega) xs hs hx hh true
  obtain ⟨L, u1, u2, u3⟩ := all_v m hm xs hs hx hh w (by omega)
  rw [r1, r1']
  simp only [Option.bind_some, Int.toNat_natCast]
  rw [handed_c r2, handed_c r2', r3, r3', u1, u2]
  simp only [Option.bind_some]
  rw [eq_ints m (by omega) (L, L.length) (by show L.length < _; omega), r4]
  simp only [Option.bind_some]
  obtain ⟨zs, us, m1⟩ := mark_repo m (by omega) xs hx ws hs.length 101 (by omega) (by omega) (by omega) (by omega)
  obtain ⟨ps, p1, p2, p3⟩ := mark_ints m (by omega) L L.length 101 (by omega) (Nat.le_refl _) (by omega)
  have hp := held_ints m (by omega) ps L.length 101 (by omega) (by omega) p3
  rw [r5, show laws_markRepo m (List.map (toC m false) xs ++ List.replicate (room xs.length) cfill, ws, (xs.length : Int), (hs.length : Int), (101 : Int), ()) = some (zs, us, ((101 + wtCs xs + 2 * hs.length : Nat) : Int), ()) from m1]
  simp only [Option.bind_some]
  rw [decide_eq_false (show ¬ ((101 + wtCs xs + 2 * hs.length : Nat) : Int) < 0 by omega), show laws_markIntS m (L, (L.length : Int), (101 : Int), ()) = some (ps, ((101 + L.length : Nat) : Int), ()) from p1]
  simp only [cond, Option.bind_some]
  rw [p2, show laws_heldIntS m ((ps, L.length), (101 : Int), ()) = some (((101 + L.length : Nat) : Int), ()) from hp]
  simp only [Option.bind_some]
  rw [decide_eq_false (show ¬ ((101 + L.length : Nat) : Int) < 0 by omega), bne_self_eq_false]
  rfl

theorem law_SeekAll (xs : List Com) (hs : Heads) (w : ByteArray) (bx : Bnd (.list (.pair (.list (.int .i64)) (.pair (.str) (.list (.pair (.str) (.list (.str))))))) xs) (bh : Bnd (.list (.pair (.str) (.int .i64))) hs) (bw : w.size ≤ 140737488351232) :
    laws_FnExactSeekAll 10000000000000 (xs, hs, w, ()) = some (true, ()) := fnExactSeekAll_true _ (Nat.le_refl _) xs hs w (coms_in bx) (heads_in bh) bw
end Go.Sx.Tryz
