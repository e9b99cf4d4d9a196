/- A part of the pure law of FnExactSeekAll, over the printed functions: what they answer. No condition but those of each theorem. -/
import Derived.Test.YtafchokjmboemaaGreatDoorSkaHM
import Derived.Test.YtafchokjmboemaaGreatDoorSkaHL
namespace Go.Sx.Tryz
open Go Go.Proofs Go.Sx
set_option linter.unusedVariables false
set_option linter.unusedSimpArgs false

theorem getD_set_ne {α : Type} {l : List α} {i j : Nat} {x z : α} (h : i ≠ j) : (l.set i x).getD j z = l.getD j z := by
  rw [List.getD_eq_getElem?_getD, List.getElem?_set_ne h, List.getD_eq_getElem?_getD]
theorem getD_set_same {α : Type} {l : List α} {i : Nat} {x z : α} (h : i < l.length) : (l.set i x).getD i z = x := by
  rw [List.getD_eq_getElem?_getD, List.getElem?_set_self h]; rfl

def wtZ (z : ByteArray × (List ByteArray × Nat)) : Nat := 1 + z.2.2
theorem mark_filesX_loop (m : Nat) (hm : 1000000000 ≤ m) (n : Nat) (hn : n < 100000000) : ∀ (d q i k : Nat) (ys : STree), i + d = n → k ≠ 0 → k + sumF (fun j => wtZ (ys.getD j gz)) d i < 1000000000000000000 → n ≤ ys.length → (∀ j, i ≤ j → j < n → (ys.getD j gz).2.2 ≤ (ys.getD j gz).2.1.length ∧ (ys.getD j gz).2.2 < 10000000) →
    ∃ zs, (laws_markFileS.tab m (q + d + 1)).1 (ys, (n : Int), (k : Int), (i : Int), ()) = some (zs, ((k + sumF (fun j => wtZ (ys.getD j gz)) d i : Nat) : Int), ())
  | 0, q, i, k, ys, h, h0, hk, hy, hz => by
    refine ⟨ys, ?_⟩
    show laws_markFileS.b0 m (laws_markFileS.tab m q) ys (n : Int) (k : Int) (i : Int) = _
    unfold laws_markFileS.b0
    rw [show ((Int.toNat (n : Int) : Nat) : Int) = (n : Int) from rfl, decide_eq_false (show ¬ (i : Int) < (n : Int) by omega)]
    rfl
  | d + 1, q, i, k, ys, h, h0, hk, hy, hz => by
    have hi : i < ys.length := by omega
    obtain ⟨hz1, hz2⟩ := hz i (Nat.le_refl _) (by omega)
    unfold sumF at hk ⊢
    have hw : wtZ (ys.getD i gz) = 1 + (ys.getD i gz).2.2 := rfl
    obtain ⟨us, u1, u2, u3, u4⟩ := mark_strs m hm (ys.getD i gz).2.1 (ys.getD i gz).2.2 (k + 1) (by omega) hz1 (by omega) (by omega)
    have hs : sumF (fun j => wtZ ((ys.set i (mt m k, us, (ys.getD i gz).2.2)).getD j gz)) d (i + 1) = sumF (fun j => wtZ (ys.getD j gz)) d (i + 1) := sumF_congr fun j h1 h2 => by rw [getD_set_ne (by omega)]
    obtain ⟨zs, h1⟩ := mark_filesX_loop m hm n hn d q (i + 1) (k + 1 + (ys.getD i gz).2.2) (ys.set i (mt m k, us, (ys.getD i gz).2.2)) (by omega) (by omega) (by rw [hs]; omega) (by rw [List.length_set]; exact hy) (fun j hj1 hj2 => by
      rw [getD_set_ne (by omega)]; exact hz j (by omega) hj2)
    refine ⟨zs, ?_⟩
    rw [hs] at h1
    show laws_markFileS.b0 m (laws_markFileS.tab m (q + d + 1)) ys (n : Int) (k : Int) (i : Int) = _
    unfold laws_markFileS.b0
    rw [show ((Int.toNat (n : Int) : Nat) : Int) = (n : Int) from rfl, decide_eq_true (show (i : Int) < (n : Int) by omega), mark_v m (by omega) k h0 (by omega), decide_eq_true (show (0 : Int) ≤ (i : Int) by omega),
      show w64 ((k : Int) + 1) = ((k + 1 : Nat) : Int) from w64_ok (by omega) (by omega), w64_succ (by omega)]
    simp only [cond, lett, Option.bind_some]
    rw [show Int.toNat (i : Int) = i from rfl]
    have e1 : (List.set ys i (mt m k, (List.getD ys i gz).2)).getD i gz = (mt m k, (ys.getD i gz).2) := getD_set_same hi
    rw [show (ByteArray.empty, ([] : List ByteArray), (0 : Nat)) = gz from rfl, e1]
    simp only
    rw [u1]
    simp only [Option.bind_some]
    rw [List.set_set]
    refine h1.trans ?_
    rw [hw, show k + 1 + (ys.getD i gz).2.2 + sumF (fun j => wtZ (ys.getD j gz)) d (i + 1) = k + (1 + (ys.getD i gz).2.2 + sumF (fun j => wtZ (ys.getD j gz)) d (i + 1)) by omega]

theorem mark_filesX (m : Nat) (hm : 1000000000 ≤ m) (ys : STree) (n k : Nat) (hn : n < 100000000) (h0 : k ≠ 0) (hk : k + sumF (fun j => wtZ (ys.getD j gz)) n 0 < 1000000000000000000) (hy : n ≤ ys.length) (hw : ∀ z ∈ ys.take n, fileW z) :
    ∃ zs, laws_markFileS m (ys, (n : Int), (k : Int), ()) = some (zs, ((k + sumF (fun j => wtZ (ys.getD j gz)) n 0 : Nat) : Int), ()) := by
  obtain ⟨zs, h1⟩ := mark_filesX_loop m hm n (by omega) n (m - (n + 1)) 0 k ys (by omega) h0 hk hy (fun j _ hj => by
    have hm : ys.getD j gz ∈ ys.take n := by
      rw [List.getD_eq_getElem?_getD, List.getElem?_eq_getElem (show j < ys.length by omega)]
      exact List.mem_take_iff_getElem.2 ⟨j, by omega, rfl⟩
    have := hw _ hm
    exact ⟨by rw [this.1]; omega, this.2⟩)
  rw [show m - (n + 1) + n + 1 = m by omega] at h1
  exact ⟨zs, h1⟩

theorem mark_ints_loop (m : Nat) (n : Nat) (hn : n < 100000000) : ∀ (d q i k : Nat) (ys : List Int), i + d = n → k + d < 1000000000000000000 → n ≤ ys.length →
    ∃ zs, (laws_markIntS.tab m (q + d + 1)).1 (ys, (n : Int), (k : Int), (i : Int), ()) = some (zs, ((k + d : Nat) : Int), ()) ∧ zs.length = ys.length ∧ zs.take i = ys.take i ∧ ∀ j, i ≤ j → j < n → zs.getD j 0 = ((k + (j - i) : Nat) : Int)
  | 0, q, i, k, ys, h, hk, hy => by
    refine ⟨ys, ?_, rfl, rfl, fun j h1 h2 => by omega⟩
    show laws_markIntS.b0 m (laws_markIntS.tab m q) ys (n : Int) (k : Int) (i : Int) = _
    unfold laws_markIntS.b0
    rw [show ((Int.toNat (n : Int) : Nat) : Int) = (n : Int) from rfl, decide_eq_false (show ¬ (i : Int) < (n : Int) by omega)]
    rfl
  | d + 1, q, i, k, ys, h, hk, hy => by
    obtain ⟨zs, h1, h2, h3, h5⟩ := mark_ints_loop m n hn d q (i + 1) (k + 1) (ys.set i (k : Int)) (by omega) (by omega) (by rw [List.length_set]; exact hy)
    rw [List.length_set] at h2
    refine ⟨zs, ?_, h2, ?_, fun j hj1 hj2 => ?_⟩
    · show laws_markIntS.b0 m (laws_markIntS.tab m (q + d + 1)) ys (n : Int) (k : Int) (i : Int) = _
      unfold laws_markIntS.b0
      rw [show ((Int.toNat (n : Int) : Nat) : Int) = (n : Int) from rfl, decide_eq_true (show (i : Int) < (n : Int) by omega), decide_eq_true (show (0 : Int) ≤ (i : Int) by omega),
        show w64 ((k : Int) + 1) = ((k + 1 : Nat) : Int) from w64_ok (by omega) (by omega), w64_succ (by omega)]
      rw [show k + (d + 1) = k + 1 + d by omega]
      exact h1
    · have := congrArg (List.take i) h3
      rw [List.take_take, List.take_take, Nat.min_eq_left (by omega), take_set (Nat.le_refl _)] at this
      exact this
    · rcases Nat.eq_or_lt_of_le hj1 with e | e
      · subst e
        have h6 := congrArg (fun l => l.getD i 0) h3
        simp only [List.getD_eq_getElem?_getD, List.getElem?_take, if_pos (show i < i + 1 by omega), List.getElem?_set_self (show i < ys.length by omega)] at h6
        rw [List.getD_eq_getElem?_getD, h6, Nat.sub_self, Nat.add_zero]
        rfl
      · rw [h5 j e hj2]
        congr 1; omega

theorem mark_ints (m : Nat) (hm : 1000000000 ≤ m) (ys : List Int) (n k : Nat) (hn : n < 100000000) (hy : n ≤ ys.length) (hk : k + n < 1000000000000000000) :
    ∃ zs, laws_markIntS m (ys, (n : Int), (k : Int), ()) = some (zs, ((k + n : Nat) : Int), ()) ∧ zs.length = ys.length ∧ ∀ j, j < n → zs.getD j 0 = ((k + j : Nat) : Int) := by
  obtain ⟨zs, h1, h2, h3, h5⟩ := mark_ints_loop m n hn n (m - (n + 1)) 0 k ys (by omega) hk hy
  rw [show m - (n + 1) + n + 1 = m by omega] at h1
  exact ⟨zs, h1, h2, fun j hj => by rw [h5 j (Nat.zero_le _) hj, Nat.sub_zero]⟩

theorem mark_heads_loop (m : Nat) (hm : 100 ≤ m) (n : Nat) (hn : n < 100000000) : ∀ (d q i k : Nat) (ys : Heads), i + d = n → k ≠ 0 → k + 2 * d < 1000000000000000000 → n ≤ ys.length →
    ∃ zs, (laws_markHeadS.tab m (q + d + 1)).1 (ys, (n : Int), (k : Int), (i : Int), ()) = some (zs, ((k + 2 * d : Nat) : Int), ())
  | 0, q, i, k, ys, h, h0, hk, hy => by
    refine ⟨ys, ?_⟩
    show laws_markHeadS.b0 m (laws_markHeadS.tab m q) ys (n : Int) (k : Int) (i : Int) = _
    unfold laws_markHeadS.b0
    rw [show ((Int.toNat (n : Int) : Nat) : Int) = (n : Int) from rfl, decide_eq_false (show ¬ (i : Int) < (n : Int) by omega)]
    rfl
  | d + 1, q, i, k, ys, h, h0, hk, hy => by
    obtain ⟨zs, h1⟩ := mark_heads_loop m hm n hn d q (i + 1) (k + 2) ((ys.set i (mt m k, (ys.getD i hz0).2)).set i (((ys.set i (mt m k, (ys.getD i hz0).2)).getD i hz0).1, ((k + 1 : Nat) : Int))) (by omega) (by omega) (by omega) (by rw [List.length_set, List.length_set]; exact hy)
    refine ⟨zs, ?_⟩
    show laws_markHeadS.b0 m (laws_markHeadS.tab m (q + d + 1)) ys (n : Int) (k : Int) (i : Int) = _
    unfold laws_markHeadS.b0
    rw [show ((Int.toNat (n : Int) : Nat) : Int) = (n : Int) from rfl, decide_eq_true (show (i : Int) < (n : Int) by omega), mark_v m hm k h0 (by omega), decide_eq_true (show (0 : Int) ≤ (i : Int) by omega),
      show w64 ((k : Int) + 1) = ((k + 1 : Nat) : Int) from w64_ok (by omega) (by omega), show w64 (((k + 1 : Nat) : Int) + 1) = ((k + 2 : Nat) : Int) from w64_ok (by omega) (by omega), w64_succ (by omega)]
    rw [show k + 2 * (d + 1) = k + 2 + 2 * d by omega]
    exact h1

theorem mark_heads (m : Nat) (hm : 1000000000 ≤ m) (ys : Heads) (n k : Nat) (hn : n < 100000000) (h0 : k ≠ 0) (hy : n ≤ ys.length) (hk : k + 2 * n < 1000000000000000000) :
    ∃ zs, laws_markHeadS m (ys, (n : Int), (k : Int), ()) = some (zs, ((k + 2 * n : Nat) : Int), ()) := by
  obtain ⟨zs, h1⟩ := mark_heads_loop m (by omega) n hn n (m - (n + 1)) 0 k ys (by omega) h0 hk hy
  rw [show m - (n + 1) + n + 1 = m by omega] at h1
  exact ⟨zs, h1⟩

def wtS (z : SCom) : Nat := z.1.2 + 1 + sumF (fun j => wtZ (z.2.2.1.getD j gz)) z.2.2.2 0

theorem mark_commits_loop (m : Nat) (hm : 1000000000 ≤ m) (n : Nat) (hn : n < 100000000) : ∀ (d q i k : Nat) (ys : List SCom), i + d = n → k ≠ 0 → k + sumF (fun j => wtS (ys.getD j cz)) d i < 1000000000000000000 → n ≤ ys.length → (∀ j, i ≤ j → j < n → ComW (ys.getD j cz)) →
    ∃ zs, (laws_markCommitS.tab m (q + d + 1)).1 (ys, (n : Int), (k : Int), (i : Int), ()) = some (zs, ((k + sumF (fun j => wtS (ys.getD j cz)) d i : Nat) : Int), ())
  | 0, q, i, k, ys, h, h0, hk, hy, hz => by
    refine ⟨ys, ?_⟩
    show laws_markCommitS.b0 m (laws_markCommitS.tab m q) ys (n : Int) (k : Int) (i : Int) = _
    unfold laws_markCommitS.b0
    rw [show ((Int.toNat (n : Int) : Nat) : Int) = (n : Int) from rfl, decide_eq_false (show ¬ (i : Int) < (n : Int) by omega)]
    rfl
  | d + 1, q, i, k, ys, h, h0, hk, hy, hz => by
    have hi : i < ys.length := by omega
    have hz1 := hz i (Nat.le_refl _) (by omega)
    unfold sumF at hk ⊢
    have hw : wtS (ys.getD i cz) = (ys.getD i cz).1.2 + 1 + sumF (fun j => wtZ ((ys.getD i cz).2.2.1.getD j gz)) (ys.getD i cz).2.2.2 0 := rfl
    obtain ⟨us, u1, u2, u3⟩ := mark_ints m hm (ys.getD i cz).1.1 (ys.getD i cz).1.2 k (Nat.lt_of_lt_of_le hz1.psn (by decide)) (by rw [hz1.ps]; omega) (by omega)
    obtain ⟨fs, f1⟩ := mark_filesX m hm (ys.getD i cz).2.2.1 (ys.getD i cz).2.2.2 (k + (ys.getD i cz).1.2 + 1) (Nat.lt_of_lt_of_le hz1.n (by decide)) (by omega) (by omega) (by rw [hz1.len]; omega) hz1.files
    let z' : SCom := ((us, (ys.getD i cz).1.2), mt m (k + (ys.getD i cz).1.2), (fs, (ys.getD i cz).2.2.2))
    have hs : sumF (fun j => wtS ((ys.set i z').getD j cz)) d (i + 1) = sumF (fun j => wtS (ys.getD j cz)) d (i + 1) := sumF_congr fun j h1 h2 => by rw [getD_set_ne (by omega)]
    obtain ⟨zs, h1⟩ := mark_commits_loop m hm n hn d q (i + 1) (k + wtS (ys.getD i cz)) (ys.set i z') (by omega) (by omega) (by rw [hs]; omega) (by rw [List.length_set]; exact hy) (fun j hj1 hj2 => by
      rw [getD_set_ne (by omega)]; exact hz j (by omega) hj2)
    refine ⟨zs, ?_⟩
    rw [hs] at h1
    show laws_markCommitS.b0 m (laws_markCommitS.tab m (q + d + 1)) ys (n : Int) (k : Int) (i : Int) = _
    unfold laws_markCommitS.b0
    rw [show ((Int.toNat (n : Int) : Nat) : Int) = (n : Int) from rfl, decide_eq_true (show (i : Int) < (n : Int) by omega), decide_eq_true (show (0 : Int) ≤ (i : Int) by omega), w64_succ (i := i) (by omega)]
    simp only [cond, lett]
    rw [show Int.toNat (i : Int) = i from rfl, show ((([] : List Int), (0 : Nat)), ByteArray.empty, ([] : List (ByteArray × (List ByteArray × Nat))), (0 : Nat)) = cz from rfl, u1]
    simp only [Option.bind_some]
    rw [mark_v m (by omega) (k + (ys.getD i cz).1.2) (by omega) (by omega)]
    simp only [Option.bind_some]
    rw [getD_set_same hi]
    simp only [List.set_set]
    rw [getD_set_same hi]
    simp only
    rw [show w64 (((k + (ys.getD i cz).1.2 : Nat) : Int) + 1) = ((k + (ys.getD i cz).1.2 + 1 : Nat) : Int) from w64_ok (by omega) (by omega), f1]
    simp only [Option.bind_some, List.set_set]
    rw [show k + (ys.getD i cz).1.2 + 1 + sumF (fun j => wtZ ((ys.getD i cz).2.2.1.getD j gz)) (ys.getD i cz).2.2.2 0 = k + wtS (ys.getD i cz) by rw [hw]; omega]
    refine h1.trans ?_
    rw [show k + wtS (ys.getD i cz) + sumF (fun j => wtS (ys.getD j cz)) d (i + 1) = k + (wtS (ys.getD i cz) + sumF (fun j => wtS (ys.getD j cz)) d (i + 1)) by omega]

theorem mark_commits (m : Nat) (hm : 1000000000 ≤ m) (ys : List SCom) (n k : Nat) (hn : n < 100000000) (h0 : k ≠ 0) (hk : k + sumF (fun j => wtS (ys.getD j cz)) n 0 < 1000000000000000000) (hy : n ≤ ys.length) (hz : ∀ j, j < n → ComW (ys.getD j cz)) :
    ∃ zs, laws_markCommitS m (ys, (n : Int), (k : Int), ()) = some (zs, ((k + sumF (fun j => wtS (ys.getD j cz)) n 0 : Nat) : Int), ()) := by
  obtain ⟨zs, h1⟩ := mark_commits_loop m hm n hn n (m - (n + 1)) 0 k ys (by omega) h0 hk hy (fun j _ hj => hz j hj)
  rw [show m - (n + 1) + n + 1 = m by omega] at h1
  exact ⟨zs, h1⟩

/-- a commit as the laws keep it weighs what it weighed -/
theorem wt_toC (m : Nat) (hm : 1000000000 ≤ m) (c : Com) (hc : ComSz c) : wtS (toC m false c) = wtC c := by
  obtain ⟨h1, h2, h3⟩ := toC_ok m hm c hc false
  have hw := h3 rfl
  generalize toC m false c = z at h2 hw
  subst h2
  have e1 : (List.take z.1.2 z.1.1).length = z.1.2 := by rw [List.length_take, hw.ps]; omega
  have e2 : ((List.take z.2.2.2 z.2.2.1).map down1).length = z.2.2.2 := by rw [List.length_map, List.length_take, hw.len]; omega
  unfold wtS wtC wtT
  show z.1.2 + 1 + _ = (List.take z.1.2 z.1.1).length + 1 + sumF (fun j => 1 + (((List.take z.2.2.2 z.2.2.1).map down1).getD j fz).2.length) ((List.take z.2.2.2 z.2.2.1).map down1).length 0
  rw [e1, e2]
  congr 1
  refine sumF_congr fun j _ hj => ?_
  have hj2 : j < z.2.2.1.length := by rw [hw.len]; omega
  have hmem : z.2.2.1[j] ∈ List.take z.2.2.2 z.2.2.1 := List.mem_take_iff_getElem.2 ⟨j, by omega, rfl⟩
  have hf := hw.files _ hmem
  have e3 : ((List.take z.2.2.2 z.2.2.1).map down1).getD j fz = down1 z.2.2.1[j] := by
    rw [List.getD_eq_getElem?_getD, List.getElem?_map, List.getElem?_take, if_pos (by omega), List.getElem?_eq_getElem hj2]; rfl
  have e4 : z.2.2.1.getD j gz = z.2.2.1[j] := by rw [List.getD_eq_getElem?_getD, List.getElem?_eq_getElem hj2]; rfl
  rw [e3, e4]
  show 1 + z.2.2.1[j].2.2 = 1 + (List.take z.2.2.1[j].2.2 z.2.2.1[j].2.1).length
  rw [List.length_take, hf.1]; omega

/-- marks in a repository -/
theorem mark_repo (m : Nat) (hm : 1000000000 ≤ m) (xs : List Com) (hx : ComsSz xs) (ws : Heads) (n k : Nat) (hn : n < 10000000) (h0 : k ≠ 0) (hk : k + wtCs xs + 2 * n < 1000000000000000000) (hy : n ≤ ws.length) :
    ∃ zs us, laws_markRepo m (xs.map (toC m false) ++ List.replicate (room xs.length) cfill, ws, (xs.length : Int), (n : Int), (k : Int), ()) = some (zs, us, ((k + wtCs xs + 2 * n : Nat) : Int), ()) := by
  have hl := hx.len
  have hg : ∀ j, j < xs.length → (xs.map (toC m false) ++ List.replicate (room xs.length) cfill).getD j cz = toC m false (xs.getD j kz) := fun j hj => by
    rw [List.getD_eq_getElem?_getD, List.getElem?_append_left (by simpa using hj), List.getElem?_map, List.getElem?_eq_getElem hj, List.getD_eq_getElem?_getD, List.getElem?_eq_getElem hj]; rfl
  have hs : sumF (fun j => wtS ((xs.map (toC m false) ++ List.replicate (room xs.length) cfill).getD j cz)) xs.length 0 = wtCs xs := sumF_congr fun j _ hj => by
    rw [hg j (by omega), wt_toC m hm _ (hx.com _ (mem_getD (by omega)))]
  obtain ⟨zs, h1⟩ := mark_commits m hm (xs.map (toC m false) ++ List.replicate (room xs.length) cfill) xs.length k (by omega) h0 (by rw [hs]; omega) (by simp) (fun j hj => by
    rw [hg j hj]; exact (toC_ok m hm _ (hx.com _ (mem_getD hj)) false).2.2 rfl)
  rw [hs] at h1
  obtain ⟨us, g1⟩ := mark_heads m hm ws n (k + wtCs xs) (by omega) (by omega) hy hk
  refine ⟨zs, us, ?_⟩
  show laws_markRepo.start m _ _ ws (xs.length : Int) (n : Int) (k : Int) = _
  unfold laws_markRepo.start
  rw [show ((Int.toNat (xs.length : Int) : Nat) : Int) = (xs.length : Int) from rfl, show ((Int.toNat (n : Int) : Nat) : Int) = (n : Int) from rfl, h1]
  simp only [Option.bind_some]
  rw [g1]
  rfl
end Go.Sx.Tryz
