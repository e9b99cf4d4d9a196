/- A part of the pure law of FnExactSeekAll, over the printed functions: what they answer. No condition but those of each theorem. -/
import Derived.Test.YtafchokjmboemaaGreatDoorSkaHF
namespace Go.Sx.Tryz
open Go Go.Proofs Go.Sx
set_option linter.unusedVariables false
set_option linter.unusedSimpArgs false

def sumF (f : Nat → Nat) : Nat → Nat → Nat
  | 0, _ => 0
  | d + 1, i => f i + sumF f d (i + 1)
theorem sumF_congr {f g : Nat → Nat} : ∀ {d i : Nat}, (∀ j, i ≤ j → j < i + d → f j = g j) → sumF f d i = sumF g d i
  | 0, _, _ => rfl
  | d + 1, i, h => by
    unfold sumF
    rw [h i (Nat.le_refl _) (by omega), sumF_congr (d := d) (i := i + 1) (fun j h1 h2 => h j (by omega) (by omega))]
theorem sumF_le {f g : Nat → Nat} : ∀ {d i : Nat}, (∀ j, i ≤ j → j < i + d → f j ≤ g j) → sumF f d i ≤ sumF g d i
  | 0, _, _ => Nat.le_refl _
  | d + 1, i, h => by
    unfold sumF
    have h1 := h i (Nat.le_refl _) (by omega)
    have h2 := sumF_le (f := f) (g := g) (d := d) (i := i + 1) (fun j h1 h2 => h j (by omega) (by omega))
    omega

theorem some_int {v u : Int} (h : some (v, ()) = some (u, ())) : v = u := by
  injection h with h; injection h

theorem sz_strs_w (m : Nat) (hm : 10000000 ≤ m) (xs : List ByteArray) (hl : xs.length ≤ cap) (hc : ∀ s ∈ xs, s.size ≤ cap) (left : Int) (l0 : 0 ≤ left) (l1 : left ≤ 1000000) (v : Int)
    (h : laws_szStringS m ((xs, xs.length), left, ()) = some (v, ())) (hv : 0 ≤ v) : v + xs.length ≤ left := by
  have hb : laws_szStringS m ((xs, xs.length), left, ()) = cond (decide (left - (xs.length : Int) < 0)) (some (-1, ())) ((laws_szStringS.tab m m).1 ((xs, xs.length), left - (xs.length : Int), ((0 : Nat) : Int), ())) := by
    show laws_szStringS.start m (laws_szStringS.tab m m) (xs, xs.length) left = _
    unfold laws_szStringS.start
    simp only [lett]
    rw [w64_sub l0 l1 hl]
    rfl
  rw [hb] at h
  by_cases hneg : left - (xs.length : Int) < 0
  · rw [decide_eq_true hneg] at h
    have := some_int h; omega
  · rw [decide_eq_false hneg] at h
    obtain ⟨u, h1, h2, h3⟩ := sz_strs_loop m xs hc (by omega) xs.length (m - (xs.length + 1)) 0 (left - (xs.length : Int)) (by omega) (by omega) (by omega)
    rw [show m - (xs.length + 1) + xs.length + 1 = m by omega] at h1
    have := some_int (h1.symm.trans h)
    omega

theorem sz_file_w (m : Nat) (hm : 10000000 ≤ m) (f : ByteArray × List ByteArray) (hp : f.1.size ≤ cap) (hl : f.2.length ≤ cap) (hc : ∀ s ∈ f.2, s.size ≤ cap) (left : Int) (l0 : 0 ≤ left) (l1 : left ≤ 1000000) (v : Int)
    (h : laws_szFile m (f.1, (f.2, f.2.length), left, ()) = some (v, ())) (hv : 0 ≤ v) : v + f.2.length ≤ left := by
  have h : laws_szFile.start m (laws_szFile.tab m m) f.1 (f.2, f.2.length) left = some (v, ()) := h
  unfold laws_szFile.start at h
  simp only [lett] at h
  rw [show sLen f.1 = (f.1.size : Int) from rfl, w64_sub l0 l1 hp] at h
  by_cases hneg : left - (f.1.size : Int) < 0
  · rw [decide_eq_true hneg] at h
    have := some_int h; omega
  · rw [decide_eq_false hneg] at h
    obtain ⟨u, h1, h2, h3⟩ := sz_strs m hm f.2 hl hc (left - (f.1.size : Int)) (by omega) (by omega)
    rw [h1] at h
    simp only [cond, Option.bind_some] at h
    by_cases hu : u < 0
    · rw [decide_eq_true hu] at h
      have := some_int h; omega
    · rw [decide_eq_false hu] at h
      have e := some_int h
      have := sz_strs_w m hm f.2 hl hc (left - (f.1.size : Int)) (by omega) (by omega) u h1 (by omega)
      omega

def wtT (t : Tree) : Nat := sumF (fun j => 1 + (t.getD j fz).2.length) t.length 0

theorem sz_files_loop_w (m : Nat) (hm : 10000000 ≤ m) (t : Tree) (ht : TreeIn t) (hx : t.length ≤ 1000000) : ∀ (d k i : Nat) (left : Int), i + d = t.length → 0 ≤ left → left ≤ 1000000 → ∀ v : Int,
    (laws_szFileS.tab m (k + d + 1)).1 ((t.map up1, t.length), left, (i : Int), ()) = some (v, ()) → 0 ≤ v → v + (sumF (fun j => (t.getD j fz).2.length) d i : Nat) ≤ left
  | 0, k, i, left, h, l0, l1, v, hv, h0 => by
    have hv : laws_szFileS.b0 m (laws_szFileS.tab m k) (t.map up1, t.length) left (i : Int) = some (v, ()) := hv
    unfold laws_szFileS.b0 at hv
    rw [decide_eq_false (show ¬ (i : Int) < ((t.map up1, t.length).2 : Int) by show ¬ (i : Int) < (t.length : Int); omega)] at hv
    have := some_int hv
    show v + ((0 : Nat) : Int) ≤ left
    omega
  | d + 1, k, i, left, h, l0, l1, u, hu, h0 => by
    have hmem : t.getD i fz ∈ t := mem_getD (by omega)
    obtain ⟨v, h1, h2, h3⟩ := sz_file m hm (t.getD i fz) (ht.path _ hmem) (ht.texts _ hmem) (ht.line _ hmem) left l0 l1
    have hb : (laws_szFileS.tab m (k + (d + 1) + 1)).1 ((t.map up1, t.length), left, (i : Int), ()) = cond (decide (v < 0)) (some (-1, ())) ((laws_szFileS.tab m (k + d + 1)).1 ((t.map up1, t.length), v, ((i + 1 : Nat) : Int), ())) := by
      show laws_szFileS.b0 m (laws_szFileS.tab m (k + d + 1)) (t.map up1, t.length) left (i : Int) = _
      unfold laws_szFileS.b0
      rw [decide_eq_true (show (i : Int) < ((t.map up1, t.length).2 : Int) by show (i : Int) < (t.length : Int); omega), decide_eq_true (show (0 : Int) ≤ (i : Int) by omega)]
      simp only [cond, lett]
      rw [show getL (List.map up1 t) (i : Int) (ByteArray.empty, ([] : List ByteArray), (0 : Nat)) = up1 (t.getD i fz) from up_get t i]
      rw [show laws_szFile m ((up1 (t.getD i fz)).1, (up1 (t.getD i fz)).2, left, ()) = some (v, ()) from h1, w64_succ (by omega)]
      rfl
    rw [hb] at hu
    by_cases hneg : v < 0
    · rw [decide_eq_true hneg] at hu
      have := some_int hu; omega
    · rw [decide_eq_false hneg] at hu
      have hw := sz_file_w m hm (t.getD i fz) (ht.path _ hmem) (ht.texts _ hmem) (ht.line _ hmem) left l0 l1 v h1 (by omega)
      have := sz_files_loop_w m hm t ht hx d k (i + 1) v (by omega) (by omega) (by omega) u hu h0
      unfold sumF
      rw [show (((t.getD i fz).2.length + sumF (fun j => (t.getD j fz).2.length) d (i + 1) : Nat) : Int) = ((t.getD i fz).2.length : Int) + (sumF (fun j => (t.getD j fz).2.length) d (i + 1) : Nat) by omega]
      omega

theorem sumF_one {f : Nat → Nat} : ∀ {d i : Nat}, sumF (fun j => 1 + f j) d i = d + sumF f d i
  | 0, _ => rfl
  | d + 1, i => by unfold sumF; rw [sumF_one (d := d)]; omega

theorem sz_files_w (m : Nat) (hm : 10000000 ≤ m) (t : Tree) (ht : TreeIn t) (left : Int) (l0 : 0 ≤ left) (l1 : left ≤ 1000000) (v : Int) (h : laws_szFileS m ((t.map up1, t.length), left, ()) = some (v, ())) (hv : 0 ≤ v) : v + (wtT t : Int) ≤ left := by
  have hb : laws_szFileS m ((t.map up1, t.length), left, ()) = cond (decide (left - (t.length : Int) < 0)) (some (-1, ())) ((laws_szFileS.tab m m).1 ((t.map up1, t.length), left - (t.length : Int), ((0 : Nat) : Int), ())) := by
    show laws_szFileS.start m (laws_szFileS.tab m m) (t.map up1, t.length) left = _
    unfold laws_szFileS.start
    simp only [lett]
    rw [w64_sub l0 l1 ht.len]
    rfl
  rw [hb] at h
  by_cases hneg : left - (t.length : Int) < 0
  · rw [decide_eq_true hneg] at h
    have := some_int h; omega
  · rw [decide_eq_false hneg] at h
    have := sz_files_loop_w m hm t ht (by omega) t.length (m - (t.length + 1)) 0 (left - (t.length : Int)) (by omega) (by omega) (by omega) v (by
      rw [show m - (t.length + 1) + t.length + 1 = m by omega]; exact h) hv
    unfold wtT
    rw [sumF_one]
    omega

theorem sz_ints_w (m : Nat) (xs : List Int) (hl : xs.length ≤ cap) (left : Int) (l0 : 0 ≤ left) (l1 : left ≤ 1000000) (v : Int) (h : laws_szIntS m ((xs, xs.length), left, ()) = some (v, ())) (hv : 0 ≤ v) : v + xs.length ≤ left := by
  have h : laws_szIntS.start m (laws_szIntS.tab m m) (xs, xs.length) left = some (v, ()) := h
  unfold laws_szIntS.start at h
  simp only [lett] at h
  rw [show w64 (left - (((xs, xs.length) : List Int × Nat).2 : Int)) = left - xs.length from w64_sub l0 l1 hl] at h
  by_cases hn : left - (xs.length : Int) < 0
  · rw [decide_eq_true hn] at h; have := some_int h; omega
  · rw [decide_eq_false hn] at h; have := some_int h; omega

def wtC (c : Com) : Nat := c.1.length + 1 + wtT c.2.2

theorem sz_commit_w (m : Nat) (hm : 10000000 ≤ m) (c : Com) (hc : ComIn c) (left : Int) (l0 : 0 ≤ left) (l1 : left ≤ 1000000) (u : Int)
    (h : laws_szCommit m ((upC c).1, (upC c).2.1, (upC c).2.2, left, ()) = some (u, ())) (hu : 0 ≤ u) : u + (c.1.length : Int) + (wtT c.2.2 : Int) ≤ left := by
  have h : laws_szCommit.start m (laws_szCommit.tab m m) (c.1, c.1.length) c.2.1 (c.2.2.map up1, c.2.2.length) left = some (u, ()) := h
  unfold laws_szCommit.start at h
  obtain ⟨v, h1, h2, h3⟩ := sz_ints m c.1 hc.ps left l0 l1
  rw [h1] at h
  simp only [Option.bind_some] at h
  by_cases hv : v < 0
  · rw [decide_eq_true hv] at h; have := some_int h; omega
  rw [decide_eq_false hv] at h
  have hw := sz_ints_w m c.1 hc.ps left l0 l1 v h1 (by omega)
  simp only [cond, lett] at h
  rw [show w64 (v - sLen c.2.1) = v - c.2.1.size from w64_sub (by omega) (by omega) hc.who] at h
  by_cases hw2 : v - (c.2.1.size : Int) < 0
  · rw [decide_eq_true hw2] at h; have := some_int h; omega
  rw [decide_eq_false hw2] at h
  obtain ⟨y, g1, g2, g3⟩ := sz_files m hm c.2.2 hc.tree (v - c.2.1.size) (by omega) (by omega)
  simp only at h
  rw [g1] at h
  simp only [Option.bind_some] at h
  by_cases hy : y < 0
  · rw [decide_eq_true hy] at h; have := some_int h; omega
  rw [decide_eq_false hy] at h
  have e := some_int h
  have := sz_files_w m hm c.2.2 hc.tree (v - c.2.1.size) (by omega) (by omega) y g1 (by omega)
  omega

def wtCs (xs : List Com) : Nat := sumF (fun j => wtC (xs.getD j kz)) xs.length 0

theorem sz_commits_loop_w (m : Nat) (hm : 10000000 ≤ m) (xs : List Com) (hin : ComsIn xs) (hx : xs.length ≤ 1000000) : ∀ (d k i : Nat) (left : Int), i + d = xs.length → 0 ≤ left → left ≤ 1000000 → ∀ u : Int,
    (laws_szCommitS.tab m (k + d + 1)).1 ((xs.map upC, xs.length), left, (i : Int), ()) = some (u, ()) → 0 ≤ u → u + (sumF (fun j => (xs.getD j kz).1.length + wtT (xs.getD j kz).2.2) d i : Nat) ≤ left
  | 0, k, i, left, h, l0, l1, u, hu, h0 => by
    have hu : laws_szCommitS.b0 m (laws_szCommitS.tab m k) (xs.map upC, xs.length) left (i : Int) = some (u, ()) := hu
    unfold laws_szCommitS.b0 at hu
    rw [decide_eq_false (show ¬ (i : Int) < ((xs.length : Nat) : Int) by omega)] at hu
    have := some_int hu
    show u + ((0 : Nat) : Int) ≤ left
    omega
  | d + 1, k, i, left, h, l0, l1, u, hu, h0 => by
    have hmem : xs.getD i kz ∈ xs := mem_getD (by omega)
    obtain ⟨v, h1, h2, h3⟩ := sz_commit m hm (xs.getD i kz) (hin.com _ hmem) left l0 l1
    have hb : (laws_szCommitS.tab m (k + (d + 1) + 1)).1 ((xs.map upC, xs.length), left, (i : Int), ()) = cond (decide (v < 0)) (some (-1, ())) ((laws_szCommitS.tab m (k + d + 1)).1 ((xs.map upC, xs.length), v, ((i + 1 : Nat) : Int), ())) := by
      show laws_szCommitS.b0 m (laws_szCommitS.tab m (k + d + 1)) (xs.map upC, xs.length) left (i : Int) = _
      unfold laws_szCommitS.b0
      rw [decide_eq_true (show (i : Int) < ((xs.length : Nat) : Int) by omega), decide_eq_true (show (0 : Int) ≤ (i : Int) by omega), w64_succ (by omega)]
      simp only [cond, lett]
      rw [show getL (xs.map upC) (i : Int) ((([] : List Int), (0 : Nat)), ByteArray.empty, ([] : STree), (0 : Nat)) = upC (xs.getD i kz) from upC_get xs (by omega)]
      rw [h1]
      rfl
    rw [hb] at hu
    by_cases hneg : v < 0
    · rw [decide_eq_true hneg] at hu; have := some_int hu; omega
    · rw [decide_eq_false hneg] at hu
      have hw := sz_commit_w m hm (xs.getD i kz) (hin.com _ hmem) left l0 l1 v h1 (by omega)
      have := sz_commits_loop_w m hm xs hin hx d k (i + 1) v (by omega) (by omega) (by omega) u hu h0
      unfold sumF
      generalize sumF (fun j => (xs.getD j kz).1.length + wtT (xs.getD j kz).2.2) d (i + 1) = Y at this ⊢
      omega

theorem sz_commits_w (m : Nat) (hm : 10000000 ≤ m) (xs : List Com) (hin : ComsIn xs) (left : Int) (l0 : 0 ≤ left) (l1 : left ≤ 1000000) (u : Int) (h : laws_szCommitS m ((xs.map upC, xs.length), left, ()) = some (u, ())) (hu : 0 ≤ u) : u + (wtCs xs : Int) ≤ left := by
  have hb : laws_szCommitS m ((xs.map upC, xs.length), left, ()) = cond (decide (left - (xs.length : Int) < 0)) (some (-1, ())) ((laws_szCommitS.tab m m).1 ((xs.map upC, xs.length), left - (xs.length : Int), ((0 : Nat) : Int), ())) := by
    show laws_szCommitS.start m (laws_szCommitS.tab m m) (xs.map upC, xs.length) left = _
    unfold laws_szCommitS.start
    simp only [lett]
    rw [w64_sub l0 l1 hin.len]
    rfl
  rw [hb] at h
  by_cases hneg : left - (xs.length : Int) < 0
  · rw [decide_eq_true hneg] at h; have := some_int h; omega
  · rw [decide_eq_false hneg] at h
    have := sz_commits_loop_w m hm xs hin (by omega) xs.length (m - (xs.length + 1)) 0 (left - (xs.length : Int)) (by omega) (by omega) (by omega) u (by
      rw [show m - (xs.length + 1) + xs.length + 1 = m by omega]; exact h) hu
    have e : wtCs xs = xs.length + sumF (fun j => (xs.getD j kz).1.length + wtT (xs.getD j kz).2.2) xs.length 0 := by
      unfold wtCs
      rw [← sumF_one]
      exact sumF_congr fun j _ _ => by unfold wtC; omega
    omega

theorem sz_repo_w (m : Nat) (hm : 10000000 ≤ m) (xs : List Com) (hs : Heads) (hx : ComsIn xs) (hh : HeadsIn hs) (left : Int) (l0 : 0 ≤ left) (l1 : left ≤ 1000000) (y : Int) (h : laws_szRepo m ((xs.map upC, xs.length), (hs, hs.length), left, ()) = some (y, ())) (hy : 0 ≤ y) :
    (wtCs xs : Int) ≤ left := by
  have h : laws_szRepo.start m (laws_szRepo.tab m m) (xs.map upC, xs.length) (hs, hs.length) left = some (y, ()) := h
  unfold laws_szRepo.start at h
  obtain ⟨v, h1, h2, h3⟩ := sz_commits m hm xs hx left l0 l1
  rw [h1] at h
  simp only [Option.bind_some] at h
  by_cases hv : v < 0
  · rw [decide_eq_true hv] at h; have := some_int h; omega
  have := sz_commits_w m hm xs hx left l0 l1 v h1 (by omega)
  omega
end Go.Sx.Tryz
