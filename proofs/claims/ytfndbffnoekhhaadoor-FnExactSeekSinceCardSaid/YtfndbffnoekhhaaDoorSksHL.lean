/- A part of the pure law of FnExactSeekSince, over the printed functions: what they answer. No condition but those of each theorem. -/
import Derived.Test.YtfndbffnoekhhaaDoorSksHI
import Derived.Test.YtfndbffnoekhhaaDoorSksHK
import Derived.Test.YtfndbffnoekhhaaDoorSksHH
namespace Go.Sx.Tryd
open Go Go.Proofs Go.Sx
set_option linter.unusedVariables false
set_option linter.unusedSimpArgs false

theorem line_loop (m : Nat) (xs : List Com) (hs : Heads) (hok : repoB xs hs = true) : ∀ (c : Nat), c < xs.length → ∀ acc : List Int, acc.length + c ≤ 1000 → ∃ L : List Int,
    (∀ k, (spec_l8Line.tab m (k + c + 1)).1 (xs, hs, acc, (c : Int), ()) = some (acc ++ L, ())) ∧ (∀ k, (impl_Repo_line.tab m (k + c + 1)).1 (xs, hs, acc, (c : Int), ()) = some (acc ++ L, ())) ∧ (∀ v ∈ L, 0 ≤ v ∧ v < (xs.length : Int)) ∧ L.length ≤ c := by
  intro c
  induction c using Nat.strongRecOn with
  | ind c ih =>
    intro hc acc ha
    have hcom := com_pars (repo_com hok hc)
    by_cases h0 : (xs.getD c kz).1.length = 0
    · refine ⟨[], fun k => ?_, fun k => ?_, by simp, by simp⟩
      · show spec_l8Line.b0 m (spec_l8Line.tab m (k + c)) xs hs acc (c : Int) = _
        unfold spec_l8Line.b0
        rw [decide_eq_true (show (0 : Int) ≤ (c : Int) by omega), decide_eq_true (show (c : Int) < lLen xs by simp only [lLen]; omega)]
        simp only [cond, lett]
        rw [show getL xs (c : Int) (([] : List Int), ByteArray.empty, ([] : List (ByteArray × List ByteArray))) = xs.getD c kz from rfl, decide_eq_false (show ¬ lLen (xs.getD c kz).1 > 0 by simp only [lLen]; omega), List.append_nil]
      · show impl_Repo_line.b0 m (impl_Repo_line.tab m (k + c)) xs hs acc (c : Int) = _
        unfold impl_Repo_line.b0
        rw [decide_eq_true (show (0 : Int) ≤ (c : Int) by omega), decide_eq_true (show (c : Int) < lLen xs by simp only [lLen]; omega)]
        simp only [cond, lett]
        rw [show getL xs (c : Int) (([] : List Int), ByteArray.empty, ([] : List (ByteArray × List ByteArray))) = xs.getD c kz from rfl, decide_eq_false (show ¬ lLen (xs.getD c kz).1 > 0 by simp only [lLen]; omega), List.append_nil]
    · obtain ⟨hp0, hp1⟩ := hcom.2 _ (mem_getD (l := (xs.getD c kz).1) (i := 0) (z := 0) (by omega))
      obtain ⟨p, hp⟩ : ∃ p : Nat, (xs.getD c kz).1.getD 0 0 = (p : Int) := ⟨((xs.getD c kz).1.getD 0 0).toNat, by omega⟩
      rw [hp] at hp1
      have hpc : p < c := by omega
      obtain ⟨L, h1, h2, h3, h4⟩ := ih p hpc (by omega) (acc ++ [(p : Int)]) (by simp; omega)
      refine ⟨(p : Int) :: L, fun k => ?_, fun k => ?_, fun v hv => ?_, by simp; omega⟩
      · show spec_l8Line.b0 m (spec_l8Line.tab m (k + c)) xs hs acc (c : Int) = _
        unfold spec_l8Line.b0
        rw [decide_eq_true (show (0 : Int) ≤ (c : Int) by omega), decide_eq_true (show (c : Int) < lLen xs by simp only [lLen]; omega)]
        simp only [cond, lett]
        rw [show getL xs (c : Int) (([] : List Int), ByteArray.empty, ([] : List (ByteArray × List ByteArray))) = xs.getD c kz from rfl, decide_eq_true (show lLen (xs.getD c kz).1 > 0 by simp only [lLen]; omega),
          show getL (xs.getD c kz).1 (0 : Int) (0 : Int) = (p : Int) from hp, decide_eq_true (show List.length acc + List.length ([(p : Int)] : List Int) ≤ apCap by show acc.length + 1 ≤ 1073741824; omega)]
        have := h1 (k + (c - 1 - p))
        rw [show k + (c - 1 - p) + p + 1 = k + c by omega, List.append_assoc] at this
        exact this
      · show impl_Repo_line.b0 m (impl_Repo_line.tab m (k + c)) xs hs acc (c : Int) = _
        unfold impl_Repo_line.b0
        rw [decide_eq_true (show (0 : Int) ≤ (c : Int) by omega), decide_eq_true (show (c : Int) < lLen xs by simp only [lLen]; omega)]
        simp only [cond, lett]
        rw [show getL xs (c : Int) (([] : List Int), ByteArray.empty, ([] : List (ByteArray × List ByteArray))) = xs.getD c kz from rfl, decide_eq_true (show lLen (xs.getD c kz).1 > 0 by simp only [lLen]; omega),
          show getL (xs.getD c kz).1 (0 : Int) (0 : Int) = (p : Int) from hp, decide_eq_true (show List.length acc + List.length ([(p : Int)] : List Int) ≤ apCap by show acc.length + 1 ≤ 1073741824; omega)]
        have := h2 (k + (c - 1 - p))
        rw [show k + (c - 1 - p) + p + 1 = k + c by omega, List.append_assoc] at this
        exact this
      · rcases List.mem_cons.1 hv with e | e
        · rw [e]; omega
        · exact h3 v e

theorem line_v (m : Nat) (hm : 1000 ≤ m) (xs : List Com) (hs : Heads) (hok : repoB xs hs = true) (c : Nat) (hc : c < xs.length) : ∃ L : List Int, spec_l8Line m (xs, hs, (c : Int), ()) = some (L, ()) ∧ impl_Repo_line m (xs, hs, (c : Int), ()) = some (L, ()) ∧ (∀ v ∈ L, 0 ≤ v ∧ v < (xs.length : Int)) ∧ L.length ≤ 16 := by
  have hl := repo_len hok
  obtain ⟨L, h1, h2, h3, h4⟩ := line_loop m xs hs hok c hc [(c : Int)] (by simp; omega)
  have g1 := h1 (m - (c + 1))
  have g2 := h2 (m - (c + 1))
  rw [show m - (c + 1) + c + 1 = m by omega] at g1 g2
  refine ⟨[(c : Int)] ++ L, g1, g2, fun v hv => ?_, by simp; omega⟩
  rcases List.mem_cons.1 hv with e | e
  · rw [e]; omega
  · exact h3 v e

theorem since_loop (m : Nat) (hm : 10000000000000 ≤ m) (xs : List Com) (hs : Heads) (hx : ComsSz xs) (hok : repoB xs hs = true) (w : ByteArray) (hw : nameB (bL w) = true) (L : List Int) (hL : ∀ v ∈ L, 0 ≤ v ∧ v < (xs.length : Int)) (hl : L.length ≤ 16) : ∀ (d k i : Nat) (a : Int), i + d = L.length →
    ∃ v : Int, (spec_SeekSince.tab m (k + d + 1)).1 (xs, hs, w, a, L, (i : Int), ()) = some (v, ()) ∧ (impl_SeekSince.tab m (k + d + 1)).1 (xs, hs, w, a, L, lLen L, (i : Int), ()) = some (v, ())
  | 0, k, i, a, h => by
    refine ⟨a, ?_, ?_⟩
    · show spec_SeekSince.b0 m (spec_SeekSince.tab m k) xs hs w a L (i : Int) = _
      unfold spec_SeekSince.b0
      rw [decide_eq_false (show ¬ (i : Int) < lLen L by simp only [lLen]; omega)]; rfl
    · show impl_SeekSince.b0 m (impl_SeekSince.tab m k) xs hs w a L (lLen L) (i : Int) = _
      unfold impl_SeekSince.b0
      rw [decide_eq_false (show ¬ (i : Int) < lLen L by simp only [lLen]; omega)]; rfl
  | d + 1, k, i, a, h => by
    have hi : i < L.length := by omega
    obtain ⟨hp0, hp1⟩ := hL _ (mem_getD (z := 0) hi)
    obtain ⟨p, hp⟩ : ∃ p : Nat, L.getD i 0 = (p : Int) := ⟨(L.getD i 0).toNat, by omega⟩
    rw [hp] at hp1
    have hpn : p < xs.length := by omega
    obtain ⟨v, h1, h2⟩ := since_loop m hm xs hs hx hok w hw L hL hl d k (i + 1) (p : Int) (by omega)
    have ht := com_tree (repo_com hok hpn)
    have hsz := (hx.com _ (mem_getD (z := kz) hpn)).tree
    have hw2 := name_size hw
    have e1 : spec_SeekTree m ((xs.getD p kz).2.2, w, ()) = some (seekL w (xs.getD p kz).2.2, ()) := by
      rw [spec_seek_v m hm hsz w (by omega)]
      unfold seekV
      rw [ht, hw]; rfl
    have e2 := impl_seekL_v m hm ht w (by omega) hw
    have hb : (spec_SeekSince.tab m (k + (d + 1) + 1)).1 (xs, hs, w, a, L, (i : Int), ()) = cond ((lLen (seekL w (xs.getD p kz).2.2)) == (0 : Int)) (some (a, ())) (some (v, ())) := by
      rw [← h1]
      show spec_SeekSince.b0 m (spec_SeekSince.tab m (k + d + 1)) xs hs w a L (i : Int) = _
      unfold spec_SeekSince.b0
      rw [decide_eq_true (show (i : Int) < lLen L by simp only [lLen]; omega), decide_eq_true (show (0 : Int) ≤ (i : Int) by omega), show getL L (i : Int) (0 : Int) = (p : Int) from hp, decide_eq_true (show (0 : Int) ≤ (p : Int) by omega), decide_eq_true (show (p : Int) < lLen xs by simp only [lLen]; omega), w64_succ (by omega)]
      simp only [cond, lett]
      rw [show getL xs (p : Int) (([] : List Int), ByteArray.empty, ([] : List (ByteArray × List ByteArray))) = xs.getD p kz from rfl, e1]
      rfl
    have hc : (impl_SeekSince.tab m (k + (d + 1) + 1)).1 (xs, hs, w, a, L, lLen L, (i : Int), ()) = cond ((lLen (seekL w (xs.getD p kz).2.2)) == (0 : Int)) (some (a, ())) (some (v, ())) := by
      rw [← h2]
      show impl_SeekSince.b0 m (impl_SeekSince.tab m (k + d + 1)) xs hs w a L (lLen L) (i : Int) = _
      unfold impl_SeekSince.b0
      rw [decide_eq_true (show (i : Int) < lLen L by simp only [lLen]; omega), decide_eq_true (show (0 : Int) ≤ (i : Int) by omega), show getL L (i : Int) (0 : Int) = (p : Int) from hp, decide_eq_true (show (0 : Int) ≤ (p : Int) by omega), decide_eq_true (show (p : Int) < lLen xs by simp only [lLen]; omega), w64_succ (by omega)]
      simp only [cond, lett]
      rw [show getL xs (p : Int) (([] : List Int), ByteArray.empty, ([] : List (ByteArray × List ByteArray))) = xs.getD p kz from rfl, e2]
      rfl
    rw [hb, hc]
    cases ((lLen (seekL w (xs.getD p kz).2.2)) == (0 : Int))
    · exact ⟨v, rfl, rfl⟩
    · exact ⟨a, rfl, rfl⟩

theorem since_v (m : Nat) (hm : 10000000000000 ≤ m) (xs : List Com) (hs : Heads) (hx : ComsSz xs) (hh : HeadsSz hs) (a : Int) (w : ByteArray) (hw : w.size < 10000000) :
    ∃ v : Int, spec_SeekSince m (xs, hs, a, w, ()) = some (v, ()) ∧ impl_SeekSince m (xs, hs, a, w, ()) = some (v, ()) := by
  have hxl := hx.len
  have es : spec_SeekSince m (xs, hs, a, w, ()) = cond (repoB xs hs) (cond (inR a xs.length) (cond (nameB (bL w)) (Option.bind (spec_l8Line m (xs, hs, a, ())) fun r4 => (spec_SeekSince.tab m m).1 (xs, hs, w, (-1 : Int), r4.1, (0 : Int), ())) (some (-1, ()))) (some (-1, ()))) (some (-1, ())) := by
    show spec_SeekSince.start m (spec_SeekSince.tab m m) xs hs a w = _
    unfold spec_SeekSince.start
    rw [spec_repo_v m hm xs hs hx hh, show lLen xs = (xs.length : Int) from rfl, w64_pred (by omega), l1In_v, spec_name_v m w (by omega) (by omega)]
    unfold inR
    cases repoB xs hs <;> cases (decide (a ≥ 0) && decide (a ≤ (xs.length : Int) - 1)) <;> cases nameB (bL w) <;> rfl
  have ei : impl_SeekSince m (xs, hs, a, w, ()) = cond (repoB xs hs) (cond (inR a xs.length) (cond (nameB (bL w)) (Option.bind (impl_Repo_line m (xs, hs, a, ())) fun r4 => (impl_SeekSince.tab m m).1 (xs, hs, w, (-1 : Int), r4.1, lLen r4.1, (0 : Int), ())) (some (-1, ()))) (some (-1, ()))) (some (-1, ())) := by
    show impl_SeekSince.start m (impl_SeekSince.tab m m) xs hs a w = _
    unfold impl_SeekSince.start
    rw [show impl_Repo_has m (xs, hs, a, ()) = some (repoB xs hs && inR a xs.length, ()) from by
      show impl_Repo_has.start m _ xs hs a = _
      unfold impl_Repo_has.start
      rw [impl_repo_v m hm xs hs hx hh, show lLen xs = (xs.length : Int) from rfl, w64_pred (by omega), within_v]
      unfold inR
      cases repoB xs hs <;> rfl, impl_name_v m w (by omega) (by omega)]
    cases repoB xs hs <;> cases inR a xs.length <;> cases nameB (bL w) <;> rfl
  rw [es, ei]
  cases hok : repoB xs hs with
  | false => exact ⟨-1, rfl, rfl⟩
  | true =>
    cases hin : inR a xs.length with
    | false => exact ⟨-1, rfl, rfl⟩
    | true =>
      cases hwn : nameB (bL w) with
      | false => exact ⟨-1, rfl, rfl⟩
      | true =>
        obtain ⟨c, rfl, hc⟩ := inR_nat hin
        obtain ⟨L, h1, h2, h3, h4⟩ := line_v m (by omega) xs hs hok c hc
        obtain ⟨v, g1, g2⟩ := since_loop m hm xs hs hx hok w hwn L h3 h4 L.length (m - (L.length + 1)) 0 (-1) (by omega)
        rw [show m - (L.length + 1) + L.length + 1 = m by omega] at g1 g2
        refine ⟨v, ?_, ?_⟩
        · show Option.bind (spec_l8Line m (xs, hs, (c : Int), ())) _ = _
          rw [h1]; exact g1
        · show Option.bind (impl_Repo_line m (xs, hs, (c : Int), ())) _ = _
          rw [h2]; exact g2

theorem sz_repo_neg (m : Nat) (xs : List Com) (hs : Heads) (hx : ComsIn xs) (left : Int) (h : left < 0) (h2 : -1000000000000000 ≤ left) : laws_szRepo m ((xs.map upC, xs.length), (hs, hs.length), left, ()) = some (-1, ()) := by
  have hl := hx.len
  have hcap : cap = 140737488355328 := rfl
  show laws_szRepo.start m _ (xs.map upC, xs.length) (hs, hs.length) left = _
  unfold laws_szRepo.start
  rw [show laws_szCommitS m ((xs.map upC, xs.length), left, ()) = some (-1, ()) from by
    show laws_szCommitS.start m (laws_szCommitS.tab m m) (xs.map upC, xs.length) left = _
    unfold laws_szCommitS.start
    simp only [lett]
    rw [show w64 (left - (xs.length : Int)) = left - xs.length from w64_ok (by omega) (by omega), decide_eq_true (show left - (xs.length : Int) < 0 by omega)]
    rfl]
  rfl

theorem fnExactSeekSince_true (m : Nat) (hm : 10000000000000 ≤ m) (xs : List Com) (hs : Heads) (a : Int) (w : ByteArray) (bx : ComsIn xs) (bh : HeadsIn hs) (bw : w.size ≤ 140737488351232) : laws_FnExactSeekSince m (xs, hs, a, w, ()) = some (true, ()) := by
  show laws_FnExactSeekSince.start m _ xs hs a w = _
  unfold laws_FnExactSeekSince.start
  rw [show w64 ((1000000 : Int) - sLen w) = 1000000 - w.size from w64_ok (by show _ ≤ (1000000 : Int) - (w.size : Int); omega) (by show (1000000 : Int) - (w.size : Int) < _; omega), upped_c]
  by_cases hneg : (1000000 : Int) - w.size < 0
  · rw [sz_repo_neg m xs hs bx _ hneg (by omega)]; rfl
  obtain ⟨v, h1, h2, h3⟩ := sz_repo m (by omega) xs hs bx bh (1000000 - w.size) (by omega) (by omega)
  rw [h1]
  simp only [Option.bind_some]
  by_cases hv : v < 0
  · rw [decide_eq_true hv]; rfl
  rw [decide_eq_false hv]
  obtain ⟨hx, hh⟩ := h3 (by omega)
  simp only [cond]
  obtain ⟨ys, ws, r1, r2, r3, r4⟩ := to_repo m (by omega) xs hs hx hh false
  obtain ⟨ys', ws', r1', r2', r3', r4'⟩ := to_repo m (by omega) xs hs hx hh true
  obtain ⟨u, u1, u2⟩ := since_v m hm xs hs hx hh a w (by omega)
  rw [r1, r1']
  simp only [Option.bind_some]
  rw [handed_c r2, handed_c r2', r3, r3', u1, u2]
  simp only [Option.bind_some]
  rw [r4 rfl]
  simp only [Option.bind_some, bne_self_eq_false]
  rfl

theorem law_SeekSince (xs : List Com) (hs : Heads) (a : Int) (w : ByteArray) (bx : Bnd (.list (.pair (.list (.int .i64)) (.pair (.str) (.list (.pair (.str) (.list (.str))))))) xs) (bh : Bnd (.list (.pair (.str) (.int .i64))) hs) (ba : (Lit.int .i64 a).wf = true) (bw : w.size ≤ 140737488351232) :
    laws_FnExactSeekSince 10000000000000 (xs, hs, a, w, ()) = some (true, ()) := fnExactSeekSince_true _ (Nat.le_refl _) xs hs a w (coms_in bx) (heads_in bh) bw
end Go.Sx.Tryd
