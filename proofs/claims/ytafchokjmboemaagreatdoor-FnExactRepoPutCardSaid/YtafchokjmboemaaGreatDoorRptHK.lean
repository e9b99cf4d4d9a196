/- A part of the pure law of FnExactRepoPut, over the printed functions: what they answer. No condition but those of each theorem. -/
import Derived.Test.YtafchokjmboemaaGreatDoorRptHJ
import Derived.Test.YtafchokjmboemaaGreatDoorRptHH
import Derived.Test.YtafchokjmboemaaGreatDoorRptHI
namespace Go.Sx.Tryz
open Go Go.Proofs Go.Sx
set_option linter.unusedVariables false
set_option linter.unusedSimpArgs false

def parT (acc : ByteArray) : List Int → ByteArray
  | [] => acc
  | p :: r => parT (ByteArray.append (ByteArray.append acc s_20) (decS p.toNat)) r
def comT (acc : ByteArray) (c : Com) : ByteArray := ByteArray.append (ByteArray.append (parT (ByteArray.append (ByteArray.append acc s_636f6d6d697420) c.2.1) c.1) s_0a) (treeT ByteArray.empty c.2.2)
def comsT (acc : ByteArray) : List Com → ByteArray
  | [] => acc
  | c :: r => comsT (comT acc c) r
def headL (acc : ByteArray) (h : ByteArray × Int) : ByteArray := ByteArray.append (ByteArray.append (ByteArray.append (ByteArray.append (ByteArray.append acc s_6272616e636820) h.1) s_20) (decS h.2.toNat)) s_0a
def headsT (acc : ByteArray) : Heads → ByteArray
  | [] => acc
  | h :: r => headsT (headL acc h) r

theorem treeT_size : ∀ (t : Tree) (acc : ByteArray), (∀ f ∈ t, f.1.size < 1000000 ∧ f.2.length ≤ 10 ∧ ∀ s ∈ f.2, s.size ≤ 12) → (treeT acc t).size ≤ acc.size + 2000000 * t.length
  | [], acc, _ => by simp [treeT]
  | f :: r, acc, h => by
    obtain ⟨h1, h2, h3⟩ := h f (by simp)
    have a := headT_size acc f
    have b := linesT_size f.2 (headT acc f) h3
    have c := treeT_size r (linesT (headT acc f) f.2) (fun x hx => h x (by simp [hx]))
    simp only [treeT, List.length_cons]
    omega

/-- a tree is written -/
theorem tree24 (m : Nat) (hm : 10000000000000 ≤ m) (t : Tree) (ht : TreeSz t) (hok : treeB t = true) : spec_l24Tree m (t, ()) = some (treeT ByteArray.empty t, ()) ∧ impl_TreePut m (t, ()) = some (treeT ByteArray.empty t, ()) ∧ (treeT ByteArray.empty t).size ≤ 16000000 := by
  obtain ⟨hl, hf⟩ := files_ok hok
  refine ⟨?_, ?_, ?_⟩
  · have h := spec_put_loop m (by omega) t ht hl hf t.length (m - (20 * t.length + 1)) 0 ByteArray.empty (by omega) (by simp)
    rw [show m - (20 * t.length + 1) + 20 * t.length + 1 = m by omega] at h
    exact h
  · show impl_TreePut.start m (impl_TreePut.tab m m) t = _
    unfold impl_TreePut.start
    rw [impl_tree_v m t ht hm, hok]
    have h := impl_put_loop m t ht hl hf t.length (m - (20 * t.length + 1)) 0 ByteArray.empty (by omega) (by simp)
    rw [show m - (20 * t.length + 1) + 20 * t.length + 1 = m by omega] at h
    exact h
  · have := treeT_size t ByteArray.empty (fun f hf' => by
      obtain ⟨i, hi, rfl⟩ := List.getElem_of_mem hf'
      have e : t.getD i fz = t[i] := by rw [List.getD_eq_getElem?_getD, List.getElem?_eq_getElem hi]; rfl
      have h1 := (ht.at hi).1
      have h2 := hf i hi
      rw [e] at h1 h2
      exact ⟨h1, h2⟩)
    simp at this
    omega

theorem par_at {c : Com} {i : Nat} (h : comS c i = true) {k : Nat} (hk : k < c.1.length) : ∃ p : Nat, c.1.getD k 0 = (p : Int) ∧ p < i := by
  obtain ⟨h1, h2⟩ := (com_pars h).2 _ (mem_getD (z := 0) hk)
  exact ⟨(c.1.getD k 0).toNat, by omega, by omega⟩

theorem spec_pars24 (m : Nat) (hm : 10000000000000 ≤ m) (xs : List Com) (hs : Heads) (hx : ComsSz xs) (hok : repoB xs hs = true) (i : Nat) (hi : i < xs.length) (K : Nat) : ∀ (d k : Nat) (acc : ByteArray), k + d = (xs.getD i kz).1.length → acc.size ≤ 500000000 + 10 * k →
    (spec_l24Repo.tab m (K + d + 1)).2.1 (xs, hs, acc, (i : Int), (k : Int), ()) = (spec_l24Repo.tab m K).1 (xs, hs, ByteArray.append (ByteArray.append (parT acc ((xs.getD i kz).1.drop k)) s_0a) (treeT ByteArray.empty (xs.getD i kz).2.2), ((i + 1 : Nat) : Int), ())
  | 0, k, acc, h, ha => by
    have hxl := repo_len hok
    have hc := repo_com hok hi
    have hp := (com_pars hc).1
    obtain ⟨t1, t2, t3⟩ := tree24 m hm _ (hx.com _ (mem_getD (z := kz) hi)).tree (com_tree hc)
    have e0 : s_0a.size = 1 := rfl
    have ca : cap = 140737488355328 := rfl
    show spec_l24Repo.b1 m (spec_l24Repo.tab m K) xs hs acc (i : Int) (k : Int) = _
    unfold spec_l24Repo.b1
    rw [decide_eq_true (show (0 : Int) ≤ (i : Int) by omega), decide_eq_true (show (i : Int) < lLen xs by simp only [lLen]; omega), w64_succ (i := i) (by omega)]
    simp only [cond, lett]
    rw [show getL xs (i : Int) (([] : List Int), ByteArray.empty, ([] : List (ByteArray × List ByteArray))) = xs.getD i kz from rfl, decide_eq_false (show ¬ (k : Int) < lLen (xs.getD i kz).1 by simp only [lLen]; omega),
      decide_eq_true (show acc.size + s_0a.size ≤ cap by omega), t1]
    simp only [Option.bind_some]
    rw [decide_eq_true (show (ByteArray.append acc s_0a).size + (treeT ByteArray.empty (xs.getD i kz).2.2).size ≤ cap by rw [append_size]; omega), List.drop_eq_nil_of_le (by omega)]
    rfl
  | d + 1, k, acc, h, ha => by
    have hxl := repo_len hok
    have hc := repo_com hok hi
    have hp := (com_pars hc).1
    have hk : k < (xs.getD i kz).1.length := by omega
    obtain ⟨p, hpe, hpi⟩ := par_at hc hk
    have hd := decS_size p
    have e0 : s_20.size = 1 := rfl
    have ca : cap = 140737488355328 := rfl
    have ih := spec_pars24 m hm xs hs hx hok i hi K d (k + 1) (ByteArray.append (ByteArray.append acc s_20) (decS p)) (by omega) (by simp only [append_size]; omega)
    show spec_l24Repo.b1 m (spec_l24Repo.tab m (K + d + 1)) xs hs acc (i : Int) (k : Int) = _
    unfold spec_l24Repo.b1
    rw [decide_eq_true (show (0 : Int) ≤ (i : Int) by omega), decide_eq_true (show (i : Int) < lLen xs by simp only [lLen]; omega), w64_succ (i := k) (by omega)]
    simp only [cond, lett]
    rw [show getL xs (i : Int) (([] : List Int), ByteArray.empty, ([] : List (ByteArray × List ByteArray))) = xs.getD i kz from rfl, decide_eq_true (show (k : Int) < lLen (xs.getD i kz).1 by simp only [lLen]; omega),
      decide_eq_true (show acc.size + s_20.size ≤ cap by omega), decide_eq_true (show (0 : Int) ≤ (k : Int) by omega), show getL (xs.getD i kz).1 (k : Int) (0 : Int) = (p : Int) from hpe, dec_v m p (by omega) (by omega)]
    simp only [Option.bind_some]
    rw [decide_eq_true (show (ByteArray.append acc s_20).size + (decS p).size ≤ cap by rw [append_size]; omega), drop_at (l := (xs.getD i kz).1) (i := k) hk 0, hpe]
    exact ih

theorem spec_heads24 (m : Nat) (hm : 10000000000000 ≤ m) (xs : List Com) (hs : Heads) (hh : HeadsSz hs) (hok : repoB xs hs = true) : ∀ (d K k : Nat) (acc : ByteArray), k + d = hs.length → acc.size ≤ 600000000 + 2000000 * k →
    (spec_l24Repo.tab m (K + d + 1)).2.2.1 (xs, hs, acc, (k : Int), ()) = some (headsT acc (hs.drop k), ())
  | 0, K, k, acc, h, ha => by
    show spec_l24Repo.b2 m (spec_l24Repo.tab m K) xs hs acc (k : Int) = _
    unfold spec_l24Repo.b2
    rw [decide_eq_false (show ¬ (k : Int) < lLen hs by simp only [lLen]; omega), List.drop_eq_nil_of_le (by omega)]
    rfl
  | d + 1, K, k, acc, h, ha => by
    have hk : k < hs.length := by omega
    have hxl := repo_len hok
    have hhl := heads_len (repo_heads hok)
    obtain ⟨a1, a2, a3⟩ := head_at (repo_heads hok) hk
    obtain ⟨p, hp⟩ : ∃ p : Nat, (hs.getD k hz0).2 = (p : Int) := ⟨(hs.getD k hz0).2.toNat, by omega⟩
    have hsz := hh.at hk
    have hd := decS_size p
    have e0 : s_20.size = 1 := rfl
    have e1 : s_0a.size = 1 := rfl
    have e2 : s_6272616e636820.size = 7 := rfl
    have ca : cap = 140737488355328 := rfl
    have hL : headL acc (hs.getD k hz0) = ByteArray.append (ByteArray.append (ByteArray.append (ByteArray.append (ByteArray.append acc s_6272616e636820) (hs.getD k hz0).1) s_20) (decS p)) s_0a := by unfold headL; rw [hp]; rfl
    have ih := spec_heads24 m hm xs hs hh hok d K (k + 1) (headL acc (hs.getD k hz0)) (by omega) (by rw [hL]; simp only [append_size]; omega)
    show spec_l24Repo.b2 m (spec_l24Repo.tab m (K + d + 1)) xs hs acc (k : Int) = _
    unfold spec_l24Repo.b2
    rw [decide_eq_true (show (k : Int) < lLen hs by simp only [lLen]; omega), decide_eq_true (show (0 : Int) ≤ (k : Int) by omega), w64_succ (i := k) (by omega), decide_eq_true (show acc.size + s_6272616e636820.size ≤ cap by omega)]
    simp only [cond, lett]
    rw [show getL hs (k : Int) (ByteArray.empty, (0 : Int)) = hs.getD k hz0 from rfl, hp, dec_v m p (by omega) (by omega)]
    simp only [Option.bind_some]
    rw [decide_eq_true (show (ByteArray.append acc s_6272616e636820).size + (hs.getD k hz0).1.size ≤ cap by simp only [append_size]; omega),
      decide_eq_true (show (ByteArray.append (ByteArray.append acc s_6272616e636820) (hs.getD k hz0).1).size + s_20.size ≤ cap by simp only [append_size]; omega),
      decide_eq_true (show (ByteArray.append (ByteArray.append (ByteArray.append acc s_6272616e636820) (hs.getD k hz0).1) s_20).size + (decS p).size ≤ cap by simp only [append_size]; omega),
      decide_eq_true (show (ByteArray.append (ByteArray.append (ByteArray.append (ByteArray.append acc s_6272616e636820) (hs.getD k hz0).1) s_20) (decS p)).size + s_0a.size ≤ cap by simp only [append_size]; omega),
      drop_at (l := hs) (i := k) hk hz0, ← hL]
    exact ih

theorem parT_size : ∀ (l : List Int) (acc : ByteArray), (parT acc l).size ≤ acc.size + 3 * l.length
  | [], acc => by simp [parT]
  | p :: r, acc => by
    have := parT_size r (ByteArray.append (ByteArray.append acc s_20) (decS p.toNat))
    have hd := decS_size p.toNat
    have e0 : s_20.size = 1 := rfl
    simp only [append_size] at this
    simp only [parT, List.length_cons]
    omega

theorem comT_size (m : Nat) (hm : 10000000000000 ≤ m) {c : Com} (hc : ComSz c) {i : Nat} (h : comS c i = true) (acc : ByteArray) : (comT acc c).size ≤ acc.size + 20000000 := by
  obtain ⟨t1, t2, t3⟩ := tree24 m hm _ hc.tree (com_tree h)
  have hp := (com_pars h).1
  have hw := hc.who
  have := parT_size c.1 (ByteArray.append (ByteArray.append acc s_636f6d6d697420) c.2.1)
  have e0 : s_0a.size = 1 := rfl
  have e1 : s_636f6d6d697420.size = 7 := rfl
  unfold comT
  simp only [append_size] at this ⊢
  omega

theorem spec_coms24 (m : Nat) (hm : 10000000000000 ≤ m) (xs : List Com) (hs : Heads) (hx : ComsSz xs) (hh : HeadsSz hs) (hok : repoB xs hs = true) : ∀ (d K i : Nat) (acc : ByteArray), i + d = xs.length → acc.size ≤ 20000000 * i →
    (spec_l24Repo.tab m (K + 5 * d + hs.length + 2)).1 (xs, hs, acc, (i : Int), ()) = some (headsT (comsT acc (xs.drop i)) hs, ())
  | 0, K, i, acc, h, ha => by
    have hxl := repo_len hok
    show spec_l24Repo.b0 m (spec_l24Repo.tab m (K + hs.length + 1)) xs hs acc (i : Int) = _
    unfold spec_l24Repo.b0
    rw [decide_eq_false (show ¬ (i : Int) < lLen xs by simp only [lLen]; omega), List.drop_eq_nil_of_le (by omega)]
    have := spec_heads24 m hm xs hs hh hok hs.length K 0 acc (by omega) (by omega)
    rw [List.drop_zero] at this
    exact this
  | d + 1, K, i, acc, h, ha => by
    have hxl := repo_len hok
    have hi : i < xs.length := by omega
    have hc := repo_com hok hi
    have hcs := hx.com _ (mem_getD (z := kz) hi)
    have hp := (com_pars hc).1
    have hw := hcs.who
    have e1 : s_636f6d6d697420.size = 7 := rfl
    have ca : cap = 140737488355328 := rfl
    have hcm := comT_size m hm hcs hc acc
    obtain ⟨K', hK⟩ : ∃ K', K + 5 * (d + 1) + hs.length + 2 = (K' + 5 * d + hs.length + 2) + (xs.getD i kz).1.length + 1 + 1 := ⟨K + 3 - (xs.getD i kz).1.length, by omega⟩
    have ih := spec_coms24 m hm xs hs hx hh hok d K' (i + 1) (comT acc (xs.getD i kz)) (by omega) (by omega)
    have hpl := spec_pars24 m hm xs hs hx hok i hi (K' + 5 * d + hs.length + 2) (xs.getD i kz).1.length 0 (ByteArray.append (ByteArray.append acc s_636f6d6d697420) (xs.getD i kz).2.1) (by omega) (by simp only [append_size]; omega)
    rw [List.drop_zero] at hpl
    rw [hK]
    show spec_l24Repo.b0 m (spec_l24Repo.tab m (K' + 5 * d + hs.length + 2 + (xs.getD i kz).1.length + 1)) xs hs acc (i : Int) = _
    unfold spec_l24Repo.b0
    rw [decide_eq_true (show (i : Int) < lLen xs by simp only [lLen]; omega), decide_eq_true (show (0 : Int) ≤ (i : Int) by omega), decide_eq_true (show acc.size + s_636f6d6d697420.size ≤ cap by omega)]
    simp only [cond, lett]
    rw [show getL xs (i : Int) (([] : List Int), ByteArray.empty, ([] : List (ByteArray × List ByteArray))) = xs.getD i kz from rfl,
      decide_eq_true (show (ByteArray.append acc s_636f6d6d697420).size + (xs.getD i kz).2.1.size ≤ cap by rw [append_size]; omega), drop_at (l := xs) (i := i) hi kz]
    exact hpl.trans ih

theorem impl_pars24 (m : Nat) (hm : 10000000000000 ≤ m) (xs : List Com) (hs : Heads) (c : Com) (hcs : ComSz c) (i : Nat) (hi : i < 17) (hc : comS c i = true) (n : Int) (K : Nat) : ∀ (d k : Nat) (acc : ByteArray), k + d = c.1.length → acc.size ≤ 500000000 + 10 * k →
    (impl_RepoPut.tab m (K + d + 1)).2.1 (xs, hs, c.1, c.2.1, c.2.2, acc, xs, n, (i : Int), c.1, lLen c.1, (k : Int), ()) = (impl_RepoPut.tab m K).1 (xs, hs, ByteArray.append (ByteArray.append (parT acc (c.1.drop k)) s_0a) (treeT ByteArray.empty c.2.2), xs, n, ((i + 1 : Nat) : Int), ())
  | 0, k, acc, h, ha => by
    have hp := (com_pars hc).1
    obtain ⟨t1, t2, t3⟩ := tree24 m hm _ hcs.tree (com_tree hc)
    have e0 : s_0a.size = 1 := rfl
    have ca : cap = 140737488355328 := rfl
    show impl_RepoPut.b1 m (impl_RepoPut.tab m K) xs hs c.1 c.2.1 c.2.2 acc xs n (i : Int) c.1 (lLen c.1) (k : Int) = _
    unfold impl_RepoPut.b1
    rw [decide_eq_false (show ¬ (k : Int) < lLen c.1 by simp only [lLen]; omega), t2, w64_succ (i := i) (by omega)]
    simp only [cond, lett, Option.bind_some]
    rw [decide_eq_true (show s_0a.size + (treeT ByteArray.empty c.2.2).size ≤ cap by omega), decide_eq_true (show acc.size + (ByteArray.append s_0a (treeT ByteArray.empty c.2.2)).size ≤ cap by rw [append_size]; omega), List.drop_eq_nil_of_le (by omega), ← app_assoc]
    rfl
  | d + 1, k, acc, h, ha => by
    have hp := (com_pars hc).1
    have hk : k < c.1.length := by omega
    obtain ⟨p, hpe, hpi⟩ := par_at hc hk
    have hd := decS_size p
    have e0 : s_20.size = 1 := rfl
    have ca : cap = 140737488355328 := rfl
    have ih := impl_pars24 m hm xs hs c hcs i hi hc n K d (k + 1) (ByteArray.append (ByteArray.append acc s_20) (decS p)) (by omega) (by simp only [append_size]; omega)
    show impl_RepoPut.b1 m (impl_RepoPut.tab m (K + d + 1)) xs hs c.1 c.2.1 c.2.2 acc xs n (i : Int) c.1 (lLen c.1) (k : Int) = _
    unfold impl_RepoPut.b1
    rw [decide_eq_true (show (k : Int) < lLen c.1 by simp only [lLen]; omega), decide_eq_true (show (0 : Int) ≤ (k : Int) by omega), w64_succ (i := k) (by omega), show getL c.1 (k : Int) (0 : Int) = (p : Int) from hpe, itoa_v m p (by omega)]
    simp only [cond, lett, Option.bind_some]
    rw [decide_eq_true (show s_20.size + (decS p).size ≤ cap by omega), decide_eq_true (show acc.size + (ByteArray.append s_20 (decS p)).size ≤ cap by rw [append_size]; omega), drop_at (l := c.1) (i := k) hk 0, hpe, ← app_assoc]
    exact ih

theorem impl_heads24 (m : Nat) (hm : 10000000000000 ≤ m) (xs : List Com) (hs : Heads) (hh : HeadsSz hs) (hok : repoB xs hs = true) : ∀ (d K k : Nat) (acc : ByteArray), k + d = hs.length → acc.size ≤ 600000000 + 2000000 * k →
    (impl_RepoPut.tab m (K + d + 1)).2.2.1 (acc, hs, lLen hs, (k : Int), ()) = some (headsT acc (hs.drop k), ())
  | 0, K, k, acc, h, ha => by
    show impl_RepoPut.b2 m (impl_RepoPut.tab m K) acc hs (lLen hs) (k : Int) = _
    unfold impl_RepoPut.b2
    rw [decide_eq_false (show ¬ (k : Int) < lLen hs by simp only [lLen]; omega), List.drop_eq_nil_of_le (by omega)]
    rfl
  | d + 1, K, k, acc, h, ha => by
    have hk : k < hs.length := by omega
    have hxl := repo_len hok
    have hhl := heads_len (repo_heads hok)
    obtain ⟨a1, a2, a3⟩ := head_at (repo_heads hok) hk
    obtain ⟨p, hp⟩ : ∃ p : Nat, (hs.getD k hz0).2 = (p : Int) := ⟨(hs.getD k hz0).2.toNat, by omega⟩
    have hsz := hh.at hk
    have hd := decS_size p
    have e0 : s_20.size = 1 := rfl
    have e1 : s_0a.size = 1 := rfl
    have e2 : s_6272616e636820.size = 7 := rfl
    have ca : cap = 140737488355328 := rfl
    have hL : headL acc (hs.getD k hz0) = ByteArray.append acc (ByteArray.append (ByteArray.append (ByteArray.append (ByteArray.append s_6272616e636820 (hs.getD k hz0).1) s_20) (decS p)) s_0a) := by
      unfold headL
      rw [hp]
      simp only [app_assoc]
      rfl
    have ih := impl_heads24 m hm xs hs hh hok d K (k + 1) (headL acc (hs.getD k hz0)) (by omega) (by rw [hL]; simp only [append_size]; omega)
    show impl_RepoPut.b2 m (impl_RepoPut.tab m (K + d + 1)) acc hs (lLen hs) (k : Int) = _
    unfold impl_RepoPut.b2
    rw [decide_eq_true (show (k : Int) < lLen hs by simp only [lLen]; omega), decide_eq_true (show (0 : Int) ≤ (k : Int) by omega), w64_succ (i := k) (by omega)]
    simp only [cond, lett]
    rw [show getL hs (k : Int) (ByteArray.empty, (0 : Int)) = hs.getD k hz0 from rfl, hp, itoa_v m p (by omega)]
    simp only [Option.bind_some]
    rw [decide_eq_true (show s_6272616e636820.size + (hs.getD k hz0).1.size ≤ cap by omega),
      decide_eq_true (show (ByteArray.append s_6272616e636820 (hs.getD k hz0).1).size + s_20.size ≤ cap by simp only [append_size]; omega),
      decide_eq_true (show (ByteArray.append (ByteArray.append s_6272616e636820 (hs.getD k hz0).1) s_20).size + (decS p).size ≤ cap by simp only [append_size]; omega),
      decide_eq_true (show (ByteArray.append (ByteArray.append (ByteArray.append s_6272616e636820 (hs.getD k hz0).1) s_20) (decS p)).size + s_0a.size ≤ cap by simp only [append_size]; omega),
      decide_eq_true (show acc.size + (ByteArray.append (ByteArray.append (ByteArray.append (ByteArray.append s_6272616e636820 (hs.getD k hz0).1) s_20) (decS p)) s_0a).size ≤ cap by simp only [append_size]; omega),
      drop_at (l := hs) (i := k) hk hz0, ← hL]
    exact ih

theorem impl_coms24 (m : Nat) (hm : 10000000000000 ≤ m) (xs : List Com) (hs : Heads) (hx : ComsSz xs) (hh : HeadsSz hs) (hok : repoB xs hs = true) : ∀ (d K i : Nat) (acc : ByteArray), i + d = xs.length → acc.size ≤ 20000000 * i →
    (impl_RepoPut.tab m (K + 5 * d + hs.length + 2)).1 (xs, hs, acc, xs, lLen xs, (i : Int), ()) = some (headsT (comsT acc (xs.drop i)) hs, ())
  | 0, K, i, acc, h, ha => by
    have hxl := repo_len hok
    show impl_RepoPut.b0 m (impl_RepoPut.tab m (K + hs.length + 1)) xs hs acc xs (lLen xs) (i : Int) = _
    unfold impl_RepoPut.b0
    rw [decide_eq_false (show ¬ (i : Int) < lLen xs by simp only [lLen]; omega), List.drop_eq_nil_of_le (by omega)]
    have := impl_heads24 m hm xs hs hh hok hs.length K 0 acc (by omega) (by omega)
    rw [List.drop_zero] at this
    exact this
  | d + 1, K, i, acc, h, ha => by
    have hxl := repo_len hok
    have hi : i < xs.length := by omega
    have hc := repo_com hok hi
    have hcs := hx.com _ (mem_getD (z := kz) hi)
    have hp := (com_pars hc).1
    have hw := hcs.who
    have e1 : s_636f6d6d697420.size = 7 := rfl
    have ca : cap = 140737488355328 := rfl
    have hcm := comT_size m hm hcs hc acc
    obtain ⟨K', hK⟩ : ∃ K', K + 5 * (d + 1) + hs.length + 2 = (K' + 5 * d + hs.length + 2) + (xs.getD i kz).1.length + 1 + 1 := ⟨K + 3 - (xs.getD i kz).1.length, by omega⟩
    have ih := impl_coms24 m hm xs hs hx hh hok d K' (i + 1) (comT acc (xs.getD i kz)) (by omega) (by omega)
    have hpl := impl_pars24 m hm xs hs (xs.getD i kz) hcs i (by omega) hc (lLen xs) (K' + 5 * d + hs.length + 2) (xs.getD i kz).1.length 0 (ByteArray.append (ByteArray.append acc s_636f6d6d697420) (xs.getD i kz).2.1) (by omega) (by simp only [append_size]; omega)
    rw [List.drop_zero] at hpl
    rw [hK]
    show impl_RepoPut.b0 m (impl_RepoPut.tab m (K' + 5 * d + hs.length + 2 + (xs.getD i kz).1.length + 1)) xs hs acc xs (lLen xs) (i : Int) = _
    unfold impl_RepoPut.b0
    rw [decide_eq_true (show (i : Int) < lLen xs by simp only [lLen]; omega), decide_eq_true (show (0 : Int) ≤ (i : Int) by omega)]
    simp only [cond, lett]
    rw [show getL xs (i : Int) (([] : List Int), ByteArray.empty, ([] : List (ByteArray × List ByteArray))) = xs.getD i kz from rfl,
      decide_eq_true (show s_636f6d6d697420.size + (xs.getD i kz).2.1.size ≤ cap by omega), decide_eq_true (show acc.size + (ByteArray.append s_636f6d6d697420 (xs.getD i kz).2.1).size ≤ cap by rw [append_size]; omega), drop_at (l := xs) (i := i) hi kz, ← app_assoc]
    exact hpl.trans ih

theorem rput_v (m : Nat) (hm : 10000000000000 ≤ m) (xs : List Com) (hs : Heads) (hx : ComsSz xs) (hh : HeadsSz hs) : ∃ v, spec_RepoPut m (xs, hs, ()) = some (v, ()) ∧ impl_RepoPut m (xs, hs, ()) = some (v, ()) := by
  have es : spec_RepoPut m (xs, hs, ()) = cond (repoB xs hs) (Option.bind (spec_l24Repo m (xs, hs, ())) fun r2 => some (r2.1, ())) (some (ByteArray.empty, ())) := by
    show spec_RepoPut.start m (spec_RepoPut.tab m m) xs hs = _
    unfold spec_RepoPut.start
    rw [spec_repo_v m hm xs hs hx hh]
    cases repoB xs hs <;> rfl
  have ei : impl_RepoPut m (xs, hs, ()) = cond (repoB xs hs) ((impl_RepoPut.tab m m).1 (xs, hs, ByteArray.empty, xs, lLen xs, ((0 : Nat) : Int), ())) (some (ByteArray.empty, ())) := by
    show impl_RepoPut.start m (impl_RepoPut.tab m m) xs hs = _
    unfold impl_RepoPut.start
    rw [impl_repo_v m hm xs hs hx hh]
    cases repoB xs hs <;> rfl
  rw [es, ei]
  cases hok : repoB xs hs with
  | false => exact ⟨_, rfl, rfl⟩
  | true =>
    have hxl := repo_len hok
    have hhl := heads_len (repo_heads hok)
    have h1 := spec_coms24 m hm xs hs hx hh hok xs.length (m - (5 * xs.length + hs.length + 2)) 0 ByteArray.empty (by omega) (by simp)
    have h2 := impl_coms24 m hm xs hs hx hh hok xs.length (m - (5 * xs.length + hs.length + 2)) 0 ByteArray.empty (by omega) (by simp)
    rw [show m - (5 * xs.length + hs.length + 2) + 5 * xs.length + hs.length + 2 = m by omega] at h1 h2
    refine ⟨headsT (comsT ByteArray.empty (xs.drop 0)) hs, ?_, h2⟩
    show Option.bind (spec_l24Repo m (xs, hs, ())) _ = _
    rw [show spec_l24Repo m (xs, hs, ()) = some (headsT (comsT ByteArray.empty (xs.drop 0)) hs, ()) from h1]
    rfl

theorem fnExactRepoPut_true (m : Nat) (hm : 10000000000000 ≤ m) (xs : List Com) (hs : Heads) (bx : ComsIn xs) (bh : HeadsIn hs) : laws_FnExactRepoPut m (xs, hs, ()) = some (true, ()) := by
  show laws_FnExactRepoPut.start m _ xs hs = _
  unfold laws_FnExactRepoPut.start
  obtain ⟨v, h1, h2, h3⟩ := sz_repo m (by omega) xs hs bx bh 1000000 (by omega) (by omega)
  rw [upped_c, h1]
  simp only [Option.bind_some]
  by_cases hv : v < 0
  · rw [decide_eq_true hv]; rfl
  rw [decide_eq_false hv]
  obtain ⟨hx, hh⟩ := h3 (by omega)
  simp only [cond]
  obtain ⟨ys, ws, r1, r2, r3, r4⟩ := to_repo m (by omega) xs hs hx hh false
  obtain ⟨ys', ws', r1', r2', r3', r4'⟩ := to_repo m (by omega) xs hs hx hh true
  obtain ⟨u, u1, u2⟩ := rput_v m hm xs hs hx hh
  rw [r1, r1']
  simp only [Option.bind_some]
  rw [handed_c r2, handed_c r2', r3, r3', u1, u2]
  simp only [Option.bind_some]
  rw [r4 rfl]
  simp only [Option.bind_some]
  rw [sEq_self]
  rfl

theorem law_RepoPut (xs : List Com) (hs : Heads) (bx : Bnd (.list (.pair (.list (.int .i64)) (.pair (.str) (.list (.pair (.str) (.list (.str))))))) xs) (bh : Bnd (.list (.pair (.str) (.int .i64))) hs) :
    laws_FnExactRepoPut 10000000000000 (xs, hs, ()) = some (true, ()) := fnExactRepoPut_true _ (Nat.le_refl _) xs hs (coms_in bx) (heads_in bh)
end Go.Sx.Tryz
