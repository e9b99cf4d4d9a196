/- A part of the pure law of FnExactRepoPut, over the printed functions: what they answer. No condition but those of each theorem. -/
import Derived.Test.YtafchokjmboemaaGreatDoorRptHE
namespace Go.Sx.Tryz
open Go Go.Proofs Go.Sx
set_option linter.unusedVariables false
set_option linter.unusedSimpArgs false

abbrev Com := List Int × ByteArray × Tree
abbrev SCom := (List Int × Nat) × ByteArray × (STree × Nat)
abbrev cz : SCom := ((([] : List Int), (0 : Nat)), ByteArray.empty, ([] : STree), (0 : Nat))
abbrev kz : Com := (([] : List Int), ByteArray.empty, ([] : Tree))
abbrev cfill : SCom := (([bigI], 1), s_7e73706172657e, ([(s_7e73706172657e, [s_7e73706172657e], 1)], 1))
def upC (c : Com) : SCom := ((c.1, c.1.length), c.2.1, (c.2.2.map up1, c.2.2.length))
def downC (z : SCom) : Com := (List.take z.1.2 z.1.1, z.2.1, (List.take z.2.2.2 z.2.2.1).map down1)
theorem upC_get (xs : List Com) {i : Nat} (hi : i < xs.length) : getL (xs.map upC) (i : Int) cz = upC (xs.getD i kz) := by
  show (xs.map upC).getD i cz = _
  rw [List.getD_eq_getElem?_getD, List.getD_eq_getElem?_getD, List.getElem?_map, List.getElem?_eq_getElem hi]
  rfl

structure ComIn (c : Com) : Prop where
  ps : c.1.length ≤ cap
  who : c.2.1.size ≤ cap
  tree : TreeIn c.2.2
structure ComSz (c : Com) : Prop where
  ps : c.1.length < 1000001
  who : c.2.1.size < 1000001
  tree : TreeSz c.2.2
/-- one commit as the laws keep it -/
structure ComW (z : SCom) : Prop where
  ps : z.1.1.length = z.1.2 + room z.1.2
  psn : z.1.2 < 10000000
  n : z.2.2.2 < 10000000
  len : z.2.2.1.length = z.2.2.2 + room z.2.2.2
  files : ∀ f ∈ List.take z.2.2.2 z.2.2.1, fileW f
  all : ∀ f ∈ z.2.2.1, f.2.2 < 10000000

theorem sz_commit (m : Nat) (hm : 10000000 ≤ m) (c : Com) (hc : ComIn c) (left : Int) (l0 : 0 ≤ left) (l1 : left ≤ 1000000) :
    ∃ v : Int, laws_szCommit m ((upC c).1, (upC c).2.1, (upC c).2.2, left, ()) = some (v, ()) ∧ v ≤ left ∧ (0 ≤ v → ComSz c) := by
  show ∃ v : Int, laws_szCommit.start m _ (c.1, c.1.length) c.2.1 (c.2.2.map up1, c.2.2.length) left = some (v, ()) ∧ _
  unfold laws_szCommit.start
  obtain ⟨v, h1, h2, h3⟩ := sz_ints m c.1 hc.ps left l0 l1
  rw [h1]
  simp only [Option.bind_some]
  by_cases hv : v < 0
  · rw [decide_eq_true hv]; exact ⟨-1, rfl, by omega, fun h => by omega⟩
  rw [decide_eq_false hv]
  simp only [cond, lett]
  rw [show w64 (v - sLen c.2.1) = v - c.2.1.size from w64_sub (by omega) (by omega) hc.who]
  by_cases hw : v - (c.2.1.size : Int) < 0
  · rw [decide_eq_true hw]; exact ⟨-1, rfl, by omega, fun h => by omega⟩
  rw [decide_eq_false hw]
  obtain ⟨u, g1, g2, g3⟩ := sz_files m hm c.2.2 hc.tree (v - c.2.1.size) (by omega) (by omega)
  simp only
  rw [g1]
  simp only [Option.bind_some]
  by_cases hu : u < 0
  · rw [decide_eq_true hu]; exact ⟨-1, rfl, by omega, fun h => by omega⟩
  rw [decide_eq_false hu]
  refine ⟨u, rfl, by omega, fun _ => ⟨?_, by omega, g3 (by omega)⟩⟩
  have := h3 (by omega)
  omega

structure ComsIn (xs : List Com) : Prop where
  len : xs.length ≤ cap
  com : ∀ c ∈ xs, ComIn c
structure ComsSz (xs : List Com) : Prop where
  len : xs.length < 1000001
  com : ∀ c ∈ xs, ComSz c

theorem sz_commits (m : Nat) (hm : 10000000 ≤ m) (xs : List Com) (hin : ComsIn xs) (left : Int) (l0 : 0 ≤ left) (l1 : left ≤ 1000000) :
    ∃ v : Int, laws_szCommitS m ((xs.map upC, xs.length), left, ()) = some (v, ()) ∧ v ≤ left ∧ (0 ≤ v → ComsSz xs) := by
  have hb : laws_szCommitS m ((xs.map upC, xs.length), left, ()) = cond (decide (left - (xs.length : Int) < 0)) (some (-1, ())) ((laws_szCommitS.tab m m).1 ((xs.map upC, xs.length), left - (xs.length : Int), ((0 : Nat) : Int), ())) := by
    show laws_szCommitS.start m (laws_szCommitS.tab m m) (xs.map upC, xs.length) left = _
    unfold laws_szCommitS.start
    simp only [lett]
    rw [w64_sub l0 l1 hin.len]
    rfl
  rw [hb]
  by_cases hneg : left - (xs.length : Int) < 0
  · rw [decide_eq_true hneg]; exact ⟨-1, rfl, by omega, fun h => by omega⟩
  · rw [decide_eq_false hneg]
    obtain ⟨v, h1, h2, h3⟩ := sz_gen xs.length (fun k left i => (laws_szCommitS.tab m k).1 ((xs.map upC, xs.length), left, (i : Int), ())) (fun v => (v, ())) (fun i left => ComSz (xs.getD i kz))
      (fun k left i hi l0 l1 => by
        have hmem : xs.getD i kz ∈ xs := mem_getD hi
        obtain ⟨v, h1, h2, h3⟩ := sz_commit m hm (xs.getD i kz) (hin.com _ hmem) left l0 l1
        refine ⟨v, h2, ?_, h3⟩
        show laws_szCommitS.b0 m (laws_szCommitS.tab m k) (xs.map upC, xs.length) left (i : Int) = _
        unfold laws_szCommitS.b0
        rw [decide_eq_true (show (i : Int) < ((xs.length : Nat) : Int) by omega), decide_eq_true (show (0 : Int) ≤ (i : Int) by omega), w64_succ (by omega)]
        simp only [cond, lett]
        rw [show getL (xs.map upC) (i : Int) ((([] : List Int), (0 : Nat)), ByteArray.empty, ([] : STree), (0 : Nat)) = upC (xs.getD i kz) from upC_get xs hi]
        rw [h1]
        rfl)
      (fun k left => by
        show laws_szCommitS.b0 m (laws_szCommitS.tab m k) (xs.map upC, xs.length) left (xs.length : Int) = _
        unfold laws_szCommitS.b0
        rw [decide_eq_false (show ¬ (xs.length : Int) < ((xs.length : Nat) : Int) by omega)]
        rfl)
      xs.length (m - (xs.length + 1)) 0 (left - xs.length) (by omega) (by omega) (by omega)
    rw [show m - (xs.length + 1) + xs.length + 1 = m by omega] at h1
    refine ⟨v, h1, by omega, fun hv => ⟨by omega, fun x hx => ?_⟩⟩
    obtain ⟨i, hi, rfl⟩ := List.getElem_of_mem hx
    obtain ⟨l, g1, g2⟩ := h3 hv i (Nat.zero_le _) hi
    rw [List.getD_eq_getElem?_getD, List.getElem?_eq_getElem hi] at g2
    exact g2

theorem to_commit (m : Nat) (hm : 1000000000 ≤ m) (c : Com) (hc : ComSz c) (bare : Bool) :
    ∃ z : SCom, laws_toCommit m ((upC c).1, (upC c).2.1, (upC c).2.2, bare, ()) = some (z.1, z.2.1, z.2.2, ()) ∧ downC z = c ∧ (bare = false → ComW z) := by
  have hp := hc.ps
  have ht := hc.tree.len
  obtain ⟨ys, h1, h2, h3⟩ := to_ints m hm c.1 (by omega) bare
  obtain ⟨zs, g1, g2, g3⟩ := to_files m hm c.2.2 hc.tree bare
  refine ⟨((ys, c.1.length), c.2.1, (zs, c.2.2.length)), ?_, ?_, fun hb => ?_⟩
  · show laws_toCommit.start m _ (c.1, c.1.length) c.2.1 (c.2.2.map up1, c.2.2.length) bare = _
    unfold laws_toCommit.start
    rw [h1]
    simp only [Option.bind_some]
    rw [g1]
    rfl
  · show (List.take c.1.length ys, c.2.1, (List.take c.2.2.length zs).map down1) = c
    rw [h2, g2]
  · obtain ⟨g4, g5, g6⟩ := g3 hb
    exact ⟨h3 hb, Nat.lt_of_lt_of_le hp (by decide), Nat.lt_of_lt_of_le ht (by decide), g4, g5, g6⟩

/-- what a commit is copied to -/
def toC (m : Nat) (bare : Bool) (c : Com) : SCom := match laws_toCommit m ((upC c).1, (upC c).2.1, (upC c).2.2, bare, ()) with
  | some r => (r.1, r.2.1, r.2.2.1)
  | none => cz
theorem toC_ok (m : Nat) (hm : 1000000000 ≤ m) (c : Com) (hc : ComSz c) (bare : Bool) :
    laws_toCommit m ((upC c).1, (upC c).2.1, (upC c).2.2, bare, ()) = some ((toC m bare c).1, (toC m bare c).2.1, (toC m bare c).2.2, ()) ∧ downC (toC m bare c) = c ∧ (bare = false → ComW (toC m bare c)) := by
  obtain ⟨z, h1, h2, h3⟩ := to_commit m hm c hc bare
  have e : toC m bare c = z := by unfold toC; rw [h1]
  rw [e]; exact ⟨h1, h2, h3⟩

theorem to_commits (m : Nat) (hm : 1000000000 ≤ m) (xs : List Com) (hx : ComsSz xs) (bare : Bool) :
    ∃ ys, laws_toCommitS m ((xs.map upC, xs.length), bare, ()) = some ((ys, xs.length), ()) ∧ (ys.take xs.length).map downC = xs ∧
      (bare = false → ys = xs.map (toC m false) ++ List.replicate (room xs.length) cfill) := by
  have hr := room_le xs.length
  have hlen := hx.len
  obtain ⟨q, hq⟩ : ∃ q, m = q + 1 := ⟨m - 1, by omega⟩
  have hmain : (laws_toCommitS.tab m m).2.2.1 ((xs.map upC, xs.length), bare, ()) = some ((xs.map (toC m bare) ++ List.replicate (room xs.length) cfill, xs.length), ()) := by
    have h := copy_gen xs.length (xs.length + room xs.length) (by omega) (xs.map (toC m bare)) (by simp) cfill (fun k ys i => (laws_toCommitS.tab m k).1 (ys, (xs.map upC, xs.length), bare, (i : Int), ())) (fun k ys i => (laws_toCommitS.tab m k).2.1 (ys, (xs.map upC, xs.length), (i : Int), ()))
      (fun ys => ((ys, xs.length), ()))
      (fun k ys i hy hi => by
        have hmem : xs.getD i kz ∈ xs := mem_getD hi
        obtain ⟨h1, h2, h3⟩ := toC_ok m hm _ (hx.com _ hmem) bare
        show laws_toCommitS.b0 m (laws_toCommitS.tab m k) ys (xs.map upC, xs.length) bare (i : Int) = _
        unfold laws_toCommitS.b0
        rw [decide_eq_true (show (i : Int) < ((xs.length : Nat) : Int) by omega), decide_eq_true (show (0 : Int) ≤ (i : Int) by omega), decide_eq_true (show (i : Int) < lLen ys by simp only [lLen]; omega), w64_succ (by omega)]
        simp only [cond, lett]
        rw [show getL (xs.map upC) (i : Int) ((([] : List Int), (0 : Nat)), ByteArray.empty, ([] : STree), (0 : Nat)) = upC (xs.getD i kz) from upC_get xs hi]
        rw [h1]
        show (laws_toCommitS.tab m k).1 (ys.set i (toC m bare (xs.getD i kz)), (xs.map upC, xs.length), bare, ((i + 1 : Nat) : Int), ()) = (laws_toCommitS.tab m k).1 (ys.set i ((xs.map (toC m bare)).getD i cfill), (xs.map upC, xs.length), bare, ((i + 1 : Nat) : Int), ())
        rw [List.getD_eq_getElem?_getD, List.getD_eq_getElem?_getD, List.getElem?_map, List.getElem?_eq_getElem hi]
        rfl)
      (fun k ys hy => by
        show laws_toCommitS.b0 m (laws_toCommitS.tab m k) ys (xs.map upC, xs.length) bare (xs.length : Int) = _
        unfold laws_toCommitS.b0
        rw [decide_eq_false (show ¬ (xs.length : Int) < ((xs.length : Nat) : Int) by omega)]
        rfl)
      (fun k ys i hy hi hi2 => by
        show laws_toCommitS.b1 m (laws_toCommitS.tab m k) ys (xs.map upC, xs.length) (i : Int) = _
        unfold laws_toCommitS.b1
        rw [decide_eq_true (show (i : Int) < lLen ys by simp only [lLen]; omega), decide_eq_true (show (0 : Int) ≤ (i : Int) by omega), w64_succ (by omega)]
        rfl)
      (fun k ys hy => by
        show laws_toCommitS.b1 m (laws_toCommitS.tab m k) ys (xs.map upC, xs.length) ((xs.length + room xs.length : Nat) : Int) = _
        unfold laws_toCommitS.b1
        rw [decide_eq_false (show ¬ ((xs.length + room xs.length : Nat) : Int) < lLen ys by simp only [lLen]; omega), decide_eq_true (show (0 : Int) ≤ ((xs.length : Nat) : Int) by omega),
          decide_eq_true (show ((xs.length : Nat) : Int) ≤ ((List.length ys) : Int) by omega)]
        rfl)
      xs.length (q - (xs.length + room xs.length + 2)) 0 (List.replicate (xs.length + room xs.length) cz) (by omega) (by simp) (by simp)
    rw [show q - (xs.length + room xs.length + 2) + xs.length + (xs.length + room xs.length - xs.length) + 2 = q by omega, Nat.add_sub_cancel_left] at h
    rw [show laws_toCommitS.tab m m = laws_toCommitS.tab m (q + 1) by rw [← hq]]
    show laws_toCommitS.b2 m (laws_toCommitS.tab m q) (xs.map upC, xs.length) bare = _
    unfold laws_toCommitS.b2
    rw [show laws_roomBehind m (((xs.length : Nat) : Int), ()) = some ((room xs.length : Int), ()) from room_v m xs.length]
    simp only [Option.bind_some]
    rw [show w64 (((xs.length : Nat) : Int) + (room xs.length : Int)) = ((xs.length + room xs.length : Nat) : Int) from w64_room (by omega)]
    rw [decide_eq_true (show (0 : Int) ≤ ((xs.length + room xs.length : Nat) : Int) by omega), Int.toNat_natCast, decide_eq_true (show xs.length + room xs.length ≤ apCap by show xs.length + room xs.length ≤ 1073741824; omega)]
    exact h
  have hgood : ((xs.map (toC m bare) ++ List.replicate (room xs.length) cfill).take xs.length).map downC = xs := by
    rw [List.take_left' (by simp), List.map_map]
    conv => rhs; rw [← List.map_id xs]
    exact List.map_congr_left fun c hc => (toC_ok m hm c (hx.com c hc) bare).2.1
  show ∃ ys, laws_toCommitS.start m (laws_toCommitS.tab m m) (xs.map upC, xs.length) bare = some ((ys, xs.length), ()) ∧ _
  unfold laws_toCommitS.start
  cases bare with
  | false => exact ⟨_, hmain, hgood, fun _ => rfl⟩
  | true =>
    by_cases h0 : xs.length = 0
    · rw [show (((xs.length : Nat) : Int) == 0) = true from by rw [h0]; rfl]
      refine ⟨[], by rw [h0]; rfl, ?_, fun h => by cases h⟩
      rw [List.eq_nil_of_length_eq_zero h0]; rfl
    · rw [show (((xs.length : Nat) : Int) == 0) = false from by rw [beq_eq_false_iff_ne]; omega]
      exact ⟨_, hmain, hgood, fun h => by cases h⟩

theorem intact_commit (m : Nat) (hm : 1000000000 ≤ m) (z : SCom) (h : ComW z) : laws_intactCommit m (z.1, z.2.1, z.2.2, z.1, z.2.1, z.2.2, ()) = some (true, ()) := by
  show laws_intactCommit.start m _ z.1 z.2.1 z.2.2 z.1 z.2.1 z.2.2 = _
  unfold laws_intactCommit.start
  rw [intact_ints m hm z.1 h.ps h.psn]
  simp only [Option.bind_some]
  rw [sEq_self, show laws_intactFileS m (z.2.2, z.2.2, ()) = some (true, ()) from intact_files m hm z.2.2.1 z.2.2.2 h.n h.len h.files h.all]
  rfl

theorem eq_cfills (m : Nat) (hm : 1000000000 ≤ m) (n : Nat) (hn : n < 100000000) : laws_eqCommitS m ((List.replicate n cfill, n), (List.replicate n cfill, n), ()) = some (true, ()) := by
  have h := all_gen n (fun k i => (laws_eqCommitS.tab m k).1 ((List.replicate n cfill, n), (List.replicate n cfill, n), (i : Int), ())) (true, ())
    (fun k i hi => by
      show laws_eqCommitS.b0 m (laws_eqCommitS.tab m k) (List.replicate n cfill, n) (List.replicate n cfill, n) (i : Int) = _
      unfold laws_eqCommitS.b0
      rw [decide_eq_true (show (i : Int) < ((n : Nat) : Int) by omega), decide_eq_true (show (0 : Int) ≤ (i : Int) by omega), w64_succ (by omega)]
      simp only [cond, lett]
      rw [show getL (List.replicate n cfill) (i : Int) ((([] : List Int), (0 : Nat)), ByteArray.empty, ([] : STree), (0 : Nat)) = cfill from by
        show (List.replicate n cfill).getD i cz = _
        rw [List.getD_eq_getElem?_getD, List.getElem?_replicate, if_pos hi]; rfl]
      rw [show laws_eqCommit m (cfill.1, cfill.2.1, cfill.2.2, cfill.1, cfill.2.1, cfill.2.2, ()) = some (true, ()) from by
        show laws_eqCommit.start m _ cfill.1 cfill.2.1 cfill.2.2 cfill.1 cfill.2.1 cfill.2.2 = _
        unfold laws_eqCommit.start
        rw [eq_ints m hm cfill.1 (by decide)]
        simp only [Option.bind_some]
        rw [sEq_self, eq_files m hm cfill.2.2 (by decide) (fun z hz => by rw [List.mem_singleton.1 hz]; decide)]
        rfl]
      rfl)
    (fun k => by
      show laws_eqCommitS.b0 m (laws_eqCommitS.tab m k) (List.replicate n cfill, n) (List.replicate n cfill, n) (n : Int) = _
      unfold laws_eqCommitS.b0
      rw [decide_eq_false (show ¬ (n : Int) < ((n : Nat) : Int) by omega)]
      rfl) n (m - (n + 1)) 0 (by omega)
  rw [show m - (n + 1) + n + 1 = m by omega] at h
  show laws_eqCommitS.start m (laws_eqCommitS.tab m m) (List.replicate n cfill, n) (List.replicate n cfill, n) = _
  unfold laws_eqCommitS.start
  rw [show ((n : Int) != (n : Int)) = false by simp]
  exact h

theorem intact_commits (m : Nat) (hm : 1000000000 ≤ m) (es : List SCom) (hes : es.length < 1000001) (hw : ∀ z ∈ es, ComW z) :
    laws_intactCommitS m ((es ++ List.replicate (room es.length) cfill, es.length), (es ++ List.replicate (room es.length) cfill, es.length), ()) = some (true, ()) := by
  have hr := room_le es.length
  generalize hys : es ++ List.replicate (room es.length) cfill = ys
  have hyl : ys.length = es.length + room es.length := by rw [← hys]; simp
  have hcut : cutL ys es.length (es.length + room es.length) = List.replicate (room es.length) cfill := by
    unfold cutL
    rw [← hyl, List.take_length, ← hys, List.drop_left' rfl]
  have h := all_gen es.length (fun k i => (laws_intactCommitS.tab m k).1 ((ys, es.length), (ys, es.length), ((es.length + room es.length : Nat) : Int), (i : Int), ())) (true, ())
    (fun k i hi => by
      show laws_intactCommitS.b0 m (laws_intactCommitS.tab m k) (ys, es.length) (ys, es.length) ((es.length + room es.length : Nat) : Int) (i : Int) = _
      unfold laws_intactCommitS.b0
      rw [decide_eq_true (show (i : Int) < ((es.length : Nat) : Int) by omega), decide_eq_true (show (0 : Int) ≤ (i : Int) by omega), w64_succ (by omega)]
      simp only [cond, lett]
      have hz : ComW (getL ys (i : Int) cz) := by
        apply hw
        show ys.getD i cz ∈ _
        rw [← hys, List.getD_eq_getElem?_getD, List.getElem?_append_left hi, List.getElem?_eq_getElem hi]
        exact List.getElem_mem hi
      rw [show laws_intactCommit m ((getL ys (i : Int) cz).1, (getL ys (i : Int) cz).2.1, (getL ys (i : Int) cz).2.2, (getL ys (i : Int) cz).1, (getL ys (i : Int) cz).2.1, (getL ys (i : Int) cz).2.2, ()) = some (true, ()) from intact_commit m hm _ hz]
      rfl)
    (fun k => by
      show laws_intactCommitS.b0 m (laws_intactCommitS.tab m k) (ys, es.length) (ys, es.length) ((es.length + room es.length : Nat) : Int) (es.length : Int) = _
      unfold laws_intactCommitS.b0
      rw [decide_eq_false (show ¬ (es.length : Int) < ((es.length : Nat) : Int) by omega), decide_eq_true (show (0 : Int) ≤ ((es.length + room es.length : Nat) : Int) by omega),
        decide_eq_true (show ((es.length + room es.length : Nat) : Int) ≤ ((List.length ys) : Int) by omega), decide_eq_true (show (0 : Int) ≤ ((es.length : Nat) : Int) by omega), decide_eq_true (show ((es.length : Nat) : Int) ≤ ((es.length + room es.length : Nat) : Int) by omega)]
      simp only [cond, lett, Int.toNat_natCast]
      rw [hcut, List.length_replicate, eq_cfills m hm _ (by omega)]
      rfl) es.length (m - (es.length + 1)) 0 (by omega)
  rw [show m - (es.length + 1) + es.length + 1 = m by omega] at h
  show laws_intactCommitS.start m (laws_intactCommitS.tab m m) (ys, es.length) (ys, es.length) = _
  unfold laws_intactCommitS.start
  rw [show laws_roomBehind m (((es.length : Nat) : Int), ()) = some ((room es.length : Int), ()) from room_v m es.length]
  simp only [Option.bind_some]
  rw [show w64 (((es.length : Nat) : Int) + (room es.length : Int)) = ((es.length + room es.length : Nat) : Int) from w64_room (by omega)]
  rw [show (((es.length : Nat) : Int) != ((es.length : Nat) : Int)) = false by simp]
  exact h

/-! ### Repositories -/
abbrev SHeads := Heads × Nat
theorem sz_repo (m : Nat) (hm : 10000000 ≤ m) (xs : List Com) (hs : Heads) (hx : ComsIn xs) (hh : HeadsIn hs) (left : Int) (l0 : 0 ≤ left) (l1 : left ≤ 1000000) :
    ∃ v : Int, laws_szRepo m ((xs.map upC, xs.length), (hs, hs.length), left, ()) = some (v, ()) ∧ v ≤ left ∧ (0 ≤ v → ComsSz xs ∧ HeadsSz hs) := by
  show ∃ v : Int, laws_szRepo.start m _ (xs.map upC, xs.length) (hs, hs.length) left = some (v, ()) ∧ _
  unfold laws_szRepo.start
  obtain ⟨v, h1, h2, h3⟩ := sz_commits m hm xs hx left l0 l1
  rw [h1]
  simp only [Option.bind_some]
  by_cases hv : v < 0
  · rw [decide_eq_true hv]; exact ⟨-1, rfl, by omega, fun h => by omega⟩
  rw [decide_eq_false hv]
  obtain ⟨u, g1, g2, g3⟩ := sz_heads m hm hs hh v (by omega) (by omega)
  simp only [cond]
  rw [g1]
  simp only [Option.bind_some]
  by_cases hu : u < 0
  · rw [decide_eq_true hu]; exact ⟨-1, rfl, by omega, fun h => by omega⟩
  rw [decide_eq_false hu]
  exact ⟨u, rfl, by omega, fun _ => ⟨h3 (by omega), g3 (by omega)⟩⟩

theorem to_repo (m : Nat) (hm : 1000000000 ≤ m) (xs : List Com) (hs : Heads) (hx : ComsSz xs) (hh : HeadsSz hs) (bare : Bool) :
    ∃ ys ks, laws_toRepo m ((xs.map upC, xs.length), (hs, hs.length), bare, ()) = some ((ys, xs.length), (ks, hs.length), ()) ∧ (ys.take xs.length).map downC = xs ∧ ks.take hs.length = hs ∧
      (bare = false → laws_intactRepo m ((ys, xs.length), (ks, hs.length), (ys, xs.length), (ks, hs.length), ()) = some (true, ())) := by
  have h1l := hx.len
  have h2l := hh.len
  obtain ⟨ys, h1, h2, h3⟩ := to_commits m hm xs hx bare
  obtain ⟨ks, g1, g2, g3⟩ := to_heads m hm hs (by omega) bare
  refine ⟨ys, ks, ?_, h2, g2, fun hb => ?_⟩
  · show laws_toRepo.start m _ (xs.map upC, xs.length) (hs, hs.length) bare = _
    unfold laws_toRepo.start
    rw [h1]
    simp only [Option.bind_some]
    rw [g1]; rfl
  · show laws_intactRepo.start m _ (ys, xs.length) (ks, hs.length) (ys, xs.length) (ks, hs.length) = _
    unfold laws_intactRepo.start
    have e := intact_commits m hm (xs.map (toC m false)) (by simpa using h1l) (fun z hz => by
      obtain ⟨c, hc, rfl⟩ := List.mem_map.1 hz
      exact (toC_ok m hm c (hx.com c hc) false).2.2 rfl)
    rw [List.length_map, ← h3 hb] at e
    rw [e]
    simp only [Option.bind_some]
    rw [intact_heads m hm (ks, hs.length) (g3 hb) (by show hs.length < _; omega)]
    rfl
end Go.Sx.Tryz
