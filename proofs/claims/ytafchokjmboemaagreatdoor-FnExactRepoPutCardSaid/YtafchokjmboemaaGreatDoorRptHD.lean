/- A part of the pure law of FnExactRepoPut, over the printed functions: what they answer. No condition but those of each theorem. -/
import Derived.Test.YtafchokjmboemaaGreatDoorRptHC
namespace Go.Sx.Tryz
open Go Go.Proofs Go.Sx
set_option linter.unusedVariables false
set_option linter.unusedSimpArgs false

abbrev STree := List (ByteArray × (List ByteArray × Nat))
abbrev gz : ByteArray × (List ByteArray × Nat) := (ByteArray.empty, ([] : List ByteArray), (0 : Nat))
def up1 (f : ByteArray × List ByteArray) : ByteArray × (List ByteArray × Nat) := (f.1, f.2, f.2.length)
def down1 (z : ByteArray × (List ByteArray × Nat)) : ByteArray × List ByteArray := (z.1, List.take z.2.2 z.2.1)
def room (k : Nat) : Nat := if k % 6 = 5 then 0 else if k % 3 = 0 then 1 else k
theorem room_le (k : Nat) : room k ≤ k + 1 := by unfold room; split <;> (try split) <;> omega

theorem up_get (t : Tree) (i : Nat) : getL (t.map up1) (i : Int) gz = up1 (t.getD i fz) := by
  show (t.map up1).getD i gz = _
  rw [List.getD_eq_getElem?_getD, List.getD_eq_getElem?_getD, List.getElem?_map]
  cases t[i]? <;> rfl

/-- nothing in it is larger than can be -/
structure TreeIn (t : Tree) : Prop where
  len : t.length ≤ cap
  path : ∀ f ∈ t, f.1.size ≤ cap
  texts : ∀ f ∈ t, f.2.length ≤ cap
  line : ∀ f ∈ t, ∀ s ∈ f.2, s.size ≤ cap

theorem mem_getD {α : Type} {l : List α} {i : Nat} {z : α} (h : i < l.length) : l.getD i z ∈ l := by
  rw [List.getD_eq_getElem?_getD, List.getElem?_eq_getElem h]; exact List.getElem_mem h

theorem w64_sub {a : Int} {n : Nat} (h0 : 0 ≤ a) (h1 : a ≤ 1000000) (hn : n ≤ cap) : w64 (a - (n : Int)) = a - n := by
  have : n ≤ 140737488355328 := hn
  exact w64_ok (by omega) (by omega)

theorem sz_strs_loop (m : Nat) (xs : List ByteArray) (hc : ∀ s ∈ xs, s.size ≤ cap) (hx : xs.length ≤ 1000000) : ∀ (d k i : Nat) (left : Int), i + d = xs.length → 0 ≤ left → left ≤ 1000000 →
    ∃ v : Int, (laws_szStringS.tab m (k + d + 1)).1 ((xs, xs.length), left, (i : Int), ()) = some (v, ()) ∧ v ≤ left ∧ (0 ≤ v → ∀ s ∈ xs.drop i, (s.size : Int) ≤ left)
  | 0, k, i, left, h, l0, l1 => by
    refine ⟨left, ?_, Int.le_refl _, fun _ => ?_⟩
    · show laws_szStringS.b0 m (laws_szStringS.tab m k) (xs, xs.length) left (i : Int) = _
      unfold laws_szStringS.b0
      rw [decide_eq_false (show ¬ (i : Int) < ((xs, xs.length).2 : Int) by show ¬ (i : Int) < (xs.length : Int); omega)]
      rfl
    · rw [List.drop_eq_nil_of_le (by omega)]
      intro s hs; cases hs
  | d + 1, k, i, left, h, l0, l1 => by
    have hb : (laws_szStringS.tab m (k + (d + 1) + 1)).1 ((xs, xs.length), left, (i : Int), ()) = cond (decide (left - (xs.getD i ByteArray.empty).size < 0)) (some (-1, ())) ((laws_szStringS.tab m (k + d + 1)).1 ((xs, xs.length), left - (xs.getD i ByteArray.empty).size, ((i + 1 : Nat) : Int), ())) := by
      show laws_szStringS.b0 m (laws_szStringS.tab m (k + d + 1)) (xs, xs.length) left (i : Int) = _
      unfold laws_szStringS.b0
      rw [decide_eq_true (show (i : Int) < ((xs, xs.length).2 : Int) by show (i : Int) < (xs.length : Int); omega), decide_eq_true (show (0 : Int) ≤ (i : Int) by omega)]
      simp only [cond, lett]
      rw [show getL xs (i : Int) ByteArray.empty = xs.getD i ByteArray.empty from rfl, show sLen (xs.getD i ByteArray.empty) = ((xs.getD i ByteArray.empty).size : Int) from rfl, w64_sub l0 l1 (hc _ (mem_getD (by omega))), w64_succ (by omega)]
    rw [hb, drop_at (l := xs) (i := i) (by omega) ByteArray.empty]
    by_cases hneg : left - (xs.getD i ByteArray.empty).size < 0
    · rw [decide_eq_true hneg]
      exact ⟨-1, rfl, by omega, fun h => by omega⟩
    · rw [decide_eq_false hneg]
      obtain ⟨v, h1, h2, h3⟩ := sz_strs_loop m xs hc hx d k (i + 1) (left - (xs.getD i ByteArray.empty).size) (by omega) (by omega) (by omega)
      refine ⟨v, h1, by omega, fun hv s hs => ?_⟩
      rcases List.mem_cons.1 hs with e | e
      · rw [e]; omega
      · have := h3 hv s e
        omega

theorem sz_strs (m : Nat) (hm : 10000000 ≤ m) (xs : List ByteArray) (hl : xs.length ≤ cap) (hc : ∀ s ∈ xs, s.size ≤ cap) (left : Int) (l0 : 0 ≤ left) (l1 : left ≤ 1000000) :
    ∃ v : Int, laws_szStringS m ((xs, xs.length), left, ()) = some (v, ()) ∧ v ≤ left ∧ (0 ≤ v → (xs.length : Int) ≤ left ∧ ∀ s ∈ xs, (s.size : Int) + xs.length ≤ left) := by
  have hb : laws_szStringS m ((xs, xs.length), left, ()) = cond (decide (left - (xs.length : Int) < 0)) (some (-1, ())) ((laws_szStringS.tab m m).1 ((xs, xs.length), left - (xs.length : Int), ((0 : Nat) : Int), ())) := by
    show laws_szStringS.start m (laws_szStringS.tab m m) (xs, xs.length) left = _
    unfold laws_szStringS.start
    simp only [lett]
    rw [w64_sub l0 l1 hl]
    rfl
  rw [hb]
  by_cases hneg : left - (xs.length : Int) < 0
  · rw [decide_eq_true hneg]
    exact ⟨-1, rfl, by omega, fun h => by omega⟩
  · rw [decide_eq_false hneg]
    obtain ⟨v, h1, h2, h3⟩ := sz_strs_loop m xs hc (by omega) xs.length (m - (xs.length + 1)) 0 (left - (xs.length : Int)) (by omega) (by omega) (by omega)
    rw [show m - (xs.length + 1) + xs.length + 1 = m by omega] at h1
    refine ⟨v, h1, by omega, fun hv => ⟨by omega, fun s hs => ?_⟩⟩
    have := h3 hv s hs
    omega

theorem sz_file (m : Nat) (hm : 10000000 ≤ m) (f : ByteArray × List ByteArray) (hp : f.1.size ≤ cap) (hl : f.2.length ≤ cap) (hc : ∀ s ∈ f.2, s.size ≤ cap) (left : Int) (l0 : 0 ≤ left) (l1 : left ≤ 1000000) :
    ∃ v : Int, laws_szFile m (f.1, (f.2, f.2.length), left, ()) = some (v, ()) ∧ v ≤ left ∧ (0 ≤ v → (f.1.size : Int) ≤ left ∧ (f.2.length : Int) ≤ left ∧ ∀ s ∈ f.2, (s.size : Int) ≤ left) := by
  show ∃ v : Int, laws_szFile.start m _ f.1 (f.2, f.2.length) left = some (v, ()) ∧ _
  unfold laws_szFile.start
  simp only [lett]
  rw [show sLen f.1 = (f.1.size : Int) from rfl, w64_sub l0 l1 hp]
  by_cases hneg : left - (f.1.size : Int) < 0
  · rw [decide_eq_true hneg]
    exact ⟨-1, rfl, by omega, fun h => by omega⟩
  · rw [decide_eq_false hneg]
    obtain ⟨v, h1, h2, h3⟩ := sz_strs m hm f.2 hl hc (left - (f.1.size : Int)) (by omega) (by omega)
    rw [h1]
    simp only [cond, Option.bind_some]
    by_cases hv : v < 0
    · rw [decide_eq_true hv]
      exact ⟨-1, rfl, by omega, fun h => by omega⟩
    · rw [decide_eq_false hv]
      refine ⟨v, rfl, by omega, fun _ => ?_⟩
      obtain ⟨h4, h5⟩ := h3 (by omega)
      exact ⟨by omega, by omega, fun s hs => by have := h5 s hs; omega⟩

theorem sz_files_loop (m : Nat) (hm : 10000000 ≤ m) (t : Tree) (ht : TreeIn t) (hx : t.length ≤ 1000000) : ∀ (d k i : Nat) (left : Int), i + d = t.length → 0 ≤ left → left ≤ 1000000 →
    ∃ v : Int, (laws_szFileS.tab m (k + d + 1)).1 ((t.map up1, t.length), left, (i : Int), ()) = some (v, ()) ∧ v ≤ left ∧ (0 ≤ v → ∀ f ∈ t.drop i, (f.1.size : Int) ≤ left ∧ (f.2.length : Int) ≤ left ∧ ∀ s ∈ f.2, (s.size : Int) ≤ left)
  | 0, k, i, left, h, l0, l1 => by
    refine ⟨left, ?_, Int.le_refl _, fun _ => ?_⟩
    · show laws_szFileS.b0 m (laws_szFileS.tab m k) (t.map up1, t.length) left (i : Int) = _
      unfold laws_szFileS.b0
      rw [decide_eq_false (show ¬ (i : Int) < ((t.map up1, t.length).2 : Int) by show ¬ (i : Int) < (t.length : Int); omega)]
      rfl
    · rw [List.drop_eq_nil_of_le (by omega)]
      intro s hs; cases hs
  | d + 1, k, i, left, h, l0, l1 => by
    have hmem : t.getD i fz ∈ t := mem_getD (by omega)
    obtain ⟨v, h1, h2, h3⟩ := sz_file m hm (t.getD i fz) (ht.path _ hmem) (ht.texts _ hmem) (ht.line _ hmem) left l0 l1
    have hb : (laws_szFileS.tab m (k + (d + 1) + 1)).1 ((t.map up1, t.length), left, (i : Int), ()) = cond (decide (v < 0)) (some (-1, ())) ((laws_szFileS.tab m (k + d + 1)).1 ((t.map up1, t.length), v, ((i + 1 : Nat) : Int), ())) := by
      show laws_szFileS.b0 m (laws_szFileS.tab m (k + d + 1)) (t.map up1, t.length) left (i : Int) = _
      unfold laws_szFileS.b0
      rw [decide_eq_true (show (i : Int) < ((t.map up1, t.length).2 : Int) by show (i : Int) < (t.length : Int); omega), decide_eq_true (show (0 : Int) ≤ (i : Int) by omega)]
      simp only [cond, lett]
      rw [show getL (List.map up1 t) (i : Int) (ByteArray.empty, ([] : List ByteArray), (0 : Nat)) = up1 (t.getD i fz) from up_get t i]
      rw [show laws_szFile m ((up1 (t.getD i fz)).1, (up1 (t.getD i fz)).2, left, ()) = some (v, ()) from h1, w64_succ (by omega)]
      rfl
    rw [hb, drop_at (l := t) (i := i) (by omega) fz]
    by_cases hneg : v < 0
    · rw [decide_eq_true hneg]
      exact ⟨-1, rfl, by omega, fun h => by omega⟩
    · rw [decide_eq_false hneg]
      obtain ⟨u, g1, g2, g3⟩ := sz_files_loop m hm t ht hx d k (i + 1) v (by omega) (by omega) (by omega)
      refine ⟨u, g1, by omega, fun hu f hf => ?_⟩
      rcases List.mem_cons.1 hf with e | e
      · rw [e]; exact h3 (by omega)
      · obtain ⟨a1, a2, a3⟩ := g3 hu f e
        exact ⟨by omega, by omega, fun s hs => by have := a3 s hs; omega⟩

/-- either it is too large, or its sizes are told -/
theorem sz_files (m : Nat) (hm : 10000000 ≤ m) (t : Tree) (ht : TreeIn t) (left : Int) (l0 : 0 ≤ left) (l1 : left ≤ 1000000) :
    ∃ v : Int, laws_szFileS m ((t.map up1, t.length), left, ()) = some (v, ()) ∧ v ≤ left ∧ (0 ≤ v → TreeSz t) := by
  have hb : laws_szFileS m ((t.map up1, t.length), left, ()) = cond (decide (left - (t.length : Int) < 0)) (some (-1, ())) ((laws_szFileS.tab m m).1 ((t.map up1, t.length), left - (t.length : Int), ((0 : Nat) : Int), ())) := by
    show laws_szFileS.start m (laws_szFileS.tab m m) (t.map up1, t.length) left = _
    unfold laws_szFileS.start
    simp only [lett]
    rw [w64_sub l0 l1 ht.len]
    rfl
  rw [hb]
  by_cases hneg : left - (t.length : Int) < 0
  · rw [decide_eq_true hneg]
    exact ⟨-1, rfl, by omega, fun h => by omega⟩
  · rw [decide_eq_false hneg]
    obtain ⟨v, h1, h2, h3⟩ := sz_files_loop m hm t ht (by omega) t.length (m - (t.length + 1)) 0 (left - (t.length : Int)) (by omega) (by omega) (by omega)
    rw [show m - (t.length + 1) + t.length + 1 = m by omega] at h1
    refine ⟨v, h1, by omega, fun hv => ⟨by omega, fun f hf => ?_, fun f hf => ?_⟩⟩
    · have := (h3 hv f hf).1
      have : 0 < t.length := List.length_pos_of_mem hf
      omega
    · obtain ⟨_, a2, a3⟩ := h3 hv f hf
      exact ⟨by omega, fun s hs => by have := a3 s hs; omega⟩

theorem room_v (m k : Nat) : laws_roomBehind m ((k : Int), ()) = some ((room k : Int), ()) := by
  show laws_roomBehind.start m _ (k : Int) = _
  unfold laws_roomBehind.start room
  rw [show Int.tmod (k : Int) 6 = ((k % 6 : Nat) : Int) from by rw [Int.tmod_eq_emod_of_nonneg (by omega)]; omega, show Int.tmod (k : Int) 3 = ((k % 3 : Nat) : Int) from by rw [Int.tmod_eq_emod_of_nonneg (by omega)]; omega]
  rw [show ((6 : Int) == 0) = false from rfl, show ((3 : Int) == 0) = false from rfl]
  by_cases h1 : k % 6 = 5
  · rw [if_pos h1, h1]; rfl
  · rw [if_neg h1, show (((k % 6 : Nat) : Int) == 5) = false from by rw [beq_eq_false_iff_ne]; omega]
    by_cases h2 : k % 3 = 0
    · rw [if_pos h2, h2]; rfl
    · rw [if_neg h2, show (((k % 3 : Nat) : Int) == 0) = false from by rw [beq_eq_false_iff_ne]; omega]
      rfl

theorem take_set {α : Type} {l : List α} {i n : Nat} {x : α} (h : n ≤ i) : (l.set i x).take n = l.take n := by
  apply List.ext_getElem?
  intro j
  by_cases h1 : j < n
  · simp [List.getElem?_take, h1, List.getElem?_set, show ¬ i = j by omega]
  · simp [List.getElem?_take, h1]

theorem to_strs_fill (m : Nat) (xs : List ByteArray) : ∀ (d k i : Nat) (ys : List ByteArray), i + d = ys.length → ys.length < 100000000 → xs.length ≤ i → ys.take xs.length = xs →
    ∃ zs, (laws_toStringS.tab m (k + d + 1)).2.1 (ys, (xs, xs.length), (i : Int), ()) = some ((zs, xs.length), ()) ∧ zs.length = ys.length ∧ zs.take xs.length = xs
  | 0, k, i, ys, h, hl, hx, hy => by
    refine ⟨ys, ?_, rfl, hy⟩
    show laws_toStringS.b1 m (laws_toStringS.tab m k) ys (xs, xs.length) (i : Int) = _
    unfold laws_toStringS.b1
    rw [decide_eq_false (show ¬ (i : Int) < lLen ys by simp only [lLen]; omega), decide_eq_true (show (0 : Int) ≤ (((xs, xs.length) : List ByteArray × Nat).2 : Int) by show (0 : Int) ≤ (xs.length : Int); omega),
      decide_eq_true (show (((xs, xs.length) : List ByteArray × Nat).2 : Int) ≤ ((List.length ys) : Int) by show (xs.length : Int) ≤ (ys.length : Int); omega)]
    rfl
  | d + 1, k, i, ys, h, hl, hx, hy => by
    obtain ⟨zs, h1, h2, h3⟩ := to_strs_fill m xs d k (i + 1) (ys.set i s_7e73706172657e) (by rw [List.length_set]; omega) (by rw [List.length_set]; omega) (by omega) (by rw [take_set hx]; exact hy)
    refine ⟨zs, ?_, by rw [h2, List.length_set], h3⟩
    show laws_toStringS.b1 m (laws_toStringS.tab m (k + d + 1)) ys (xs, xs.length) (i : Int) = _
    unfold laws_toStringS.b1
    rw [decide_eq_true (show (i : Int) < lLen ys by simp only [lLen]; omega), decide_eq_true (show (0 : Int) ≤ (i : Int) by omega), w64_succ (by omega)]
    exact h1

theorem to_strs_copy (m : Nat) (xs : List ByteArray) : ∀ (d k i : Nat) (ys : List ByteArray), i + d = xs.length → xs.length ≤ ys.length → ys.length < 100000000 → ys.take i = xs.take i →
    ∃ zs, (laws_toStringS.tab m (k + d + (ys.length - xs.length) + 2)).1 (ys, (xs, xs.length), (i : Int), ()) = some ((zs, xs.length), ()) ∧ zs.length = ys.length ∧ zs.take xs.length = xs
  | 0, k, i, ys, h, hx, hl, hy => by
    obtain rfl : i = xs.length := by omega
    obtain ⟨zs, h1, h2, h3⟩ := to_strs_fill m xs (ys.length - xs.length) k xs.length ys (by omega) hl (Nat.le_refl _) (by rw [hy, List.take_length])
    refine ⟨zs, ?_, h2, h3⟩
    show laws_toStringS.b0 m (laws_toStringS.tab m (k + (ys.length - xs.length) + 1)) ys (xs, xs.length) ((xs.length : Nat) : Int) = _
    unfold laws_toStringS.b0
    rw [decide_eq_false (show ¬ ((xs.length : Nat) : Int) < (((xs, xs.length) : List ByteArray × Nat).2 : Int) by show ¬ (xs.length : Int) < (xs.length : Int); omega)]
    exact h1
  | d + 1, k, i, ys, h, hx, hl, hy => by
    obtain ⟨zs, h1, h2, h3⟩ := to_strs_copy m xs d k (i + 1) (ys.set i (xs.getD i ByteArray.empty)) (by omega) (by rw [List.length_set]; exact hx) (by rw [List.length_set]; exact hl)
      (by rw [set_take (by omega), hy, List.take_add_one, List.getD_eq_getElem?_getD, List.getElem?_eq_getElem (show i < xs.length by omega)]; rfl)
    rw [List.length_set] at h1 h2
    refine ⟨zs, ?_, h2, h3⟩
    rw [show k + (d + 1) + (ys.length - xs.length) + 2 = (k + d + (ys.length - xs.length) + 2) + 1 by omega]
    show laws_toStringS.b0 m (laws_toStringS.tab m (k + d + (ys.length - xs.length) + 2)) ys (xs, xs.length) (i : Int) = _
    unfold laws_toStringS.b0
    rw [decide_eq_true (show (i : Int) < (((xs, xs.length) : List ByteArray × Nat).2 : Int) by show (i : Int) < (xs.length : Int); omega), decide_eq_true (show (0 : Int) ≤ (i : Int) by omega), decide_eq_true (show (i : Int) < lLen ys by simp only [lLen]; omega), w64_succ (by omega)]
    exact h1

theorem to_strs (m : Nat) (hm : 1000000000 ≤ m) (xs : List ByteArray) (hx : xs.length < 10000000) (bare : Bool) :
    ∃ ys, laws_toStringS m ((xs, xs.length), bare, ()) = some ((ys, xs.length), ()) ∧ ys.take xs.length = xs ∧ (bare = false → ys.length = xs.length + room xs.length) := by
  have hr := room_le xs.length
  obtain ⟨q, hq⟩ : ∃ q, m = q + 1 := ⟨m - 1, by omega⟩
  have hmain : ∃ ys, (laws_toStringS.tab m m).2.2.1 ((xs, xs.length), ()) = some ((ys, xs.length), ()) ∧ ys.take xs.length = xs ∧ ys.length = xs.length + room xs.length := by
    obtain ⟨zs, h1, h2, h3⟩ := to_strs_copy m xs xs.length (q - (xs.length + room xs.length + 2)) 0 (List.replicate (xs.length + room xs.length) ByteArray.empty) (by omega) (by simp) (by simp; omega) (by simp)
    rw [List.length_replicate] at h1 h2
    rw [show q - (xs.length + room xs.length + 2) + xs.length + (xs.length + room xs.length - xs.length) + 2 = q by omega] at h1
    refine ⟨zs, ?_, h3, h2⟩
    rw [show laws_toStringS.tab m m = laws_toStringS.tab m (q + 1) by rw [← hq]]
    show laws_toStringS.b2 m (laws_toStringS.tab m q) (xs, xs.length) = _
    unfold laws_toStringS.b2
    rw [show laws_roomBehind m ((((xs, xs.length) : List ByteArray × Nat).2 : Int), ()) = some ((room xs.length : Int), ()) from room_v m xs.length]
    simp only [Option.bind_some]
    rw [show w64 ((((xs, xs.length) : List ByteArray × Nat).2 : Int) + (room xs.length : Int)) = ((xs.length + room xs.length : Nat) : Int) from by
      show w64 ((xs.length : Int) + (room xs.length : Int)) = _
      rw [show (xs.length : Int) + (room xs.length : Int) = ((xs.length + room xs.length : Nat) : Int) by omega]
      exact w64_ok (by omega) (by omega)]
    rw [decide_eq_true (show (0 : Int) ≤ ((xs.length + room xs.length : Nat) : Int) by omega), Int.toNat_natCast, decide_eq_true (show xs.length + room xs.length ≤ apCap by show xs.length + room xs.length ≤ 1073741824; omega)]
    exact h1
  obtain ⟨ys, h1, h2, h3⟩ := hmain
  cases bare with
  | false => exact ⟨ys, h1, h2, fun _ => h3⟩
  | true =>
    show ∃ ys, laws_toStringS.start m (laws_toStringS.tab m m) (xs, xs.length) true = some ((ys, xs.length), ()) ∧ _
    unfold laws_toStringS.start
    by_cases h0 : xs.length = 0
    · rw [show ((((xs, xs.length) : List ByteArray × Nat).2 : Int) == 0) = true from by show ((xs.length : Int) == 0) = true; rw [h0]; rfl]
      refine ⟨[], by rw [h0]; rfl, ?_, fun h => by cases h⟩
      rw [List.eq_nil_of_length_eq_zero h0]; rfl
    · rw [show ((((xs, xs.length) : List ByteArray × Nat).2 : Int) == 0) = false from by show ((xs.length : Int) == 0) = false; rw [beq_eq_false_iff_ne]; omega]
      exact ⟨ys, h1, h2, fun h => by cases h⟩

theorem to_file (m : Nat) (hm : 1000000000 ≤ m) (f : ByteArray × List ByteArray) (hx : f.2.length < 10000000) (bare : Bool) :
    ∃ ys, laws_toFile m (f.1, (f.2, f.2.length), bare, ()) = some (f.1, (ys, f.2.length), ()) ∧ ys.take f.2.length = f.2 ∧ (bare = false → ys.length = f.2.length + room f.2.length) := by
  obtain ⟨ys, h1, h2, h3⟩ := to_strs m hm f.2 hx bare
  refine ⟨ys, ?_, h2, h3⟩
  show Option.bind (laws_toStringS m ((f.2, f.2.length), bare, ())) _ = _
  rw [h1]; rfl

/-- a file as the laws put it: the places behind its text are there -/
def fileW (z : ByteArray × (List ByteArray × Nat)) : Prop := z.2.1.length = z.2.2 + room z.2.2 ∧ z.2.2 < 10000000

theorem to_files_fill (m : Nat) (t : Tree) (zs0 : STree) (n : Nat) (hn : n = t.length) : ∀ (d k i : Nat) (ys : STree), i + d = ys.length → ys.length < 100000000 → n ≤ i → ys.take n = zs0 → (∀ z ∈ ys, z.2.2 < 10000000) →
    ∃ zs, (laws_toFileS.tab m (k + d + 1)).2.1 (ys, (t.map up1, n), (i : Int), ()) = some ((zs, n), ()) ∧ zs.length = ys.length ∧ zs.take n = zs0 ∧ ∀ z ∈ zs, z.2.2 < 10000000
  | 0, k, i, ys, h, hl, hx, hy, hs => by
    refine ⟨ys, ?_, rfl, hy, hs⟩
    show laws_toFileS.b1 m (laws_toFileS.tab m k) ys (t.map up1, n) (i : Int) = _
    unfold laws_toFileS.b1
    rw [decide_eq_false (show ¬ (i : Int) < lLen ys by simp only [lLen]; omega), decide_eq_true (show (0 : Int) ≤ (((t.map up1, n) : STree × Nat).2 : Int) by show (0 : Int) ≤ (n : Int); omega),
      decide_eq_true (show (((t.map up1, n) : STree × Nat).2 : Int) ≤ ((List.length ys) : Int) by show (n : Int) ≤ (ys.length : Int); omega)]
    rfl
  | d + 1, k, i, ys, h, hl, hx, hy, hs => by
    obtain ⟨zs, h1, h2, h3, h4⟩ := to_files_fill m t zs0 n hn d k (i + 1) (ys.set i (s_7e73706172657e, [s_7e73706172657e], 1)) (by rw [List.length_set]; omega) (by rw [List.length_set]; omega) (by omega) (by rw [take_set hx]; exact hy) (fun z hz => by
      rcases List.mem_or_eq_of_mem_set hz with e | e
      · exact hs z e
      · rw [e]; decide)
    refine ⟨zs, ?_, by rw [h2, List.length_set], h3, h4⟩
    show laws_toFileS.b1 m (laws_toFileS.tab m (k + d + 1)) ys (t.map up1, n) (i : Int) = _
    unfold laws_toFileS.b1
    rw [decide_eq_true (show (i : Int) < lLen ys by simp only [lLen]; omega), decide_eq_true (show (0 : Int) ≤ (i : Int) by omega), w64_succ (by omega)]
    exact h1

theorem to_files_copy (m : Nat) (hm : 1000000000 ≤ m) (t : Tree) (ht : TreeSz t) (bare : Bool) : ∀ (d k i : Nat) (ys : STree), i + d = t.length → t.length ≤ ys.length → ys.length < 100000000 →
    (ys.take i).map down1 = t.take i → (bare = false → ∀ z ∈ ys.take i, fileW z) → (∀ z ∈ ys, z.2.2 < 10000000) →
    ∃ zs, (laws_toFileS.tab m (k + d + (ys.length - t.length) + 2)).1 (ys, (t.map up1, t.length), bare, (i : Int), ()) = some ((zs, t.length), ()) ∧ zs.length = ys.length ∧ (zs.take t.length).map down1 = t ∧ (bare = false → ∀ z ∈ zs.take t.length, fileW z) ∧ ∀ z ∈ zs, z.2.2 < 10000000
  | 0, k, i, ys, h, hx, hl, hy, hw, hs => by
    obtain rfl : i = t.length := by omega
    obtain ⟨zs, h1, h2, h3, h4⟩ := to_files_fill m t (ys.take t.length) t.length rfl (ys.length - t.length) k t.length ys (by omega) hl (Nat.le_refl _) rfl hs
    refine ⟨zs, ?_, h2, by rw [h3, hy, List.take_length], by rw [h3]; exact hw, h4⟩
    show laws_toFileS.b0 m (laws_toFileS.tab m (k + (ys.length - t.length) + 1)) ys (t.map up1, t.length) bare ((t.length : Nat) : Int) = _
    unfold laws_toFileS.b0
    rw [decide_eq_false (show ¬ ((t.length : Nat) : Int) < (((t.map up1, t.length) : STree × Nat).2 : Int) by show ¬ (t.length : Int) < (t.length : Int); omega)]
    exact h1
  | d + 1, k, i, ys, h, hx, hl, hy, hw, hs => by
    obtain ⟨hp, hxs⟩ := ht.at (i := i) (by omega)
    obtain ⟨us, f1, f2, f3⟩ := to_file m hm (t.getD i fz) hxs.1 bare
    obtain ⟨zs, h1, h2, h3, h4, h5⟩ := to_files_copy m hm t ht bare d k (i + 1) (ys.set i ((t.getD i fz).1, us, (t.getD i fz).2.length)) (by omega) (by rw [List.length_set]; exact hx) (by rw [List.length_set]; exact hl)
      (by
        rw [set_take (by omega), List.map_append, hy, List.take_add_one, List.getElem?_eq_getElem (show i < t.length by omega)]
        have : t.getD i fz = t[i] := by rw [List.getD_eq_getElem?_getD, List.getElem?_eq_getElem (show i < t.length by omega)]; rfl
        have e : down1 ((t.getD i fz).1, us, (t.getD i fz).2.length) = t.getD i fz := by
          show ((t.getD i fz).1, List.take (t.getD i fz).2.length us) = t.getD i fz
          rw [f2]
        rw [List.map_cons, List.map_nil, e, this]
        rfl)
      (fun hb z hz => by
        rw [set_take (by omega)] at hz
        rcases List.mem_append.1 hz with e | e
        · exact hw hb z e
        · simp at e; rw [e]; exact ⟨f3 hb, hxs.1⟩)
      (fun z hz => by
        rcases List.mem_or_eq_of_mem_set hz with e | e
        · exact hs z e
        · rw [e]; exact hxs.1)
    rw [List.length_set] at h1 h2
    refine ⟨zs, ?_, h2, h3, h4, h5⟩
    rw [show k + (d + 1) + (ys.length - t.length) + 2 = (k + d + (ys.length - t.length) + 2) + 1 by omega]
    show laws_toFileS.b0 m (laws_toFileS.tab m (k + d + (ys.length - t.length) + 2)) ys (t.map up1, t.length) bare (i : Int) = _
    unfold laws_toFileS.b0
    rw [decide_eq_true (show (i : Int) < (((t.map up1, t.length) : STree × Nat).2 : Int) by show (i : Int) < (t.length : Int); omega), decide_eq_true (show (0 : Int) ≤ (i : Int) by omega), decide_eq_true (show (i : Int) < lLen ys by simp only [lLen]; omega), w64_succ (by omega)]
    simp only [cond, lett]
    rw [show getL (List.map up1 t) (i : Int) (ByteArray.empty, ([] : List ByteArray), (0 : Nat)) = up1 (t.getD i fz) from up_get t i]
    rw [show laws_toFile m ((up1 (t.getD i fz)).1, (up1 (t.getD i fz)).2, bare, ()) = some ((t.getD i fz).1, (us, (t.getD i fz).2.length), ()) from f1]
    exact h1

theorem to_files (m : Nat) (hm : 1000000000 ≤ m) (t : Tree) (ht : TreeSz t) (bare : Bool) :
    ∃ ys, laws_toFileS m ((t.map up1, t.length), bare, ()) = some ((ys, t.length), ()) ∧ (ys.take t.length).map down1 = t ∧ (bare = false → ys.length = t.length + room t.length ∧ (∀ z ∈ ys.take t.length, fileW z) ∧ ∀ z ∈ ys, z.2.2 < 10000000) := by
  have hr := room_le t.length
  have hlen := ht.len
  obtain ⟨q, hq⟩ : ∃ q, m = q + 1 := ⟨m - 1, by omega⟩
  have hmain : ∃ ys, (laws_toFileS.tab m m).2.2.1 ((t.map up1, t.length), bare, ()) = some ((ys, t.length), ()) ∧ (ys.take t.length).map down1 = t ∧ (bare = false → ys.length = t.length + room t.length ∧ (∀ z ∈ ys.take t.length, fileW z) ∧ ∀ z ∈ ys, z.2.2 < 10000000) := by
    obtain ⟨zs, h1, h2, h3, h4, h5⟩ := to_files_copy m hm t ht bare t.length (q - (t.length + room t.length + 2)) 0 (List.replicate (t.length + room t.length) gz) (by omega) (by simp) (by simp; omega) (by simp) (by simp) (fun z hz => by rw [List.eq_of_mem_replicate hz]; decide)
    rw [List.length_replicate] at h1 h2
    rw [show q - (t.length + room t.length + 2) + t.length + (t.length + room t.length - t.length) + 2 = q by omega] at h1
    refine ⟨zs, ?_, h3, fun hb => ⟨h2, h4 hb, h5⟩⟩
    rw [show laws_toFileS.tab m m = laws_toFileS.tab m (q + 1) by rw [← hq]]
    show laws_toFileS.b2 m (laws_toFileS.tab m q) (t.map up1, t.length) bare = _
    unfold laws_toFileS.b2
    rw [show laws_roomBehind m ((((t.map up1, t.length) : STree × Nat).2 : Int), ()) = some ((room t.length : Int), ()) from room_v m t.length]
    simp only [Option.bind_some]
    rw [show w64 ((((t.map up1, t.length) : STree × Nat).2 : Int) + (room t.length : Int)) = ((t.length + room t.length : Nat) : Int) from by
      show w64 ((t.length : Int) + (room t.length : Int)) = _
      rw [show (t.length : Int) + (room t.length : Int) = ((t.length + room t.length : Nat) : Int) by omega]
      exact w64_ok (by omega) (by omega)]
    rw [decide_eq_true (show (0 : Int) ≤ ((t.length + room t.length : Nat) : Int) by omega), Int.toNat_natCast, decide_eq_true (show t.length + room t.length ≤ apCap by show t.length + room t.length ≤ 1073741824; omega)]
    exact h1
  show ∃ ys, laws_toFileS.start m (laws_toFileS.tab m m) (t.map up1, t.length) bare = some ((ys, t.length), ()) ∧ _
  unfold laws_toFileS.start
  cases bare with
  | false => exact hmain
  | true =>
    by_cases h0 : t.length = 0
    · rw [show ((((t.map up1, t.length) : STree × Nat).2 : Int) == 0) = true from by show ((t.length : Int) == 0) = true; rw [h0]; rfl]
      refine ⟨[], by rw [h0]; rfl, ?_, fun h => by cases h⟩
      rw [List.eq_nil_of_length_eq_zero h0]; rfl
    · rw [show ((((t.map up1, t.length) : STree × Nat).2 : Int) == 0) = false from by show ((t.length : Int) == 0) = false; rw [beq_eq_false_iff_ne]; omega]
      exact hmain

theorem eq_strs_loop (m : Nat) (x : List ByteArray × Nat) (hx : x.2 < 100000000) : ∀ (d k i : Nat), i + d = x.2 → (laws_eqStringS.tab m (k + d + 1)).1 (x, x, (i : Int), ()) = some (true, ())
  | 0, k, i, h => by
    show laws_eqStringS.b0 m (laws_eqStringS.tab m k) x x (i : Int) = _
    unfold laws_eqStringS.b0
    rw [decide_eq_false (show ¬ (i : Int) < (x.2 : Int) by omega)]
    rfl
  | d + 1, k, i, h => by
    show laws_eqStringS.b0 m (laws_eqStringS.tab m (k + d + 1)) x x (i : Int) = _
    unfold laws_eqStringS.b0
    rw [decide_eq_true (show (i : Int) < (x.2 : Int) by omega), decide_eq_true (show (0 : Int) ≤ (i : Int) by omega), sEq_self, w64_succ (by omega)]
    exact eq_strs_loop m x hx d k (i + 1) (by omega)

theorem eq_strs (m : Nat) (hm : 1000000000 ≤ m) (x : List ByteArray × Nat) (hx : x.2 < 100000000) : laws_eqStringS m (x, x, ()) = some (true, ()) := by
  have h := eq_strs_loop m x hx x.2 (m - (x.2 + 1)) 0 (by omega)
  rw [show m - (x.2 + 1) + x.2 + 1 = m by omega] at h
  show laws_eqStringS.start m (laws_eqStringS.tab m m) x x = _
  unfold laws_eqStringS.start
  rw [show ((x.2 : Int) != (x.2 : Int)) = false by simp]
  exact h

theorem intact_strs (m : Nat) (hm : 1000000000 ≤ m) (x : List ByteArray × Nat) (h1 : x.1.length = x.2 + room x.2) (hx : x.2 < 10000000) : laws_intactStringS m (x, x, ()) = some (true, ()) := by
  have hr := room_le x.2
  show laws_intactStringS.start m _ x x = _
  unfold laws_intactStringS.start
  rw [room_v]
  simp only [Option.bind_some]
  rw [show w64 ((x.2 : Int) + (room x.2 : Int)) = ((x.2 + room x.2 : Nat) : Int) from by
    rw [show (x.2 : Int) + (room x.2 : Int) = ((x.2 + room x.2 : Nat) : Int) by omega]
    exact w64_ok (by omega) (by omega)]
  rw [show ((x.2 : Int) == (x.2 : Int)) = true by simp, decide_eq_true (show (0 : Int) ≤ ((x.2 + room x.2 : Nat) : Int) by omega), decide_eq_true (show ((x.2 + room x.2 : Nat) : Int) ≤ ((List.length x.1) : Int) by omega)]
  simp only [cond, lett]
  rw [eq_strs m hm _ (by show (List.length (cutL x.1 0 (Int.toNat ((x.2 + room x.2 : Nat) : Int)))) < 100000000; simp only [cutL, List.drop_zero, List.length_take]; omega)]
  rfl

theorem intact_file (m : Nat) (hm : 1000000000 ≤ m) (z : ByteArray × (List ByteArray × Nat)) (h : fileW z) : laws_intactFile m (z.1, z.2, z.1, z.2, ()) = some (true, ()) := by
  show laws_intactFile.start m _ z.1 z.2 z.1 z.2 = _
  unfold laws_intactFile.start
  rw [sEq_self, intact_strs m hm z.2 h.1 h.2]
  rfl

theorem eq_files_loop (m : Nat) (hm : 1000000000 ≤ m) (x : STree × Nat) (hx : x.2 < 100000000) (hl : ∀ z ∈ x.1, z.2.2 < 100000000) : ∀ (d k i : Nat), i + d = x.2 → (laws_eqFileS.tab m (k + d + 1)).1 (x, x, (i : Int), ()) = some (true, ())
  | 0, k, i, h => by
    show laws_eqFileS.b0 m (laws_eqFileS.tab m k) x x (i : Int) = _
    unfold laws_eqFileS.b0
    rw [decide_eq_false (show ¬ (i : Int) < (x.2 : Int) by omega)]
    rfl
  | d + 1, k, i, h => by
    show laws_eqFileS.b0 m (laws_eqFileS.tab m (k + d + 1)) x x (i : Int) = _
    unfold laws_eqFileS.b0
    rw [decide_eq_true (show (i : Int) < (x.2 : Int) by omega), decide_eq_true (show (0 : Int) ≤ (i : Int) by omega), w64_succ (by omega)]
    simp only [cond, lett]
    have hz : (getL x.1 (i : Int) gz).2.2 < 100000000 := by
      show (x.1.getD i gz).2.2 < 100000000
      by_cases hi : i < x.1.length
      · exact hl _ (mem_getD hi)
      · rw [List.getD_eq_getElem?_getD, List.getElem?_eq_none (by omega)]
        decide
    rw [show laws_eqFile m ((getL x.1 (i : Int) gz).1, (getL x.1 (i : Int) gz).2, (getL x.1 (i : Int) gz).1, (getL x.1 (i : Int) gz).2, ()) = some (true, ()) from by
      show laws_eqFile.start m _ _ _ _ _ = _
      unfold laws_eqFile.start
      rw [sEq_self, eq_strs m hm _ hz]
      rfl]
    exact eq_files_loop m hm x hx hl d k (i + 1) (by omega)

theorem eq_files (m : Nat) (hm : 1000000000 ≤ m) (x : STree × Nat) (hx : x.2 < 100000000) (hl : ∀ z ∈ x.1, z.2.2 < 100000000) : laws_eqFileS m (x, x, ()) = some (true, ()) := by
  have h := eq_files_loop m hm x hx hl x.2 (m - (x.2 + 1)) 0 (by omega)
  rw [show m - (x.2 + 1) + x.2 + 1 = m by omega] at h
  show laws_eqFileS.start m (laws_eqFileS.tab m m) x x = _
  unfold laws_eqFileS.start
  rw [show ((x.2 : Int) != (x.2 : Int)) = false by simp]
  exact h

theorem intact_files_loop (m : Nat) (hm : 1000000000 ≤ m) (ys : STree) (n : Nat) (hn : n < 10000000) (hl : ys.length = n + room n) (hw : ∀ z ∈ ys.take n, fileW z) (hs : ∀ z ∈ ys, z.2.2 < 10000000) : ∀ (d k i : Nat), i + d = n →
    (laws_intactFileS.tab m (k + d + 1)).1 ((ys, n), (ys, n), ((n + room n : Nat) : Int), (i : Int), ()) = some (true, ())
  | 0, k, i, h => by
    have hr := room_le n
    show laws_intactFileS.b0 m (laws_intactFileS.tab m k) (ys, n) (ys, n) ((n + room n : Nat) : Int) (i : Int) = _
    unfold laws_intactFileS.b0
    rw [decide_eq_false (show ¬ (i : Int) < (((ys, n) : STree × Nat).2 : Int) by show ¬ (i : Int) < (n : Int); omega), decide_eq_true (show (0 : Int) ≤ ((n + room n : Nat) : Int) by omega),
      decide_eq_true (show ((n + room n : Nat) : Int) ≤ ((List.length ((ys, n) : STree × Nat).1) : Int) by show ((n + room n : Nat) : Int) ≤ (ys.length : Int); omega),
      decide_eq_true (show (0 : Int) ≤ (((ys, n) : STree × Nat).2 : Int) by show (0 : Int) ≤ (n : Int); omega), decide_eq_true (show (((ys, n) : STree × Nat).2 : Int) ≤ ((n + room n : Nat) : Int) by show (n : Int) ≤ _; omega)]
    simp only [cond, lett]
    rw [eq_files m hm _ (by
      show (List.length (cutL ys (Int.toNat (n : Int)) (Int.toNat ((n + room n : Nat) : Int)))) < 100000000
      simp only [cutL, List.length_drop, List.length_take]; omega) (fun z hz => by
      have hz' : z ∈ ys := List.mem_of_mem_take (List.mem_of_mem_drop hz)
      exact Nat.lt_trans (hs z hz') (by decide))]
    rfl
  | d + 1, k, i, h => by
    show laws_intactFileS.b0 m (laws_intactFileS.tab m (k + d + 1)) (ys, n) (ys, n) ((n + room n : Nat) : Int) (i : Int) = _
    unfold laws_intactFileS.b0
    rw [decide_eq_true (show (i : Int) < (((ys, n) : STree × Nat).2 : Int) by show (i : Int) < (n : Int); omega), decide_eq_true (show (0 : Int) ≤ (i : Int) by omega), w64_succ (by omega)]
    simp only [cond, lett]
    have hz : fileW (getL ys (i : Int) gz) := by
      apply hw
      show ys.getD i gz ∈ _
      rw [List.getD_eq_getElem?_getD, List.getElem?_eq_getElem (show i < ys.length by omega)]
      exact List.mem_take_iff_getElem.2 ⟨i, by omega, rfl⟩
    rw [show laws_intactFile m ((getL ((ys, n) : STree × Nat).1 (i : Int) (ByteArray.empty, ([] : List ByteArray), (0 : Nat))).1, (getL ((ys, n) : STree × Nat).1 (i : Int) (ByteArray.empty, ([] : List ByteArray), (0 : Nat))).2, (getL ((ys, n) : STree × Nat).1 (i : Int) (ByteArray.empty, ([] : List ByteArray), (0 : Nat))).1, (getL ((ys, n) : STree × Nat).1 (i : Int) (ByteArray.empty, ([] : List ByteArray), (0 : Nat))).2, ()) = some (true, ()) from intact_file m hm _ hz]
    exact intact_files_loop m hm ys n hn hl hw hs d k (i + 1) (by omega)

theorem intact_files (m : Nat) (hm : 1000000000 ≤ m) (ys : STree) (n : Nat) (hn : n < 10000000) (hl : ys.length = n + room n) (hw : ∀ z ∈ ys.take n, fileW z) (hs : ∀ z ∈ ys, z.2.2 < 10000000) :
    laws_intactFileS m ((ys, n), (ys, n), ()) = some (true, ()) := by
  have hr := room_le n
  have h := intact_files_loop m hm ys n hn hl hw hs n (m - (n + 1)) 0 (by omega)
  rw [show m - (n + 1) + n + 1 = m by omega] at h
  show laws_intactFileS.start m (laws_intactFileS.tab m m) (ys, n) (ys, n) = _
  unfold laws_intactFileS.start
  rw [room_v]
  simp only [Option.bind_some]
  rw [show w64 ((((ys, n) : STree × Nat).2 : Int) + (room n : Int)) = ((n + room n : Nat) : Int) from by
    show w64 ((n : Int) + (room n : Int)) = _
    rw [show (n : Int) + (room n : Int) = ((n + room n : Nat) : Int) by omega]
    exact w64_ok (by omega) (by omega)]
  rw [show ((((ys, n) : STree × Nat).2 : Int) != (((ys, n) : STree × Nat).2 : Int)) = false by simp]
  exact h

/-- the tree that is handed on is the one that came in -/
theorem handed {ys : STree} {n : Nat} {t : Tree} (h : (ys.take n).map down1 = t) : List.map (fun z => (z.1, List.take z.2.2 z.2.1)) (List.take n ys) = t := h
theorem upped (t : Tree) : List.map (fun z => (z.1, z.2, List.length z.2)) t = t.map up1 := rfl
end Go.Sx.Tryz
