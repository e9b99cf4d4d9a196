/- A part of the pure law of FnTreeRead, over the printed functions: what they answer. No condition but those of each theorem. -/
import Derived.Test.YtpchbfkiingmjaaDoorTtrHC
import Derived.Test.YtpchbfkiingmjaaDoorTtrHG
namespace Go.Sx.Tryd
open Go Go.Proofs Go.Sx
set_option linter.unusedVariables false
set_option linter.unusedSimpArgs false

theorem map_bL : ∀ {a b : List ByteArray}, a.map bL = b.map bL → a = b
  | [], [], _ => rfl
  | [], _ :: _, h => by cases h
  | _ :: _, [], h => by cases h
  | x :: a, y :: b, h => by
    simp only [List.map_cons, List.cons.injEq] at h
    rw [bL_inj h.1, map_bL h.2]

def headLn (f : ByteArray × List ByteArray) : ByteArray := ByteArray.append (ByteArray.append (ByteArray.append s_66696c6520 f.1) s_20) (decS f.2.length)
def tl : Tree → List ByteArray
  | [] => []
  | f :: r => headLn f :: (f.2 ++ tl r)
def txt : List ByteArray → List UInt8
  | [] => []
  | s :: r => bL s ++ 10 :: txt r
theorem txt_append : ∀ (a b : List ByteArray), txt (a ++ b) = txt a ++ txt b
  | [], b => rfl
  | s :: a, b => by simp [txt, txt_append a b]

theorem linesT_txt : ∀ (xs : List ByteArray) (acc : ByteArray), bL (linesT acc xs) = bL acc ++ txt xs
  | [], acc => by simp [linesT, txt]
  | s :: r, acc => by
    have e : bL s_0a = [10] := rfl
    simp only [linesT, linesT_txt r, bL_append, txt, e]
    simp
theorem treeT_txt : ∀ (t : Tree) (acc : ByteArray), bL (treeT acc t) = bL acc ++ txt (tl t)
  | [], acc => by simp [treeT, tl, txt]
  | f :: r, acc => by
    have e : bL s_0a = [10] := rfl
    simp only [treeT, treeT_txt r, linesT_txt, tl, txt, txt_append, headT, headLn, bL_append, e]
    simp

theorem splAL_cut : ∀ (x cur r : List UInt8), (10 : UInt8) ∉ x → splAL cur (x ++ 10 :: r) = (cur ++ x) :: splAL [] r
  | [], cur, r, _ => by simp [splAL]
  | b :: x, cur, r, h => by
    have hb : b ≠ 10 := fun e => h (by simp [e])
    show splAL cur (b :: (x ++ 10 :: r)) = _
    rw [splAL, if_neg hb, splAL_cut x _ r (fun e => h (by simp [e]))]
    simp
theorem splAS_cut : ∀ (x cur r : List UInt8), (32 : UInt8) ∉ x → splAS cur (x ++ 32 :: r) = (cur ++ x) :: splAS [] r
  | [], cur, r, _ => by simp [splAS]
  | b :: x, cur, r, h => by
    have hb : b ≠ 32 := fun e => h (by simp [e])
    show splAS cur (b :: (x ++ 32 :: r)) = _
    rw [splAS, if_neg hb, splAS_cut x _ r (fun e => h (by simp [e]))]
    simp
theorem splAS_end : ∀ (x cur : List UInt8), (32 : UInt8) ∉ x → splAS cur x = [cur ++ x]
  | [], cur, _ => by simp [splAS]
  | b :: x, cur, h => by
    have hb : b ≠ 32 := fun e => h (by simp [e])
    rw [splAS, if_neg hb, splAS_end x _ (fun e => h (by simp [e]))]
    simp

theorem splAL_txt : ∀ (ls : List ByteArray), (∀ s ∈ ls, (10 : UInt8) ∉ bL s) → splAL [] (txt ls) = ls.map bL ++ [[]]
  | [], _ => rfl
  | s :: r, h => by
    show splAL [] (bL s ++ 10 :: txt r) = _
    rw [splAL_cut _ _ _ (h s (by simp)), splAL_txt r (fun x hx => h x (by simp [hx]))]
    simp

/-! ### What stands in names, paths and lines -/
theorem name_mem : ∀ (l cur : List UInt8), (∀ p ∈ splA cur l, nameB p = true) → ∀ b ∈ l, b = 47 ∨ nameC b = true
  | [], cur, h, b, hb => by cases hb
  | c :: l, cur, h, b, hb => by
    unfold splA at h
    split at h
    · rename_i hc
      rcases List.mem_cons.1 hb with e | e
      · rw [e]; exact .inl hc
      · exact name_mem l [] (fun p hp => h p (by simp [hp])) b e
    · rename_i hc
      rcases List.mem_cons.1 hb with e | e
      · right
        rw [e]
        -- the sign stands in the first piece
        have key : ∀ (l cur : List UInt8), c ∈ cur → ∃ p ∈ splA cur l, c ∈ p := by
          intro l
          induction l with
          | nil => intro cur hc; exact ⟨cur, by simp [splA], hc⟩
          | cons d l ih =>
            intro cur hc
            unfold splA
            split
            · exact ⟨cur, by simp, hc⟩
            · exact ih _ (by simp [hc])
        obtain ⟨p, hp, hcp⟩ := key l (cur ++ [c]) (by simp)
        have := h p hp
        unfold nameB at this
        simp only [Bool.and_eq_true, List.all_eq_true] at this
        exact this.1 c hcp
      · exact name_mem l _ h b e

theorem path_mem {s : ByteArray} (h : pathB s = true) : ∀ b ∈ bL s, b = 47 ∨ nameC b = true := by
  unfold pathB at h
  simp only [Bool.and_eq_true, List.all_eq_true] at h
  exact name_mem _ [] h.2
theorem nameC_ne {b : UInt8} (h : b = 47 ∨ nameC b = true) : b ≠ 10 ∧ b ≠ 32 := by
  rcases h with h | h
  · rw [h]; decide
  · constructor <;> (intro e; rw [e] at h; cases h)
theorem path_no {s : ByteArray} (h : pathB s = true) : (10 : UInt8) ∉ bL s ∧ (32 : UInt8) ∉ bL s :=
  ⟨fun e => (nameC_ne (path_mem h _ e)).1 rfl, fun e => (nameC_ne (path_mem h _ e)).2 rfl⟩
theorem line_no {s : ByteArray} (h : lineB (bL s) = true) : (10 : UInt8) ∉ bL s := by
  intro e
  unfold lineB at h
  simp only [Bool.and_eq_true, List.all_eq_true] at h
  have := h.1 _ e
  revert this
  decide
theorem dec_no {n : Nat} (h : n ≤ 16) : (10 : UInt8) ∉ bL (decS n) ∧ (32 : UInt8) ∉ bL (decS n) := by
  rcases (show n = 0 ∨ n = 1 ∨ n = 2 ∨ n = 3 ∨ n = 4 ∨ n = 5 ∨ n = 6 ∨ n = 7 ∨ n = 8 ∨ n = 9 ∨ n = 10 ∨ n = 11 ∨ n = 12 ∨ n = 13 ∨ n = 14 ∨ n = 15 ∨ n = 16 by omega) with rfl | rfl | rfl | rfl | rfl | rfl | rfl | rfl | rfl | rfl | rfl | rfl | rfl | rfl | rfl | rfl | rfl <;> decide

set_option maxRecDepth 20000 in
theorem atoi_v (m n : Nat) (hm : 100 ≤ m) (hn : n ≤ 16) : strconv_Atoi m (decS n, ()) = some ((n : Int), false, ()) := by
  obtain ⟨k, rfl⟩ : ∃ k, m = k + 10 := ⟨m - 10, by omega⟩
  rcases (show n = 0 ∨ n = 1 ∨ n = 2 ∨ n = 3 ∨ n = 4 ∨ n = 5 ∨ n = 6 ∨ n = 7 ∨ n = 8 ∨ n = 9 ∨ n = 10 ∨ n = 11 ∨ n = 12 ∨ n = 13 ∨ n = 14 ∨ n = 15 ∨ n = 16 by omega) with rfl | rfl | rfl | rfl | rfl | rfl | rfl | rfl | rfl | rfl | rfl | rfl | rfl | rfl | rfl | rfl | rfl <;> rfl

/-- a file as it may stand in a tree -/
def FileOk (f : ByteArray × List ByteArray) : Prop := pathB f.1 = true ∧ f.1.size ≤ 20 ∧ f.2.length ≤ 10 ∧ ∀ s ∈ f.2, lineB (bL s) = true
theorem file_lines {f : ByteArray × List ByteArray} (h : FileOk f) : (10 : UInt8) ∉ bL (headLn f) ∧ ∀ s ∈ f.2, (10 : UInt8) ∉ bL s := by
  refine ⟨?_, fun s hs => line_no (h.2.2.2 s hs)⟩
  obtain ⟨h1, h2⟩ := path_no h.1
  obtain ⟨h3, h4⟩ := dec_no (n := f.2.length) (by have := h.2.2.1; omega)
  have e1 : bL s_66696c6520 = [102, 105, 108, 101, 32] := rfl
  have e2 : bL s_20 = [32] := rfl
  simp only [headLn, bL_append, e1, e2]
  simp [h1, h3]
theorem tree_lines : ∀ {t : Tree}, (∀ f ∈ t, FileOk f) → ∀ s ∈ tl t, (10 : UInt8) ∉ bL s
  | [], _, s, hs => by cases hs
  | f :: r, h, s, hs => by
    obtain ⟨h1, h2⟩ := file_lines (h f (by simp))
    rcases List.mem_cons.1 hs with e | e
    · rw [e]; exact h1
    · rcases List.mem_append.1 e with e | e
      · exact h2 s e
      · exact tree_lines (fun g hg => h g (by simp [hg])) s e

theorem tl_len : ∀ {t : Tree}, (∀ f ∈ t, FileOk f) → (tl t).length ≤ 11 * t.length
  | [], _ => by simp [tl]
  | f :: r, h => by
    have := (h f (by simp)).2.2.1
    have ih := tl_len (t := r) (fun g hg => h g (by simp [hg]))
    simp only [tl, List.length_cons, List.length_append]
    omega

theorem lines_v (m : Nat) (hm : 10000000 ≤ m) (ls : List ByteArray) (hl : ls.length ≤ 100000) (hno : ∀ s ∈ ls, (10 : UInt8) ∉ bL s) (s : ByteArray) (hs : s.size < 5000000) (he : bL s = txt ls) : impl_linesOf m (s, ()) = some (ls, ()) := by
  obtain ⟨r, r1, r2⟩ := split_vL m hm s hs
  rw [he, splAL_txt ls hno] at r2
  have e : r = ls ++ [ByteArray.empty] := map_bL (by rw [r2]; simp)
  subst e
  show impl_linesOf.start m _ s = _
  unfold impl_linesOf.start
  rw [r1]
  simp only [Option.bind_some]
  rw [show w64 (lLen (ls ++ [ByteArray.empty]) - 1) = ((ls.length : Nat) : Int) from by
    rw [show lLen (ls ++ [ByteArray.empty]) - 1 = ((ls.length : Nat) : Int) by simp only [lLen, List.length_append, List.length_cons, List.length_nil]; omega]
    exact w64_ok (by omega) (by omega)]
  rw [decide_eq_true (show (0 : Int) ≤ ((ls.length : Nat) : Int) by omega), decide_eq_true (show ((ls.length : Nat) : Int) ≤ ((ls ++ [ByteArray.empty]).length : Int) by simp; omega)]
  simp only [cond, lett, Int.toNat_natCast]
  rw [show cutL (ls ++ [ByteArray.empty]) 0 ls.length = ls from by
    simp only [cutL, List.drop_zero]
    exact List.take_left' rfl]

theorem head_split (m : Nat) (hm : 10000000 ≤ m) {f : ByteArray × List ByteArray} (h : FileOk f) : strings_Split m (headLn f, s_20, ()) = some ([s_66696c65, f.1, decS f.2.length], ()) := by
  obtain ⟨h1, h2⟩ := path_no h.1
  obtain ⟨h3, h4⟩ := dec_no (n := f.2.length) (by have := h.2.2.1; omega)
  have e1 : bL s_66696c6520 = [102, 105, 108, 101, 32] := rfl
  have e2 : bL s_20 = [32] := rfl
  have hsz : (headLn f).size < 5000000 := by
    have := decS_size f.2.length
    have := h.2.1
    have e3 : s_66696c6520.size = 5 := rfl
    have e4 : s_20.size = 1 := rfl
    unfold headLn
    simp only [append_size]
    omega
  obtain ⟨r, r1, r2⟩ := split_vS m hm (headLn f) hsz
  have e : bL (headLn f) = [102, 105, 108, 101] ++ 32 :: (bL f.1 ++ 32 :: bL (decS f.2.length)) := by
    simp only [headLn, bL_append, e1, e2]; simp
  rw [e, splAS_cut _ _ _ (by decide), splAS_cut _ _ _ h2, splAS_end _ _ h4] at r2
  have e3 : r = [s_66696c65, f.1, decS f.2.length] := map_bL (by rw [r2]; rfl)
  rw [r1, e3]

theorem read_loop (m : Nat) (hm : 10000000 ≤ m) : ∀ (t : Tree) (k : Nat) (acc : Tree), (∀ f ∈ t, FileOk f) → acc.length + t.length ≤ 1000 →
    (impl_readFiles.tab m (k + t.length + 2)).1 (acc, tl t, ()) = some (acc ++ t, [], ())
  | [], k, acc, h, ha => by
    show impl_readFiles.b0 m (impl_readFiles.tab m (k + 1)) acc [] = _
    unfold impl_readFiles.b0
    rw [decide_eq_false (show ¬ lLen ([] : List ByteArray) > 0 by simp [lLen]), List.append_nil]
    rfl
  | f :: r, k, acc, h, ha => by
    have hf := h f (by simp)
    have hn := hf.2.2.1
    have hr : ∀ g ∈ r, FileOk g := fun g hg => h g (by simp [hg])
    have hlen := tl_len hr
    simp only [List.length_cons] at ha
    have ih := read_loop m hm r k (acc ++ [f]) hr (by simp; omega)
    have hL : lLen (tl (f :: r)) = (((f.2.length + (tl r).length + 1 : Nat)) : Int) := by simp [lLen, tl]
    have c1 : cutL (tl (f :: r)) 1 (f.2.length + 1) = f.2 := by
      simp only [cutL, tl, List.take_succ_cons, List.drop_succ_cons, List.drop_zero]
      exact List.take_left' rfl
    have c2 : cutL (tl (f :: r)) (f.2.length + 1) (tl (f :: r)).length = tl r := by
      simp only [cutL, List.take_length, tl, List.drop_succ_cons]
      exact List.drop_left' rfl
    rw [show k + (f :: r).length + 2 = (k + r.length + 2) + 1 by simp only [List.length_cons]; omega]
    show impl_readFiles.b0 m (impl_readFiles.tab m (k + r.length + 2)) acc (tl (f :: r)) = _
    unfold impl_readFiles.b0
    rw [hL, decide_eq_true (show (((f.2.length + (tl r).length + 1 : Nat)) : Int) > 0 by omega), decide_eq_true (show (0 : Int) ≤ 0 by omega),
      show getL (tl (f :: r)) (0 : Int) ByteArray.empty = headLn f from rfl, head_split m hm hf]
    simp only [cond, Option.bind_some]
    rw [show (lLen [s_66696c65, f.1, decS f.2.length] != 3) = false from rfl, decide_eq_true (show (0 : Int) < lLen [s_66696c65, f.1, decS f.2.length] by simp [lLen]), show getL [s_66696c65, f.1, decS f.2.length] (0 : Int) ByteArray.empty = s_66696c65 from rfl, sEq_self,
      decide_eq_true (show (0 : Int) ≤ 2 by omega), decide_eq_true (show (2 : Int) < lLen [s_66696c65, f.1, decS f.2.length] by simp [lLen]), show getL [s_66696c65, f.1, decS f.2.length] (2 : Int) ByteArray.empty = decS f.2.length from rfl, atoi_v m _ (by omega) (by omega)]
    simp only [cond, lett, Option.bind_some, Bool.not_true]
    rw [within_v]
    simp only [Option.bind_some]
    rw [show w64 ((((f.2.length + (tl r).length + 1 : Nat)) : Int) - 1) = ((f.2.length + (tl r).length : Nat) : Int) from by
      rw [show ((((f.2.length + (tl r).length + 1 : Nat)) : Int) - 1) = ((f.2.length + (tl r).length : Nat) : Int) by omega]; exact w64_ok (by omega) (by omega)]
    rw [decide_eq_true (show (f.2.length : Int) ≥ 0 by omega), decide_eq_true (show (f.2.length : Int) ≤ ((f.2.length + (tl r).length : Nat) : Int) by omega), w64_succ (by omega),
      decide_eq_true (show (0 : Int) ≤ 1 by omega), decide_eq_true (show (1 : Int) < lLen [s_66696c65, f.1, decS f.2.length] by simp [lLen]), decide_eq_true (show (0 : Int) ≤ ((f.2.length + 1 : Nat) : Int) by omega),
      decide_eq_true (show ((f.2.length + 1 : Nat) : Int) ≤ ((tl (f :: r)).length : Int) by simp only [tl, List.length_cons, List.length_append]; omega), decide_eq_true (show (1 : Int) ≤ ((f.2.length + 1 : Nat) : Int) by omega)]
    simp only [Bool.and_self, Bool.not_true, Int.toNat_natCast]
    rw [show Int.toNat (1 : Int) = 1 from rfl]
    rw [decide_eq_true (show List.length ([] : List ByteArray) + List.length (cutL (tl (f :: r)) 1 (f.2.length + 1)) ≤ apCap by rw [c1]; show 0 + f.2.length ≤ 1073741824; omega)]
    simp only
    rw [decide_eq_true (show List.length acc + List.length ([(getL [s_66696c65, f.1, decS f.2.length] (1 : Int) ByteArray.empty, List.append ([] : List ByteArray) (cutL (tl (f :: r)) 1 (f.2.length + 1)))] : List (ByteArray × List ByteArray)) ≤ apCap by show acc.length + 1 ≤ 1073741824; omega)]
    simp only
    rw [c1, c2, show getL [s_66696c65, f.1, decS f.2.length] (1 : Int) ByteArray.empty = f.1 from rfl, show List.append ([] : List ByteArray) f.2 = f.2 from rfl]
    have e : acc ++ f :: r = (acc ++ [f]) ++ r := by simp
    rw [e]
    exact ih

theorem read_v (m : Nat) (hm : 10000000 ≤ m) (t : Tree) (ht : ∀ f ∈ t, FileOk f) (hl : t.length ≤ 1000) : impl_readFiles m (tl t, ()) = some (t, [], ()) := by
  have h := read_loop m hm t (m - (t.length + 2)) [] ht (by simpa using hl)
  rw [show m - (t.length + 2) + t.length + 2 = m by omega] at h
  exact h
end Go.Sx.Tryd
