/- A part of the pure law of FnTreeRead, over the printed functions: what they answer. No condition but those of each theorem. -/
import Derived.Test.YtpchbfkiingmjaaDoorTtrHL
import Derived.Test.YtpchbfkiingmjaaDoorTtrHM
import Derived.Test.YtpchbfkiingmjaaDoorTtrHO
import Derived.Test.YtpchbfkiingmjaaDoorSxD
namespace Go.Sx.Tryd
open Go Go.Proofs Go.Sx
set_option linter.unusedVariables false
set_option linter.unusedSimpArgs false

theorem treeT_small : ∀ (t : Tree) (acc : ByteArray), (∀ f ∈ t, f.1.size ≤ 20 ∧ f.2.length ≤ 10 ∧ ∀ s ∈ f.2, s.size ≤ 12) → (treeT acc t).size ≤ acc.size + 200 * t.length
  | [], acc, _ => by simp [treeT]
  | f :: r, acc, h => by
    obtain ⟨h1, h2, h3⟩ := h f (by simp)
    have a := headT_size acc f
    have b := linesT_size f.2 (headT acc f) h3
    have c := treeT_small r (linesT (headT acc f) f.2) (fun x hx => h x (by simp [hx]))
    simp only [treeT, List.length_cons]
    omega
theorem putV_size (t : Tree) : (putV t).size ≤ 1600 := by
  unfold putV
  cases h : treeB t with
  | false => show ByteArray.empty.size ≤ _; simp
  | true =>
    have h8 := (files_ok h).1
    have hf := tree_fileOk h
    have := treeT_small t ByteArray.empty (fun f hf' => ⟨(hf f hf').2.1, (hf f hf').2.2.1, fun s hs => line_size ((hf f hf').2.2.2 s hs)⟩)
    show (treeT ByteArray.empty t).size ≤ _
    simp only [ByteArray.size_empty] at this
    omega

theorem bent_k (m : Nat) {l : List Int} {p c : Int} (h : Rd l p c) (hc : c < 100000) (s : ByteArray) (hs : s.size ≤ 100000) : Ok (spec_l30Bent m (l, p, s, ())) (fun r => Rd r.1 r.2.1 (c + 3) ∧ r.2.2.1.size ≤ s.size + 3) := by
  have ca : cap = 140737488355328 := rfl
  show Ok (spec_l30Bent.start m () l p s) _
  unfold spec_l30Bent.start
  rw [show w64 (sLen s + 1) = ((s.size + 1 : Nat) : Int) from w64_succ (by omega)]
  refine ok_bind (pick_k m _ h (by omega) (by omega) (by omega)) (fun r1 h1 => ok_bind (pick_k m 5 h1.1 (by omega) (by omega) (by omega)) (fun r2 h2 => ?_))
  obtain ⟨k, hk⟩ := Int.eq_ofNat_of_zero_le h1.2.1
  have hk2 : ((k : Nat) : Int) < ((s.size + 1 : Nat) : Int) := by have := h1.2.2; rw [hk] at this; exact this
  rw [hk]
  have hcut : (cutS s 0 k).size ≤ s.size := cutS_size _ _ _
  cases (r2.2.2.1 == (0 : Int)) with
  | true =>
    refine ok_if (fun hlt => ?_) (fun _ => ok_some ⟨h2.1.mono (by omega), by show s.size ≤ _; omega⟩)
    have hlt : (k : Int) < (s.size : Int) := hlt
    refine ok_chk (show (0 : Int) ≤ (k : Int) by omega) (ok_chk (show (k : Int) ≤ (s.size : Int) by omega) (ok_bind (of_k m _ h2.1 (by omega) (by decide) (by decide)) (fun r3 h3 => ?_)))
    have h31 : r3.2.2.1.size = 1 := by
      have := h3.2
      simp only [List.mem_cons, List.not_mem_nil, or_false] at this
      rcases this with e | e | e | e | e | e | e | e | e <;> rw [e] <;> rfl
    rw [w64_succ (by omega)]
    have e1 : (ByteArray.append (cutS s 0 k) r3.2.2.1).size = (cutS s 0 k).size + 1 := by rw [append_size, h31]
    have hcut2 : (cutS s (k + 1) s.size).size ≤ s.size := cutS_size _ _ _
    have hA : (cutS s 0 k).size + (cutS s (k + 1) s.size).size ≤ s.size := by
      rw [← bL_len, ← bL_len, bL_cut, bL_cut, ← bL_len s]
      simp only [List.length_drop, List.length_take]
      omega
    refine ok_chk (by rw [h31]; simp only [Int.toNat_natCast]; omega) ?_
    refine ok_lett fun v hv => ok_chk (by omega) (ok_chk (by omega) (ok_lett fun u hu => ok_chk ?_ (ok_some ⟨h3.1.mono (by omega), ?_⟩)))
    · rw [hv, hu]
      simp only [Int.toNat_natCast]
      rw [e1]; omega
    · show (ByteArray.append v u).size ≤ _
      rw [append_size, hv, hu]
      simp only [Int.toNat_natCast]
      rw [e1]; omega
  | false =>
    cases (r2.2.2.1 == (1 : Int)) with
    | true =>
      refine ok_chk (show (k : Int) ≤ (s.size : Int) by omega) (ok_some ⟨h2.1.mono (by omega), ?_⟩)
      show (cutS s 0 (Int.toNat (k : Int))).size ≤ _
      rw [Int.toNat_natCast]; omega
    | false =>
      cases (r2.2.2.1 == (2 : Int)) with
      | true =>
        refine ok_bind (of_k m _ h2.1 (by omega) (by decide) (by decide)) (fun r3 h3 => ?_)
        have h31 : r3.2.2.1.size ≤ 3 := by
          have := h3.2
          simp only [List.mem_cons, List.not_mem_nil, or_false] at this
          rcases this with e | e | e | e | e <;> rw [e] <;> decide
        exact ok_chk (by omega) (ok_some ⟨h3.1.mono (by omega), by show (ByteArray.append s r3.2.2.1).size ≤ _; rw [append_size]; omega⟩)
      | false => exact ok_some ⟨h2.1.mono (by omega), by show s.size ≤ _; omega⟩

theorem draw_treeread (m : Nat) (hm : 10000000000000 ≤ m) (l : List Int) (hl : Byt l) : Ok (spec_DrawTreeRead m (l, ())) (fun r => r.1.size ≤ 2000) := by
  show Ok (spec_DrawTreeRead.start m _ l) _
  unfold spec_DrawTreeRead.start
  refine ok_bind (open_t m l hl) (fun r1 h1 => ok_bind (tree_k m hm h1 (by omega)) (fun r2 h2 => ?_))
  refine ok_bind (ok_eq (P := fun r => r.1.size ≤ 1600) (put_v m hm r2.2.2.1 (h2.2.sz (by omega))).1 (putV_size _)) (fun r3 h3 => ?_)
  refine ok_bind (pick_k m 2 h2.1 (by omega) (by omega) (by omega)) (fun r4 h4 => ?_)
  cases (r4.2.2.1 == (0 : Int)) with
  | true => exact ok_some (by show r3.1.size ≤ 2000; omega)
  | false => exact ok_bind (bent_k m h4.1 (by omega) r3.1 (by omega)) (fun r5 h5 => ok_some (by have := h5.2; show r5.2.2.1.size ≤ 2000; omega))

theorem law_TreeRead (l : List Int) (hbn : Bnd (.list (.int .u8)) l) : laws_FnTreeRead 10000000000000 (l, ()) = some (true, ()) := by
  have hb := byt_of hbn
  obtain ⟨r, hr, hs⟩ := draw_treeread 10000000000000 (by omega) l hb
  obtain ⟨s, u⟩ := r
  have hs : s.size ≤ 2000 := hs
  obtain ⟨t, b, h1, h2, h3, h4, h5⟩ := both_read 10000000000000 (by omega) (s := s) (by omega)
  have hsz : TreeSz t := bd_sz (by omega) h4
  have hsm := smTree_self 10000000000000 (by omega) t hsz
  have hT : ∀ c, (laws_FnTreeRead.tab 10000000000000 10000000000000).1 (s, t, b, t, b, c, ()) = cond c (some (true, ())) (Option.bind (impl_TreePut 10000000000000 (t, ())) fun r2 => cond (sEq r2.1 s) (Option.bind (impl_TreeOk 10000000000000 (t, ())) fun r3 => some (r3.1, ())) (some (false, ()))) := fun c => by
    show laws_FnTreeRead.b0 10000000000000 (laws_FnTreeRead.tab 10000000000000 9999999999999) s t b t b c = _
    unfold laws_FnTreeRead.b0
    rw [uppedF, hsm, beq_self_eq_true]
    rfl
  show laws_FnTreeRead.start 10000000000000 _ l = _
  unfold laws_FnTreeRead.start
  by_cases g1 : lLen l > 1048576
  · rw [decide_eq_true g1]; rfl
  rw [decide_eq_false g1, hr]
  simp only [cond, Option.bind_some]
  rw [h2]
  simp only [Option.bind_some]
  rw [h1]
  simp only [Option.bind_some]
  rw [uppedF, hsm, beq_self_eq_true]
  simp only [Option.bind_some, Bool.not_true]
  rw [hT]
  cases b with
  | false => rfl
  | true =>
    have hw := h5 rfl
    have hv : putV t = treeT ByteArray.empty t := by unfold putV; rw [hw.1]; rfl
    rw [(put_v 10000000000000 (by omega) t hsz).2, hv, impl_tree_v 10000000000000 t hsz (by omega), hw.1, hw.2]
    simp only [Option.bind_some, Bool.not_true, cond]
    rw [sEq_self]
end Go.Sx.Tryd
