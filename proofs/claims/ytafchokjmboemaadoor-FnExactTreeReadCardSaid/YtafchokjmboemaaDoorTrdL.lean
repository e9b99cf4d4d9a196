/- FnExactTreeRead returns true for every input, and the input reads as it did: of what the row lists nothing is used; the card ties it to the program. -/
import Derived.Test.YtafchokjmboemaaDoorTie
import Derived.Test.YtafchokjmboemaaDoorCards
import Derived.Test.YtafchokjmboemaaDoorTrdHL
import Derived.Test.YtafchokjmboemaaDoorSxD
import Derived.Test.YtafchokjmboemaaDoorTrdAT
import Derived.WalkKit
import Derived.ProofKit
import Derived.OpenShut
import Derived.ShutString
import Derived.ChangeOld
import Derived.Below
import Derived.SizedLaws
import Derived.LaidMore
import Derived.Lay
import Derived.SevenTiedAt
import Derived.Stop.Joined
namespace Go.Proofs.YtafchokjmboemaaDoor.fnExactTreeRead
open Go Go.ChangeShapes Go.WideShapes Go.ChangeAt Go.RowKit
open Go.ChangeMaps (open_string shut_string)
set_option linter.unusedVariables false
open Go.Sx in
theorem walk {a0 : ByteArray} {W : World} (w0 : a0.size ≤ 140737488351232) (hg : (errG 1 2).p (old W) W) :
    Calls Tryd.prog 8 #[.string a0] W fun e W' => e = .returned (.bool true) ∧ Below W.heap.size W W' :=
  law_walkG (Sx.Tryd.laws_FnExactTreeRead.ok (10000000000000)) (fn := Tryd.f8) Tryd.func8 (by kernel_rfl) (by kernel_rfl) (Sx.Tryd.law_TreeRead a0 w0) (es := [(0, .l (.dat (.str) a0))]) rfl rfl
    (fun t => match t with | 0 => ⟨rfl, Go.Sx.cap_str w0 (by decide)⟩ | t + 1 => trivial) hg
theorem own : ownKnob Tryd.prog.godebug = none := by kernel_rfl
theorem laidOut : laidOutB Tryd.prog = true := by kernel_rfl
set_option maxRecDepth 100000 in
theorem lifted (os : Os) (started : os.Started) (H : Type) (enc : TypeId × Value → H) :
    ReturnsInHanded {} Tryd.checked os 8 .any (fun w args => (Rows.fnExactTreeReadSpec.pre enc Tryd.prog Tryd.f8 Rows.fnExactTreeReadRow.domain false w args ∧ laidMetH Tryd.prog Rows.fnExactTreeReadRow.laid w) ∧ sizedMet enc Tryd.prog Tryd.f8 (OpenSpec.ofChange Rows.fnExactTreeReadSpec) false w args)
      (Rows.fnExactTreeReadSpec.post enc Tryd.prog Tryd.f8 false true false false) := by
  refine returnsInHanded_of_change_and (C := Tryd.checked) (X := fun w _ => laidMetH Tryd.prog Rows.fnExactTreeReadRow.laid w) (fun _ _ _ hh h => h.of_heap hh) own started (by kernel_rfl) Tryd.func8
    (ChangeSpec.witness_shaped (enc := enc) (C := Tryd.checked) (os := os) (X := fun w _ => laidMetH Tryd.prog Rows.fnExactTreeReadRow.laid w) false (World.laidAll Tryd.prog os Rows.fnExactTreeReadRow.laid) #[.string ByteArray.empty] 8 (World.laidAll_os _ _ _)
      (World.shaped_of_ZipB (by kernel_rfl) (by kernel_rfl)) (by kernel_rfl) (by kernel_rfl) (by kernel_rfl)
      (by rw [MakeChecks.laidMetH_plain _ _ _ (by kernel_rfl)]; exact laidMet_laidAll _ (by kernel_rfl) (by kernel_rfl))) ?_
  intro W base args ds gs before hval0 hW hcnd hsz0 hL _
  have hsz : (DataW.weightsEach Tryd.prog (Tryd.f8.params.toList ++ Rows.fnExactTreeReadSpec.plain.varTypes Tryd.prog) (ds ++ gs)).all (· ≤ reachBytes) = true := hsz0
  have hval : ∀ (j : Nat) t v, Tryd.f8.params[j]? = some t → args[j]? = some v → Value.okWide Tryd.prog W .any base t v := hval0
  have hW' := hW
  obtain ⟨p, q, hA0, hV, rfl, hfz, hnd⟩ := hW
  have hA : DataW.TrodAll enc Tryd.prog W 0 (fun _ => true) true Tryd.f8.params.toList args.toList ds p := hA0
  rw [Tryd.params8] at hA hval hsz
  obtain ⟨v0, vs0, d0, ds0, p0, q0, hargs, rfl, rfl, h0, r0⟩ := trodAll_cons hA
  obtain ⟨rfl, rfl, rfl⟩ := trodAll_nil r0
  obtain rfl : args = #[v0] := by cases args; simp_all
  obtain ⟨rfl, rfl⟩ := trodVars_none hV
  have hP := hL
  rw [MakeChecks.laidMetH_plain _ _ _ (by kernel_rfl)] at hP
  have h1 := Sx.laid_iface (n := "strconv.ErrSyntax") (hP.tail.tail.tail.tail.tail) (g := 1) (ti := 97) (ms := #[("Error", 94)]) (by kernel_rfl) (by kernel_rfl) (by kernel_rfl)
  have h2 := Sx.laid_iface (n := "strconv.ErrRange") (hP.tail.tail.tail.tail) (g := 2) (ti := 97) (ms := #[("Error", 94)]) (by kernel_rfl) (by kernel_rfl) (by kernel_rfl)
  have hg : (Sx.errG 1 2).p (Sx.old W) W := ⟨⟨h1.1, h1.2⟩, h2.1, h2.2⟩
  obtain ⟨a0, rfl, rfl, rfl, y0⟩ := open_string Tryd.underlying9 (hval 0 9 v0 rfl rfl) h0
  have w0 : a0.size ≤ 140737488351232 := by
    have z := sized_string hsz (j := 0) (t := 9) rfl rfl
    rw [Array.length_toList] at z
    exact z
  clear hA0 hval0 hsz0 hsz
  refine (walk w0 hg).mono fun e W' ⟨he, bel⟩ => ?_
  subst he
  exact ⟨_, rfl, _, _, _, [], _, [], hW', trodAll_mk1 (shut_bool Tryd.underlying4 _), (trodAll_cons_mk (shut_string Tryd.underlying9 y0) trodAll_mk0), rfl, bel.frame _, fun h => by cases h⟩
theorem over : Rows.fnExactTreeReadRow.holds Tryd.pinned (OpenSpec.ofChange Rows.fnExactTreeReadSpec) :=
  OpenClaim.holds_of_wide 8 Tryd.f8 rfl rfl rfl rfl rfl rfl rfl ⟨rfl, rfl, rfl, rfl, rfl⟩ rfl rfl rfl rfl rfl (by kernel_rfl) Tryd.func8 (by kernel_rfl)
    (of_decide_eq_true (by kernel_rfl)) (by unfold Func.isWrapper; first | (rw [if_pos (by decide +kernel)]; kernel_rfl) | (rw [if_neg (by decide +kernel)]; exact ⟨rfl, rfl⟩))
    (fun os started H enc _ => lifted os started H enc)
theorem proved : Rows.FnExactTreeReadCardSaid :=
  Claim7.holds_tied_plain_at .later [] [.data, .data, .data, .data, .sentinel, .sentinel, .pinned] true (true, "a7e9da8597d7c7a23eeee0832950e33af8103af7fdeaa22d69bb8b06204e2c85") true over (fun _ h => by cases h) (by kernel_rfl) (fun _ h => by cases h) fnExactTreeRead_row_tie rfl ⟨rfl, rfl⟩ (by kernel_rfl) rfl
    (fun f fn hf hfn => by
      obtain rfl : f = 8 := Option.some.inj ((show Tryd.prog.funcNamed "loop.example/stemma/laws.FnExactTreeRead" = some 8 by kernel_rfl).symm.trans hf) |>.symm
      obtain rfl : fn = Tryd.f8 := (Option.some.inj (Tryd.func8.symm.trans hfn)).symm
      exact ⟨by kernel_rfl, fun j t ht => by
        rw [Tryd.params8] at ht
        have hm : t ∈ [9] := by simpa using Array.mem_of_getElem? ht
        have hall : ([9].all fun u => !Tryd.prog.wantsStandIn u) = true := by kernel_rfl
        exact (show Tryd.prog.wantsStandIn t = false by simpa using List.all_eq_true.1 hall t hm)⟩)
    (by kernel_rfl)
#print axioms proved
end Go.Proofs.YtafchokjmboemaaDoor.fnExactTreeRead
