/- FnExactRepoPut returns true for every input, and the input reads as it did: of what the row lists nothing is used; the card ties it to the program. -/
import Derived.Test.YtafchokjmboemaaGreatDoorTie
import Derived.Test.YtafchokjmboemaaGreatDoorCards
import Derived.Test.YtafchokjmboemaaGreatDoorRptHK
import Derived.Test.YtafchokjmboemaaGreatDoorSxD
import Derived.WalkKit
import Derived.ProofKit
import Derived.OpenShut
import Derived.ShutString
import Derived.ChangeOld
import Derived.Below
import Derived.SizedLaws
import Derived.LaidMore
import Derived.Lay
import Derived.SevenTiedAt
import Derived.Stop.Joined
namespace Go.Proofs.YtafchokjmboemaaGreatDoor.fnExactRepoPut
open Go Go.ChangeShapes Go.WideShapes Go.ChangeAt Go.RowKit
open Go.ChangeMaps (open_string shut_string)
set_option linter.unusedVariables false
open Go.Sx in
theorem walk {a0 : Go.Sx.T.den (Go.Sx.T.pair (.list (.pair (.list (.int .i64)) (.pair (.str) (.list (.pair (.str) (.list (.str))))))) (.list (.pair (.str) (.int .i64))))} {v0 : Array Value} {W : World} (w0 : RdL (old W) W (.pair (.list (.pair (.list (.int .i64)) (.pair (.str) (.list (.pair (.str) (.list (.str))))))) (.list (.pair (.str) (.int .i64)))) a0 (Value.agg v0).cells.toList) :
    Calls Tryz.prog 4 #[.agg v0] W fun e W' => e = .returned (.bool true) ∧ Below W.heap.size W W' :=
  law_walk (Sx.Tryz.laws_FnExactRepoPut.ok (10000000000000)) (fn := Tryz.f4) Tryz.func4 (by kernel_rfl) (by kernel_rfl) (Sx.Tryz.law_RepoPut a0.1 a0.2 (RdL.bnd w0).1 (RdL.bnd w0).2) (es := [(0, .agg [.dat (.list (.pair (.list (.int .i64)) (.pair (.str) (.list (.pair (.str) (.list (.str))))))) a0.1, .dat (.list (.pair (.str) (.int .i64))) a0.2])]) rfl rfl
    (fun t => match t with | 0 => agg_read w0 | t + 1 => trivial)
theorem own : ownKnob Tryz.prog.godebug = none := by kernel_rfl
theorem laidOut : laidOutB Tryz.prog = true := by kernel_rfl
set_option maxRecDepth 100000 in
theorem lifted (os : Os) (started : os.Started) (H : Type) (enc : TypeId × Value → H) :
    ReturnsInHanded {} Tryz.checked os 4 .any (fun w args => (Rows.fnExactRepoPutSpec.pre enc Tryz.prog Tryz.f4 Rows.fnExactRepoPutRow.domain false w args ∧ laidMetH Tryz.prog Rows.fnExactRepoPutRow.laid w) ∧ sizedMet enc Tryz.prog Tryz.f4 (OpenSpec.ofChange Rows.fnExactRepoPutSpec) false w args)
      (Rows.fnExactRepoPutSpec.post enc Tryz.prog Tryz.f4 false true false false) := by
  refine returnsInHanded_of_change_and (C := Tryz.checked) (X := fun w _ => laidMetH Tryz.prog Rows.fnExactRepoPutRow.laid w) (fun _ _ _ hh h => h.of_heap hh) own started (by kernel_rfl) Tryz.func4
    (ChangeSpec.witness_shaped (enc := enc) (C := Tryz.checked) (os := os) (X := fun w _ => laidMetH Tryz.prog Rows.fnExactRepoPutRow.laid w) false (World.laidAll Tryz.prog os Rows.fnExactRepoPutRow.laid) #[.agg #[.slice none 0 0, .slice none 0 0]] 8 (World.laidAll_os _ _ _)
      (World.shaped_of_ZipB (by kernel_rfl) (by kernel_rfl)) (by kernel_rfl) (by kernel_rfl) (by kernel_rfl)
      (by rw [MakeChecks.laidMetH_plain _ _ _ (by kernel_rfl)]; exact laidMet_laidAll _ (by kernel_rfl) (by kernel_rfl))) ?_
  intro W base args ds gs before hval0 hW hcnd hsz0 hL _
  have hsz : (DataW.weightsEach Tryz.prog (Tryz.f4.params.toList ++ Rows.fnExactRepoPutSpec.plain.varTypes Tryz.prog) (ds ++ gs)).all (· ≤ reachBytes) = true := hsz0
  have hval : ∀ (j : Nat) t v, Tryz.f4.params[j]? = some t → args[j]? = some v → Value.okWide Tryz.prog W .any base t v := hval0
  have hW' := hW
  obtain ⟨p, q, hA0, hV, rfl, hfz, hnd⟩ := hW
  have hA : DataW.TrodAll enc Tryz.prog W 0 (fun _ => true) true Tryz.f4.params.toList args.toList ds p := hA0
  rw [Tryz.params4] at hA hval hsz
  obtain ⟨v0, vs0, d0, ds0, p0, q0, hargs, rfl, rfl, h0, r0⟩ := trodAll_cons hA
  obtain ⟨rfl, rfl, rfl⟩ := trodAll_nil r0
  obtain rfl : args = #[v0] := by cases args; simp_all
  obtain ⟨rfl, rfl⟩ := trodVars_none hV
  obtain ⟨c0, rfl, _⟩ := okWide_struct Tryz.underlying25 (hval 0 25 v0 rfl rfl)
  have k0 := h0
  have lt0 : ∀ x ∈ p0, x.block < W.heap.size := by obtain ⟨m, hm⟩ := k0; exact DataW.trod_lt m _ _ _ hm
  obtain ⟨a0, w0⟩ := Sx.arg_read (n := 12) (t := 25) (T := .pair (.list (.pair (.list (.int .i64)) (.pair (.str) (.list (.pair (.str) (.list (.str))))))) (.list (.pair (.str) (.int .i64)))) (by kernel_rfl) hsz (j := 0) rfl rfl h0
  clear hA0 hval0 hsz0 hsz
  refine (walk w0).mono fun e W' ⟨he, bel⟩ => ?_
  subst he
  exact ⟨_, rfl, _, _, _, [], _, [], hW', trodAll_mk1 (shut_bool Tryz.underlying4 _), (trodAll_cons_mk (Below.trod laidOut (by kernel_rfl) (of_decide_eq_true (by kernel_rfl)) k0 bel lt0) trodAll_mk0), rfl, bel.frame _, fun h => by cases h⟩
theorem over : Rows.fnExactRepoPutRow.holds Tryz.pinned (OpenSpec.ofChange Rows.fnExactRepoPutSpec) :=
  OpenClaim.holds_of_wide 4 Tryz.f4 rfl rfl rfl rfl rfl rfl rfl ⟨rfl, rfl, rfl, rfl, rfl⟩ rfl rfl rfl rfl rfl (by kernel_rfl) Tryz.func4 (by kernel_rfl)
    (of_decide_eq_true (by kernel_rfl)) (by unfold Func.isWrapper; first | (rw [if_pos (by decide +kernel)]; kernel_rfl) | (rw [if_neg (by decide +kernel)]; exact ⟨rfl, rfl⟩))
    (fun os started H enc _ => lifted os started H enc)
theorem proved : Rows.FnExactRepoPutCardSaid :=
  Claim7.holds_tied_plain_at .later [] [.data, .data, .data, .data, .pinned] true (true, "c8888540dd70d582cc93c41be1abc9e7ace5a7a8cafec0fa5a3af89e8e3e81d0") false over (fun _ h => by cases h) (by kernel_rfl) (fun _ h => by cases h) fnExactRepoPut_row_tie rfl ⟨rfl, rfl⟩ (by kernel_rfl) rfl
    (fun f fn hf hfn => by
      obtain rfl : f = 4 := Option.some.inj ((show Tryz.prog.funcNamed "loop.example/stemma/laws.FnExactRepoPut" = some 4 by kernel_rfl).symm.trans hf) |>.symm
      obtain rfl : fn = Tryz.f4 := (Option.some.inj (Tryz.func4.symm.trans hfn)).symm
      exact ⟨by kernel_rfl, fun j t ht => by
        rw [Tryz.params4] at ht
        have hm : t ∈ [25] := by simpa using Array.mem_of_getElem? ht
        have hall : ([25].all fun u => !Tryz.prog.wantsStandIn u) = true := by kernel_rfl
        exact (show Tryz.prog.wantsStandIn t = false by simpa using List.all_eq_true.1 hall t hm)⟩)
    (by kernel_rfl)
#print axioms proved
end Go.Proofs.YtafchokjmboemaaGreatDoor.fnExactRepoPut
