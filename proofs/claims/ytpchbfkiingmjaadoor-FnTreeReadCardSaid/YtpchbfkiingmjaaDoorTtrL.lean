/- FnTreeRead returns true for every input, and the input reads as it did: of what the row lists nothing is used; the card ties it to the program. -/
import Derived.Test.YtpchbfkiingmjaaDoorTie
import Derived.Test.YtpchbfkiingmjaaDoorCards
import Derived.Test.YtpchbfkiingmjaaDoorTtrHP
import Derived.Test.YtpchbfkiingmjaaDoorSxD
import Derived.Test.YtpchbfkiingmjaaDoorTtrAT6
import Derived.WalkKit
import Derived.ProofKit
import Derived.OpenShut
import Derived.ShutString
import Derived.ChangeOld
import Derived.Below
import Derived.SizedLaws
import Derived.LaidMore
import Derived.Lay
import Derived.SevenTiedAt
import Derived.Stop.Joined
namespace Go.Proofs.YtpchbfkiingmjaaDoor.fnTreeRead
open Go Go.ChangeShapes Go.WideShapes Go.ChangeAt Go.RowKit
open Go.ChangeMaps (open_string shut_string)
set_option linter.unusedVariables false
open Go.Sx in
theorem walk {a0 : Go.Sx.T.den (Go.Sx.T.list (.int .u8))} {v0 : Value} {W : World} (w0 : RdL (old W) W (.list (.int .u8)) a0 [v0]) (hg : (errG 0 1).p (old W) W) :
    Calls Tryd.prog 4 #[v0] W fun e W' => e = .returned (.bool true) ∧ Below W.heap.size W W' :=
  law_walkG (Sx.Tryd.laws_FnTreeRead.ok (10000000000000)) (fn := Tryd.f4) Tryd.func4 (by kernel_rfl) (by kernel_rfl) (Sx.Tryd.law_TreeRead a0 (RdL.bnd w0)) (es := [(0, .l (.dat (.list (.int .u8)) a0))]) rfl rfl
    (fun t => match t with | 0 => w0 | t + 1 => trivial) hg
theorem own : ownKnob Tryd.prog.godebug = none := by kernel_rfl
theorem laidOut : laidOutB Tryd.prog = true := by kernel_rfl
set_option maxRecDepth 100000 in
theorem lifted (os : Os) (started : os.Started) (H : Type) (enc : TypeId × Value → H) :
    ReturnsInHanded {} Tryd.checked os 4 .any (fun w args => (Rows.fnTreeReadSpec.pre enc Tryd.prog Tryd.f4 Rows.fnTreeReadRow.domain false w args ∧ laidMetH Tryd.prog Rows.fnTreeReadRow.laid w) ∧ sizedMet enc Tryd.prog Tryd.f4 (OpenSpec.ofChange Rows.fnTreeReadSpec) false w args)
      (Rows.fnTreeReadSpec.post enc Tryd.prog Tryd.f4 false true false false) := by
  refine returnsInHanded_of_change_and (C := Tryd.checked) (X := fun w _ => laidMetH Tryd.prog Rows.fnTreeReadRow.laid w) (fun _ _ _ hh h => h.of_heap hh) own started (by kernel_rfl) Tryd.func4
    (ChangeSpec.witness_shaped (enc := enc) (C := Tryd.checked) (os := os) (X := fun w _ => laidMetH Tryd.prog Rows.fnTreeReadRow.laid w) false (World.laidAll Tryd.prog os Rows.fnTreeReadRow.laid) #[.slice none 0 0] 8 (World.laidAll_os _ _ _)
      (World.shaped_of_ZipB (by kernel_rfl) (by kernel_rfl)) (by kernel_rfl) (by kernel_rfl) (by kernel_rfl)
      (by rw [MakeChecks.laidMetH_plain _ _ _ (by kernel_rfl)]; exact laidMet_laidAll _ (by kernel_rfl) (by kernel_rfl))) ?_
  intro W base args ds gs before hval0 hW hcnd hsz0 hL _
  have hsz : (DataW.weightsEach Tryd.prog (Tryd.f4.params.toList ++ Rows.fnTreeReadSpec.plain.varTypes Tryd.prog) (ds ++ gs)).all (· ≤ reachBytes) = true := hsz0
  have hval : ∀ (j : Nat) t v, Tryd.f4.params[j]? = some t → args[j]? = some v → Value.okWide Tryd.prog W .any base t v := hval0
  have hW' := hW
  obtain ⟨p, q, hA0, hV, rfl, hfz, hnd⟩ := hW
  have hA : DataW.TrodAll enc Tryd.prog W 0 (fun _ => true) true Tryd.f4.params.toList args.toList ds p := hA0
  rw [Tryd.params4] at hA hval hsz
  obtain ⟨v0, vs0, d0, ds0, p0, q0, hargs, rfl, rfl, h0, r0⟩ := trodAll_cons hA
  obtain ⟨rfl, rfl, rfl⟩ := trodAll_nil r0
  obtain rfl : args = #[v0] := by cases args; simp_all
  obtain ⟨rfl, rfl⟩ := trodVars_none hV
  have hP := hL
  rw [MakeChecks.laidMetH_plain _ _ _ (by kernel_rfl)] at hP
  have h1 := Sx.laid_iface (n := "strconv.ErrSyntax") (hP.tail.tail.tail.tail.tail) (g := 0) (ti := 81) (ms := #[("Error", 85)]) (by kernel_rfl) (by kernel_rfl) (by kernel_rfl)
  have h2 := Sx.laid_iface (n := "strconv.ErrRange") (hP.tail.tail.tail.tail) (g := 1) (ti := 81) (ms := #[("Error", 85)]) (by kernel_rfl) (by kernel_rfl) (by kernel_rfl)
  have hg : (Sx.errG 0 1).p (Sx.old W) W := ⟨⟨h1.1, h1.2⟩, h2.1, h2.2⟩
  obtain ⟨b0, len0, cap0, rfl⟩ := okWide_slice Tryd.underlying22 (hval 0 22 v0 rfl rfl)
  have k0 := h0
  have lt0 : ∀ x ∈ p0, x.block < W.heap.size := by obtain ⟨m, hm⟩ := k0; exact DataW.trod_lt m _ _ _ hm
  obtain ⟨a0, w0⟩ := Sx.arg_read (n := 12) (t := 22) (T := .list (.int .u8)) (by kernel_rfl) hsz (j := 0) rfl rfl h0
  clear hA0 hval0 hsz0 hsz
  refine (walk w0 hg).mono fun e W' ⟨he, bel⟩ => ?_
  subst he
  exact ⟨_, rfl, _, _, _, [], _, [], hW', trodAll_mk1 (shut_bool Tryd.underlying4 _), (trodAll_cons_mk (Below.trod laidOut (by kernel_rfl) (of_decide_eq_true (by kernel_rfl)) k0 bel lt0) trodAll_mk0), rfl, bel.frame _, fun h => by cases h⟩
theorem over : Rows.fnTreeReadRow.holds Tryd.pinned (OpenSpec.ofChange Rows.fnTreeReadSpec) :=
  OpenClaim.holds_of_wide 4 Tryd.f4 rfl rfl rfl rfl rfl rfl rfl ⟨rfl, rfl, rfl, rfl, rfl⟩ rfl rfl rfl rfl rfl (by kernel_rfl) Tryd.func4 (by kernel_rfl)
    (of_decide_eq_true (by kernel_rfl)) (by unfold Func.isWrapper; first | (rw [if_pos (by decide +kernel)]; kernel_rfl) | (rw [if_neg (by decide +kernel)]; exact ⟨rfl, rfl⟩))
    (fun os started H enc _ => lifted os started H enc)
theorem proved : Rows.FnTreeReadCardSaid :=
  Claim7.holds_tied_plain_at .later [] [.data, .data, .data, .data, .sentinel, .sentinel, .pinned] true (true, "e1257d35dbe9716a4394aa8a560f255a04cc73055a4777d2dbb730dee20689c1") true over (fun _ h => by cases h) (by kernel_rfl) (fun _ h => by cases h) fnTreeRead_row_tie rfl ⟨rfl, rfl⟩ (by kernel_rfl) rfl
    (fun f fn hf hfn => by
      obtain rfl : f = 4 := Option.some.inj ((show Tryd.prog.funcNamed "loop.example/stemma/laws.FnTreeRead" = some 4 by kernel_rfl).symm.trans hf) |>.symm
      obtain rfl : fn = Tryd.f4 := (Option.some.inj (Tryd.func4.symm.trans hfn)).symm
      exact ⟨by kernel_rfl, fun j t ht => by
        rw [Tryd.params4] at ht
        have hm : t ∈ [22] := by simpa using Array.mem_of_getElem? ht
        have hall : ([22].all fun u => !Tryd.prog.wantsStandIn u) = true := by kernel_rfl
        exact (show Tryd.prog.wantsStandIn t = false by simpa using List.all_eq_true.1 hall t hm)⟩)
    (by kernel_rfl)
#print axioms proved
end Go.Proofs.YtpchbfkiingmjaaDoor.fnTreeRead
