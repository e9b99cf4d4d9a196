/- The functions that FnExactRepoPut reaches, as plain Lean functions, and that the program's functions do what these say: no condition. Printed by wip/gen/sx.py. -/
import Derived.Test.YtafchokjmboemaaGreatDoorRptGA
namespace Go.Sx.Tryz
open Go Go.Proofs Go.Sx
set_option linter.unusedVariables false
noncomputable section
/-! ### loop.example/stemma/laws.eqCommitS: function 83 -/
abbrev laws_eqCommitS.R : Type := Den [.bool]
def laws_eqCommitS.sig : Sig := ⟨2, ⟨[], [(0, .l (.dat (.sp (.pair (.sp (.int .i64)) (.pair (.str) (.sp (.pair (.str) (.sp (.str))))))))), (1, .l (.dat (.sp (.pair (.sp (.int .i64)) (.pair (.str) (.sp (.pair (.str) (.sp (.str)))))))))]⟩, [.sp (.pair (.sp (.int .i64)) (.pair (.str) (.sp (.pair (.str) (.sp (.str)))))), .sp (.pair (.sp (.int .i64)) (.pair (.str) (.sp (.pair (.str) (.sp (.str))))))], ⟨[], [(0, .l (.dat (.bool)))]⟩, [.bool]⟩
abbrev laws_eqCommitS.Tab : Type := (Den [.sp (.pair (.sp (.int .i64)) (.pair (.str) (.sp (.pair (.str) (.sp (.str)))))), .sp (.pair (.sp (.int .i64)) (.pair (.str) (.sp (.pair (.str) (.sp (.str)))))), .int .i64] → Option laws_eqCommitS.R) × Unit
def laws_eqCommitS.start (m : Nat) (t : laws_eqCommitS.Tab) (x0 : List ((List Int × Nat) × ByteArray × (List (ByteArray × (List ByteArray × Nat)) × Nat)) × Nat) (x1 : List ((List Int × Nat) × ByteArray × (List (ByteArray × (List ByteArray × Nat)) × Nat)) × Nat) : Option laws_eqCommitS.R :=
  cond ((x0.2 : Int) != (x1.2 : Int)) (some (false, ())) (t.1 (x0, x1, (0 : Int), ()))
def laws_eqCommitS.b0 (m : Nat) (t : laws_eqCommitS.Tab) (a0 : List ((List Int × Nat) × ByteArray × (List (ByteArray × (List ByteArray × Nat)) × Nat)) × Nat) (a1 : List ((List Int × Nat) × ByteArray × (List (ByteArray × (List ByteArray × Nat)) × Nat)) × Nat) (a2 : Int) : Option laws_eqCommitS.R :=
  cond (decide (a2 < (a0.2 : Int))) (cond (decide ((0 : Int) ≤ a2)) (cond (decide (a2 < (a0.2 : Int))) (lett ((getL a0.1 a2 ((([] : List Int), (0 : Nat)), ByteArray.empty, ([] : List (ByteArray × (List ByteArray × Nat))), (0 : Nat))) : (List Int × Nat) × ByteArray × (List (ByteArray × (List ByteArray × Nat)) × Nat)) fun v1 => cond (decide ((0 : Int) ≤ a2)) (cond (decide (a2 < (a1.2 : Int))) (lett ((getL a1.1 a2 ((([] : List Int), (0 : Nat)), ByteArray.empty, ([] : List (ByteArray × (List ByteArray × Nat))), (0 : Nat))) : (List Int × Nat) × ByteArray × (List (ByteArray × (List ByteArray × Nat)) × Nat)) fun v2 => Option.bind (laws_eqCommit m (v1.1, v1.2.1, v1.2.2, v2.1, v2.2.1, v2.2.2, ())) fun r3 => cond (!r3.1) (some (false, ())) (t.1 (a0, a1, (w64 (a2 + (1 : Int))), ()))) none) none) none) none) (some (true, ()))
def laws_eqCommitS.tab (m : Nat) : Nat → laws_eqCommitS.Tab
  | 0 => (fun _ => none, ())
  | k + 1 => (fun x => laws_eqCommitS.b0 m (laws_eqCommitS.tab m k) x.1 x.2.1 x.2.2.1, ())
def laws_eqCommitS (m : Nat) (x : Den [.sp (.pair (.sp (.int .i64)) (.pair (.str) (.sp (.pair (.str) (.sp (.str)))))), .sp (.pair (.sp (.int .i64)) (.pair (.str) (.sp (.pair (.str) (.sp (.str))))))]) : Option laws_eqCommitS.R := laws_eqCommitS.start m (laws_eqCommitS.tab m m) x.1 x.2.1
def laws_eqCommitS.cons (m : Nat) : List (Nat × Contract) := [(115, ⟨laws_eqCommit.sig, laws_eqCommit m⟩)]
def laws_eqCommitS.cuts (m : Nat) : List (CutF (Den laws_eqCommitS.sig.us)) := [⟨[false, true, false, true, true], 58, ⟨[], [(0, .l (.dat (.sp (.pair (.sp (.int .i64)) (.pair (.str) (.sp (.pair (.str) (.sp (.str))))))))), (1, .l (.dat (.sp (.pair (.sp (.int .i64)) (.pair (.str) (.sp (.pair (.str) (.sp (.str))))))))), (5, .l (.dat (.int .i64)))]⟩, [.sp (.pair (.sp (.int .i64)) (.pair (.str) (.sp (.pair (.str) (.sp (.str)))))), .sp (.pair (.sp (.int .i64)) (.pair (.str) (.sp (.pair (.str) (.sp (.str)))))), .int .i64], fun k => (laws_eqCommitS.tab m k).1⟩]
theorem laws_eqCommitS.eq0 (m k : Nat) (x : Den [.sp (.pair (.sp (.int .i64)) (.pair (.str) (.sp (.pair (.str) (.sp (.str)))))), .sp (.pair (.sp (.int .i64)) (.pair (.str) (.sp (.pair (.str) (.sp (.str)))))), .int .i64]) : (laws_eqCommitS.tab m (k + 1)).1 x = runF ⟨lookΓ Γs, lookC (laws_eqCommitS.cons m), false⟩ Tryz.f83 laws_eqCommitS.sig (laws_eqCommitS.cuts m) k [false, true, false, true, true] ⟨[], [(0, .l (.dat (.sp (.pair (.sp (.int .i64)) (.pair (.str) (.sp (.pair (.str) (.sp (.str))))))))), (1, .l (.dat (.sp (.pair (.sp (.int .i64)) (.pair (.str) (.sp (.pair (.str) (.sp (.str))))))))), (5, .l (.dat (.int .i64)))]⟩ [.sp (.pair (.sp (.int .i64)) (.pair (.str) (.sp (.pair (.str) (.sp (.str)))))), .sp (.pair (.sp (.int .i64)) (.pair (.str) (.sp (.pair (.str) (.sp (.str)))))), .int .i64] x := by kernel_rfl
theorem laws_eqCommitS.eq (m : Nat) (x : Den laws_eqCommitS.sig.ts) : laws_eqCommitS m x = startF ⟨lookΓ Γs, lookC (laws_eqCommitS.cons m), false⟩ Tryz.f83 laws_eqCommitS.sig (laws_eqCommitS.cuts m) m x := by kernel_rfl
theorem laws_eqCommitS.ok (m : Nat) : Meets Tryz.prog 83 laws_eqCommitS.sig (laws_eqCommitS m) :=
  fn_is (cx_is tyOks mixed (l := laws_eqCommitS.cons m) ⟨laws_eqCommit.ok m, trivial⟩) (fn := Tryz.f83) Tryz.func83 (by kernel_rfl) (cl := laws_eqCommitS.cuts m) ⟨⟨by kernel_rfl, fun _ => rfl, fun k x => laws_eqCommitS.eq0 m k x⟩, trivial⟩ (k := m) (laws_eqCommitS.eq m)

/-! ### loop.example/stemma/laws.intactCommitS: function 43 -/
abbrev laws_intactCommitS.R : Type := Den [.bool]
def laws_intactCommitS.sig : Sig := ⟨2, ⟨[], [(0, .l (.dat (.sp (.pair (.sp (.int .i64)) (.pair (.str) (.sp (.pair (.str) (.sp (.str))))))))), (1, .l (.dat (.sp (.pair (.sp (.int .i64)) (.pair (.str) (.sp (.pair (.str) (.sp (.str)))))))))]⟩, [.sp (.pair (.sp (.int .i64)) (.pair (.str) (.sp (.pair (.str) (.sp (.str)))))), .sp (.pair (.sp (.int .i64)) (.pair (.str) (.sp (.pair (.str) (.sp (.str))))))], ⟨[], [(0, .l (.dat (.bool)))]⟩, [.bool]⟩
abbrev laws_intactCommitS.Tab : Type := (Den [.sp (.pair (.sp (.int .i64)) (.pair (.str) (.sp (.pair (.str) (.sp (.str)))))), .sp (.pair (.sp (.int .i64)) (.pair (.str) (.sp (.pair (.str) (.sp (.str)))))), .int .i64, .int .i64] → Option laws_intactCommitS.R) × Unit
def laws_intactCommitS.start (m : Nat) (t : laws_intactCommitS.Tab) (x0 : List ((List Int × Nat) × ByteArray × (List (ByteArray × (List ByteArray × Nat)) × Nat)) × Nat) (x1 : List ((List Int × Nat) × ByteArray × (List (ByteArray × (List ByteArray × Nat)) × Nat)) × Nat) : Option laws_intactCommitS.R :=
  Option.bind (laws_roomBehind m ((x1.2 : Int), ())) fun r1 => cond ((x0.2 : Int) != (x1.2 : Int)) (some (false, ())) (t.1 (x0, x1, (w64 ((x1.2 : Int) + r1.1)), (0 : Int), ()))
def laws_intactCommitS.b0 (m : Nat) (t : laws_intactCommitS.Tab) (a0 : List ((List Int × Nat) × ByteArray × (List (ByteArray × (List ByteArray × Nat)) × Nat)) × Nat) (a1 : List ((List Int × Nat) × ByteArray × (List (ByteArray × (List ByteArray × Nat)) × Nat)) × Nat) (a2 : Int) (a3 : Int) : Option laws_intactCommitS.R :=
  cond (decide (a3 < (a1.2 : Int))) (cond (decide ((0 : Int) ≤ a3)) (cond (decide (a3 < (a0.2 : Int))) (lett ((getL a0.1 a3 ((([] : List Int), (0 : Nat)), ByteArray.empty, ([] : List (ByteArray × (List ByteArray × Nat))), (0 : Nat))) : (List Int × Nat) × ByteArray × (List (ByteArray × (List ByteArray × Nat)) × Nat)) fun v1 => cond (decide ((0 : Int) ≤ a3)) (cond (decide (a3 < (a1.2 : Int))) (lett ((getL a1.1 a3 ((([] : List Int), (0 : Nat)), ByteArray.empty, ([] : List (ByteArray × (List ByteArray × Nat))), (0 : Nat))) : (List Int × Nat) × ByteArray × (List (ByteArray × (List ByteArray × Nat)) × Nat)) fun v2 => Option.bind (laws_intactCommit m (v1.1, v1.2.1, v1.2.2, v2.1, v2.2.1, v2.2.2, ())) fun r3 => cond (!r3.1) (some (false, ())) (t.1 (a0, a1, a2, (w64 (a3 + (1 : Int))), ()))) none) none) none) none) (cond (decide ((0 : Int) ≤ a2)) (cond (decide (a2 ≤ ((List.length a0.1) : Int))) (cond (decide ((0 : Int) ≤ (a1.2 : Int))) (cond (decide ((a1.2 : Int) ≤ a2)) (lett ((cutL a0.1 (Int.toNat (a1.2 : Int)) (Int.toNat a2)) : List ((List Int × Nat) × ByteArray × (List (ByteArray × (List ByteArray × Nat)) × Nat))) fun v4 => cond (decide ((0 : Int) ≤ a2)) (cond (decide (a2 ≤ ((List.length a1.1) : Int))) (cond (decide ((0 : Int) ≤ (a1.2 : Int))) (cond (decide ((a1.2 : Int) ≤ a2)) (lett ((cutL a1.1 (Int.toNat (a1.2 : Int)) (Int.toNat a2)) : List ((List Int × Nat) × ByteArray × (List (ByteArray × (List ByteArray × Nat)) × Nat))) fun v5 => Option.bind (laws_eqCommitS m ((v4, (List.length v4)), (v5, (List.length v5)), ())) fun r6 => some (r6.1, ())) none) none) none) none) none) none) none) none)
def laws_intactCommitS.tab (m : Nat) : Nat → laws_intactCommitS.Tab
  | 0 => (fun _ => none, ())
  | k + 1 => (fun x => laws_intactCommitS.b0 m (laws_intactCommitS.tab m k) x.1 x.2.1 x.2.2.1 x.2.2.2.1, ())
def laws_intactCommitS (m : Nat) (x : Den [.sp (.pair (.sp (.int .i64)) (.pair (.str) (.sp (.pair (.str) (.sp (.str)))))), .sp (.pair (.sp (.int .i64)) (.pair (.str) (.sp (.pair (.str) (.sp (.str))))))]) : Option laws_intactCommitS.R := laws_intactCommitS.start m (laws_intactCommitS.tab m m) x.1 x.2.1
def laws_intactCommitS.cons (m : Nat) : List (Nat × Contract) := [(50, ⟨laws_roomBehind.sig, laws_roomBehind m⟩), (82, ⟨laws_intactCommit.sig, laws_intactCommit m⟩), (83, ⟨laws_eqCommitS.sig, laws_eqCommitS m⟩)]
def laws_intactCommitS.cuts (m : Nat) : List (CutF (Den laws_intactCommitS.sig.us)) := [⟨[false, true, false, true, true, true], 122, ⟨[], [(0, .l (.dat (.sp (.pair (.sp (.int .i64)) (.pair (.str) (.sp (.pair (.str) (.sp (.str))))))))), (1, .l (.dat (.sp (.pair (.sp (.int .i64)) (.pair (.str) (.sp (.pair (.str) (.sp (.str))))))))), (5, .l (.dat (.int .i64))), (6, .l (.dat (.int .i64)))]⟩, [.sp (.pair (.sp (.int .i64)) (.pair (.str) (.sp (.pair (.str) (.sp (.str)))))), .sp (.pair (.sp (.int .i64)) (.pair (.str) (.sp (.pair (.str) (.sp (.str)))))), .int .i64, .int .i64], fun k => (laws_intactCommitS.tab m k).1⟩]
theorem laws_intactCommitS.eq0 (m k : Nat) (x : Den [.sp (.pair (.sp (.int .i64)) (.pair (.str) (.sp (.pair (.str) (.sp (.str)))))), .sp (.pair (.sp (.int .i64)) (.pair (.str) (.sp (.pair (.str) (.sp (.str)))))), .int .i64, .int .i64]) : (laws_intactCommitS.tab m (k + 1)).1 x = runF ⟨lookΓ Γs, lookC (laws_intactCommitS.cons m), false⟩ Tryz.f43 laws_intactCommitS.sig (laws_intactCommitS.cuts m) k [false, true, false, true, true, true] ⟨[], [(0, .l (.dat (.sp (.pair (.sp (.int .i64)) (.pair (.str) (.sp (.pair (.str) (.sp (.str))))))))), (1, .l (.dat (.sp (.pair (.sp (.int .i64)) (.pair (.str) (.sp (.pair (.str) (.sp (.str))))))))), (5, .l (.dat (.int .i64))), (6, .l (.dat (.int .i64)))]⟩ [.sp (.pair (.sp (.int .i64)) (.pair (.str) (.sp (.pair (.str) (.sp (.str)))))), .sp (.pair (.sp (.int .i64)) (.pair (.str) (.sp (.pair (.str) (.sp (.str)))))), .int .i64, .int .i64] x := by kernel_rfl
theorem laws_intactCommitS.eq (m : Nat) (x : Den laws_intactCommitS.sig.ts) : laws_intactCommitS m x = startF ⟨lookΓ Γs, lookC (laws_intactCommitS.cons m), false⟩ Tryz.f43 laws_intactCommitS.sig (laws_intactCommitS.cuts m) m x := by kernel_rfl
theorem laws_intactCommitS.ok (m : Nat) : Meets Tryz.prog 43 laws_intactCommitS.sig (laws_intactCommitS m) :=
  fn_is (cx_is tyOks mixed (l := laws_intactCommitS.cons m) ⟨laws_roomBehind.ok m, laws_intactCommit.ok m, laws_eqCommitS.ok m, trivial⟩) (fn := Tryz.f43) Tryz.func43 (by kernel_rfl) (cl := laws_intactCommitS.cuts m) ⟨⟨by kernel_rfl, fun _ => rfl, fun k x => laws_intactCommitS.eq0 m k x⟩, trivial⟩ (k := m) (laws_intactCommitS.eq m)

/-! ### loop.example/stemma/laws.eqHead: function 57 -/
abbrev laws_eqHead.R : Type := Den [.bool]
def laws_eqHead.sig : Sig := ⟨2, ⟨[], [(0, .agg [.dat (.str), .dat (.int .i64)]), (1, .agg [.dat (.str), .dat (.int .i64)])]⟩, [.str, .int .i64, .str, .int .i64], ⟨[], [(0, .l (.dat (.bool)))]⟩, [.bool]⟩
abbrev laws_eqHead.Tab : Type := Unit
def laws_eqHead.start (m : Nat) (t : laws_eqHead.Tab) (x0 : ByteArray) (x1 : Int) (x2 : ByteArray) (x3 : Int) : Option laws_eqHead.R :=
  cond (!sEq x0 x2) (some (false, ())) (cond (x1 != x3) (some (false, ())) (some (true, ())))
def laws_eqHead.tab (m : Nat) : Nat → laws_eqHead.Tab
  | 0 => (())
  | k + 1 => (())
def laws_eqHead (m : Nat) (x : Den [.str, .int .i64, .str, .int .i64]) : Option laws_eqHead.R := laws_eqHead.start m (laws_eqHead.tab m m) x.1 x.2.1 x.2.2.1 x.2.2.2.1
def laws_eqHead.cons (m : Nat) : List (Nat × Contract) := []
def laws_eqHead.cuts (m : Nat) : List (CutF (Den laws_eqHead.sig.us)) := []
theorem laws_eqHead.eq (m : Nat) (x : Den laws_eqHead.sig.ts) : laws_eqHead m x = startF ⟨lookΓ Γs, lookC (laws_eqHead.cons m), false⟩ Tryz.f57 laws_eqHead.sig (laws_eqHead.cuts m) m x := by kernel_rfl
theorem laws_eqHead.ok (m : Nat) : Meets Tryz.prog 57 laws_eqHead.sig (laws_eqHead m) :=
  fn_is (cx_is tyOks mixed (l := laws_eqHead.cons m) trivial) (fn := Tryz.f57) Tryz.func57 (by kernel_rfl) (cl := laws_eqHead.cuts m) trivial (k := m) (laws_eqHead.eq m)

/-! ### loop.example/stemma/laws.eqHeadS: function 23 -/
abbrev laws_eqHeadS.R : Type := Den [.bool]
def laws_eqHeadS.sig : Sig := ⟨2, ⟨[], [(0, .l (.dat (.sp (.pair (.str) (.int .i64))))), (1, .l (.dat (.sp (.pair (.str) (.int .i64)))))]⟩, [.sp (.pair (.str) (.int .i64)), .sp (.pair (.str) (.int .i64))], ⟨[], [(0, .l (.dat (.bool)))]⟩, [.bool]⟩
abbrev laws_eqHeadS.Tab : Type := (Den [.sp (.pair (.str) (.int .i64)), .sp (.pair (.str) (.int .i64)), .int .i64] → Option laws_eqHeadS.R) × Unit
def laws_eqHeadS.start (m : Nat) (t : laws_eqHeadS.Tab) (x0 : List (ByteArray × Int) × Nat) (x1 : List (ByteArray × Int) × Nat) : Option laws_eqHeadS.R :=
  cond ((x0.2 : Int) != (x1.2 : Int)) (some (false, ())) (t.1 (x0, x1, (0 : Int), ()))
def laws_eqHeadS.b0 (m : Nat) (t : laws_eqHeadS.Tab) (a0 : List (ByteArray × Int) × Nat) (a1 : List (ByteArray × Int) × Nat) (a2 : Int) : Option laws_eqHeadS.R :=
  cond (decide (a2 < (a0.2 : Int))) (cond (decide ((0 : Int) ≤ a2)) (cond (decide (a2 < (a0.2 : Int))) (lett ((getL a0.1 a2 (ByteArray.empty, (0 : Int))) : ByteArray × Int) fun v1 => cond (decide ((0 : Int) ≤ a2)) (cond (decide (a2 < (a1.2 : Int))) (lett ((getL a1.1 a2 (ByteArray.empty, (0 : Int))) : ByteArray × Int) fun v2 => Option.bind (laws_eqHead m (v1.1, v1.2, v2.1, v2.2, ())) fun r3 => cond (!r3.1) (some (false, ())) (t.1 (a0, a1, (w64 (a2 + (1 : Int))), ()))) none) none) none) none) (some (true, ()))
def laws_eqHeadS.tab (m : Nat) : Nat → laws_eqHeadS.Tab
  | 0 => (fun _ => none, ())
  | k + 1 => (fun x => laws_eqHeadS.b0 m (laws_eqHeadS.tab m k) x.1 x.2.1 x.2.2.1, ())
def laws_eqHeadS (m : Nat) (x : Den [.sp (.pair (.str) (.int .i64)), .sp (.pair (.str) (.int .i64))]) : Option laws_eqHeadS.R := laws_eqHeadS.start m (laws_eqHeadS.tab m m) x.1 x.2.1
def laws_eqHeadS.cons (m : Nat) : List (Nat × Contract) := [(57, ⟨laws_eqHead.sig, laws_eqHead m⟩)]
def laws_eqHeadS.cuts (m : Nat) : List (CutF (Den laws_eqHeadS.sig.us)) := [⟨[false, true, false, true, true], 58, ⟨[], [(0, .l (.dat (.sp (.pair (.str) (.int .i64))))), (1, .l (.dat (.sp (.pair (.str) (.int .i64))))), (5, .l (.dat (.int .i64)))]⟩, [.sp (.pair (.str) (.int .i64)), .sp (.pair (.str) (.int .i64)), .int .i64], fun k => (laws_eqHeadS.tab m k).1⟩]
theorem laws_eqHeadS.eq0 (m k : Nat) (x : Den [.sp (.pair (.str) (.int .i64)), .sp (.pair (.str) (.int .i64)), .int .i64]) : (laws_eqHeadS.tab m (k + 1)).1 x = runF ⟨lookΓ Γs, lookC (laws_eqHeadS.cons m), false⟩ Tryz.f23 laws_eqHeadS.sig (laws_eqHeadS.cuts m) k [false, true, false, true, true] ⟨[], [(0, .l (.dat (.sp (.pair (.str) (.int .i64))))), (1, .l (.dat (.sp (.pair (.str) (.int .i64))))), (5, .l (.dat (.int .i64)))]⟩ [.sp (.pair (.str) (.int .i64)), .sp (.pair (.str) (.int .i64)), .int .i64] x := by kernel_rfl
theorem laws_eqHeadS.eq (m : Nat) (x : Den laws_eqHeadS.sig.ts) : laws_eqHeadS m x = startF ⟨lookΓ Γs, lookC (laws_eqHeadS.cons m), false⟩ Tryz.f23 laws_eqHeadS.sig (laws_eqHeadS.cuts m) m x := by kernel_rfl
theorem laws_eqHeadS.ok (m : Nat) : Meets Tryz.prog 23 laws_eqHeadS.sig (laws_eqHeadS m) :=
  fn_is (cx_is tyOks mixed (l := laws_eqHeadS.cons m) ⟨laws_eqHead.ok m, trivial⟩) (fn := Tryz.f23) Tryz.func23 (by kernel_rfl) (cl := laws_eqHeadS.cuts m) ⟨⟨by kernel_rfl, fun _ => rfl, fun k x => laws_eqHeadS.eq0 m k x⟩, trivial⟩ (k := m) (laws_eqHeadS.eq m)

/-! ### loop.example/stemma/laws.intactHeadS: function 24 -/
abbrev laws_intactHeadS.R : Type := Den [.bool]
def laws_intactHeadS.sig : Sig := ⟨2, ⟨[], [(0, .l (.dat (.sp (.pair (.str) (.int .i64))))), (1, .l (.dat (.sp (.pair (.str) (.int .i64)))))]⟩, [.sp (.pair (.str) (.int .i64)), .sp (.pair (.str) (.int .i64))], ⟨[], [(0, .l (.dat (.bool)))]⟩, [.bool]⟩
abbrev laws_intactHeadS.Tab : Type := Unit
def laws_intactHeadS.start (m : Nat) (t : laws_intactHeadS.Tab) (x0 : List (ByteArray × Int) × Nat) (x1 : List (ByteArray × Int) × Nat) : Option laws_intactHeadS.R :=
  Option.bind (laws_roomBehind m ((x1.2 : Int), ())) fun r1 => cond ((x0.2 : Int) == (x1.2 : Int)) (cond (decide ((0 : Int) ≤ (w64 ((x1.2 : Int) + r1.1)))) (cond (decide ((w64 ((x1.2 : Int) + r1.1)) ≤ ((List.length x0.1) : Int))) (lett ((cutL x0.1 0 (Int.toNat (w64 ((x1.2 : Int) + r1.1)))) : List (ByteArray × Int)) fun v2 => cond (decide ((0 : Int) ≤ (w64 ((x1.2 : Int) + r1.1)))) (cond (decide ((w64 ((x1.2 : Int) + r1.1)) ≤ ((List.length x1.1) : Int))) (lett ((cutL x1.1 0 (Int.toNat (w64 ((x1.2 : Int) + r1.1)))) : List (ByteArray × Int)) fun v3 => Option.bind (laws_eqHeadS m ((v2, (List.length v2)), (v3, (List.length v3)), ())) fun r4 => some (r4.1, ())) none) none) none) none) (some (false, ()))
def laws_intactHeadS.tab (m : Nat) : Nat → laws_intactHeadS.Tab
  | 0 => (())
  | k + 1 => (())
def laws_intactHeadS (m : Nat) (x : Den [.sp (.pair (.str) (.int .i64)), .sp (.pair (.str) (.int .i64))]) : Option laws_intactHeadS.R := laws_intactHeadS.start m (laws_intactHeadS.tab m m) x.1 x.2.1
def laws_intactHeadS.cons (m : Nat) : List (Nat × Contract) := [(50, ⟨laws_roomBehind.sig, laws_roomBehind m⟩), (23, ⟨laws_eqHeadS.sig, laws_eqHeadS m⟩)]
def laws_intactHeadS.cuts (m : Nat) : List (CutF (Den laws_intactHeadS.sig.us)) := []
theorem laws_intactHeadS.eq (m : Nat) (x : Den laws_intactHeadS.sig.ts) : laws_intactHeadS m x = startF ⟨lookΓ Γs, lookC (laws_intactHeadS.cons m), false⟩ Tryz.f24 laws_intactHeadS.sig (laws_intactHeadS.cuts m) m x := by kernel_rfl
theorem laws_intactHeadS.ok (m : Nat) : Meets Tryz.prog 24 laws_intactHeadS.sig (laws_intactHeadS m) :=
  fn_is (cx_is tyOks mixed (l := laws_intactHeadS.cons m) ⟨laws_roomBehind.ok m, laws_eqHeadS.ok m, trivial⟩) (fn := Tryz.f24) Tryz.func24 (by kernel_rfl) (cl := laws_intactHeadS.cuts m) trivial (k := m) (laws_intactHeadS.eq m)

/-! ### loop.example/stemma/laws.intactRepo: function 13 -/
abbrev laws_intactRepo.R : Type := Den [.bool]
def laws_intactRepo.sig : Sig := ⟨2, ⟨[], [(0, .agg [.dat (.sp (.pair (.sp (.int .i64)) (.pair (.str) (.sp (.pair (.str) (.sp (.str))))))), .dat (.sp (.pair (.str) (.int .i64)))]), (1, .agg [.dat (.sp (.pair (.sp (.int .i64)) (.pair (.str) (.sp (.pair (.str) (.sp (.str))))))), .dat (.sp (.pair (.str) (.int .i64)))])]⟩, [.sp (.pair (.sp (.int .i64)) (.pair (.str) (.sp (.pair (.str) (.sp (.str)))))), .sp (.pair (.str) (.int .i64)), .sp (.pair (.sp (.int .i64)) (.pair (.str) (.sp (.pair (.str) (.sp (.str)))))), .sp (.pair (.str) (.int .i64))], ⟨[], [(0, .l (.dat (.bool)))]⟩, [.bool]⟩
abbrev laws_intactRepo.Tab : Type := Unit
def laws_intactRepo.start (m : Nat) (t : laws_intactRepo.Tab) (x0 : List ((List Int × Nat) × ByteArray × (List (ByteArray × (List ByteArray × Nat)) × Nat)) × Nat) (x1 : List (ByteArray × Int) × Nat) (x2 : List ((List Int × Nat) × ByteArray × (List (ByteArray × (List ByteArray × Nat)) × Nat)) × Nat) (x3 : List (ByteArray × Int) × Nat) : Option laws_intactRepo.R :=
  Option.bind (laws_intactCommitS m (x0, x2, ())) fun r1 => cond (!r1.1) (some (false, ())) (Option.bind (laws_intactHeadS m (x1, x3, ())) fun r2 => cond (!r2.1) (some (false, ())) (some (true, ())))
def laws_intactRepo.tab (m : Nat) : Nat → laws_intactRepo.Tab
  | 0 => (())
  | k + 1 => (())
def laws_intactRepo (m : Nat) (x : Den [.sp (.pair (.sp (.int .i64)) (.pair (.str) (.sp (.pair (.str) (.sp (.str)))))), .sp (.pair (.str) (.int .i64)), .sp (.pair (.sp (.int .i64)) (.pair (.str) (.sp (.pair (.str) (.sp (.str)))))), .sp (.pair (.str) (.int .i64))]) : Option laws_intactRepo.R := laws_intactRepo.start m (laws_intactRepo.tab m m) x.1 x.2.1 x.2.2.1 x.2.2.2.1
def laws_intactRepo.cons (m : Nat) : List (Nat × Contract) := [(43, ⟨laws_intactCommitS.sig, laws_intactCommitS m⟩), (24, ⟨laws_intactHeadS.sig, laws_intactHeadS m⟩)]
def laws_intactRepo.cuts (m : Nat) : List (CutF (Den laws_intactRepo.sig.us)) := []
theorem laws_intactRepo.eq (m : Nat) (x : Den laws_intactRepo.sig.ts) : laws_intactRepo m x = startF ⟨lookΓ Γs, lookC (laws_intactRepo.cons m), false⟩ Tryz.f13 laws_intactRepo.sig (laws_intactRepo.cuts m) m x := by kernel_rfl
theorem laws_intactRepo.ok (m : Nat) : Meets Tryz.prog 13 laws_intactRepo.sig (laws_intactRepo m) :=
  fn_is (cx_is tyOks mixed (l := laws_intactRepo.cons m) ⟨laws_intactCommitS.ok m, laws_intactHeadS.ok m, trivial⟩) (fn := Tryz.f13) Tryz.func13 (by kernel_rfl) (cl := laws_intactRepo.cuts m) trivial (k := m) (laws_intactRepo.eq m)

/-! ### loop.example/stemma/laws.FnExactRepoPut: function 4 -/
abbrev laws_FnExactRepoPut.R : Type := Den [.bool]
def laws_FnExactRepoPut.sig : Sig := ⟨1, ⟨[], [(0, .agg [.dat (.list (.pair (.list (.int .i64)) (.pair (.str) (.list (.pair (.str) (.list (.str))))))), .dat (.list (.pair (.str) (.int .i64)))])]⟩, [.list (.pair (.list (.int .i64)) (.pair (.str) (.list (.pair (.str) (.list (.str)))))), .list (.pair (.str) (.int .i64))], ⟨[], [(0, .l (.dat (.bool)))]⟩, [.bool]⟩
abbrev laws_FnExactRepoPut.Tab : Type := Unit
def laws_FnExactRepoPut.start (m : Nat) (t : laws_FnExactRepoPut.Tab) (x0 : List (List Int × ByteArray × List (ByteArray × List ByteArray))) (x1 : List (ByteArray × Int)) : Option laws_FnExactRepoPut.R :=
  Option.bind (laws_szRepo m (((List.map (fun z17 => ((z17.1, (List.length z17.1)), z17.2.1, (List.map (fun z18 => (z18.1, z18.2, (List.length z18.2))) z17.2.2), (List.length z17.2.2))) x0), (List.length x0)), (x1, (List.length x1)), (1000000 : Int), ())) fun r1 => cond (decide (r1.1 < (0 : Int))) (some (true, ())) (Option.bind (laws_toRepo m (((List.map (fun z19 => ((z19.1, (List.length z19.1)), z19.2.1, (List.map (fun z20 => (z20.1, z20.2, (List.length z20.2))) z19.2.2), (List.length z19.2.2))) x0), (List.length x0)), (x1, (List.length x1)), false, ())) fun r2 => Option.bind (spec_RepoPut m ((List.map (fun z21 => ((List.take z21.1.2 z21.1.1), z21.2.1, (List.map (fun z22 => (z22.1, (List.take z22.2.2 z22.2.1))) (List.take z21.2.2.2 z21.2.2.1)))) (List.take r2.1.2 r2.1.1)), (List.take r2.2.1.2 r2.2.1.1), ())) fun r3 => Option.bind (laws_toRepo m (((List.map (fun z23 => ((z23.1, (List.length z23.1)), z23.2.1, (List.map (fun z24 => (z24.1, z24.2, (List.length z24.2))) z23.2.2), (List.length z23.2.2))) x0), (List.length x0)), (x1, (List.length x1)), false, ())) fun r4 => Option.bind (impl_RepoPut m ((List.map (fun z25 => ((List.take z25.1.2 z25.1.1), z25.2.1, (List.map (fun z26 => (z26.1, (List.take z26.2.2 z26.2.1))) (List.take z25.2.2.2 z25.2.2.1)))) (List.take r4.1.2 r4.1.1)), (List.take r4.2.1.2 r4.2.1.1), ())) fun r5 => cond (!sEq r5.1 r3.1) (some (false, ())) (Option.bind (laws_toRepo m (((List.map (fun z27 => ((z27.1, (List.length z27.1)), z27.2.1, (List.map (fun z28 => (z28.1, z28.2, (List.length z28.2))) z27.2.2), (List.length z27.2.2))) x0), (List.length x0)), (x1, (List.length x1)), false, ())) fun r6 => Option.bind (laws_intactRepo m (r4.1, r4.2.1, r6.1, r6.2.1, ())) fun r7 => cond (!r7.1) (some (false, ())) (Option.bind (laws_toRepo m (((List.map (fun z29 => ((z29.1, (List.length z29.1)), z29.2.1, (List.map (fun z30 => (z30.1, z30.2, (List.length z30.2))) z29.2.2), (List.length z29.2.2))) x0), (List.length x0)), (x1, (List.length x1)), true, ())) fun r8 => Option.bind (impl_RepoPut m ((List.map (fun z31 => ((List.take z31.1.2 z31.1.1), z31.2.1, (List.map (fun z32 => (z32.1, (List.take z32.2.2 z32.2.1))) (List.take z31.2.2.2 z31.2.2.1)))) (List.take r8.1.2 r8.1.1)), (List.take r8.2.1.2 r8.2.1.1), ())) fun r9 => cond (!sEq r9.1 r3.1) (some (false, ())) (some (true, ())))))
def laws_FnExactRepoPut.tab (m : Nat) : Nat → laws_FnExactRepoPut.Tab
  | 0 => (())
  | k + 1 => (())
def laws_FnExactRepoPut (m : Nat) (x : Den [.list (.pair (.list (.int .i64)) (.pair (.str) (.list (.pair (.str) (.list (.str)))))), .list (.pair (.str) (.int .i64))]) : Option laws_FnExactRepoPut.R := laws_FnExactRepoPut.start m (laws_FnExactRepoPut.tab m m) x.1 x.2.1
def laws_FnExactRepoPut.cons (m : Nat) : List (Nat × Contract) := [(8, ⟨laws_szRepo.sig, laws_szRepo m⟩), (10, ⟨laws_toRepo.sig, laws_toRepo m⟩), (17, ⟨spec_RepoPut.sig, spec_RepoPut m⟩), (18, ⟨impl_RepoPut.sig, impl_RepoPut m⟩), (13, ⟨laws_intactRepo.sig, laws_intactRepo m⟩)]
def laws_FnExactRepoPut.cuts (m : Nat) : List (CutF (Den laws_FnExactRepoPut.sig.us)) := []
theorem laws_FnExactRepoPut.eq (m : Nat) (x : Den laws_FnExactRepoPut.sig.ts) : laws_FnExactRepoPut m x = startF ⟨lookΓ Γs, lookC (laws_FnExactRepoPut.cons m), false⟩ Tryz.f4 laws_FnExactRepoPut.sig (laws_FnExactRepoPut.cuts m) m x := by kernel_rfl
theorem laws_FnExactRepoPut.ok (m : Nat) : Meets Tryz.prog 4 laws_FnExactRepoPut.sig (laws_FnExactRepoPut m) :=
  fn_is (cx_is tyOks mixed (l := laws_FnExactRepoPut.cons m) ⟨laws_szRepo.ok m, laws_toRepo.ok m, spec_RepoPut.ok m, impl_RepoPut.ok m, laws_intactRepo.ok m, trivial⟩) (fn := Tryz.f4) Tryz.func4 (by kernel_rfl) (cl := laws_FnExactRepoPut.cuts m) trivial (k := m) (laws_FnExactRepoPut.eq m)

end
end Go.Sx.Tryz
