/- The functions that FnExactSeekAll reaches, as plain Lean functions, and that the program's functions do what these say: no condition. Printed by wip/gen/sx.py. -/
import Derived.Test.YtafchokjmboemaaGreatDoorSkaGA
namespace Go.Sx.Tryz
open Go Go.Proofs Go.Sx
set_option linter.unusedVariables false
noncomputable section
/-! ### loop.example/stemma/laws.eqCommitS: function 83 -/
abbrev laws_eqCommitS.R : Type := Den [.bool]
def laws_eqCommitS.sig : Sig := ⟨2, ⟨[], [(0, .l (.dat (.sp (.pair (.sp (.int .i64)) (.pair (.str) (.sp (.pair (.str) (.sp (.str))))))))), (1, .l (.dat (.sp (.pair (.sp (.int .i64)) (.pair (.str) (.sp (.pair (.str) (.sp (.str)))))))))]⟩, [.sp (.pair (.sp (.int .i64)) (.pair (.str) (.sp (.pair (.str) (.sp (.str)))))), .sp (.pair (.sp (.int .i64)) (.pair (.str) (.sp (.pair (.str) (.sp (.str))))))], ⟨[], [(0, .l (.dat (.bool)))]⟩, [.bool]⟩
abbrev laws_eqCommitS.Tab : Type := (Den [.sp (.pair (.sp (.int .i64)) (.pair (.str) (.sp (.pair (.str) (.sp (.str)))))), .sp (.pair (.sp (.int .i64)) (.pair (.str) (.sp (.pair (.str) (.sp (.str)))))), .int .i64] → Option laws_eqCommitS.R) × Unit
def laws_eqCommitS.start (m : Nat) (t : laws_eqCommitS.Tab) (x0 : List ((List Int × Nat) × ByteArray × (List (ByteArray × (List ByteArray × Nat)) × Nat)) × Nat) (x1 : List ((List Int × Nat) × ByteArray × (List (ByteArray × (List ByteArray × Nat)) × Nat)) × Nat) : Option laws_eqCommitS.R :=
  cond ((x0.2 : Int) != (x1.2 : Int)) (some (false, ())) (t.1 (x0, x1, (0 : Int), ()))
def laws_eqCommitS.b0 (m : Nat) (t : laws_eqCommitS.Tab) (a0 : List ((List Int × Nat) × ByteArray × (List (ByteArray × (List ByteArray × Nat)) × Nat)) × Nat) (a1 : List ((List Int × Nat) × ByteArray × (List (ByteArray × (List ByteArray × Nat)) × Nat)) × Nat) (a2 : Int) : Option laws_eqCommitS.R :=
  cond (decide (a2 < (a0.2 : Int))) (cond (decide ((0 : Int) ≤ a2)) (cond (decide (a2 < (a0.2 : Int))) (lett ((getL a0.1 a2 ((([] : List Int), (0 : Nat)), ByteArray.empty, ([] : List (ByteArray × (List ByteArray × Nat))), (0 : Nat))) : (List Int × Nat) × ByteArray × (List (ByteArray × (List ByteArray × Nat)) × Nat)) fun v1 => cond (decide ((0 : Int) ≤ a2)) (cond (decide (a2 < (a1.2 : Int))) (lett ((getL a1.1 a2 ((([] : List Int), (0 : Nat)), ByteArray.empty, ([] : List (ByteArray × (List ByteArray × Nat))), (0 : Nat))) : (List Int × Nat) × ByteArray × (List (ByteArray × (List ByteArray × Nat)) × Nat)) fun v2 => Option.bind (laws_eqCommit m (v1.1, v1.2.1, v1.2.2, v2.1, v2.2.1, v2.2.2, ())) fun r3 => cond (!r3.1) (some (false, ())) (t.1 (a0, a1, (w64 (a2 + (1 : Int))), ()))) none) none) none) none) (some (true, ()))
def laws_eqCommitS.tab (m : Nat) : Nat → laws_eqCommitS.Tab
  | 0 => (fun _ => none, ())
  | k + 1 => (fun x => laws_eqCommitS.b0 m (laws_eqCommitS.tab m k) x.1 x.2.1 x.2.2.1, ())
def laws_eqCommitS (m : Nat) (x : Den [.sp (.pair (.sp (.int .i64)) (.pair (.str) (.sp (.pair (.str) (.sp (.str)))))), .sp (.pair (.sp (.int .i64)) (.pair (.str) (.sp (.pair (.str) (.sp (.str))))))]) : Option laws_eqCommitS.R := laws_eqCommitS.start m (laws_eqCommitS.tab m m) x.1 x.2.1
def laws_eqCommitS.cons (m : Nat) : List (Nat × Contract) := [(115, ⟨laws_eqCommit.sig, laws_eqCommit m⟩)]
def laws_eqCommitS.cuts (m : Nat) : List (CutF (Den laws_eqCommitS.sig.us)) := [⟨[false, true, false, true, true], 58, ⟨[], [(0, .l (.dat (.sp (.pair (.sp (.int .i64)) (.pair (.str) (.sp (.pair (.str) (.sp (.str))))))))), (1, .l (.dat (.sp (.pair (.sp (.int .i64)) (.pair (.str) (.sp (.pair (.str) (.sp (.str))))))))), (5, .l (.dat (.int .i64)))]⟩, [.sp (.pair (.sp (.int .i64)) (.pair (.str) (.sp (.pair (.str) (.sp (.str)))))), .sp (.pair (.sp (.int .i64)) (.pair (.str) (.sp (.pair (.str) (.sp (.str)))))), .int .i64], fun k => (laws_eqCommitS.tab m k).1⟩]
theorem laws_eqCommitS.eq0 (m k : Nat) (x : Den [.sp (.pair (.sp (.int .i64)) (.pair (.str) (.sp (.pair (.str) (.sp (.str)))))), .sp (.pair (.sp (.int .i64)) (.pair (.str) (.sp (.pair (.str) (.sp (.str)))))), .int .i64]) : (laws_eqCommitS.tab m (k + 1)).1 x = runF ⟨lookΓ Γs, lookC (laws_eqCommitS.cons m), false⟩ Tryz.f83 laws_eqCommitS.sig (laws_eqCommitS.cuts m) k [false, true, false, true, true] ⟨[], [(0, .l (.dat (.sp (.pair (.sp (.int .i64)) (.pair (.str) (.sp (.pair (.str) (.sp (.str))))))))), (1, .l (.dat (.sp (.pair (.sp (.int .i64)) (.pair (.str) (.sp (.pair (.str) (.sp (.str))))))))), (5, .l (.dat (.int .i64)))]⟩ [.sp (.pair (.sp (.int .i64)) (.pair (.str) (.sp (.pair (.str) (.sp (.str)))))), .sp (.pair (.sp (.int .i64)) (.pair (.str) (.sp (.pair (.str) (.sp (.str)))))), .int .i64] x := by kernel_rfl
theorem laws_eqCommitS.eq (m : Nat) (x : Den laws_eqCommitS.sig.ts) : laws_eqCommitS m x = startF ⟨lookΓ Γs, lookC (laws_eqCommitS.cons m), false⟩ Tryz.f83 laws_eqCommitS.sig (laws_eqCommitS.cuts m) m x := by kernel_rfl
theorem laws_eqCommitS.ok (m : Nat) : Meets Tryz.prog 83 laws_eqCommitS.sig (laws_eqCommitS m) :=
  fn_is (cx_is tyOks mixed (l := laws_eqCommitS.cons m) ⟨laws_eqCommit.ok m, trivial⟩) (fn := Tryz.f83) Tryz.func83 (by kernel_rfl) (cl := laws_eqCommitS.cuts m) ⟨⟨by kernel_rfl, fun _ => rfl, fun k x => laws_eqCommitS.eq0 m k x⟩, trivial⟩ (k := m) (laws_eqCommitS.eq m)

/-! ### loop.example/stemma/laws.intactCommitS: function 43 -/
abbrev laws_intactCommitS.R : Type := Den [.bool]
def laws_intactCommitS.sig : Sig := ⟨2, ⟨[], [(0, .l (.dat (.sp (.pair (.sp (.int .i64)) (.pair (.str) (.sp (.pair (.str) (.sp (.str))))))))), (1, .l (.dat (.sp (.pair (.sp (.int .i64)) (.pair (.str) (.sp (.pair (.str) (.sp (.str)))))))))]⟩, [.sp (.pair (.sp (.int .i64)) (.pair (.str) (.sp (.pair (.str) (.sp (.str)))))), .sp (.pair (.sp (.int .i64)) (.pair (.str) (.sp (.pair (.str) (.sp (.str))))))], ⟨[], [(0, .l (.dat (.bool)))]⟩, [.bool]⟩
abbrev laws_intactCommitS.Tab : Type := (Den [.sp (.pair (.sp (.int .i64)) (.pair (.str) (.sp (.pair (.str) (.sp (.str)))))), .sp (.pair (.sp (.int .i64)) (.pair (.str) (.sp (.pair (.str) (.sp (.str)))))), .int .i64, .int .i64] → Option laws_intactCommitS.R) × Unit
def laws_intactCommitS.start (m : Nat) (t : laws_intactCommitS.Tab) (x0 : List ((List Int × Nat) × ByteArray × (List (ByteArray × (List ByteArray × Nat)) × Nat)) × Nat) (x1 : List ((List Int × Nat) × ByteArray × (List (ByteArray × (List ByteArray × Nat)) × Nat)) × Nat) : Option laws_intactCommitS.R :=
  Option.bind (laws_roomBehind m ((x1.2 : Int), ())) fun r1 => cond ((x0.2 : Int) != (x1.2 : Int)) (some (false, ())) (t.1 (x0, x1, (w64 ((x1.2 : Int) + r1.1)), (0 : Int), ()))
def laws_intactCommitS.b0 (m : Nat) (t : laws_intactCommitS.Tab) (a0 : List ((List Int × Nat) × ByteArray × (List (ByteArray × (List ByteArray × Nat)) × Nat)) × Nat) (a1 : List ((List Int × Nat) × ByteArray × (List (ByteArray × (List ByteArray × Nat)) × Nat)) × Nat) (a2 : Int) (a3 : Int) : Option laws_intactCommitS.R :=
  cond (decide (a3 < (a1.2 : Int))) (cond (decide ((0 : Int) ≤ a3)) (cond (decide (a3 < (a0.2 : Int))) (lett ((getL a0.1 a3 ((([] : List Int), (0 : Nat)), ByteArray.empty, ([] : List (ByteArray × (List ByteArray × Nat))), (0 : Nat))) : (List Int × Nat) × ByteArray × (List (ByteArray × (List ByteArray × Nat)) × Nat)) fun v1 => cond (decide ((0 : Int) ≤ a3)) (cond (decide (a3 < (a1.2 : Int))) (lett ((getL a1.1 a3 ((([] : List Int), (0 : Nat)), ByteArray.empty, ([] : List (ByteArray × (List ByteArray × Nat))), (0 : Nat))) : (List Int × Nat) × ByteArray × (List (ByteArray × (List ByteArray × Nat)) × Nat)) fun v2 => Option.bind (laws_intactCommit m (v1.1, v1.2.1, v1.2.2, v2.1, v2.2.1, v2.2.2, ())) fun r3 => cond (!r3.1) (some (false, ())) (t.1 (a0, a1, a2, (w64 (a3 + (1 : Int))), ()))) none) none) none) none) (cond (decide ((0 : Int) ≤ a2)) (cond (decide (a2 ≤ ((List.length a0.1) : Int))) (cond (decide ((0 : Int) ≤ (a1.2 : Int))) (cond (decide ((a1.2 : Int) ≤ a2)) (lett ((cutL a0.1 (Int.toNat (a1.2 : Int)) (Int.toNat a2)) : List ((List Int × Nat) × ByteArray × (List (ByteArray × (List ByteArray × Nat)) × Nat))) fun v4 => cond (decide ((0 : Int) ≤ a2)) (cond (decide (a2 ≤ ((List.length a1.1) : Int))) (cond (decide ((0 : Int) ≤ (a1.2 : Int))) (cond (decide ((a1.2 : Int) ≤ a2)) (lett ((cutL a1.1 (Int.toNat (a1.2 : Int)) (Int.toNat a2)) : List ((List Int × Nat) × ByteArray × (List (ByteArray × (List ByteArray × Nat)) × Nat))) fun v5 => Option.bind (laws_eqCommitS m ((v4, (List.length v4)), (v5, (List.length v5)), ())) fun r6 => some (r6.1, ())) none) none) none) none) none) none) none) none)
def laws_intactCommitS.tab (m : Nat) : Nat → laws_intactCommitS.Tab
  | 0 => (fun _ => none, ())
  | k + 1 => (fun x => laws_intactCommitS.b0 m (laws_intactCommitS.tab m k) x.1 x.2.1 x.2.2.1 x.2.2.2.1, ())
def laws_intactCommitS (m : Nat) (x : Den [.sp (.pair (.sp (.int .i64)) (.pair (.str) (.sp (.pair (.str) (.sp (.str)))))), .sp (.pair (.sp (.int .i64)) (.pair (.str) (.sp (.pair (.str) (.sp (.str))))))]) : Option laws_intactCommitS.R := laws_intactCommitS.start m (laws_intactCommitS.tab m m) x.1 x.2.1
def laws_intactCommitS.cons (m : Nat) : List (Nat × Contract) := [(50, ⟨laws_roomBehind.sig, laws_roomBehind m⟩), (82, ⟨laws_intactCommit.sig, laws_intactCommit m⟩), (83, ⟨laws_eqCommitS.sig, laws_eqCommitS m⟩)]
def laws_intactCommitS.cuts (m : Nat) : List (CutF (Den laws_intactCommitS.sig.us)) := [⟨[false, true, false, true, true, true], 122, ⟨[], [(0, .l (.dat (.sp (.pair (.sp (.int .i64)) (.pair (.str) (.sp (.pair (.str) (.sp (.str))))))))), (1, .l (.dat (.sp (.pair (.sp (.int .i64)) (.pair (.str) (.sp (.pair (.str) (.sp (.str))))))))), (5, .l (.dat (.int .i64))), (6, .l (.dat (.int .i64)))]⟩, [.sp (.pair (.sp (.int .i64)) (.pair (.str) (.sp (.pair (.str) (.sp (.str)))))), .sp (.pair (.sp (.int .i64)) (.pair (.str) (.sp (.pair (.str) (.sp (.str)))))), .int .i64, .int .i64], fun k => (laws_intactCommitS.tab m k).1⟩]
theorem laws_intactCommitS.eq0 (m k : Nat) (x : Den [.sp (.pair (.sp (.int .i64)) (.pair (.str) (.sp (.pair (.str) (.sp (.str)))))), .sp (.pair (.sp (.int .i64)) (.pair (.str) (.sp (.pair (.str) (.sp (.str)))))), .int .i64, .int .i64]) : (laws_intactCommitS.tab m (k + 1)).1 x = runF ⟨lookΓ Γs, lookC (laws_intactCommitS.cons m), false⟩ Tryz.f43 laws_intactCommitS.sig (laws_intactCommitS.cuts m) k [false, true, false, true, true, true] ⟨[], [(0, .l (.dat (.sp (.pair (.sp (.int .i64)) (.pair (.str) (.sp (.pair (.str) (.sp (.str))))))))), (1, .l (.dat (.sp (.pair (.sp (.int .i64)) (.pair (.str) (.sp (.pair (.str) (.sp (.str))))))))), (5, .l (.dat (.int .i64))), (6, .l (.dat (.int .i64)))]⟩ [.sp (.pair (.sp (.int .i64)) (.pair (.str) (.sp (.pair (.str) (.sp (.str)))))), .sp (.pair (.sp (.int .i64)) (.pair (.str) (.sp (.pair (.str) (.sp (.str)))))), .int .i64, .int .i64] x := by kernel_rfl
theorem laws_intactCommitS.eq (m : Nat) (x : Den laws_intactCommitS.sig.ts) : laws_intactCommitS m x = startF ⟨lookΓ Γs, lookC (laws_intactCommitS.cons m), false⟩ Tryz.f43 laws_intactCommitS.sig (laws_intactCommitS.cuts m) m x := by kernel_rfl
theorem laws_intactCommitS.ok (m : Nat) : Meets Tryz.prog 43 laws_intactCommitS.sig (laws_intactCommitS m) :=
  fn_is (cx_is tyOks mixed (l := laws_intactCommitS.cons m) ⟨laws_roomBehind.ok m, laws_intactCommit.ok m, laws_eqCommitS.ok m, trivial⟩) (fn := Tryz.f43) Tryz.func43 (by kernel_rfl) (cl := laws_intactCommitS.cuts m) ⟨⟨by kernel_rfl, fun _ => rfl, fun k x => laws_intactCommitS.eq0 m k x⟩, trivial⟩ (k := m) (laws_intactCommitS.eq m)

/-! ### loop.example/stemma/laws.eqHead: function 57 -/
abbrev laws_eqHead.R : Type := Den [.bool]
def laws_eqHead.sig : Sig := ⟨2, ⟨[], [(0, .agg [.dat (.str), .dat (.int .i64)]), (1, .agg [.dat (.str), .dat (.int .i64)])]⟩, [.str, .int .i64, .str, .int .i64], ⟨[], [(0, .l (.dat (.bool)))]⟩, [.bool]⟩
abbrev laws_eqHead.Tab : Type := Unit
def laws_eqHead.start (m : Nat) (t : laws_eqHead.Tab) (x0 : ByteArray) (x1 : Int) (x2 : ByteArray) (x3 : Int) : Option laws_eqHead.R :=
  cond (!sEq x0 x2) (some (false, ())) (cond (x1 != x3) (some (false, ())) (some (true, ())))
def laws_eqHead.tab (m : Nat) : Nat → laws_eqHead.Tab
  | 0 => (())
  | k + 1 => (())
def laws_eqHead (m : Nat) (x : Den [.str, .int .i64, .str, .int .i64]) : Option laws_eqHead.R := laws_eqHead.start m (laws_eqHead.tab m m) x.1 x.2.1 x.2.2.1 x.2.2.2.1
def laws_eqHead.cons (m : Nat) : List (Nat × Contract) := []
def laws_eqHead.cuts (m : Nat) : List (CutF (Den laws_eqHead.sig.us)) := []
theorem laws_eqHead.eq (m : Nat) (x : Den laws_eqHead.sig.ts) : laws_eqHead m x = startF ⟨lookΓ Γs, lookC (laws_eqHead.cons m), false⟩ Tryz.f57 laws_eqHead.sig (laws_eqHead.cuts m) m x := by kernel_rfl
theorem laws_eqHead.ok (m : Nat) : Meets Tryz.prog 57 laws_eqHead.sig (laws_eqHead m) :=
  fn_is (cx_is tyOks mixed (l := laws_eqHead.cons m) trivial) (fn := Tryz.f57) Tryz.func57 (by kernel_rfl) (cl := laws_eqHead.cuts m) trivial (k := m) (laws_eqHead.eq m)

/-! ### loop.example/stemma/laws.eqHeadS: function 23 -/
abbrev laws_eqHeadS.R : Type := Den [.bool]
def laws_eqHeadS.sig : Sig := ⟨2, ⟨[], [(0, .l (.dat (.sp (.pair (.str) (.int .i64))))), (1, .l (.dat (.sp (.pair (.str) (.int .i64)))))]⟩, [.sp (.pair (.str) (.int .i64)), .sp (.pair (.str) (.int .i64))], ⟨[], [(0, .l (.dat (.bool)))]⟩, [.bool]⟩
abbrev laws_eqHeadS.Tab : Type := (Den [.sp (.pair (.str) (.int .i64)), .sp (.pair (.str) (.int .i64)), .int .i64] → Option laws_eqHeadS.R) × Unit
def laws_eqHeadS.start (m : Nat) (t : laws_eqHeadS.Tab) (x0 : List (ByteArray × Int) × Nat) (x1 : List (ByteArray × Int) × Nat) : Option laws_eqHeadS.R :=
  cond ((x0.2 : Int) != (x1.2 : Int)) (some (false, ())) (t.1 (x0, x1, (0 : Int), ()))
def laws_eqHeadS.b0 (m : Nat) (t : laws_eqHeadS.Tab) (a0 : List (ByteArray × Int) × Nat) (a1 : List (ByteArray × Int) × Nat) (a2 : Int) : Option laws_eqHeadS.R :=
  cond (decide (a2 < (a0.2 : Int))) (cond (decide ((0 : Int) ≤ a2)) (cond (decide (a2 < (a0.2 : Int))) (lett ((getL a0.1 a2 (ByteArray.empty, (0 : Int))) : ByteArray × Int) fun v1 => cond (decide ((0 : Int) ≤ a2)) (cond (decide (a2 < (a1.2 : Int))) (lett ((getL a1.1 a2 (ByteArray.empty, (0 : Int))) : ByteArray × Int) fun v2 => Option.bind (laws_eqHead m (v1.1, v1.2, v2.1, v2.2, ())) fun r3 => cond (!r3.1) (some (false, ())) (t.1 (a0, a1, (w64 (a2 + (1 : Int))), ()))) none) none) none) none) (some (true, ()))
def laws_eqHeadS.tab (m : Nat) : Nat → laws_eqHeadS.Tab
  | 0 => (fun _ => none, ())
  | k + 1 => (fun x => laws_eqHeadS.b0 m (laws_eqHeadS.tab m k) x.1 x.2.1 x.2.2.1, ())
def laws_eqHeadS (m : Nat) (x : Den [.sp (.pair (.str) (.int .i64)), .sp (.pair (.str) (.int .i64))]) : Option laws_eqHeadS.R := laws_eqHeadS.start m (laws_eqHeadS.tab m m) x.1 x.2.1
def laws_eqHeadS.cons (m : Nat) : List (Nat × Contract) := [(57, ⟨laws_eqHead.sig, laws_eqHead m⟩)]
def laws_eqHeadS.cuts (m : Nat) : List (CutF (Den laws_eqHeadS.sig.us)) := [⟨[false, true, false, true, true], 58, ⟨[], [(0, .l (.dat (.sp (.pair (.str) (.int .i64))))), (1, .l (.dat (.sp (.pair (.str) (.int .i64))))), (5, .l (.dat (.int .i64)))]⟩, [.sp (.pair (.str) (.int .i64)), .sp (.pair (.str) (.int .i64)), .int .i64], fun k => (laws_eqHeadS.tab m k).1⟩]
theorem laws_eqHeadS.eq0 (m k : Nat) (x : Den [.sp (.pair (.str) (.int .i64)), .sp (.pair (.str) (.int .i64)), .int .i64]) : (laws_eqHeadS.tab m (k + 1)).1 x = runF ⟨lookΓ Γs, lookC (laws_eqHeadS.cons m), false⟩ Tryz.f23 laws_eqHeadS.sig (laws_eqHeadS.cuts m) k [false, true, false, true, true] ⟨[], [(0, .l (.dat (.sp (.pair (.str) (.int .i64))))), (1, .l (.dat (.sp (.pair (.str) (.int .i64))))), (5, .l (.dat (.int .i64)))]⟩ [.sp (.pair (.str) (.int .i64)), .sp (.pair (.str) (.int .i64)), .int .i64] x := by kernel_rfl
theorem laws_eqHeadS.eq (m : Nat) (x : Den laws_eqHeadS.sig.ts) : laws_eqHeadS m x = startF ⟨lookΓ Γs, lookC (laws_eqHeadS.cons m), false⟩ Tryz.f23 laws_eqHeadS.sig (laws_eqHeadS.cuts m) m x := by kernel_rfl
theorem laws_eqHeadS.ok (m : Nat) : Meets Tryz.prog 23 laws_eqHeadS.sig (laws_eqHeadS m) :=
  fn_is (cx_is tyOks mixed (l := laws_eqHeadS.cons m) ⟨laws_eqHead.ok m, trivial⟩) (fn := Tryz.f23) Tryz.func23 (by kernel_rfl) (cl := laws_eqHeadS.cuts m) ⟨⟨by kernel_rfl, fun _ => rfl, fun k x => laws_eqHeadS.eq0 m k x⟩, trivial⟩ (k := m) (laws_eqHeadS.eq m)

/-! ### loop.example/stemma/laws.intactHeadS: function 24 -/
abbrev laws_intactHeadS.R : Type := Den [.bool]
def laws_intactHeadS.sig : Sig := ⟨2, ⟨[], [(0, .l (.dat (.sp (.pair (.str) (.int .i64))))), (1, .l (.dat (.sp (.pair (.str) (.int .i64)))))]⟩, [.sp (.pair (.str) (.int .i64)), .sp (.pair (.str) (.int .i64))], ⟨[], [(0, .l (.dat (.bool)))]⟩, [.bool]⟩
abbrev laws_intactHeadS.Tab : Type := Unit
def laws_intactHeadS.start (m : Nat) (t : laws_intactHeadS.Tab) (x0 : List (ByteArray × Int) × Nat) (x1 : List (ByteArray × Int) × Nat) : Option laws_intactHeadS.R :=
  Option.bind (laws_roomBehind m ((x1.2 : Int), ())) fun r1 => cond ((x0.2 : Int) == (x1.2 : Int)) (cond (decide ((0 : Int) ≤ (w64 ((x1.2 : Int) + r1.1)))) (cond (decide ((w64 ((x1.2 : Int) + r1.1)) ≤ ((List.length x0.1) : Int))) (lett ((cutL x0.1 0 (Int.toNat (w64 ((x1.2 : Int) + r1.1)))) : List (ByteArray × Int)) fun v2 => cond (decide ((0 : Int) ≤ (w64 ((x1.2 : Int) + r1.1)))) (cond (decide ((w64 ((x1.2 : Int) + r1.1)) ≤ ((List.length x1.1) : Int))) (lett ((cutL x1.1 0 (Int.toNat (w64 ((x1.2 : Int) + r1.1)))) : List (ByteArray × Int)) fun v3 => Option.bind (laws_eqHeadS m ((v2, (List.length v2)), (v3, (List.length v3)), ())) fun r4 => some (r4.1, ())) none) none) none) none) (some (false, ()))
def laws_intactHeadS.tab (m : Nat) : Nat → laws_intactHeadS.Tab
  | 0 => (())
  | k + 1 => (())
def laws_intactHeadS (m : Nat) (x : Den [.sp (.pair (.str) (.int .i64)), .sp (.pair (.str) (.int .i64))]) : Option laws_intactHeadS.R := laws_intactHeadS.start m (laws_intactHeadS.tab m m) x.1 x.2.1
def laws_intactHeadS.cons (m : Nat) : List (Nat × Contract) := [(50, ⟨laws_roomBehind.sig, laws_roomBehind m⟩), (23, ⟨laws_eqHeadS.sig, laws_eqHeadS m⟩)]
def laws_intactHeadS.cuts (m : Nat) : List (CutF (Den laws_intactHeadS.sig.us)) := []
theorem laws_intactHeadS.eq (m : Nat) (x : Den laws_intactHeadS.sig.ts) : laws_intactHeadS m x = startF ⟨lookΓ Γs, lookC (laws_intactHeadS.cons m), false⟩ Tryz.f24 laws_intactHeadS.sig (laws_intactHeadS.cuts m) m x := by kernel_rfl
theorem laws_intactHeadS.ok (m : Nat) : Meets Tryz.prog 24 laws_intactHeadS.sig (laws_intactHeadS m) :=
  fn_is (cx_is tyOks mixed (l := laws_intactHeadS.cons m) ⟨laws_roomBehind.ok m, laws_eqHeadS.ok m, trivial⟩) (fn := Tryz.f24) Tryz.func24 (by kernel_rfl) (cl := laws_intactHeadS.cuts m) trivial (k := m) (laws_intactHeadS.eq m)

/-! ### loop.example/stemma/laws.intactRepo: function 13 -/
abbrev laws_intactRepo.R : Type := Den [.bool]
def laws_intactRepo.sig : Sig := ⟨2, ⟨[], [(0, .agg [.dat (.sp (.pair (.sp (.int .i64)) (.pair (.str) (.sp (.pair (.str) (.sp (.str))))))), .dat (.sp (.pair (.str) (.int .i64)))]), (1, .agg [.dat (.sp (.pair (.sp (.int .i64)) (.pair (.str) (.sp (.pair (.str) (.sp (.str))))))), .dat (.sp (.pair (.str) (.int .i64)))])]⟩, [.sp (.pair (.sp (.int .i64)) (.pair (.str) (.sp (.pair (.str) (.sp (.str)))))), .sp (.pair (.str) (.int .i64)), .sp (.pair (.sp (.int .i64)) (.pair (.str) (.sp (.pair (.str) (.sp (.str)))))), .sp (.pair (.str) (.int .i64))], ⟨[], [(0, .l (.dat (.bool)))]⟩, [.bool]⟩
abbrev laws_intactRepo.Tab : Type := Unit
def laws_intactRepo.start (m : Nat) (t : laws_intactRepo.Tab) (x0 : List ((List Int × Nat) × ByteArray × (List (ByteArray × (List ByteArray × Nat)) × Nat)) × Nat) (x1 : List (ByteArray × Int) × Nat) (x2 : List ((List Int × Nat) × ByteArray × (List (ByteArray × (List ByteArray × Nat)) × Nat)) × Nat) (x3 : List (ByteArray × Int) × Nat) : Option laws_intactRepo.R :=
  Option.bind (laws_intactCommitS m (x0, x2, ())) fun r1 => cond (!r1.1) (some (false, ())) (Option.bind (laws_intactHeadS m (x1, x3, ())) fun r2 => cond (!r2.1) (some (false, ())) (some (true, ())))
def laws_intactRepo.tab (m : Nat) : Nat → laws_intactRepo.Tab
  | 0 => (())
  | k + 1 => (())
def laws_intactRepo (m : Nat) (x : Den [.sp (.pair (.sp (.int .i64)) (.pair (.str) (.sp (.pair (.str) (.sp (.str)))))), .sp (.pair (.str) (.int .i64)), .sp (.pair (.sp (.int .i64)) (.pair (.str) (.sp (.pair (.str) (.sp (.str)))))), .sp (.pair (.str) (.int .i64))]) : Option laws_intactRepo.R := laws_intactRepo.start m (laws_intactRepo.tab m m) x.1 x.2.1 x.2.2.1 x.2.2.2.1
def laws_intactRepo.cons (m : Nat) : List (Nat × Contract) := [(43, ⟨laws_intactCommitS.sig, laws_intactCommitS m⟩), (24, ⟨laws_intactHeadS.sig, laws_intactHeadS m⟩)]
def laws_intactRepo.cuts (m : Nat) : List (CutF (Den laws_intactRepo.sig.us)) := []
theorem laws_intactRepo.eq (m : Nat) (x : Den laws_intactRepo.sig.ts) : laws_intactRepo m x = startF ⟨lookΓ Γs, lookC (laws_intactRepo.cons m), false⟩ Tryz.f13 laws_intactRepo.sig (laws_intactRepo.cuts m) m x := by kernel_rfl
theorem laws_intactRepo.ok (m : Nat) : Meets Tryz.prog 13 laws_intactRepo.sig (laws_intactRepo m) :=
  fn_is (cx_is tyOks mixed (l := laws_intactRepo.cons m) ⟨laws_intactCommitS.ok m, laws_intactHeadS.ok m, trivial⟩) (fn := Tryz.f13) Tryz.func13 (by kernel_rfl) (cl := laws_intactRepo.cuts m) trivial (k := m) (laws_intactRepo.eq m)

/-! ### loop.example/stemma/laws.markIntS: function 15 -/
abbrev laws_markIntS.R : Type := Den [.list (.int .i64), .int .i64]
def laws_markIntS.sig : Sig := ⟨2, ⟨[.row true (.int .i64)], [(0, .l (.slv 0)), (1, .l (.dat (.int .i64)))]⟩, [.list (.int .i64), .int .i64, .int .i64], ⟨[.row true (.int .i64)], [(0, .l (.dat (.int .i64)))]⟩, [.list (.int .i64), .int .i64]⟩
abbrev laws_markIntS.Tab : Type := (Den [.list (.int .i64), .int .i64, .int .i64, .int .i64] → Option laws_markIntS.R) × Unit
def laws_markIntS.start (m : Nat) (t : laws_markIntS.Tab) (x0 : List Int) (x1 : Int) (x2 : Int) : Option laws_markIntS.R :=
  t.1 (x0, ((Int.toNat x1) : Int), x2, (0 : Int), ())
def laws_markIntS.b0 (m : Nat) (t : laws_markIntS.Tab) (a0 : List Int) (a1 : Int) (a2 : Int) (a3 : Int) : Option laws_markIntS.R :=
  cond (decide (a3 < ((Int.toNat a1) : Int))) (cond (decide ((0 : Int) ≤ a3)) (cond (decide (a3 < ((Int.toNat a1) : Int))) (t.1 ((List.set a0 (Int.toNat a3) a2), ((Int.toNat a1) : Int), (w64 (a2 + (1 : Int))), (w64 (a3 + (1 : Int))), ())) none) none) (some (a0, a2, ()))
def laws_markIntS.tab (m : Nat) : Nat → laws_markIntS.Tab
  | 0 => (fun _ => none, ())
  | k + 1 => (fun x => laws_markIntS.b0 m (laws_markIntS.tab m k) x.1 x.2.1 x.2.2.1 x.2.2.2.1, ())
def laws_markIntS (m : Nat) (x : Den [.list (.int .i64), .int .i64, .int .i64]) : Option laws_markIntS.R := laws_markIntS.start m (laws_markIntS.tab m m) x.1 x.2.1 x.2.2.1
def laws_markIntS.cons (m : Nat) : List (Nat × Contract) := []
def laws_markIntS.cuts (m : Nat) : List (CutF (Den laws_markIntS.sig.us)) := [⟨[false, true, false, true], 26, ⟨[.row true (.int .i64)], [(0, .l (.slv 0)), (1, .l (.dat (.int .i64))), (5, .l (.dat (.int .i64)))]⟩, [.list (.int .i64), .int .i64, .int .i64, .int .i64], fun k => (laws_markIntS.tab m k).1⟩]
theorem laws_markIntS.eq0 (m k : Nat) (x : Den [.list (.int .i64), .int .i64, .int .i64, .int .i64]) : (laws_markIntS.tab m (k + 1)).1 x = runF ⟨lookΓ Γs, lookC (laws_markIntS.cons m), false⟩ Tryz.f15 laws_markIntS.sig (laws_markIntS.cuts m) k [false, true, false, true] ⟨[.row true (.int .i64)], [(0, .l (.slv 0)), (1, .l (.dat (.int .i64))), (5, .l (.dat (.int .i64)))]⟩ [.list (.int .i64), .int .i64, .int .i64, .int .i64] x := by kernel_rfl
theorem laws_markIntS.eq (m : Nat) (x : Den laws_markIntS.sig.ts) : laws_markIntS m x = startF ⟨lookΓ Γs, lookC (laws_markIntS.cons m), false⟩ Tryz.f15 laws_markIntS.sig (laws_markIntS.cuts m) m x := by kernel_rfl
theorem laws_markIntS.ok (m : Nat) : Meets Tryz.prog 15 laws_markIntS.sig (laws_markIntS m) :=
  fn_is (cx_is tyOks mixed (l := laws_markIntS.cons m) trivial) (fn := Tryz.f15) Tryz.func15 (by kernel_rfl) (cl := laws_markIntS.cuts m) ⟨⟨by kernel_rfl, fun _ => rfl, fun k x => laws_markIntS.eq0 m k x⟩, trivial⟩ (k := m) (laws_markIntS.eq m)

/-! ### loop.example/stemma/laws.markText: function 58 -/
abbrev laws_markText.R : Type := Den [.str]
def laws_markText.sig : Sig := ⟨1, ⟨[], [(0, .l (.dat (.int .i64)))]⟩, [.int .i64], ⟨[], [(0, .l (.dat (.str)))]⟩, [.str]⟩
abbrev laws_markText.Tab : Type := (Den [.int .i64, .str] → Option laws_markText.R) × Unit
def laws_markText.start (m : Nat) (t : laws_markText.Tab) (x0 : Int) : Option laws_markText.R :=
  cond (decide (x0 ≤ (0 : Int))) (some (s_6d30, ())) (t.1 (x0, ByteArray.empty, ()))
def laws_markText.b0 (m : Nat) (t : laws_markText.Tab) (a0 : Int) (a1 : ByteArray) : Option laws_markText.R :=
  cond (decide (a0 > (0 : Int))) (cond ((10 : Int) == 0) none (lett ((w64 ((48 : Int) + (Int.tmod a0 (10 : Int)))) : Int) fun v1 => cond (decide (ByteArray.size (strOfNums [(wr .u8 v1)]) + ByteArray.size a1 ≤ cap)) (lett ((ByteArray.append (strOfNums [(wr .u8 v1)]) a1) : ByteArray) fun v2 => cond ((10 : Int) == 0) none (t.1 ((w64 (Int.tdiv a0 (10 : Int))), v2, ()))) none)) (cond (decide (ByteArray.size s_6d + ByteArray.size a1 ≤ cap)) (some ((ByteArray.append s_6d a1), ())) none)
def laws_markText.tab (m : Nat) : Nat → laws_markText.Tab
  | 0 => (fun _ => none, ())
  | k + 1 => (fun x => laws_markText.b0 m (laws_markText.tab m k) x.1 x.2.1, ())
def laws_markText (m : Nat) (x : Den [.int .i64]) : Option laws_markText.R := laws_markText.start m (laws_markText.tab m m) x.1
def laws_markText.cons (m : Nat) : List (Nat × Contract) := []
def laws_markText.cuts (m : Nat) : List (CutF (Den laws_markText.sig.us)) := [⟨[false, false, true, true, true], 60, ⟨[], [(0, .l (.dat (.int .i64))), (3, .l (.dat (.str)))]⟩, [.int .i64, .str], fun k => (laws_markText.tab m k).1⟩]
theorem laws_markText.eq0 (m k : Nat) (x : Den [.int .i64, .str]) : (laws_markText.tab m (k + 1)).1 x = runF ⟨lookΓ Γs, lookC (laws_markText.cons m), false⟩ Tryz.f58 laws_markText.sig (laws_markText.cuts m) k [false, false, true, true, true] ⟨[], [(0, .l (.dat (.int .i64))), (3, .l (.dat (.str)))]⟩ [.int .i64, .str] x := by kernel_rfl
theorem laws_markText.eq (m : Nat) (x : Den laws_markText.sig.ts) : laws_markText m x = startF ⟨lookΓ Γs, lookC (laws_markText.cons m), false⟩ Tryz.f58 laws_markText.sig (laws_markText.cuts m) m x := by kernel_rfl
theorem laws_markText.ok (m : Nat) : Meets Tryz.prog 58 laws_markText.sig (laws_markText m) :=
  fn_is (cx_is tyOks mixed (l := laws_markText.cons m) trivial) (fn := Tryz.f58) Tryz.func58 (by kernel_rfl) (cl := laws_markText.cuts m) ⟨⟨by kernel_rfl, fun _ => rfl, fun k x => laws_markText.eq0 m k x⟩, trivial⟩ (k := m) (laws_markText.eq m)

/-! ### loop.example/stemma/laws.markStringS: function 116 -/
abbrev laws_markStringS.R : Type := Den [.list (.str), .int .i64]
def laws_markStringS.sig : Sig := ⟨2, ⟨[.row true (.str)], [(0, .l (.slv 0)), (1, .l (.dat (.int .i64)))]⟩, [.list (.str), .int .i64, .int .i64], ⟨[.row true (.str)], [(0, .l (.dat (.int .i64)))]⟩, [.list (.str), .int .i64]⟩
abbrev laws_markStringS.Tab : Type := (Den [.list (.str), .int .i64, .int .i64, .int .i64] → Option laws_markStringS.R) × Unit
def laws_markStringS.start (m : Nat) (t : laws_markStringS.Tab) (x0 : List ByteArray) (x1 : Int) (x2 : Int) : Option laws_markStringS.R :=
  t.1 (x0, ((Int.toNat x1) : Int), x2, (0 : Int), ())
def laws_markStringS.b0 (m : Nat) (t : laws_markStringS.Tab) (a0 : List ByteArray) (a1 : Int) (a2 : Int) (a3 : Int) : Option laws_markStringS.R :=
  cond (decide (a3 < ((Int.toNat a1) : Int))) (Option.bind (laws_markText m (a2, ())) fun r1 => cond (decide ((0 : Int) ≤ a3)) (cond (decide (a3 < ((Int.toNat a1) : Int))) (t.1 ((List.set a0 (Int.toNat a3) r1.1), ((Int.toNat a1) : Int), (w64 (a2 + (1 : Int))), (w64 (a3 + (1 : Int))), ())) none) none) (some (a0, a2, ()))
def laws_markStringS.tab (m : Nat) : Nat → laws_markStringS.Tab
  | 0 => (fun _ => none, ())
  | k + 1 => (fun x => laws_markStringS.b0 m (laws_markStringS.tab m k) x.1 x.2.1 x.2.2.1 x.2.2.2.1, ())
def laws_markStringS (m : Nat) (x : Den [.list (.str), .int .i64, .int .i64]) : Option laws_markStringS.R := laws_markStringS.start m (laws_markStringS.tab m m) x.1 x.2.1 x.2.2.1
def laws_markStringS.cons (m : Nat) : List (Nat × Contract) := [(58, ⟨laws_markText.sig, laws_markText m⟩)]
def laws_markStringS.cuts (m : Nat) : List (CutF (Den laws_markStringS.sig.us)) := [⟨[false, true, false, true], 26, ⟨[.row true (.str)], [(0, .l (.slv 0)), (1, .l (.dat (.int .i64))), (5, .l (.dat (.int .i64)))]⟩, [.list (.str), .int .i64, .int .i64, .int .i64], fun k => (laws_markStringS.tab m k).1⟩]
theorem laws_markStringS.eq0 (m k : Nat) (x : Den [.list (.str), .int .i64, .int .i64, .int .i64]) : (laws_markStringS.tab m (k + 1)).1 x = runF ⟨lookΓ Γs, lookC (laws_markStringS.cons m), false⟩ Tryz.f116 laws_markStringS.sig (laws_markStringS.cuts m) k [false, true, false, true] ⟨[.row true (.str)], [(0, .l (.slv 0)), (1, .l (.dat (.int .i64))), (5, .l (.dat (.int .i64)))]⟩ [.list (.str), .int .i64, .int .i64, .int .i64] x := by kernel_rfl
theorem laws_markStringS.eq (m : Nat) (x : Den laws_markStringS.sig.ts) : laws_markStringS m x = startF ⟨lookΓ Γs, lookC (laws_markStringS.cons m), false⟩ Tryz.f116 laws_markStringS.sig (laws_markStringS.cuts m) m x := by kernel_rfl
theorem laws_markStringS.ok (m : Nat) : Meets Tryz.prog 116 laws_markStringS.sig (laws_markStringS m) :=
  fn_is (cx_is tyOks mixed (l := laws_markStringS.cons m) ⟨laws_markText.ok m, trivial⟩) (fn := Tryz.f116) Tryz.func116 (by kernel_rfl) (cl := laws_markStringS.cuts m) ⟨⟨by kernel_rfl, fun _ => rfl, fun k x => laws_markStringS.eq0 m k x⟩, trivial⟩ (k := m) (laws_markStringS.eq m)

/-! ### loop.example/stemma/laws.markFileS: function 84 -/
abbrev laws_markFileS.R : Type := Den [.list (.pair (.str) (.sp (.str))), .int .i64]
def laws_markFileS.sig : Sig := ⟨2, ⟨[.row true (.pair (.str) (.sp (.str)))], [(0, .l (.slv 0)), (1, .l (.dat (.int .i64)))]⟩, [.list (.pair (.str) (.sp (.str))), .int .i64, .int .i64], ⟨[.row true (.pair (.str) (.sp (.str)))], [(0, .l (.dat (.int .i64)))]⟩, [.list (.pair (.str) (.sp (.str))), .int .i64]⟩
abbrev laws_markFileS.Tab : Type := (Den [.list (.pair (.str) (.sp (.str))), .int .i64, .int .i64, .int .i64] → Option laws_markFileS.R) × Unit
def laws_markFileS.start (m : Nat) (t : laws_markFileS.Tab) (x0 : List (ByteArray × (List ByteArray × Nat))) (x1 : Int) (x2 : Int) : Option laws_markFileS.R :=
  t.1 (x0, ((Int.toNat x1) : Int), x2, (0 : Int), ())
def laws_markFileS.b0 (m : Nat) (t : laws_markFileS.Tab) (a0 : List (ByteArray × (List ByteArray × Nat))) (a1 : Int) (a2 : Int) (a3 : Int) : Option laws_markFileS.R :=
  cond (decide (a3 < ((Int.toNat a1) : Int))) (Option.bind (laws_markText m (a2, ())) fun r1 => cond (decide ((0 : Int) ≤ a3)) (cond (decide (a3 < ((Int.toNat a1) : Int))) (lett ((List.set a0 (Int.toNat a3) (r1.1, (List.getD a0 (Int.toNat a3) (ByteArray.empty, ([] : List ByteArray), (0 : Nat))).2)) : List (ByteArray × (List ByteArray × Nat))) fun v2 => cond (decide ((0 : Int) ≤ a3)) (cond (decide (a3 < ((Int.toNat a1) : Int))) (lett ((List.getD v2 (Int.toNat a3) (ByteArray.empty, ([] : List ByteArray), (0 : Nat))).2.1 : List ByteArray) fun v3 => Option.bind (laws_markStringS m (v3, ((List.getD v2 (Int.toNat a3) (ByteArray.empty, ([] : List ByteArray), (0 : Nat))).2.2 : Int), (w64 (a2 + (1 : Int))), ())) fun r4 => lett ((List.set v2 (Int.toNat a3) ((List.getD v2 (Int.toNat a3) (ByteArray.empty, ([] : List ByteArray), (0 : Nat))).1, r4.1, (List.getD v2 (Int.toNat a3) (ByteArray.empty, ([] : List ByteArray), (0 : Nat))).2.2)) : List (ByteArray × (List ByteArray × Nat))) fun v5 => t.1 (v5, ((Int.toNat a1) : Int), r4.2.1, (w64 (a3 + (1 : Int))), ())) none) none) none) none) (some (a0, a2, ()))
def laws_markFileS.tab (m : Nat) : Nat → laws_markFileS.Tab
  | 0 => (fun _ => none, ())
  | k + 1 => (fun x => laws_markFileS.b0 m (laws_markFileS.tab m k) x.1 x.2.1 x.2.2.1 x.2.2.2.1, ())
def laws_markFileS (m : Nat) (x : Den [.list (.pair (.str) (.sp (.str))), .int .i64, .int .i64]) : Option laws_markFileS.R := laws_markFileS.start m (laws_markFileS.tab m m) x.1 x.2.1 x.2.2.1
def laws_markFileS.cons (m : Nat) : List (Nat × Contract) := [(58, ⟨laws_markText.sig, laws_markText m⟩), (116, ⟨laws_markStringS.sig, laws_markStringS m⟩)]
def laws_markFileS.cuts (m : Nat) : List (CutF (Den laws_markFileS.sig.us)) := [⟨[false, true, false, true], 26, ⟨[.row true (.pair (.str) (.sp (.str)))], [(0, .l (.slv 0)), (1, .l (.dat (.int .i64))), (5, .l (.dat (.int .i64)))]⟩, [.list (.pair (.str) (.sp (.str))), .int .i64, .int .i64, .int .i64], fun k => (laws_markFileS.tab m k).1⟩]
theorem laws_markFileS.eq0 (m k : Nat) (x : Den [.list (.pair (.str) (.sp (.str))), .int .i64, .int .i64, .int .i64]) : (laws_markFileS.tab m (k + 1)).1 x = runF ⟨lookΓ Γs, lookC (laws_markFileS.cons m), false⟩ Tryz.f84 laws_markFileS.sig (laws_markFileS.cuts m) k [false, true, false, true] ⟨[.row true (.pair (.str) (.sp (.str)))], [(0, .l (.slv 0)), (1, .l (.dat (.int .i64))), (5, .l (.dat (.int .i64)))]⟩ [.list (.pair (.str) (.sp (.str))), .int .i64, .int .i64, .int .i64] x := by kernel_rfl
theorem laws_markFileS.eq (m : Nat) (x : Den laws_markFileS.sig.ts) : laws_markFileS m x = startF ⟨lookΓ Γs, lookC (laws_markFileS.cons m), false⟩ Tryz.f84 laws_markFileS.sig (laws_markFileS.cuts m) m x := by kernel_rfl
theorem laws_markFileS.ok (m : Nat) : Meets Tryz.prog 84 laws_markFileS.sig (laws_markFileS m) :=
  fn_is (cx_is tyOks mixed (l := laws_markFileS.cons m) ⟨laws_markText.ok m, laws_markStringS.ok m, trivial⟩) (fn := Tryz.f84) Tryz.func84 (by kernel_rfl) (cl := laws_markFileS.cuts m) ⟨⟨by kernel_rfl, fun _ => rfl, fun k x => laws_markFileS.eq0 m k x⟩, trivial⟩ (k := m) (laws_markFileS.eq m)

/-! ### loop.example/stemma/laws.markCommitS: function 44 -/
abbrev laws_markCommitS.R : Type := Den [.list (.pair (.sp (.int .i64)) (.pair (.str) (.sp (.pair (.str) (.sp (.str)))))), .int .i64]
def laws_markCommitS.sig : Sig := ⟨2, ⟨[.row true (.pair (.sp (.int .i64)) (.pair (.str) (.sp (.pair (.str) (.sp (.str))))))], [(0, .l (.slv 0)), (1, .l (.dat (.int .i64)))]⟩, [.list (.pair (.sp (.int .i64)) (.pair (.str) (.sp (.pair (.str) (.sp (.str)))))), .int .i64, .int .i64], ⟨[.row true (.pair (.sp (.int .i64)) (.pair (.str) (.sp (.pair (.str) (.sp (.str))))))], [(0, .l (.dat (.int .i64)))]⟩, [.list (.pair (.sp (.int .i64)) (.pair (.str) (.sp (.pair (.str) (.sp (.str)))))), .int .i64]⟩
abbrev laws_markCommitS.Tab : Type := (Den [.list (.pair (.sp (.int .i64)) (.pair (.str) (.sp (.pair (.str) (.sp (.str)))))), .int .i64, .int .i64, .int .i64] → Option laws_markCommitS.R) × Unit
def laws_markCommitS.start (m : Nat) (t : laws_markCommitS.Tab) (x0 : List ((List Int × Nat) × ByteArray × (List (ByteArray × (List ByteArray × Nat)) × Nat))) (x1 : Int) (x2 : Int) : Option laws_markCommitS.R :=
  t.1 (x0, ((Int.toNat x1) : Int), x2, (0 : Int), ())
def laws_markCommitS.b0 (m : Nat) (t : laws_markCommitS.Tab) (a0 : List ((List Int × Nat) × ByteArray × (List (ByteArray × (List ByteArray × Nat)) × Nat))) (a1 : Int) (a2 : Int) (a3 : Int) : Option laws_markCommitS.R :=
  cond (decide (a3 < ((Int.toNat a1) : Int))) (cond (decide ((0 : Int) ≤ a3)) (cond (decide (a3 < ((Int.toNat a1) : Int))) (lett ((List.getD a0 (Int.toNat a3) ((([] : List Int), (0 : Nat)), ByteArray.empty, ([] : List (ByteArray × (List ByteArray × Nat))), (0 : Nat))).1.1 : List Int) fun v1 => Option.bind (laws_markIntS m (v1, ((List.getD a0 (Int.toNat a3) ((([] : List Int), (0 : Nat)), ByteArray.empty, ([] : List (ByteArray × (List ByteArray × Nat))), (0 : Nat))).1.2 : Int), a2, ())) fun r2 => lett ((List.set a0 (Int.toNat a3) ((r2.1, (List.getD a0 (Int.toNat a3) ((([] : List Int), (0 : Nat)), ByteArray.empty, ([] : List (ByteArray × (List ByteArray × Nat))), (0 : Nat))).1.2), (List.getD a0 (Int.toNat a3) ((([] : List Int), (0 : Nat)), ByteArray.empty, ([] : List (ByteArray × (List ByteArray × Nat))), (0 : Nat))).2)) : List ((List Int × Nat) × ByteArray × (List (ByteArray × (List ByteArray × Nat)) × Nat))) fun v3 => Option.bind (laws_markText m (r2.2.1, ())) fun r4 => cond (decide ((0 : Int) ≤ a3)) (cond (decide (a3 < ((Int.toNat a1) : Int))) (lett ((List.set v3 (Int.toNat a3) ((List.getD v3 (Int.toNat a3) ((([] : List Int), (0 : Nat)), ByteArray.empty, ([] : List (ByteArray × (List ByteArray × Nat))), (0 : Nat))).1, r4.1, (List.getD v3 (Int.toNat a3) ((([] : List Int), (0 : Nat)), ByteArray.empty, ([] : List (ByteArray × (List ByteArray × Nat))), (0 : Nat))).2.2)) : List ((List Int × Nat) × ByteArray × (List (ByteArray × (List ByteArray × Nat)) × Nat))) fun v5 => cond (decide ((0 : Int) ≤ a3)) (cond (decide (a3 < ((Int.toNat a1) : Int))) (lett ((List.getD v5 (Int.toNat a3) ((([] : List Int), (0 : Nat)), ByteArray.empty, ([] : List (ByteArray × (List ByteArray × Nat))), (0 : Nat))).2.2.1 : List (ByteArray × (List ByteArray × Nat))) fun v6 => Option.bind (laws_markFileS m (v6, ((List.getD v5 (Int.toNat a3) ((([] : List Int), (0 : Nat)), ByteArray.empty, ([] : List (ByteArray × (List ByteArray × Nat))), (0 : Nat))).2.2.2 : Int), (w64 (r2.2.1 + (1 : Int))), ())) fun r7 => lett ((List.set v5 (Int.toNat a3) ((List.getD v5 (Int.toNat a3) ((([] : List Int), (0 : Nat)), ByteArray.empty, ([] : List (ByteArray × (List ByteArray × Nat))), (0 : Nat))).1, (List.getD v5 (Int.toNat a3) ((([] : List Int), (0 : Nat)), ByteArray.empty, ([] : List (ByteArray × (List ByteArray × Nat))), (0 : Nat))).2.1, r7.1, (List.getD v5 (Int.toNat a3) ((([] : List Int), (0 : Nat)), ByteArray.empty, ([] : List (ByteArray × (List ByteArray × Nat))), (0 : Nat))).2.2.2)) : List ((List Int × Nat) × ByteArray × (List (ByteArray × (List ByteArray × Nat)) × Nat))) fun v8 => t.1 (v8, ((Int.toNat a1) : Int), r7.2.1, (w64 (a3 + (1 : Int))), ())) none) none) none) none) none) none) (some (a0, a2, ()))
def laws_markCommitS.tab (m : Nat) : Nat → laws_markCommitS.Tab
  | 0 => (fun _ => none, ())
  | k + 1 => (fun x => laws_markCommitS.b0 m (laws_markCommitS.tab m k) x.1 x.2.1 x.2.2.1 x.2.2.2.1, ())
def laws_markCommitS (m : Nat) (x : Den [.list (.pair (.sp (.int .i64)) (.pair (.str) (.sp (.pair (.str) (.sp (.str)))))), .int .i64, .int .i64]) : Option laws_markCommitS.R := laws_markCommitS.start m (laws_markCommitS.tab m m) x.1 x.2.1 x.2.2.1
def laws_markCommitS.cons (m : Nat) : List (Nat × Contract) := [(15, ⟨laws_markIntS.sig, laws_markIntS m⟩), (58, ⟨laws_markText.sig, laws_markText m⟩), (84, ⟨laws_markFileS.sig, laws_markFileS m⟩)]
def laws_markCommitS.cuts (m : Nat) : List (CutF (Den laws_markCommitS.sig.us)) := [⟨[false, true, false, true], 26, ⟨[.row true (.pair (.sp (.int .i64)) (.pair (.str) (.sp (.pair (.str) (.sp (.str))))))], [(0, .l (.slv 0)), (1, .l (.dat (.int .i64))), (5, .l (.dat (.int .i64)))]⟩, [.list (.pair (.sp (.int .i64)) (.pair (.str) (.sp (.pair (.str) (.sp (.str)))))), .int .i64, .int .i64, .int .i64], fun k => (laws_markCommitS.tab m k).1⟩]
theorem laws_markCommitS.eq0 (m k : Nat) (x : Den [.list (.pair (.sp (.int .i64)) (.pair (.str) (.sp (.pair (.str) (.sp (.str)))))), .int .i64, .int .i64, .int .i64]) : (laws_markCommitS.tab m (k + 1)).1 x = runF ⟨lookΓ Γs, lookC (laws_markCommitS.cons m), false⟩ Tryz.f44 laws_markCommitS.sig (laws_markCommitS.cuts m) k [false, true, false, true] ⟨[.row true (.pair (.sp (.int .i64)) (.pair (.str) (.sp (.pair (.str) (.sp (.str))))))], [(0, .l (.slv 0)), (1, .l (.dat (.int .i64))), (5, .l (.dat (.int .i64)))]⟩ [.list (.pair (.sp (.int .i64)) (.pair (.str) (.sp (.pair (.str) (.sp (.str)))))), .int .i64, .int .i64, .int .i64] x := by kernel_rfl
theorem laws_markCommitS.eq (m : Nat) (x : Den laws_markCommitS.sig.ts) : laws_markCommitS m x = startF ⟨lookΓ Γs, lookC (laws_markCommitS.cons m), false⟩ Tryz.f44 laws_markCommitS.sig (laws_markCommitS.cuts m) m x := by kernel_rfl
theorem laws_markCommitS.ok (m : Nat) : Meets Tryz.prog 44 laws_markCommitS.sig (laws_markCommitS m) :=
  fn_is (cx_is tyOks mixed (l := laws_markCommitS.cons m) ⟨laws_markIntS.ok m, laws_markText.ok m, laws_markFileS.ok m, trivial⟩) (fn := Tryz.f44) Tryz.func44 (by kernel_rfl) (cl := laws_markCommitS.cuts m) ⟨⟨by kernel_rfl, fun _ => rfl, fun k x => laws_markCommitS.eq0 m k x⟩, trivial⟩ (k := m) (laws_markCommitS.eq m)

/-! ### loop.example/stemma/laws.markHeadS: function 25 -/
abbrev laws_markHeadS.R : Type := Den [.list (.pair (.str) (.int .i64)), .int .i64]
def laws_markHeadS.sig : Sig := ⟨2, ⟨[.row true (.pair (.str) (.int .i64))], [(0, .l (.slv 0)), (1, .l (.dat (.int .i64)))]⟩, [.list (.pair (.str) (.int .i64)), .int .i64, .int .i64], ⟨[.row true (.pair (.str) (.int .i64))], [(0, .l (.dat (.int .i64)))]⟩, [.list (.pair (.str) (.int .i64)), .int .i64]⟩
abbrev laws_markHeadS.Tab : Type := (Den [.list (.pair (.str) (.int .i64)), .int .i64, .int .i64, .int .i64] → Option laws_markHeadS.R) × Unit
def laws_markHeadS.start (m : Nat) (t : laws_markHeadS.Tab) (x0 : List (ByteArray × Int)) (x1 : Int) (x2 : Int) : Option laws_markHeadS.R :=
  t.1 (x0, ((Int.toNat x1) : Int), x2, (0 : Int), ())
def laws_markHeadS.b0 (m : Nat) (t : laws_markHeadS.Tab) (a0 : List (ByteArray × Int)) (a1 : Int) (a2 : Int) (a3 : Int) : Option laws_markHeadS.R :=
  cond (decide (a3 < ((Int.toNat a1) : Int))) (Option.bind (laws_markText m (a2, ())) fun r1 => cond (decide ((0 : Int) ≤ a3)) (cond (decide (a3 < ((Int.toNat a1) : Int))) (lett ((List.set a0 (Int.toNat a3) (r1.1, (List.getD a0 (Int.toNat a3) (ByteArray.empty, (0 : Int))).2)) : List (ByteArray × Int)) fun v2 => cond (decide ((0 : Int) ≤ a3)) (cond (decide (a3 < ((Int.toNat a1) : Int))) (lett ((List.set v2 (Int.toNat a3) ((List.getD v2 (Int.toNat a3) (ByteArray.empty, (0 : Int))).1, (w64 (a2 + (1 : Int))))) : List (ByteArray × Int)) fun v3 => lett ((w64 ((w64 (a2 + (1 : Int))) + (1 : Int))) : Int) fun v4 => t.1 (v3, ((Int.toNat a1) : Int), v4, (w64 (a3 + (1 : Int))), ())) none) none) none) none) (some (a0, a2, ()))
def laws_markHeadS.tab (m : Nat) : Nat → laws_markHeadS.Tab
  | 0 => (fun _ => none, ())
  | k + 1 => (fun x => laws_markHeadS.b0 m (laws_markHeadS.tab m k) x.1 x.2.1 x.2.2.1 x.2.2.2.1, ())
def laws_markHeadS (m : Nat) (x : Den [.list (.pair (.str) (.int .i64)), .int .i64, .int .i64]) : Option laws_markHeadS.R := laws_markHeadS.start m (laws_markHeadS.tab m m) x.1 x.2.1 x.2.2.1
def laws_markHeadS.cons (m : Nat) : List (Nat × Contract) := [(58, ⟨laws_markText.sig, laws_markText m⟩)]
def laws_markHeadS.cuts (m : Nat) : List (CutF (Den laws_markHeadS.sig.us)) := [⟨[false, true, false, true], 26, ⟨[.row true (.pair (.str) (.int .i64))], [(0, .l (.slv 0)), (1, .l (.dat (.int .i64))), (5, .l (.dat (.int .i64)))]⟩, [.list (.pair (.str) (.int .i64)), .int .i64, .int .i64, .int .i64], fun k => (laws_markHeadS.tab m k).1⟩]
theorem laws_markHeadS.eq0 (m k : Nat) (x : Den [.list (.pair (.str) (.int .i64)), .int .i64, .int .i64, .int .i64]) : (laws_markHeadS.tab m (k + 1)).1 x = runF ⟨lookΓ Γs, lookC (laws_markHeadS.cons m), false⟩ Tryz.f25 laws_markHeadS.sig (laws_markHeadS.cuts m) k [false, true, false, true] ⟨[.row true (.pair (.str) (.int .i64))], [(0, .l (.slv 0)), (1, .l (.dat (.int .i64))), (5, .l (.dat (.int .i64)))]⟩ [.list (.pair (.str) (.int .i64)), .int .i64, .int .i64, .int .i64] x := by kernel_rfl
theorem laws_markHeadS.eq (m : Nat) (x : Den laws_markHeadS.sig.ts) : laws_markHeadS m x = startF ⟨lookΓ Γs, lookC (laws_markHeadS.cons m), false⟩ Tryz.f25 laws_markHeadS.sig (laws_markHeadS.cuts m) m x := by kernel_rfl
theorem laws_markHeadS.ok (m : Nat) : Meets Tryz.prog 25 laws_markHeadS.sig (laws_markHeadS m) :=
  fn_is (cx_is tyOks mixed (l := laws_markHeadS.cons m) ⟨laws_markText.ok m, trivial⟩) (fn := Tryz.f25) Tryz.func25 (by kernel_rfl) (cl := laws_markHeadS.cuts m) ⟨⟨by kernel_rfl, fun _ => rfl, fun k x => laws_markHeadS.eq0 m k x⟩, trivial⟩ (k := m) (laws_markHeadS.eq m)

/-! ### loop.example/stemma/laws.markRepo: function 14 -/
abbrev laws_markRepo.R : Type := Den [.list (.pair (.sp (.int .i64)) (.pair (.str) (.sp (.pair (.str) (.sp (.str)))))), .list (.pair (.str) (.int .i64)), .int .i64]
def laws_markRepo.sig : Sig := ⟨2, ⟨[.row true (.pair (.sp (.int .i64)) (.pair (.str) (.sp (.pair (.str) (.sp (.str)))))), .row true (.pair (.str) (.int .i64))], [(0, .agg [.slv 0, .slv 1]), (1, .l (.dat (.int .i64)))]⟩, [.list (.pair (.sp (.int .i64)) (.pair (.str) (.sp (.pair (.str) (.sp (.str)))))), .list (.pair (.str) (.int .i64)), .int .i64, .int .i64, .int .i64], ⟨[.row true (.pair (.sp (.int .i64)) (.pair (.str) (.sp (.pair (.str) (.sp (.str)))))), .row true (.pair (.str) (.int .i64))], [(0, .l (.dat (.int .i64)))]⟩, [.list (.pair (.sp (.int .i64)) (.pair (.str) (.sp (.pair (.str) (.sp (.str)))))), .list (.pair (.str) (.int .i64)), .int .i64]⟩
abbrev laws_markRepo.Tab : Type := Unit
def laws_markRepo.start (m : Nat) (t : laws_markRepo.Tab) (x0 : List ((List Int × Nat) × ByteArray × (List (ByteArray × (List ByteArray × Nat)) × Nat))) (x1 : List (ByteArray × Int)) (x2 : Int) (x3 : Int) (x4 : Int) : Option laws_markRepo.R :=
  Option.bind (laws_markCommitS m (x0, ((Int.toNat x2) : Int), x4, ())) fun r1 => Option.bind (laws_markHeadS m (x1, ((Int.toNat x3) : Int), r1.2.1, ())) fun r2 => some (r1.1, r2.1, r2.2.1, ())
def laws_markRepo.tab (m : Nat) : Nat → laws_markRepo.Tab
  | 0 => (())
  | k + 1 => (())
def laws_markRepo (m : Nat) (x : Den [.list (.pair (.sp (.int .i64)) (.pair (.str) (.sp (.pair (.str) (.sp (.str)))))), .list (.pair (.str) (.int .i64)), .int .i64, .int .i64, .int .i64]) : Option laws_markRepo.R := laws_markRepo.start m (laws_markRepo.tab m m) x.1 x.2.1 x.2.2.1 x.2.2.2.1 x.2.2.2.2.1
def laws_markRepo.cons (m : Nat) : List (Nat × Contract) := [(44, ⟨laws_markCommitS.sig, laws_markCommitS m⟩), (25, ⟨laws_markHeadS.sig, laws_markHeadS m⟩)]
def laws_markRepo.cuts (m : Nat) : List (CutF (Den laws_markRepo.sig.us)) := []
theorem laws_markRepo.eq (m : Nat) (x : Den laws_markRepo.sig.ts) : laws_markRepo m x = startF ⟨lookΓ Γs, lookC (laws_markRepo.cons m), false⟩ Tryz.f14 laws_markRepo.sig (laws_markRepo.cuts m) m x := by kernel_rfl
theorem laws_markRepo.ok (m : Nat) : Meets Tryz.prog 14 laws_markRepo.sig (laws_markRepo m) :=
  fn_is (cx_is tyOks mixed (l := laws_markRepo.cons m) ⟨laws_markCommitS.ok m, laws_markHeadS.ok m, trivial⟩) (fn := Tryz.f14) Tryz.func14 (by kernel_rfl) (cl := laws_markRepo.cuts m) trivial (k := m) (laws_markRepo.eq m)

/-! ### loop.example/stemma/laws.heldIntS: function 16 -/
abbrev laws_heldIntS.R : Type := Den [.int .i64]
def laws_heldIntS.sig : Sig := ⟨2, ⟨[], [(0, .l (.dat (.sp (.int .i64)))), (1, .l (.dat (.int .i64)))]⟩, [.sp (.int .i64), .int .i64], ⟨[], [(0, .l (.dat (.int .i64)))]⟩, [.int .i64]⟩
abbrev laws_heldIntS.Tab : Type := (Den [.sp (.int .i64), .int .i64, .int .i64] → Option laws_heldIntS.R) × Unit
def laws_heldIntS.start (m : Nat) (t : laws_heldIntS.Tab) (x0 : List Int × Nat) (x1 : Int) : Option laws_heldIntS.R :=
  t.1 (x0, x1, (0 : Int), ())
def laws_heldIntS.b0 (m : Nat) (t : laws_heldIntS.Tab) (a0 : List Int × Nat) (a1 : Int) (a2 : Int) : Option laws_heldIntS.R :=
  cond (decide (a2 < (a0.2 : Int))) (cond (decide ((0 : Int) ≤ a2)) (cond (decide (a2 < (a0.2 : Int))) (cond ((getL a0.1 a2 (0 : Int)) != a1) (some ((-1 : Int), ())) (t.1 (a0, (w64 (a1 + (1 : Int))), (w64 (a2 + (1 : Int))), ()))) none) none) (some (a1, ()))
def laws_heldIntS.tab (m : Nat) : Nat → laws_heldIntS.Tab
  | 0 => (fun _ => none, ())
  | k + 1 => (fun x => laws_heldIntS.b0 m (laws_heldIntS.tab m k) x.1 x.2.1 x.2.2.1, ())
def laws_heldIntS (m : Nat) (x : Den [.sp (.int .i64), .int .i64]) : Option laws_heldIntS.R := laws_heldIntS.start m (laws_heldIntS.tab m m) x.1 x.2.1
def laws_heldIntS.cons (m : Nat) : List (Nat × Contract) := []
def laws_heldIntS.cuts (m : Nat) : List (CutF (Den laws_heldIntS.sig.us)) := [⟨[false, true, false, true], 26, ⟨[], [(0, .l (.dat (.sp (.int .i64)))), (1, .l (.dat (.int .i64))), (5, .l (.dat (.int .i64)))]⟩, [.sp (.int .i64), .int .i64, .int .i64], fun k => (laws_heldIntS.tab m k).1⟩]
theorem laws_heldIntS.eq0 (m k : Nat) (x : Den [.sp (.int .i64), .int .i64, .int .i64]) : (laws_heldIntS.tab m (k + 1)).1 x = runF ⟨lookΓ Γs, lookC (laws_heldIntS.cons m), false⟩ Tryz.f16 laws_heldIntS.sig (laws_heldIntS.cuts m) k [false, true, false, true] ⟨[], [(0, .l (.dat (.sp (.int .i64)))), (1, .l (.dat (.int .i64))), (5, .l (.dat (.int .i64)))]⟩ [.sp (.int .i64), .int .i64, .int .i64] x := by kernel_rfl
theorem laws_heldIntS.eq (m : Nat) (x : Den laws_heldIntS.sig.ts) : laws_heldIntS m x = startF ⟨lookΓ Γs, lookC (laws_heldIntS.cons m), false⟩ Tryz.f16 laws_heldIntS.sig (laws_heldIntS.cuts m) m x := by kernel_rfl
theorem laws_heldIntS.ok (m : Nat) : Meets Tryz.prog 16 laws_heldIntS.sig (laws_heldIntS m) :=
  fn_is (cx_is tyOks mixed (l := laws_heldIntS.cons m) trivial) (fn := Tryz.f16) Tryz.func16 (by kernel_rfl) (cl := laws_heldIntS.cuts m) ⟨⟨by kernel_rfl, fun _ => rfl, fun k x => laws_heldIntS.eq0 m k x⟩, trivial⟩ (k := m) (laws_heldIntS.eq m)

/-! ### loop.example/stemma/laws.FnExactSeekAll: function 3 -/
abbrev laws_FnExactSeekAll.R : Type := Den [.bool]
def laws_FnExactSeekAll.sig : Sig := ⟨2, ⟨[], [(0, .agg [.dat (.list (.pair (.list (.int .i64)) (.pair (.str) (.list (.pair (.str) (.list (.str))))))), .dat (.list (.pair (.str) (.int .i64)))]), (1, .l (.dat (.str)))]⟩, [.list (.pair (.list (.int .i64)) (.pair (.str) (.list (.pair (.str) (.list (.str)))))), .list (.pair (.str) (.int .i64)), .str], ⟨[], [(0, .l (.dat (.bool)))]⟩, [.bool]⟩
abbrev laws_FnExactSeekAll.Tab : Type := Unit
def laws_FnExactSeekAll.start (m : Nat) (t : laws_FnExactSeekAll.Tab) (x0 : List (List Int × ByteArray × List (ByteArray × List ByteArray))) (x1 : List (ByteArray × Int)) (x2 : ByteArray) : Option laws_FnExactSeekAll.R :=
  Option.bind (laws_szRepo m (((List.map (fun z17 => ((z17.1, (List.length z17.1)), z17.2.1, (List.map (fun z18 => (z18.1, z18.2, (List.length z18.2))) z17.2.2), (List.length z17.2.2))) x0), (List.length x0)), (x1, (List.length x1)), (w64 ((1000000 : Int) - (sLen x2))), ())) fun r1 => cond (decide (r1.1 < (0 : Int))) (some (true, ())) (Option.bind (laws_toRepo m (((List.map (fun z19 => ((z19.1, (List.length z19.1)), z19.2.1, (List.map (fun z20 => (z20.1, z20.2, (List.length z20.2))) z19.2.2), (List.length z19.2.2))) x0), (List.length x0)), (x1, (List.length x1)), false, ())) fun r2 => Option.bind (spec_SeekAll m ((List.map (fun z21 => ((List.take z21.1.2 z21.1.1), z21.2.1, (List.map (fun z22 => (z22.1, (List.take z22.2.2 z22.2.1))) (List.take z21.2.2.2 z21.2.2.1)))) (List.take (Int.toNat r2.2.2.1) r2.1)), (List.take (Int.toNat r2.2.2.2.1) r2.2.1), x2, ())) fun r3 => Option.bind (laws_toRepo m (((List.map (fun z23 => ((z23.1, (List.length z23.1)), z23.2.1, (List.map (fun z24 => (z24.1, z24.2, (List.length z24.2))) z23.2.2), (List.length z23.2.2))) x0), (List.length x0)), (x1, (List.length x1)), false, ())) fun r4 => Option.bind (impl_SeekAll m ((List.map (fun z25 => ((List.take z25.1.2 z25.1.1), z25.2.1, (List.map (fun z26 => (z26.1, (List.take z26.2.2 z26.2.1))) (List.take z25.2.2.2 z25.2.2.1)))) (List.take (Int.toNat r4.2.2.1) r4.1)), (List.take (Int.toNat r4.2.2.2.1) r4.2.1), x2, ())) fun r5 => Option.bind (laws_eqIntS m ((r5.1, (List.length r5.1)), (r3.1, (List.length r3.1)), ())) fun r6 => cond (!r6.1) (some (false, ())) (Option.bind (laws_toRepo m (((List.map (fun z27 => ((z27.1, (List.length z27.1)), z27.2.1, (List.map (fun z28 => (z28.1, z28.2, (List.length z28.2))) z27.2.2), (List.length z27.2.2))) x0), (List.length x0)), (x1, (List.length x1)), false, ())) fun r7 => Option.bind (laws_intactRepo m ((r4.1, (Int.toNat r4.2.2.1)), (r4.2.1, (Int.toNat r4.2.2.2.1)), (r7.1, (Int.toNat r7.2.2.1)), (r7.2.1, (Int.toNat r7.2.2.2.1)), ())) fun r8 => cond (!r8.1) (some (false, ())) (Option.bind (laws_markRepo m (r4.1, r4.2.1, ((Int.toNat r4.2.2.1) : Int), ((Int.toNat r4.2.2.2.1) : Int), (101 : Int), ())) fun r9 => cond (decide (r9.2.2.1 < (0 : Int))) (some (false, ())) (Option.bind (laws_eqIntS m ((r5.1, (List.length r5.1)), (r3.1, (List.length r3.1)), ())) fun r10 => cond (!r10.1) (some (false, ())) (Option.bind (laws_markIntS m (r5.1, ((List.length r5.1 : Nat) : Int), (101 : Int), ())) fun r11 => Option.bind (laws_heldIntS m ((r11.1, (List.length r11.1)), (101 : Int), ())) fun r12 => cond (decide (r12.1 < (0 : Int))) (some (false, ())) (cond (r12.1 != r11.2.1) (some (false, ())) (Option.bind (laws_toRepo m (((List.map (fun z29 => ((z29.1, (List.length z29.1)), z29.2.1, (List.map (fun z30 => (z30.1, z30.2, (List.length z30.2))) z29.2.2), (List.length z29.2.2))) x0), (List.length x0)), (x1, (List.length x1)), true, ())) fun r13 => Option.bind (impl_SeekAll m ((List.map (fun z31 => ((List.take z31.1.2 z31.1.1), z31.2.1, (List.map (fun z32 => (z32.1, (List.take z32.2.2 z32.2.1))) (List.take z31.2.2.2 z31.2.2.1)))) (List.take (Int.toNat r13.2.2.1) r13.1)), (List.take (Int.toNat r13.2.2.2.1) r13.2.1), x2, ())) fun r14 => Option.bind (laws_eqIntS m ((r14.1, (List.length r14.1)), (r3.1, (List.length r3.1)), ())) fun r15 => cond (!r15.1) (some (false, ())) (Option.bind (laws_heldIntS m ((r11.1, (List.length r11.1)), (101 : Int), ())) fun r16 => cond (decide (r16.1 < (0 : Int))) (some (false, ())) (cond (r16.1 != r11.2.1) (some (false, ())) (some (true, ())))))))))))
def laws_FnExactSeekAll.tab (m : Nat) : Nat → laws_FnExactSeekAll.Tab
  | 0 => (())
  | k + 1 => (())
def laws_FnExactSeekAll (m : Nat) (x : Den [.list (.pair (.list (.int .i64)) (.pair (.str) (.list (.pair (.str) (.list (.str)))))), .list (.pair (.str) (.int .i64)), .str]) : Option laws_FnExactSeekAll.R := laws_FnExactSeekAll.start m (laws_FnExactSeekAll.tab m m) x.1 x.2.1 x.2.2.1
def laws_FnExactSeekAll.cons (m : Nat) : List (Nat × Contract) := [(8, ⟨laws_szRepo.sig, laws_szRepo m⟩), (10, ⟨laws_toRepo.sig, laws_toRepo m⟩), (9, ⟨spec_SeekAll.sig, spec_SeekAll m⟩), (11, ⟨impl_SeekAll.sig, impl_SeekAll m⟩), (12, ⟨laws_eqIntS.sig, laws_eqIntS m⟩), (13, ⟨laws_intactRepo.sig, laws_intactRepo m⟩), (14, ⟨laws_markRepo.sig, laws_markRepo m⟩), (15, ⟨laws_markIntS.sig, laws_markIntS m⟩), (16, ⟨laws_heldIntS.sig, laws_heldIntS m⟩)]
def laws_FnExactSeekAll.cuts (m : Nat) : List (CutF (Den laws_FnExactSeekAll.sig.us)) := []
theorem laws_FnExactSeekAll.eq (m : Nat) (x : Den laws_FnExactSeekAll.sig.ts) : laws_FnExactSeekAll m x = startF ⟨lookΓ Γs, lookC (laws_FnExactSeekAll.cons m), false⟩ Tryz.f3 laws_FnExactSeekAll.sig (laws_FnExactSeekAll.cuts m) m x := by kernel_rfl
theorem laws_FnExactSeekAll.ok (m : Nat) : Meets Tryz.prog 3 laws_FnExactSeekAll.sig (laws_FnExactSeekAll m) :=
  fn_is (cx_is tyOks mixed (l := laws_FnExactSeekAll.cons m) ⟨laws_szRepo.ok m, laws_toRepo.ok m, spec_SeekAll.ok m, impl_SeekAll.ok m, laws_eqIntS.ok m, laws_intactRepo.ok m, laws_markRepo.ok m, laws_markIntS.ok m, laws_heldIntS.ok m, trivial⟩) (fn := Tryz.f3) Tryz.func3 (by kernel_rfl) (cl := laws_FnExactSeekAll.cuts m) trivial (k := m) (laws_FnExactSeekAll.eq m)

end
end Go.Sx.Tryz
