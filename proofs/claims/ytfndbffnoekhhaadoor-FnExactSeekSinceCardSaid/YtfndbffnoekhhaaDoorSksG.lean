/- The functions that FnExactSeekSince reaches, as plain Lean functions, and that the program's functions do what these say: no condition. Printed by wip/gen/sx.py. -/
import Derived.Test.YtfndbffnoekhhaaDoorSksGA
namespace Go.Sx.Tryd
open Go Go.Proofs Go.Sx
set_option linter.unusedVariables false
noncomputable section
/-! ### loop.example/stemma/spec.l22Text: function 140 -/
abbrev spec_l22Text.R : Type := Den [.bool]
def spec_l22Text.sig : Sig := ⟨2, ⟨[], [(0, .l (.dat (.list (.str)))), (1, .l (.dat (.str)))]⟩, [.list (.str), .str], ⟨[], [(0, .l (.dat (.bool)))]⟩, [.bool]⟩
abbrev spec_l22Text.Tab : Type := (Den [.list (.str), .str, .int .i64] → Option spec_l22Text.R) × Unit
def spec_l22Text.start (m : Nat) (t : spec_l22Text.Tab) (x0 : List ByteArray) (x1 : ByteArray) : Option spec_l22Text.R :=
  t.1 (x0, x1, (0 : Int), ())
def spec_l22Text.b0 (m : Nat) (t : spec_l22Text.Tab) (a0 : List ByteArray) (a1 : ByteArray) (a2 : Int) : Option spec_l22Text.R :=
  cond (decide (a2 < (lLen a0))) (cond (decide ((0 : Int) ≤ a2)) (cond (decide (a2 < lLen a0)) (Option.bind (spec_l22Has m ((getL a0 a2 ByteArray.empty), a1, ())) fun r1 => cond r1.1 (some (true, ())) (t.1 (a0, a1, (w64 (a2 + (1 : Int))), ()))) none) none) (some (false, ()))
def spec_l22Text.tab (m : Nat) : Nat → spec_l22Text.Tab
  | 0 => (fun _ => none, ())
  | k + 1 => (fun x => spec_l22Text.b0 m (spec_l22Text.tab m k) x.1 x.2.1 x.2.2.1, ())
def spec_l22Text (m : Nat) (x : Den [.list (.str), .str]) : Option spec_l22Text.R := spec_l22Text.start m (spec_l22Text.tab m m) x.1 x.2.1
def spec_l22Text.cons (m : Nat) : List (Nat × Contract) := [(160, ⟨spec_l22Has.sig, spec_l22Has m⟩)]
def spec_l22Text.cuts (m : Nat) : List (CutF (Den spec_l22Text.sig.us)) := [⟨[false, true, false, true], 26, ⟨[], [(0, .l (.dat (.list (.str)))), (1, .l (.dat (.str))), (5, .l (.dat (.int .i64)))]⟩, [.list (.str), .str, .int .i64], fun k => (spec_l22Text.tab m k).1⟩]
theorem spec_l22Text.eq0 (m k : Nat) (x : Den [.list (.str), .str, .int .i64]) : (spec_l22Text.tab m (k + 1)).1 x = runF ⟨lookΓ Γl, lookC (spec_l22Text.cons m)⟩ Tryd.f140 spec_l22Text.sig (spec_l22Text.cuts m) k [false, true, false, true] ⟨[], [(0, .l (.dat (.list (.str)))), (1, .l (.dat (.str))), (5, .l (.dat (.int .i64)))]⟩ [.list (.str), .str, .int .i64] x := by kernel_rfl
theorem spec_l22Text.eq (m : Nat) (x : Den spec_l22Text.sig.ts) : spec_l22Text m x = startF ⟨lookΓ Γl, lookC (spec_l22Text.cons m)⟩ Tryd.f140 spec_l22Text.sig (spec_l22Text.cuts m) m x := by kernel_rfl
theorem spec_l22Text.ok (m : Nat) : Meets Tryd.prog 140 spec_l22Text.sig (spec_l22Text m) :=
  fn_is (cx_is tyOk mixed (l := spec_l22Text.cons m) ⟨spec_l22Has.ok m, trivial⟩) (fn := Tryd.f140) Tryd.func140 (by kernel_rfl) (cl := spec_l22Text.cuts m) ⟨⟨by kernel_rfl, fun _ => rfl, fun k x => spec_l22Text.eq0 m k x⟩, trivial⟩ (k := m) (spec_l22Text.eq m)

/-! ### loop.example/stemma/spec.SeekTree: function 102 -/
abbrev spec_SeekTree.R : Type := Den [.list (.str)]
def spec_SeekTree.sig : Sig := ⟨2, ⟨[], [(0, .l (.dat (.list (.pair (.str) (.list (.str)))))), (1, .l (.dat (.str)))]⟩, [.list (.pair (.str) (.list (.str))), .str], ⟨[], [(0, .l (.dat (.list (.str))))]⟩, [.list (.str)]⟩
abbrev spec_SeekTree.Tab : Type := (Den [.list (.str), .list (.pair (.str) (.list (.str))), .str, .int .i64] → Option spec_SeekTree.R) × Unit
def spec_SeekTree.start (m : Nat) (t : spec_SeekTree.Tab) (x0 : List (ByteArray × List ByteArray)) (x1 : ByteArray) : Option spec_SeekTree.R :=
  Option.bind (spec_l4Ok m (x0, ())) fun r1 => cond (!r1.1) (some ([], ())) (Option.bind (spec_l4Name m (x1, ())) fun r2 => cond (!r2.1) (some ([], ())) (t.1 ([], x0, x1, (0 : Int), ())))
def spec_SeekTree.b0 (m : Nat) (t : spec_SeekTree.Tab) (a0 : List ByteArray) (a1 : List (ByteArray × List ByteArray)) (a2 : ByteArray) (a3 : Int) : Option spec_SeekTree.R :=
  cond (decide (a3 < (lLen a1))) (cond (decide ((0 : Int) ≤ a3)) (cond (decide (a3 < lLen a1)) (lett ((getL a1 a3 (ByteArray.empty, ([] : List ByteArray))) : ByteArray × List ByteArray) fun v1 => Option.bind (spec_l22Text m (v1.2, a2, ())) fun r2 => cond r2.1 (cond (decide ((0 : Int) ≤ a3)) (cond (decide (a3 < lLen a1)) (lett ((getL a1 a3 (ByteArray.empty, ([] : List ByteArray))) : ByteArray × List ByteArray) fun v3 => cond (decide (List.length a0 + List.length ([v3.1] : List ByteArray) ≤ apCap)) (t.1 ((List.append a0 ([v3.1] : List ByteArray)), a1, a2, (w64 (a3 + (1 : Int))), ())) none) none) none) (t.1 (a0, a1, a2, (w64 (a3 + (1 : Int))), ()))) none) none) (some (a0, ()))
def spec_SeekTree.tab (m : Nat) : Nat → spec_SeekTree.Tab
  | 0 => (fun _ => none, ())
  | k + 1 => (fun x => spec_SeekTree.b0 m (spec_SeekTree.tab m k) x.1 x.2.1 x.2.2.1 x.2.2.2.1, ())
def spec_SeekTree (m : Nat) (x : Den [.list (.pair (.str) (.list (.str))), .str]) : Option spec_SeekTree.R := spec_SeekTree.start m (spec_SeekTree.tab m m) x.1 x.2.1
def spec_SeekTree.cons (m : Nat) : List (Nat × Contract) := [(49, ⟨spec_l4Ok.sig, spec_l4Ok m⟩), (100, ⟨spec_l4Name.sig, spec_l4Name m⟩), (140, ⟨spec_l22Text.sig, spec_l22Text m⟩)]
def spec_SeekTree.cuts (m : Nat) : List (CutF (Den spec_SeekTree.sig.us)) := [⟨[false, true, false, true, true, true], 122, ⟨[.row true (.str)], [(0, .l (.dat (.list (.pair (.str) (.list (.str)))))), (1, .l (.dat (.str))), (5, .l (.sl 0)), (6, .l (.dat (.int .i64)))]⟩, [.list (.str), .list (.pair (.str) (.list (.str))), .str, .int .i64], fun k => (spec_SeekTree.tab m k).1⟩]
theorem spec_SeekTree.eq0 (m k : Nat) (x : Den [.list (.str), .list (.pair (.str) (.list (.str))), .str, .int .i64]) : (spec_SeekTree.tab m (k + 1)).1 x = runF ⟨lookΓ Γl, lookC (spec_SeekTree.cons m)⟩ Tryd.f102 spec_SeekTree.sig (spec_SeekTree.cuts m) k [false, true, false, true, true, true] ⟨[.row true (.str)], [(0, .l (.dat (.list (.pair (.str) (.list (.str)))))), (1, .l (.dat (.str))), (5, .l (.sl 0)), (6, .l (.dat (.int .i64)))]⟩ [.list (.str), .list (.pair (.str) (.list (.str))), .str, .int .i64] x := by kernel_rfl
theorem spec_SeekTree.eq (m : Nat) (x : Den spec_SeekTree.sig.ts) : spec_SeekTree m x = startF ⟨lookΓ Γl, lookC (spec_SeekTree.cons m)⟩ Tryd.f102 spec_SeekTree.sig (spec_SeekTree.cuts m) m x := by kernel_rfl
theorem spec_SeekTree.ok (m : Nat) : Meets Tryd.prog 102 spec_SeekTree.sig (spec_SeekTree m) :=
  fn_is (cx_is tyOk mixed (l := spec_SeekTree.cons m) ⟨spec_l4Ok.ok m, spec_l4Name.ok m, spec_l22Text.ok m, trivial⟩) (fn := Tryd.f102) Tryd.func102 (by kernel_rfl) (cl := spec_SeekTree.cuts m) ⟨⟨by kernel_rfl, fun _ => rfl, fun k x => spec_SeekTree.eq0 m k x⟩, trivial⟩ (k := m) (spec_SeekTree.eq m)

/-! ### loop.example/stemma/spec.SeekSince: function 46 -/
abbrev spec_SeekSince.R : Type := Den [.int .i64]
def spec_SeekSince.sig : Sig := ⟨3, ⟨[], [(0, .agg [.dat (.list (.pair (.list (.int .i64)) (.pair (.str) (.list (.pair (.str) (.list (.str))))))), .dat (.list (.pair (.str) (.int .i64)))]), (1, .l (.dat (.int .i64))), (2, .l (.dat (.str)))]⟩, [.list (.pair (.list (.int .i64)) (.pair (.str) (.list (.pair (.str) (.list (.str)))))), .list (.pair (.str) (.int .i64)), .int .i64, .str], ⟨[], [(0, .l (.dat (.int .i64)))]⟩, [.int .i64]⟩
abbrev spec_SeekSince.Tab : Type := (Den [.list (.pair (.list (.int .i64)) (.pair (.str) (.list (.pair (.str) (.list (.str)))))), .list (.pair (.str) (.int .i64)), .str, .int .i64, .list (.int .i64), .int .i64] → Option spec_SeekSince.R) × Unit
def spec_SeekSince.start (m : Nat) (t : spec_SeekSince.Tab) (x0 : List (List Int × ByteArray × List (ByteArray × List ByteArray))) (x1 : List (ByteArray × Int)) (x2 : Int) (x3 : ByteArray) : Option spec_SeekSince.R :=
  Option.bind (spec_l7Ok m (x0, x1, ())) fun r1 => cond (!r1.1) (some ((-1 : Int), ())) (Option.bind (spec_l1In m (x2, (0 : Int), (w64 ((lLen x0) - (1 : Int))), ())) fun r2 => cond (!r2.1) (some ((-1 : Int), ())) (Option.bind (spec_l4Name m (x3, ())) fun r3 => cond (!r3.1) (some ((-1 : Int), ())) (Option.bind (spec_l8Line m (x0, x1, x2, ())) fun r4 => t.1 (x0, x1, x3, (-1 : Int), r4.1, (0 : Int), ()))))
def spec_SeekSince.b0 (m : Nat) (t : spec_SeekSince.Tab) (a0 : List (List Int × ByteArray × List (ByteArray × List ByteArray))) (a1 : List (ByteArray × Int)) (a2 : ByteArray) (a3 : Int) (a4 : List Int) (a5 : Int) : Option spec_SeekSince.R :=
  cond (decide (a5 < (lLen a4))) (cond (decide ((0 : Int) ≤ a5)) (cond (decide (a5 < lLen a4)) (cond (decide ((0 : Int) ≤ (getL a4 a5 (0 : Int)))) (cond (decide ((getL a4 a5 (0 : Int)) < lLen a0)) (lett ((getL a0 (getL a4 a5 (0 : Int)) (([] : List Int), ByteArray.empty, ([] : List (ByteArray × List ByteArray)))) : List Int × ByteArray × List (ByteArray × List ByteArray)) fun v1 => Option.bind (spec_SeekTree m (v1.2.2, a2, ())) fun r2 => cond ((lLen r2.1) == (0 : Int)) (some (a3, ())) (cond (decide ((0 : Int) ≤ a5)) (cond (decide (a5 < lLen a4)) (t.1 (a0, a1, a2, (getL a4 a5 (0 : Int)), a4, (w64 (a5 + (1 : Int))), ())) none) none)) none) none) none) none) (some (a3, ()))
def spec_SeekSince.tab (m : Nat) : Nat → spec_SeekSince.Tab
  | 0 => (fun _ => none, ())
  | k + 1 => (fun x => spec_SeekSince.b0 m (spec_SeekSince.tab m k) x.1 x.2.1 x.2.2.1 x.2.2.2.1 x.2.2.2.2.1 x.2.2.2.2.2.1, ())
def spec_SeekSince (m : Nat) (x : Den [.list (.pair (.list (.int .i64)) (.pair (.str) (.list (.pair (.str) (.list (.str)))))), .list (.pair (.str) (.int .i64)), .int .i64, .str]) : Option spec_SeekSince.R := spec_SeekSince.start m (spec_SeekSince.tab m m) x.1 x.2.1 x.2.2.1 x.2.2.2.1
def spec_SeekSince.cons (m : Nat) : List (Nat × Contract) := [(84, ⟨spec_l7Ok.sig, spec_l7Ok m⟩), (99, ⟨spec_l1In.sig, spec_l1In m⟩), (100, ⟨spec_l4Name.sig, spec_l4Name m⟩), (101, ⟨spec_l8Line.sig, spec_l8Line m⟩), (102, ⟨spec_SeekTree.sig, spec_SeekTree m⟩)]
def spec_SeekSince.cuts (m : Nat) : List (CutF (Den spec_SeekSince.sig.us)) := [⟨[false, true, false, true, true, true, true], 250, ⟨[.box [.dat (.list (.pair (.list (.int .i64)) (.pair (.str) (.list (.pair (.str) (.list (.str))))))), .dat (.list (.pair (.str) (.int .i64)))]], [(2, .l (.dat (.str))), (3, .l (.ptr 0 0)), (7, .l (.dat (.int .i64))), (8, .l (.dat (.list (.int .i64)))), (9, .l (.dat (.int .i64)))]⟩, [.list (.pair (.list (.int .i64)) (.pair (.str) (.list (.pair (.str) (.list (.str)))))), .list (.pair (.str) (.int .i64)), .str, .int .i64, .list (.int .i64), .int .i64], fun k => (spec_SeekSince.tab m k).1⟩]
theorem spec_SeekSince.eq0 (m k : Nat) (x : Den [.list (.pair (.list (.int .i64)) (.pair (.str) (.list (.pair (.str) (.list (.str)))))), .list (.pair (.str) (.int .i64)), .str, .int .i64, .list (.int .i64), .int .i64]) : (spec_SeekSince.tab m (k + 1)).1 x = runF ⟨lookΓ Γl, lookC (spec_SeekSince.cons m)⟩ Tryd.f46 spec_SeekSince.sig (spec_SeekSince.cuts m) k [false, true, false, true, true, true, true] ⟨[.box [.dat (.list (.pair (.list (.int .i64)) (.pair (.str) (.list (.pair (.str) (.list (.str))))))), .dat (.list (.pair (.str) (.int .i64)))]], [(2, .l (.dat (.str))), (3, .l (.ptr 0 0)), (7, .l (.dat (.int .i64))), (8, .l (.dat (.list (.int .i64)))), (9, .l (.dat (.int .i64)))]⟩ [.list (.pair (.list (.int .i64)) (.pair (.str) (.list (.pair (.str) (.list (.str)))))), .list (.pair (.str) (.int .i64)), .str, .int .i64, .list (.int .i64), .int .i64] x := by kernel_rfl
theorem spec_SeekSince.eq (m : Nat) (x : Den spec_SeekSince.sig.ts) : spec_SeekSince m x = startF ⟨lookΓ Γl, lookC (spec_SeekSince.cons m)⟩ Tryd.f46 spec_SeekSince.sig (spec_SeekSince.cuts m) m x := by kernel_rfl
theorem spec_SeekSince.ok (m : Nat) : Meets Tryd.prog 46 spec_SeekSince.sig (spec_SeekSince m) :=
  fn_is (cx_is tyOk mixed (l := spec_SeekSince.cons m) ⟨spec_l7Ok.ok m, spec_l1In.ok m, spec_l4Name.ok m, spec_l8Line.ok m, spec_SeekTree.ok m, trivial⟩) (fn := Tryd.f46) Tryd.func46 (by kernel_rfl) (cl := spec_SeekSince.cuts m) ⟨⟨by kernel_rfl, fun _ => rfl, fun k x => spec_SeekSince.eq0 m k x⟩, trivial⟩ (k := m) (spec_SeekSince.eq m)

/-! ### (loop.example/stemma/impl.Repo).has: function 103 -/
abbrev impl_Repo_has.R : Type := Den [.bool]
def impl_Repo_has.sig : Sig := ⟨2, ⟨[], [(0, .agg [.dat (.list (.pair (.list (.int .i64)) (.pair (.str) (.list (.pair (.str) (.list (.str))))))), .dat (.list (.pair (.str) (.int .i64)))]), (1, .l (.dat (.int .i64)))]⟩, [.list (.pair (.list (.int .i64)) (.pair (.str) (.list (.pair (.str) (.list (.str)))))), .list (.pair (.str) (.int .i64)), .int .i64], ⟨[], [(0, .l (.dat (.bool)))]⟩, [.bool]⟩
abbrev impl_Repo_has.Tab : Type := Unit
def impl_Repo_has.start (m : Nat) (t : impl_Repo_has.Tab) (x0 : List (List Int × ByteArray × List (ByteArray × List ByteArray))) (x1 : List (ByteArray × Int)) (x2 : Int) : Option impl_Repo_has.R :=
  Option.bind (impl_RepoOk m (x0, x1, ())) fun r1 => cond r1.1 (Option.bind (impl_within m (x2, (0 : Int), (w64 ((lLen x0) - (1 : Int))), ())) fun r2 => some (r2.1, ())) (some (false, ()))
def impl_Repo_has.tab (m : Nat) : Nat → impl_Repo_has.Tab
  | 0 => (())
  | k + 1 => (())
def impl_Repo_has (m : Nat) (x : Den [.list (.pair (.list (.int .i64)) (.pair (.str) (.list (.pair (.str) (.list (.str)))))), .list (.pair (.str) (.int .i64)), .int .i64]) : Option impl_Repo_has.R := impl_Repo_has.start m (impl_Repo_has.tab m m) x.1 x.2.1 x.2.2.1
def impl_Repo_has.cons (m : Nat) : List (Nat × Contract) := [(89, ⟨impl_RepoOk.sig, impl_RepoOk m⟩), (127, ⟨impl_within.sig, impl_within m⟩)]
def impl_Repo_has.cuts (m : Nat) : List (CutF (Den impl_Repo_has.sig.us)) := []
theorem impl_Repo_has.eq (m : Nat) (x : Den impl_Repo_has.sig.ts) : impl_Repo_has m x = startF ⟨lookΓ Γl, lookC (impl_Repo_has.cons m)⟩ Tryd.f103 impl_Repo_has.sig (impl_Repo_has.cuts m) m x := by kernel_rfl
theorem impl_Repo_has.ok (m : Nat) : Meets Tryd.prog 103 impl_Repo_has.sig (impl_Repo_has m) :=
  fn_is (cx_is tyOk mixed (l := impl_Repo_has.cons m) ⟨impl_RepoOk.ok m, impl_within.ok m, trivial⟩) (fn := Tryd.f103) Tryd.func103 (by kernel_rfl) (cl := impl_Repo_has.cuts m) trivial (k := m) (impl_Repo_has.eq m)

/-! ### (loop.example/stemma/impl.Repo).line: function 104 -/
abbrev impl_Repo_line.R : Type := Den [.list (.int .i64)]
def impl_Repo_line.sig : Sig := ⟨2, ⟨[], [(0, .agg [.dat (.list (.pair (.list (.int .i64)) (.pair (.str) (.list (.pair (.str) (.list (.str))))))), .dat (.list (.pair (.str) (.int .i64)))]), (1, .l (.dat (.int .i64)))]⟩, [.list (.pair (.list (.int .i64)) (.pair (.str) (.list (.pair (.str) (.list (.str)))))), .list (.pair (.str) (.int .i64)), .int .i64], ⟨[], [(0, .l (.dat (.list (.int .i64))))]⟩, [.list (.int .i64)]⟩
abbrev impl_Repo_line.Tab : Type := (Den [.list (.pair (.list (.int .i64)) (.pair (.str) (.list (.pair (.str) (.list (.str)))))), .list (.pair (.str) (.int .i64)), .list (.int .i64), .int .i64] → Option impl_Repo_line.R) × Unit
def impl_Repo_line.start (m : Nat) (t : impl_Repo_line.Tab) (x0 : List (List Int × ByteArray × List (ByteArray × List ByteArray))) (x1 : List (ByteArray × Int)) (x2 : Int) : Option impl_Repo_line.R :=
  t.1 (x0, x1, [x2], x2, ())
def impl_Repo_line.b0 (m : Nat) (t : impl_Repo_line.Tab) (a0 : List (List Int × ByteArray × List (ByteArray × List ByteArray))) (a1 : List (ByteArray × Int)) (a2 : List Int) (a3 : Int) : Option impl_Repo_line.R :=
  cond (decide ((0 : Int) ≤ a3)) (cond (decide (a3 < lLen a0)) (lett ((getL a0 a3 (([] : List Int), ByteArray.empty, ([] : List (ByteArray × List ByteArray)))) : List Int × ByteArray × List (ByteArray × List ByteArray)) fun v1 => cond (decide ((lLen v1.1) > (0 : Int))) (cond (decide ((0 : Int) ≤ a3)) (cond (decide (a3 < lLen a0)) (lett ((getL a0 a3 (([] : List Int), ByteArray.empty, ([] : List (ByteArray × List ByteArray)))) : List Int × ByteArray × List (ByteArray × List ByteArray)) fun v2 => cond (decide ((0 : Int) ≤ (0 : Int))) (cond (decide ((0 : Int) < lLen v2.1)) (cond (decide (List.length a2 + List.length ([(getL v2.1 (0 : Int) (0 : Int))] : List Int) ≤ apCap)) (lett ((List.append a2 ([(getL v2.1 (0 : Int) (0 : Int))] : List Int)) : List Int) fun v3 => t.1 (a0, a1, v3, (getL v2.1 (0 : Int) (0 : Int)), ())) none) none) none) none) none) (some (a2, ()))) none) none
def impl_Repo_line.tab (m : Nat) : Nat → impl_Repo_line.Tab
  | 0 => (fun _ => none, ())
  | k + 1 => (fun x => impl_Repo_line.b0 m (impl_Repo_line.tab m k) x.1 x.2.1 x.2.2.1 x.2.2.2.1, ())
def impl_Repo_line (m : Nat) (x : Den [.list (.pair (.list (.int .i64)) (.pair (.str) (.list (.pair (.str) (.list (.str)))))), .list (.pair (.str) (.int .i64)), .int .i64]) : Option impl_Repo_line.R := impl_Repo_line.start m (impl_Repo_line.tab m m) x.1 x.2.1 x.2.2.1
def impl_Repo_line.cons (m : Nat) : List (Nat × Contract) := []
def impl_Repo_line.cuts (m : Nat) : List (CutF (Den impl_Repo_line.sig.us)) := [⟨[false, false, true, true], 28, ⟨[.box [.dat (.list (.pair (.list (.int .i64)) (.pair (.str) (.list (.pair (.str) (.list (.str))))))), .dat (.list (.pair (.str) (.int .i64)))], .row true (.int .i64)], [(1, .l (.dat (.int .i64))), (2, .l (.ptr 0 0)), (5, .l (.sl 1))]⟩, [.list (.pair (.list (.int .i64)) (.pair (.str) (.list (.pair (.str) (.list (.str)))))), .list (.pair (.str) (.int .i64)), .list (.int .i64), .int .i64], fun k => (impl_Repo_line.tab m k).1⟩]
theorem impl_Repo_line.eq0 (m k : Nat) (x : Den [.list (.pair (.list (.int .i64)) (.pair (.str) (.list (.pair (.str) (.list (.str)))))), .list (.pair (.str) (.int .i64)), .list (.int .i64), .int .i64]) : (impl_Repo_line.tab m (k + 1)).1 x = runF ⟨lookΓ Γl, lookC (impl_Repo_line.cons m)⟩ Tryd.f104 impl_Repo_line.sig (impl_Repo_line.cuts m) k [false, false, true, true] ⟨[.box [.dat (.list (.pair (.list (.int .i64)) (.pair (.str) (.list (.pair (.str) (.list (.str))))))), .dat (.list (.pair (.str) (.int .i64)))], .row true (.int .i64)], [(1, .l (.dat (.int .i64))), (2, .l (.ptr 0 0)), (5, .l (.sl 1))]⟩ [.list (.pair (.list (.int .i64)) (.pair (.str) (.list (.pair (.str) (.list (.str)))))), .list (.pair (.str) (.int .i64)), .list (.int .i64), .int .i64] x := by kernel_rfl
theorem impl_Repo_line.eq (m : Nat) (x : Den impl_Repo_line.sig.ts) : impl_Repo_line m x = startF ⟨lookΓ Γl, lookC (impl_Repo_line.cons m)⟩ Tryd.f104 impl_Repo_line.sig (impl_Repo_line.cuts m) m x := by kernel_rfl
theorem impl_Repo_line.ok (m : Nat) : Meets Tryd.prog 104 impl_Repo_line.sig (impl_Repo_line m) :=
  fn_is (cx_is tyOk mixed (l := impl_Repo_line.cons m) trivial) (fn := Tryd.f104) Tryd.func104 (by kernel_rfl) (cl := impl_Repo_line.cuts m) ⟨⟨by kernel_rfl, fun _ => rfl, fun k x => impl_Repo_line.eq0 m k x⟩, trivial⟩ (k := m) (impl_Repo_line.eq m)

/-! ### loop.example/stemma/impl.contains: function 142 -/
abbrev impl_contains.R : Type := Den [.bool]
def impl_contains.sig : Sig := ⟨2, ⟨[], [(0, .l (.dat (.str))), (1, .l (.dat (.str)))]⟩, [.str, .str], ⟨[], [(0, .l (.dat (.bool)))]⟩, [.bool]⟩
abbrev impl_contains.Tab : Type := (Den [.str, .str, .int .i64] → Option impl_contains.R) × (Den [.str, .str, .int .i64, .bool] → Option impl_contains.R) × Unit
def impl_contains.start (m : Nat) (t : impl_contains.Tab) (x0 : ByteArray) (x1 : ByteArray) : Option impl_contains.R :=
  t.1 (x0, x1, (0 : Int), ())
def impl_contains.b0 (m : Nat) (t : impl_contains.Tab) (a0 : ByteArray) (a1 : ByteArray) (a2 : Int) : Option impl_contains.R :=
  lett ((decide ((w64 (a2 + (sLen a1))) ≤ (sLen a0))) : Bool) fun v1 => cond v1 (cond (decide ((0 : Int) ≤ (w64 (a2 + (sLen a1))))) (cond (decide ((w64 (a2 + (sLen a1))) ≤ (ByteArray.size a0 : Int))) (cond (decide ((0 : Int) ≤ a2)) (cond (decide (a2 ≤ (w64 (a2 + (sLen a1))))) (lett ((cutS a0 (Int.toNat a2) (Int.toNat (w64 (a2 + (sLen a1))))) : ByteArray) fun v2 => cond (sEq v2 a1) (cond (a2 == (0 : Int)) (cond ((w64 (a2 + (sLen a1))) == (sLen a0)) (t.2.1 (a0, a1, a2, true, ())) (cond (decide ((0 : Int) ≤ (w64 (a2 + (sLen a1))))) (cond (decide ((w64 (a2 + (sLen a1))) < sLen a0)) (Option.bind (impl_isNameByte m ((byteAt a0 (w64 (a2 + (sLen a1)))), ())) fun r3 => t.2.1 (a0, a1, a2, (!r3.1), ())) none) none)) (cond (decide ((0 : Int) ≤ (w64 (a2 - (1 : Int))))) (cond (decide ((w64 (a2 - (1 : Int))) < sLen a0)) (Option.bind (impl_isNameByte m ((byteAt a0 (w64 (a2 - (1 : Int)))), ())) fun r4 => cond (!r4.1) (cond ((w64 (a2 + (sLen a1))) == (sLen a0)) (t.2.1 (a0, a1, a2, true, ())) (cond (decide ((0 : Int) ≤ (w64 (a2 + (sLen a1))))) (cond (decide ((w64 (a2 + (sLen a1))) < sLen a0)) (Option.bind (impl_isNameByte m ((byteAt a0 (w64 (a2 + (sLen a1)))), ())) fun r5 => t.2.1 (a0, a1, a2, (!r5.1), ())) none) none)) (t.2.1 (a0, a1, a2, false, ()))) none) none)) (t.2.1 (a0, a1, a2, false, ()))) none) none) none) none) (some (false, ()))
def impl_contains.b1 (m : Nat) (t : impl_contains.Tab) (a0 : ByteArray) (a1 : ByteArray) (a2 : Int) (a3 : Bool) : Option impl_contains.R :=
  cond a3 (some (true, ())) (t.1 (a0, a1, (w64 (a2 + (1 : Int))), ()))
def impl_contains.tab (m : Nat) : Nat → impl_contains.Tab
  | 0 => (fun _ => none, fun _ => none, ())
  | k + 1 => (fun x => impl_contains.b0 m (impl_contains.tab m k) x.1 x.2.1 x.2.2.1, fun x => impl_contains.b1 m (impl_contains.tab m k) x.1 x.2.1 x.2.2.1 x.2.2.2.1, ())
def impl_contains (m : Nat) (x : Den [.str, .str]) : Option impl_contains.R := impl_contains.start m (impl_contains.tab m m) x.1 x.2.1
def impl_contains.cons (m : Nat) : List (Nat × Contract) := [(126, ⟨impl_isNameByte.sig, impl_isNameByte m⟩)]
def impl_contains.cuts (m : Nat) : List (CutF (Den impl_contains.sig.us)) := [⟨[false, true, false, true], 26, ⟨[], [(0, .l (.dat (.str))), (1, .l (.dat (.str))), (5, .l (.dat (.int .i64)))]⟩, [.str, .str, .int .i64], fun k => (impl_contains.tab m k).1⟩,
  ⟨[true, true, false, false, true, false, false, true, false, true], 1683, ⟨[], [(0, .l (.dat (.str))), (1, .l (.dat (.str))), (5, .l (.dat (.int .i64))), (50, .l (.dat (.bool)))]⟩, [.str, .str, .int .i64, .bool], fun k => (impl_contains.tab m k).2.1⟩]
theorem impl_contains.eq0 (m k : Nat) (x : Den [.str, .str, .int .i64]) : (impl_contains.tab m (k + 1)).1 x = runF ⟨lookΓ Γl, lookC (impl_contains.cons m)⟩ Tryd.f142 impl_contains.sig (impl_contains.cuts m) k [false, true, false, true] ⟨[], [(0, .l (.dat (.str))), (1, .l (.dat (.str))), (5, .l (.dat (.int .i64)))]⟩ [.str, .str, .int .i64] x := by kernel_rfl
theorem impl_contains.eq1 (m k : Nat) (x : Den [.str, .str, .int .i64, .bool]) : (impl_contains.tab m (k + 1)).2.1 x = runF ⟨lookΓ Γl, lookC (impl_contains.cons m)⟩ Tryd.f142 impl_contains.sig (impl_contains.cuts m) k [true, true, false, false, true, false, false, true, false, true] ⟨[], [(0, .l (.dat (.str))), (1, .l (.dat (.str))), (5, .l (.dat (.int .i64))), (50, .l (.dat (.bool)))]⟩ [.str, .str, .int .i64, .bool] x := by kernel_rfl
theorem impl_contains.eq (m : Nat) (x : Den impl_contains.sig.ts) : impl_contains m x = startF ⟨lookΓ Γl, lookC (impl_contains.cons m)⟩ Tryd.f142 impl_contains.sig (impl_contains.cuts m) m x := by kernel_rfl
theorem impl_contains.ok (m : Nat) : Meets Tryd.prog 142 impl_contains.sig (impl_contains m) :=
  fn_is (cx_is tyOk mixed (l := impl_contains.cons m) ⟨impl_isNameByte.ok m, trivial⟩) (fn := Tryd.f142) Tryd.func142 (by kernel_rfl) (cl := impl_contains.cuts m) ⟨⟨by kernel_rfl, fun _ => rfl, fun k x => impl_contains.eq0 m k x⟩, ⟨by kernel_rfl, fun _ => rfl, fun k x => impl_contains.eq1 m k x⟩, trivial⟩ (k := m) (impl_contains.eq m)

/-! ### loop.example/stemma/impl.seek$1: function 141 -/
abbrev impl_seek_1_v0.R : Type := Den [.str, .bool]
def impl_seek_1_v0.sig : Sig := ⟨2, ⟨[.box [.dat (.str)]], [(0, .l (.dat (.str))), (1, .l (.ptr 0 0))]⟩, [.str, .str], ⟨[.box [.dat (.str)]], [(0, .l (.dat (.bool)))]⟩, [.str, .bool]⟩
abbrev impl_seek_1_v0.Tab : Type := Unit
def impl_seek_1_v0.start (m : Nat) (t : impl_seek_1_v0.Tab) (x0 : ByteArray) (x1 : ByteArray) : Option impl_seek_1_v0.R :=
  Option.bind (impl_contains m (x1, x0, ())) fun r1 => some (x0, r1.1, ())
def impl_seek_1_v0.tab (m : Nat) : Nat → impl_seek_1_v0.Tab
  | 0 => (())
  | k + 1 => (())
def impl_seek_1_v0 (m : Nat) (x : Den [.str, .str]) : Option impl_seek_1_v0.R := impl_seek_1_v0.start m (impl_seek_1_v0.tab m m) x.1 x.2.1
def impl_seek_1_v0.cons (m : Nat) : List (Nat × Contract) := [(142, ⟨impl_contains.sig, impl_contains m⟩)]
def impl_seek_1_v0.cuts (m : Nat) : List (CutF (Den impl_seek_1_v0.sig.us)) := []
theorem impl_seek_1_v0.eq (m : Nat) (x : Den impl_seek_1_v0.sig.ts) : impl_seek_1_v0 m x = startF ⟨lookΓ Γl, lookC (impl_seek_1_v0.cons m)⟩ Tryd.f141 impl_seek_1_v0.sig (impl_seek_1_v0.cuts m) m x := by kernel_rfl
theorem impl_seek_1_v0.ok (m : Nat) : Meets Tryd.prog 141 impl_seek_1_v0.sig (impl_seek_1_v0 m) :=
  fn_is (cx_is tyOk mixed (l := impl_seek_1_v0.cons m) ⟨impl_contains.ok m, trivial⟩) (fn := Tryd.f141) Tryd.func141 (by kernel_rfl) (cl := impl_seek_1_v0.cuts m) trivial (k := m) (impl_seek_1_v0.eq m)

/-! ### slices.IndexFunc[[]string,string]: function 125 -/
abbrev slices_IndexFunc_string_of_impl_seek_1.R : Type := Den [.str, .int .i64]
def slices_IndexFunc_string_of_impl_seek_1.sig : Sig := ⟨2, ⟨[.box [.dat (.str)]], [(0, .l (.dat (.list (.str)))), (1, .l (.fn 141 [0]))]⟩, [.str, .list (.str)], ⟨[.box [.dat (.str)]], [(0, .l (.dat (.int .i64)))]⟩, [.str, .int .i64]⟩
abbrev slices_IndexFunc_string_of_impl_seek_1.Tab : Type := (Den [.str, .list (.str), .int .i64, .int .i64] → Option slices_IndexFunc_string_of_impl_seek_1.R) × Unit
def slices_IndexFunc_string_of_impl_seek_1.start (m : Nat) (t : slices_IndexFunc_string_of_impl_seek_1.Tab) (x0 : ByteArray) (x1 : List ByteArray) : Option slices_IndexFunc_string_of_impl_seek_1.R :=
  t.1 (x0, x1, (lLen x1), (0 : Int), ())
def slices_IndexFunc_string_of_impl_seek_1.b0 (m : Nat) (t : slices_IndexFunc_string_of_impl_seek_1.Tab) (a0 : ByteArray) (a1 : List ByteArray) (a2 : Int) (a3 : Int) : Option slices_IndexFunc_string_of_impl_seek_1.R :=
  cond (decide (a3 < a2)) (cond (decide ((0 : Int) ≤ a3)) (cond (decide (a3 < lLen a1)) (Option.bind (impl_seek_1_v0 m (a0, (getL a1 a3 ByteArray.empty), ())) fun r1 => cond r1.2.1 (some (r1.1, a3, ())) (t.1 (r1.1, a1, a2, (w64 (a3 + (1 : Int))), ()))) none) none) (some (a0, (-1 : Int), ()))
def slices_IndexFunc_string_of_impl_seek_1.tab (m : Nat) : Nat → slices_IndexFunc_string_of_impl_seek_1.Tab
  | 0 => (fun _ => none, ())
  | k + 1 => (fun x => slices_IndexFunc_string_of_impl_seek_1.b0 m (slices_IndexFunc_string_of_impl_seek_1.tab m k) x.1 x.2.1 x.2.2.1 x.2.2.2.1, ())
def slices_IndexFunc_string_of_impl_seek_1 (m : Nat) (x : Den [.str, .list (.str)]) : Option slices_IndexFunc_string_of_impl_seek_1.R := slices_IndexFunc_string_of_impl_seek_1.start m (slices_IndexFunc_string_of_impl_seek_1.tab m m) x.1 x.2.1
def slices_IndexFunc_string_of_impl_seek_1.cons (m : Nat) : List (Nat × Contract) := [(141, ⟨impl_seek_1_v0.sig, impl_seek_1_v0 m⟩)]
def slices_IndexFunc_string_of_impl_seek_1.cuts (m : Nat) : List (CutF (Den slices_IndexFunc_string_of_impl_seek_1.sig.us)) := [⟨[false, true, false, true], 26, ⟨[.box [.dat (.str)]], [(0, .l (.dat (.list (.str)))), (1, .l (.fn 141 [0])), (7, .l (.dat (.int .i64))), (8, .l (.dat (.int .i64)))]⟩, [.str, .list (.str), .int .i64, .int .i64], fun k => (slices_IndexFunc_string_of_impl_seek_1.tab m k).1⟩]
theorem slices_IndexFunc_string_of_impl_seek_1.eq0 (m k : Nat) (x : Den [.str, .list (.str), .int .i64, .int .i64]) : (slices_IndexFunc_string_of_impl_seek_1.tab m (k + 1)).1 x = runF ⟨lookΓ Γl, lookC (slices_IndexFunc_string_of_impl_seek_1.cons m)⟩ Tryd.f125 slices_IndexFunc_string_of_impl_seek_1.sig (slices_IndexFunc_string_of_impl_seek_1.cuts m) k [false, true, false, true] ⟨[.box [.dat (.str)]], [(0, .l (.dat (.list (.str)))), (1, .l (.fn 141 [0])), (7, .l (.dat (.int .i64))), (8, .l (.dat (.int .i64)))]⟩ [.str, .list (.str), .int .i64, .int .i64] x := by kernel_rfl
theorem slices_IndexFunc_string_of_impl_seek_1.eq (m : Nat) (x : Den slices_IndexFunc_string_of_impl_seek_1.sig.ts) : slices_IndexFunc_string_of_impl_seek_1 m x = startF ⟨lookΓ Γl, lookC (slices_IndexFunc_string_of_impl_seek_1.cons m)⟩ Tryd.f125 slices_IndexFunc_string_of_impl_seek_1.sig (slices_IndexFunc_string_of_impl_seek_1.cuts m) m x := by kernel_rfl
theorem slices_IndexFunc_string_of_impl_seek_1.ok (m : Nat) : Meets Tryd.prog 125 slices_IndexFunc_string_of_impl_seek_1.sig (slices_IndexFunc_string_of_impl_seek_1 m) :=
  fn_is (cx_is tyOk mixed (l := slices_IndexFunc_string_of_impl_seek_1.cons m) ⟨impl_seek_1_v0.ok m, trivial⟩) (fn := Tryd.f125) Tryd.func125 (by kernel_rfl) (cl := slices_IndexFunc_string_of_impl_seek_1.cuts m) ⟨⟨by kernel_rfl, fun _ => rfl, fun k x => slices_IndexFunc_string_of_impl_seek_1.eq0 m k x⟩, trivial⟩ (k := m) (slices_IndexFunc_string_of_impl_seek_1.eq m)

/-! ### slices.ContainsFunc[[]string,string]: function 78 -/
abbrev slices_ContainsFunc_string_of_impl_seek_1.R : Type := Den [.str, .bool]
def slices_ContainsFunc_string_of_impl_seek_1.sig : Sig := ⟨2, ⟨[.box [.dat (.str)]], [(0, .l (.dat (.list (.str)))), (1, .l (.fn 141 [0]))]⟩, [.str, .list (.str)], ⟨[.box [.dat (.str)]], [(0, .l (.dat (.bool)))]⟩, [.str, .bool]⟩
abbrev slices_ContainsFunc_string_of_impl_seek_1.Tab : Type := Unit
def slices_ContainsFunc_string_of_impl_seek_1.start (m : Nat) (t : slices_ContainsFunc_string_of_impl_seek_1.Tab) (x0 : ByteArray) (x1 : List ByteArray) : Option slices_ContainsFunc_string_of_impl_seek_1.R :=
  Option.bind (slices_IndexFunc_string_of_impl_seek_1 m (x0, x1, ())) fun r1 => some (r1.1, (decide (r1.2.1 ≥ (0 : Int))), ())
def slices_ContainsFunc_string_of_impl_seek_1.tab (m : Nat) : Nat → slices_ContainsFunc_string_of_impl_seek_1.Tab
  | 0 => (())
  | k + 1 => (())
def slices_ContainsFunc_string_of_impl_seek_1 (m : Nat) (x : Den [.str, .list (.str)]) : Option slices_ContainsFunc_string_of_impl_seek_1.R := slices_ContainsFunc_string_of_impl_seek_1.start m (slices_ContainsFunc_string_of_impl_seek_1.tab m m) x.1 x.2.1
def slices_ContainsFunc_string_of_impl_seek_1.cons (m : Nat) : List (Nat × Contract) := [(125, ⟨slices_IndexFunc_string_of_impl_seek_1.sig, slices_IndexFunc_string_of_impl_seek_1 m⟩)]
def slices_ContainsFunc_string_of_impl_seek_1.cuts (m : Nat) : List (CutF (Den slices_ContainsFunc_string_of_impl_seek_1.sig.us)) := []
theorem slices_ContainsFunc_string_of_impl_seek_1.eq (m : Nat) (x : Den slices_ContainsFunc_string_of_impl_seek_1.sig.ts) : slices_ContainsFunc_string_of_impl_seek_1 m x = startF ⟨lookΓ Γl, lookC (slices_ContainsFunc_string_of_impl_seek_1.cons m)⟩ Tryd.f78 slices_ContainsFunc_string_of_impl_seek_1.sig (slices_ContainsFunc_string_of_impl_seek_1.cuts m) m x := by kernel_rfl
theorem slices_ContainsFunc_string_of_impl_seek_1.ok (m : Nat) : Meets Tryd.prog 78 slices_ContainsFunc_string_of_impl_seek_1.sig (slices_ContainsFunc_string_of_impl_seek_1 m) :=
  fn_is (cx_is tyOk mixed (l := slices_ContainsFunc_string_of_impl_seek_1.cons m) ⟨slices_IndexFunc_string_of_impl_seek_1.ok m, trivial⟩) (fn := Tryd.f78) Tryd.func78 (by kernel_rfl) (cl := slices_ContainsFunc_string_of_impl_seek_1.cuts m) trivial (k := m) (slices_ContainsFunc_string_of_impl_seek_1.eq m)

/-! ### loop.example/stemma/impl.seek: function 105 -/
abbrev impl_seek.R : Type := Den [.list (.str)]
def impl_seek.sig : Sig := ⟨2, ⟨[], [(0, .l (.dat (.list (.pair (.str) (.list (.str)))))), (1, .l (.dat (.str)))]⟩, [.list (.pair (.str) (.list (.str))), .str], ⟨[], [(0, .l (.dat (.list (.str))))]⟩, [.list (.str)]⟩
abbrev impl_seek.Tab : Type := (Den [.str, .list (.str), .list (.pair (.str) (.list (.str))), .int .i64, .int .i64] → Option impl_seek.R) × Unit
def impl_seek.start (m : Nat) (t : impl_seek.Tab) (x0 : List (ByteArray × List ByteArray)) (x1 : ByteArray) : Option impl_seek.R :=
  t.1 (x1, [], x0, (lLen x0), (0 : Int), ())
def impl_seek.b0 (m : Nat) (t : impl_seek.Tab) (a0 : ByteArray) (a1 : List ByteArray) (a2 : List (ByteArray × List ByteArray)) (a3 : Int) (a4 : Int) : Option impl_seek.R :=
  cond (decide (a4 < a3)) (cond (decide ((0 : Int) ≤ a4)) (cond (decide (a4 < lLen a2)) (lett ((getL a2 a4 (ByteArray.empty, ([] : List ByteArray))) : ByteArray × List ByteArray) fun v1 => Option.bind (slices_ContainsFunc_string_of_impl_seek_1 m (a0, v1.2, ())) fun r2 => cond r2.2.1 (cond (decide (List.length a1 + List.length ([v1.1] : List ByteArray) ≤ apCap)) (t.1 (r2.1, (List.append a1 ([v1.1] : List ByteArray)), a2, a3, (w64 (a4 + (1 : Int))), ())) none) (t.1 (r2.1, a1, a2, a3, (w64 (a4 + (1 : Int))), ()))) none) none) (some (a1, ()))
def impl_seek.tab (m : Nat) : Nat → impl_seek.Tab
  | 0 => (fun _ => none, ())
  | k + 1 => (fun x => impl_seek.b0 m (impl_seek.tab m k) x.1 x.2.1 x.2.2.1 x.2.2.2.1 x.2.2.2.2.1, ())
def impl_seek (m : Nat) (x : Den [.list (.pair (.str) (.list (.str))), .str]) : Option impl_seek.R := impl_seek.start m (impl_seek.tab m m) x.1 x.2.1
def impl_seek.cons (m : Nat) : List (Nat × Contract) := [(78, ⟨slices_ContainsFunc_string_of_impl_seek_1.sig, slices_ContainsFunc_string_of_impl_seek_1 m⟩)]
def impl_seek.cuts (m : Nat) : List (CutF (Den impl_seek.sig.us)) := [⟨[false, true, false, true, true], 58, ⟨[.box [.dat (.str)], .row true (.str)], [(3, .l (.ptr 0 0)), (5, .l (.sl 1)), (9, .l (.dat (.list (.pair (.str) (.list (.str)))))), (10, .l (.dat (.int .i64))), (11, .l (.dat (.int .i64)))]⟩, [.str, .list (.str), .list (.pair (.str) (.list (.str))), .int .i64, .int .i64], fun k => (impl_seek.tab m k).1⟩]
theorem impl_seek.eq0 (m k : Nat) (x : Den [.str, .list (.str), .list (.pair (.str) (.list (.str))), .int .i64, .int .i64]) : (impl_seek.tab m (k + 1)).1 x = runF ⟨lookΓ Γl, lookC (impl_seek.cons m)⟩ Tryd.f105 impl_seek.sig (impl_seek.cuts m) k [false, true, false, true, true] ⟨[.box [.dat (.str)], .row true (.str)], [(3, .l (.ptr 0 0)), (5, .l (.sl 1)), (9, .l (.dat (.list (.pair (.str) (.list (.str)))))), (10, .l (.dat (.int .i64))), (11, .l (.dat (.int .i64)))]⟩ [.str, .list (.str), .list (.pair (.str) (.list (.str))), .int .i64, .int .i64] x := by kernel_rfl
theorem impl_seek.eq (m : Nat) (x : Den impl_seek.sig.ts) : impl_seek m x = startF ⟨lookΓ Γl, lookC (impl_seek.cons m)⟩ Tryd.f105 impl_seek.sig (impl_seek.cuts m) m x := by kernel_rfl
theorem impl_seek.ok (m : Nat) : Meets Tryd.prog 105 impl_seek.sig (impl_seek m) :=
  fn_is (cx_is tyOk mixed (l := impl_seek.cons m) ⟨slices_ContainsFunc_string_of_impl_seek_1.ok m, trivial⟩) (fn := Tryd.f105) Tryd.func105 (by kernel_rfl) (cl := impl_seek.cuts m) ⟨⟨by kernel_rfl, fun _ => rfl, fun k x => impl_seek.eq0 m k x⟩, trivial⟩ (k := m) (impl_seek.eq m)

/-! ### loop.example/stemma/impl.SeekSince: function 47 -/
abbrev impl_SeekSince.R : Type := Den [.int .i64]
def impl_SeekSince.sig : Sig := ⟨3, ⟨[], [(0, .agg [.dat (.list (.pair (.list (.int .i64)) (.pair (.str) (.list (.pair (.str) (.list (.str))))))), .dat (.list (.pair (.str) (.int .i64)))]), (1, .l (.dat (.int .i64))), (2, .l (.dat (.str)))]⟩, [.list (.pair (.list (.int .i64)) (.pair (.str) (.list (.pair (.str) (.list (.str)))))), .list (.pair (.str) (.int .i64)), .int .i64, .str], ⟨[], [(0, .l (.dat (.int .i64)))]⟩, [.int .i64]⟩
abbrev impl_SeekSince.Tab : Type := (Den [.list (.pair (.list (.int .i64)) (.pair (.str) (.list (.pair (.str) (.list (.str)))))), .list (.pair (.str) (.int .i64)), .str, .int .i64, .list (.int .i64), .int .i64, .int .i64] → Option impl_SeekSince.R) × Unit
def impl_SeekSince.start (m : Nat) (t : impl_SeekSince.Tab) (x0 : List (List Int × ByteArray × List (ByteArray × List ByteArray))) (x1 : List (ByteArray × Int)) (x2 : Int) (x3 : ByteArray) : Option impl_SeekSince.R :=
  Option.bind (impl_Repo_has m (x0, x1, x2, ())) fun r1 => cond (!r1.1) (some ((-1 : Int), ())) (Option.bind (impl_nameOk m (x3, ())) fun r2 => cond (!r2.1) (some ((-1 : Int), ())) (Option.bind (impl_Repo_line m (x0, x1, x2, ())) fun r3 => t.1 (x0, x1, x3, (-1 : Int), r3.1, (lLen r3.1), (0 : Int), ())))
def impl_SeekSince.b0 (m : Nat) (t : impl_SeekSince.Tab) (a0 : List (List Int × ByteArray × List (ByteArray × List ByteArray))) (a1 : List (ByteArray × Int)) (a2 : ByteArray) (a3 : Int) (a4 : List Int) (a5 : Int) (a6 : Int) : Option impl_SeekSince.R :=
  cond (decide (a6 < a5)) (cond (decide ((0 : Int) ≤ a6)) (cond (decide (a6 < lLen a4)) (cond (decide ((0 : Int) ≤ (getL a4 a6 (0 : Int)))) (cond (decide ((getL a4 a6 (0 : Int)) < lLen a0)) (lett ((getL a0 (getL a4 a6 (0 : Int)) (([] : List Int), ByteArray.empty, ([] : List (ByteArray × List ByteArray)))) : List Int × ByteArray × List (ByteArray × List ByteArray)) fun v1 => Option.bind (impl_seek m (v1.2.2, a2, ())) fun r2 => cond ((lLen r2.1) == (0 : Int)) (some (a3, ())) (t.1 (a0, a1, a2, (getL a4 a6 (0 : Int)), a4, a5, (w64 (a6 + (1 : Int))), ()))) none) none) none) none) (some (a3, ()))
def impl_SeekSince.tab (m : Nat) : Nat → impl_SeekSince.Tab
  | 0 => (fun _ => none, ())
  | k + 1 => (fun x => impl_SeekSince.b0 m (impl_SeekSince.tab m k) x.1 x.2.1 x.2.2.1 x.2.2.2.1 x.2.2.2.2.1 x.2.2.2.2.2.1 x.2.2.2.2.2.2.1, ())
def impl_SeekSince (m : Nat) (x : Den [.list (.pair (.list (.int .i64)) (.pair (.str) (.list (.pair (.str) (.list (.str)))))), .list (.pair (.str) (.int .i64)), .int .i64, .str]) : Option impl_SeekSince.R := impl_SeekSince.start m (impl_SeekSince.tab m m) x.1 x.2.1 x.2.2.1 x.2.2.2.1
def impl_SeekSince.cons (m : Nat) : List (Nat × Contract) := [(103, ⟨impl_Repo_has.sig, impl_Repo_has m⟩), (80, ⟨impl_nameOk.sig, impl_nameOk m⟩), (104, ⟨impl_Repo_line.sig, impl_Repo_line m⟩), (105, ⟨impl_seek.sig, impl_seek m⟩)]
def impl_SeekSince.cuts (m : Nat) : List (CutF (Den impl_SeekSince.sig.us)) := [⟨[false, true, false, true, true, true], 122, ⟨[.box [.dat (.list (.pair (.list (.int .i64)) (.pair (.str) (.list (.pair (.str) (.list (.str))))))), .dat (.list (.pair (.str) (.int .i64)))]], [(2, .l (.dat (.str))), (3, .l (.ptr 0 0)), (7, .l (.dat (.int .i64))), (22, .l (.dat (.list (.int .i64)))), (23, .l (.dat (.int .i64))), (24, .l (.dat (.int .i64)))]⟩, [.list (.pair (.list (.int .i64)) (.pair (.str) (.list (.pair (.str) (.list (.str)))))), .list (.pair (.str) (.int .i64)), .str, .int .i64, .list (.int .i64), .int .i64, .int .i64], fun k => (impl_SeekSince.tab m k).1⟩]
theorem impl_SeekSince.eq0 (m k : Nat) (x : Den [.list (.pair (.list (.int .i64)) (.pair (.str) (.list (.pair (.str) (.list (.str)))))), .list (.pair (.str) (.int .i64)), .str, .int .i64, .list (.int .i64), .int .i64, .int .i64]) : (impl_SeekSince.tab m (k + 1)).1 x = runF ⟨lookΓ Γl, lookC (impl_SeekSince.cons m)⟩ Tryd.f47 impl_SeekSince.sig (impl_SeekSince.cuts m) k [false, true, false, true, true, true] ⟨[.box [.dat (.list (.pair (.list (.int .i64)) (.pair (.str) (.list (.pair (.str) (.list (.str))))))), .dat (.list (.pair (.str) (.int .i64)))]], [(2, .l (.dat (.str))), (3, .l (.ptr 0 0)), (7, .l (.dat (.int .i64))), (22, .l (.dat (.list (.int .i64)))), (23, .l (.dat (.int .i64))), (24, .l (.dat (.int .i64)))]⟩ [.list (.pair (.list (.int .i64)) (.pair (.str) (.list (.pair (.str) (.list (.str)))))), .list (.pair (.str) (.int .i64)), .str, .int .i64, .list (.int .i64), .int .i64, .int .i64] x := by kernel_rfl
theorem impl_SeekSince.eq (m : Nat) (x : Den impl_SeekSince.sig.ts) : impl_SeekSince m x = startF ⟨lookΓ Γl, lookC (impl_SeekSince.cons m)⟩ Tryd.f47 impl_SeekSince.sig (impl_SeekSince.cuts m) m x := by kernel_rfl
theorem impl_SeekSince.ok (m : Nat) : Meets Tryd.prog 47 impl_SeekSince.sig (impl_SeekSince m) :=
  fn_is (cx_is tyOk mixed (l := impl_SeekSince.cons m) ⟨impl_Repo_has.ok m, impl_nameOk.ok m, impl_Repo_line.ok m, impl_seek.ok m, trivial⟩) (fn := Tryd.f47) Tryd.func47 (by kernel_rfl) (cl := impl_SeekSince.cuts m) ⟨⟨by kernel_rfl, fun _ => rfl, fun k x => impl_SeekSince.eq0 m k x⟩, trivial⟩ (k := m) (impl_SeekSince.eq m)

/-! ### loop.example/stemma/laws.FnExactSeekSince: function 10 -/
abbrev laws_FnExactSeekSince.R : Type := Den [.bool]
def laws_FnExactSeekSince.sig : Sig := ⟨3, ⟨[], [(0, .agg [.dat (.list (.pair (.list (.int .i64)) (.pair (.str) (.list (.pair (.str) (.list (.str))))))), .dat (.list (.pair (.str) (.int .i64)))]), (1, .l (.dat (.int .i64))), (2, .l (.dat (.str)))]⟩, [.list (.pair (.list (.int .i64)) (.pair (.str) (.list (.pair (.str) (.list (.str)))))), .list (.pair (.str) (.int .i64)), .int .i64, .str], ⟨[], [(0, .l (.dat (.bool)))]⟩, [.bool]⟩
abbrev laws_FnExactSeekSince.Tab : Type := Unit
def laws_FnExactSeekSince.start (m : Nat) (t : laws_FnExactSeekSince.Tab) (x0 : List (List Int × ByteArray × List (ByteArray × List ByteArray))) (x1 : List (ByteArray × Int)) (x2 : Int) (x3 : ByteArray) : Option laws_FnExactSeekSince.R :=
  Option.bind (laws_szRepo m (((List.map (fun z49 => ((z49.1, (List.length z49.1)), z49.2.1, (List.map (fun z50 => (z50.1, z50.2, (List.length z50.2))) z49.2.2), (List.length z49.2.2))) x0), (List.length x0)), (x1, (List.length x1)), (w64 ((1000000 : Int) - (sLen x3))), ())) fun r1 => cond (decide (r1.1 < (0 : Int))) (some (true, ())) (Option.bind (laws_toRepo m (((List.map (fun z51 => ((z51.1, (List.length z51.1)), z51.2.1, (List.map (fun z52 => (z52.1, z52.2, (List.length z52.2))) z51.2.2), (List.length z51.2.2))) x0), (List.length x0)), (x1, (List.length x1)), false, ())) fun r2 => Option.bind (spec_SeekSince m ((List.map (fun z53 => ((List.take z53.1.2 z53.1.1), z53.2.1, (List.map (fun z54 => (z54.1, (List.take z54.2.2 z54.2.1))) (List.take z53.2.2.2 z53.2.2.1)))) (List.take r2.1.2 r2.1.1)), (List.take r2.2.1.2 r2.2.1.1), x2, x3, ())) fun r3 => Option.bind (laws_toRepo m (((List.map (fun z55 => ((z55.1, (List.length z55.1)), z55.2.1, (List.map (fun z56 => (z56.1, z56.2, (List.length z56.2))) z55.2.2), (List.length z55.2.2))) x0), (List.length x0)), (x1, (List.length x1)), false, ())) fun r4 => Option.bind (impl_SeekSince m ((List.map (fun z57 => ((List.take z57.1.2 z57.1.1), z57.2.1, (List.map (fun z58 => (z58.1, (List.take z58.2.2 z58.2.1))) (List.take z57.2.2.2 z57.2.2.1)))) (List.take r4.1.2 r4.1.1)), (List.take r4.2.1.2 r4.2.1.1), x2, x3, ())) fun r5 => cond (r5.1 != r3.1) (some (false, ())) (Option.bind (laws_toRepo m (((List.map (fun z59 => ((z59.1, (List.length z59.1)), z59.2.1, (List.map (fun z60 => (z60.1, z60.2, (List.length z60.2))) z59.2.2), (List.length z59.2.2))) x0), (List.length x0)), (x1, (List.length x1)), false, ())) fun r6 => Option.bind (laws_intactRepo m (r4.1, r4.2.1, r6.1, r6.2.1, ())) fun r7 => cond (!r7.1) (some (false, ())) (Option.bind (laws_toRepo m (((List.map (fun z61 => ((z61.1, (List.length z61.1)), z61.2.1, (List.map (fun z62 => (z62.1, z62.2, (List.length z62.2))) z61.2.2), (List.length z61.2.2))) x0), (List.length x0)), (x1, (List.length x1)), true, ())) fun r8 => Option.bind (impl_SeekSince m ((List.map (fun z63 => ((List.take z63.1.2 z63.1.1), z63.2.1, (List.map (fun z64 => (z64.1, (List.take z64.2.2 z64.2.1))) (List.take z63.2.2.2 z63.2.2.1)))) (List.take r8.1.2 r8.1.1)), (List.take r8.2.1.2 r8.2.1.1), x2, x3, ())) fun r9 => cond (r9.1 != r3.1) (some (false, ())) (some (true, ())))))
def laws_FnExactSeekSince.tab (m : Nat) : Nat → laws_FnExactSeekSince.Tab
  | 0 => (())
  | k + 1 => (())
def laws_FnExactSeekSince (m : Nat) (x : Den [.list (.pair (.list (.int .i64)) (.pair (.str) (.list (.pair (.str) (.list (.str)))))), .list (.pair (.str) (.int .i64)), .int .i64, .str]) : Option laws_FnExactSeekSince.R := laws_FnExactSeekSince.start m (laws_FnExactSeekSince.tab m m) x.1 x.2.1 x.2.2.1 x.2.2.2.1
def laws_FnExactSeekSince.cons (m : Nat) : List (Nat × Contract) := [(33, ⟨laws_szRepo.sig, laws_szRepo m⟩), (36, ⟨laws_toRepo.sig, laws_toRepo m⟩), (46, ⟨spec_SeekSince.sig, spec_SeekSince m⟩), (47, ⟨impl_SeekSince.sig, impl_SeekSince m⟩), (39, ⟨laws_intactRepo.sig, laws_intactRepo m⟩)]
def laws_FnExactSeekSince.cuts (m : Nat) : List (CutF (Den laws_FnExactSeekSince.sig.us)) := []
theorem laws_FnExactSeekSince.eq (m : Nat) (x : Den laws_FnExactSeekSince.sig.ts) : laws_FnExactSeekSince m x = startF ⟨lookΓ Γs, lookC (laws_FnExactSeekSince.cons m)⟩ Tryd.f10 laws_FnExactSeekSince.sig (laws_FnExactSeekSince.cuts m) m x := by kernel_rfl
theorem laws_FnExactSeekSince.ok (m : Nat) : Meets Tryd.prog 10 laws_FnExactSeekSince.sig (laws_FnExactSeekSince m) :=
  fn_is (cx_is tyOks mixed (l := laws_FnExactSeekSince.cons m) ⟨laws_szRepo.ok m, laws_toRepo.ok m, spec_SeekSince.ok m, impl_SeekSince.ok m, laws_intactRepo.ok m, trivial⟩) (fn := Tryd.f10) Tryd.func10 (by kernel_rfl) (cl := laws_FnExactSeekSince.cuts m) trivial (k := m) (laws_FnExactSeekSince.eq m)

end
end Go.Sx.Tryd
