/- The functions that FnExactCrc reaches, as plain Lean functions, and that the program's functions do what these say: no condition. Printed by wip/gen/sx.py. -/
import Derived.Test.YthbdbfbdllcifaaSxD
import Derived.Test.YthbdbfbdllcifaaChecked
namespace Go.Sx.Try
open Go Go.Proofs Go.Sx
set_option linter.unusedVariables false
noncomputable section
def Γl : List (Nat × TI) := [(3, ⟨1, 8, false, .int .i64, some (.int .i64)⟩),
  (5, ⟨1, 1, false, .int .u8, some (.int .u8)⟩),
  (9, ⟨1, 16, false, .str, some (.str)⟩),
  (27, ⟨1, 4, false, .int .u32, some (.int .u32)⟩)]
theorem tyOk : TyOk Try.prog (lookΓ Γl) := tyOk_of (by kernel_rfl)
/-! ### loop.example/stemma/spec.l20Crc: function 8 -/
abbrev spec_l20Crc.R : Type := Den [.int .i64]
def spec_l20Crc.sig : Sig := ⟨1, ⟨[], [(0, .l (.dat (.str)))]⟩, [.str], ⟨[], [(0, .l (.dat (.int .i64)))]⟩, [.int .i64]⟩
abbrev spec_l20Crc.Tab : Type := (Den [.str, .int .i64, .int .i64] → Option spec_l20Crc.R) × (Den [.str, .int .i64, .int .i64, .int .i64] → Option spec_l20Crc.R) × Unit
def spec_l20Crc.start (m : Nat) (t : spec_l20Crc.Tab) (x0 : ByteArray) : Option spec_l20Crc.R :=
  t.1 (x0, (4294967295 : Int), (0 : Int), ())
def spec_l20Crc.b0 (m : Nat) (t : spec_l20Crc.Tab) (a0 : ByteArray) (a1 : Int) (a2 : Int) : Option spec_l20Crc.R :=
  cond (decide (a2 < (sLen a0))) (cond (decide ((0 : Int) ≤ a2)) (cond (decide (a2 < sLen a0)) (t.2.1 (a0, (xorI .i64 a1 (wr .i64 (byteAt a0 a2))), a2, (0 : Int), ())) none) none) (some ((xorI .i64 a1 (4294967295 : Int)), ()))
def spec_l20Crc.b1 (m : Nat) (t : spec_l20Crc.Tab) (a0 : ByteArray) (a1 : Int) (a2 : Int) (a3 : Int) : Option spec_l20Crc.R :=
  cond (decide (a3 < (8 : Int))) (cond ((2 : Int) == 0) none (cond ((Int.tmod a1 (2 : Int)) == (1 : Int)) (cond ((2 : Int) == 0) none (let v1 : Int := (xorI .i64 (w64 (Int.tdiv a1 (2 : Int))) (3988292384 : Int)); t.2.1 (a0, v1, a2, (w64 (a3 + (1 : Int))), ()))) (cond ((2 : Int) == 0) none (t.2.1 (a0, (w64 (Int.tdiv a1 (2 : Int))), a2, (w64 (a3 + (1 : Int))), ()))))) (t.1 (a0, a1, (w64 (a2 + (1 : Int))), ()))
def spec_l20Crc.tab (m : Nat) : Nat → spec_l20Crc.Tab
  | 0 => (fun _ => none, fun _ => none, ())
  | k + 1 => (fun x => spec_l20Crc.b0 m (spec_l20Crc.tab m k) x.1 x.2.1 x.2.2.1, fun x => spec_l20Crc.b1 m (spec_l20Crc.tab m k) x.1 x.2.1 x.2.2.1 x.2.2.2.1, ())
def spec_l20Crc (m : Nat) (x : Den [.str]) : Option spec_l20Crc.R := spec_l20Crc.start m (spec_l20Crc.tab m m) x.1
def spec_l20Crc.cons (m : Nat) : List (Nat × Contract) := []
def spec_l20Crc.cuts (m : Nat) : List (CutF (Den spec_l20Crc.sig.us)) := [⟨[false, true, false, true, true], 58, ⟨[], [(0, .l (.dat (.str))), (3, .l (.dat (.int .i64))), (4, .l (.dat (.int .i64)))]⟩, [.str, .int .i64, .int .i64], fun k => (spec_l20Crc.tab m k).1⟩,
  ⟨[false, true, true, false, false, true, false, false, true, false, true, true], 7462, ⟨[], [(0, .l (.dat (.str))), (3, .l (.dat (.int .i64))), (4, .l (.dat (.int .i64))), (5, .l (.dat (.int .i64)))]⟩, [.str, .int .i64, .int .i64, .int .i64], fun k => (spec_l20Crc.tab m k).2.1⟩]
theorem spec_l20Crc.eq0 (m k : Nat) (x : Den [.str, .int .i64, .int .i64]) : (spec_l20Crc.tab m (k + 1)).1 x = runF ⟨lookΓ Γl, lookC (spec_l20Crc.cons m)⟩ Try.f8 spec_l20Crc.sig (spec_l20Crc.cuts m) k [false, true, false, true, true] ⟨[], [(0, .l (.dat (.str))), (3, .l (.dat (.int .i64))), (4, .l (.dat (.int .i64)))]⟩ [.str, .int .i64, .int .i64] x := by kernel_rfl
theorem spec_l20Crc.eq1 (m k : Nat) (x : Den [.str, .int .i64, .int .i64, .int .i64]) : (spec_l20Crc.tab m (k + 1)).2.1 x = runF ⟨lookΓ Γl, lookC (spec_l20Crc.cons m)⟩ Try.f8 spec_l20Crc.sig (spec_l20Crc.cuts m) k [false, true, true, false, false, true, false, false, true, false, true, true] ⟨[], [(0, .l (.dat (.str))), (3, .l (.dat (.int .i64))), (4, .l (.dat (.int .i64))), (5, .l (.dat (.int .i64)))]⟩ [.str, .int .i64, .int .i64, .int .i64] x := by kernel_rfl
theorem spec_l20Crc.eq (m : Nat) (x : Den spec_l20Crc.sig.ts) : spec_l20Crc m x = startF ⟨lookΓ Γl, lookC (spec_l20Crc.cons m)⟩ Try.f8 spec_l20Crc.sig (spec_l20Crc.cuts m) m x := by kernel_rfl
theorem spec_l20Crc.ok (m : Nat) : Meets Try.prog 8 spec_l20Crc.sig (spec_l20Crc m) :=
  fn_is (cx_is tyOk (l := spec_l20Crc.cons m) trivial) (fn := Try.f8) rfl (by kernel_rfl) (cl := spec_l20Crc.cuts m) ⟨⟨by kernel_rfl, fun _ => rfl, fun k x => spec_l20Crc.eq0 m k x⟩, ⟨by kernel_rfl, fun _ => rfl, fun k x => spec_l20Crc.eq1 m k x⟩, trivial⟩ (k := m) (spec_l20Crc.eq m)

/-! ### loop.example/stemma/spec.Crc: function 5 -/
abbrev spec_Crc.R : Type := Den [.int .i64]
def spec_Crc.sig : Sig := ⟨1, ⟨[], [(0, .l (.dat (.str)))]⟩, [.str], ⟨[], [(0, .l (.dat (.int .i64)))]⟩, [.int .i64]⟩
abbrev spec_Crc.Tab : Type := Unit
def spec_Crc.start (m : Nat) (t : spec_Crc.Tab) (x0 : ByteArray) : Option spec_Crc.R :=
  Option.bind (spec_l20Crc m (x0, ())) fun r1 => some (r1.1, ())
def spec_Crc.tab (m : Nat) : Nat → spec_Crc.Tab
  | 0 => (())
  | k + 1 => (())
def spec_Crc (m : Nat) (x : Den [.str]) : Option spec_Crc.R := spec_Crc.start m (spec_Crc.tab m m) x.1
def spec_Crc.cons (m : Nat) : List (Nat × Contract) := [(8, ⟨spec_l20Crc.sig, spec_l20Crc m⟩)]
def spec_Crc.cuts (m : Nat) : List (CutF (Den spec_Crc.sig.us)) := []
theorem spec_Crc.eq (m : Nat) (x : Den spec_Crc.sig.ts) : spec_Crc m x = startF ⟨lookΓ Γl, lookC (spec_Crc.cons m)⟩ Try.f5 spec_Crc.sig (spec_Crc.cuts m) m x := by kernel_rfl
theorem spec_Crc.ok (m : Nat) : Meets Try.prog 5 spec_Crc.sig (spec_Crc m) :=
  fn_is (cx_is tyOk (l := spec_Crc.cons m) ⟨spec_l20Crc.ok m, trivial⟩) (fn := Try.f5) rfl (by kernel_rfl) (cl := spec_Crc.cuts m) trivial (k := m) (spec_Crc.eq m)

/-! ### loop.example/stemma/impl.Crc: function 6 -/
abbrev impl_Crc.R : Type := Den [.int .i64]
def impl_Crc.sig : Sig := ⟨1, ⟨[], [(0, .l (.dat (.str)))]⟩, [.str], ⟨[], [(0, .l (.dat (.int .i64)))]⟩, [.int .i64]⟩
abbrev impl_Crc.Tab : Type := (Den [.str, .int .u32, .int .i64, .int .i64] → Option impl_Crc.R) × (Den [.str, .int .u32, .int .i64, .int .i64, .int .i64] → Option impl_Crc.R) × Unit
def impl_Crc.start (m : Nat) (t : impl_Crc.Tab) (x0 : ByteArray) : Option impl_Crc.R :=
  t.1 (x0, (4294967295 : Int), (sLen x0), (0 : Int), ())
def impl_Crc.b0 (m : Nat) (t : impl_Crc.Tab) (a0 : ByteArray) (a1 : Int) (a2 : Int) (a3 : Int) : Option impl_Crc.R :=
  cond (decide (a3 < a2)) (cond (decide ((0 : Int) ≤ a3)) (cond (decide (a3 < sLen a0)) (t.2.1 (a0, (xorI .u32 a1 (wr .u32 (byteAt a0 a3))), a2, a3, (0 : Int), ())) none) none) (some ((wr .i64 (notI .u32 a1)), ()))
def impl_Crc.b1 (m : Nat) (t : impl_Crc.Tab) (a0 : ByteArray) (a1 : Int) (a2 : Int) (a3 : Int) (a4 : Int) : Option impl_Crc.R :=
  cond (decide (a4 < (8 : Int))) (cond (decide ((1 : Int) < 0)) none (cond ((andI .u32 a1 (1 : Int)) == (1 : Int)) (let v1 : Int := (xorI .u32 (shrI .u32 a1 (1 : Int)) (3988292384 : Int)); t.2.1 (a0, v1, a2, a3, (w64 (a4 + (1 : Int))), ())) (t.2.1 (a0, (shrI .u32 a1 (1 : Int)), a2, a3, (w64 (a4 + (1 : Int))), ())))) (t.1 (a0, a1, a2, (w64 (a3 + (1 : Int))), ()))
def impl_Crc.tab (m : Nat) : Nat → impl_Crc.Tab
  | 0 => (fun _ => none, fun _ => none, ())
  | k + 1 => (fun x => impl_Crc.b0 m (impl_Crc.tab m k) x.1 x.2.1 x.2.2.1 x.2.2.2.1, fun x => impl_Crc.b1 m (impl_Crc.tab m k) x.1 x.2.1 x.2.2.1 x.2.2.2.1 x.2.2.2.2.1, ())
def impl_Crc (m : Nat) (x : Den [.str]) : Option impl_Crc.R := impl_Crc.start m (impl_Crc.tab m m) x.1
def impl_Crc.cons (m : Nat) : List (Nat × Contract) := []
def impl_Crc.cuts (m : Nat) : List (CutF (Den impl_Crc.sig.us)) := [⟨[false, true, false, true, true], 58, ⟨[], [(0, .l (.dat (.str))), (3, .l (.dat (.int .u32))), (7, .l (.dat (.int .i64))), (8, .l (.dat (.int .i64)))]⟩, [.str, .int .u32, .int .i64, .int .i64], fun k => (impl_Crc.tab m k).1⟩,
  ⟨[false, true, true, true, false, false, true, true, false, false, true, false, true, true], 29902, ⟨[], [(0, .l (.dat (.str))), (3, .l (.dat (.int .u32))), (7, .l (.dat (.int .i64))), (8, .l (.dat (.int .i64))), (17, .l (.dat (.int .i64)))]⟩, [.str, .int .u32, .int .i64, .int .i64, .int .i64], fun k => (impl_Crc.tab m k).2.1⟩]
theorem impl_Crc.eq0 (m k : Nat) (x : Den [.str, .int .u32, .int .i64, .int .i64]) : (impl_Crc.tab m (k + 1)).1 x = runF ⟨lookΓ Γl, lookC (impl_Crc.cons m)⟩ Try.f6 impl_Crc.sig (impl_Crc.cuts m) k [false, true, false, true, true] ⟨[], [(0, .l (.dat (.str))), (3, .l (.dat (.int .u32))), (7, .l (.dat (.int .i64))), (8, .l (.dat (.int .i64)))]⟩ [.str, .int .u32, .int .i64, .int .i64] x := by kernel_rfl
theorem impl_Crc.eq1 (m k : Nat) (x : Den [.str, .int .u32, .int .i64, .int .i64, .int .i64]) : (impl_Crc.tab m (k + 1)).2.1 x = runF ⟨lookΓ Γl, lookC (impl_Crc.cons m)⟩ Try.f6 impl_Crc.sig (impl_Crc.cuts m) k [false, true, true, true, false, false, true, true, false, false, true, false, true, true] ⟨[], [(0, .l (.dat (.str))), (3, .l (.dat (.int .u32))), (7, .l (.dat (.int .i64))), (8, .l (.dat (.int .i64))), (17, .l (.dat (.int .i64)))]⟩ [.str, .int .u32, .int .i64, .int .i64, .int .i64] x := by kernel_rfl
theorem impl_Crc.eq (m : Nat) (x : Den impl_Crc.sig.ts) : impl_Crc m x = startF ⟨lookΓ Γl, lookC (impl_Crc.cons m)⟩ Try.f6 impl_Crc.sig (impl_Crc.cuts m) m x := by kernel_rfl
theorem impl_Crc.ok (m : Nat) : Meets Try.prog 6 impl_Crc.sig (impl_Crc m) :=
  fn_is (cx_is tyOk (l := impl_Crc.cons m) trivial) (fn := Try.f6) rfl (by kernel_rfl) (cl := impl_Crc.cuts m) ⟨⟨by kernel_rfl, fun _ => rfl, fun k x => impl_Crc.eq0 m k x⟩, ⟨by kernel_rfl, fun _ => rfl, fun k x => impl_Crc.eq1 m k x⟩, trivial⟩ (k := m) (impl_Crc.eq m)

/-! ### loop.example/stemma/laws.FnExactCrc: function 3 -/
abbrev laws_FnExactCrc.R : Type := Den [.bool]
def laws_FnExactCrc.sig : Sig := ⟨1, ⟨[], [(0, .l (.dat (.str)))]⟩, [.str], ⟨[], [(0, .l (.dat (.bool)))]⟩, [.bool]⟩
abbrev laws_FnExactCrc.Tab : Type := Unit
def laws_FnExactCrc.start (m : Nat) (t : laws_FnExactCrc.Tab) (x0 : ByteArray) : Option laws_FnExactCrc.R :=
  cond (decide ((sLen x0) > (1000000 : Int))) (some (true, ())) (Option.bind (spec_Crc m (x0, ())) fun r1 => Option.bind (impl_Crc m (x0, ())) fun r2 => cond (r2.1 != r1.1) (some (false, ())) (some (true, ())))
def laws_FnExactCrc.tab (m : Nat) : Nat → laws_FnExactCrc.Tab
  | 0 => (())
  | k + 1 => (())
def laws_FnExactCrc (m : Nat) (x : Den [.str]) : Option laws_FnExactCrc.R := laws_FnExactCrc.start m (laws_FnExactCrc.tab m m) x.1
def laws_FnExactCrc.cons (m : Nat) : List (Nat × Contract) := [(5, ⟨spec_Crc.sig, spec_Crc m⟩), (6, ⟨impl_Crc.sig, impl_Crc m⟩)]
def laws_FnExactCrc.cuts (m : Nat) : List (CutF (Den laws_FnExactCrc.sig.us)) := []
theorem laws_FnExactCrc.eq (m : Nat) (x : Den laws_FnExactCrc.sig.ts) : laws_FnExactCrc m x = startF ⟨lookΓ Γl, lookC (laws_FnExactCrc.cons m)⟩ Try.f3 laws_FnExactCrc.sig (laws_FnExactCrc.cuts m) m x := by kernel_rfl
theorem laws_FnExactCrc.ok (m : Nat) : Meets Try.prog 3 laws_FnExactCrc.sig (laws_FnExactCrc m) :=
  fn_is (cx_is tyOk (l := laws_FnExactCrc.cons m) ⟨spec_Crc.ok m, impl_Crc.ok m, trivial⟩) (fn := Try.f3) rfl (by kernel_rfl) (cl := laws_FnExactCrc.cuts m) trivial (k := m) (laws_FnExactCrc.eq m)

end
end Go.Sx.Try
