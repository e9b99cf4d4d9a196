/- The functions that FnCrc reaches, as plain Lean functions, and that the program's functions do what these say: no condition. Printed by wip/gen/sx.py. -/
import Derived.Test.YthbdbfbdllcifaaSxD
import Derived.Test.YthbdbfbdllcifaaChecked
namespace Go.Sx.Try
open Go Go.Proofs Go.Sx
set_option linter.unusedVariables false
noncomputable section
def Γl : List (Nat × TI) := [(3, ⟨1, 8, false, .int .i64, some (.int .i64)⟩),
  (4, ⟨1, 1, false, .bool, some (.bool)⟩),
  (5, ⟨1, 1, false, .int .u8, some (.int .u8)⟩),
  (9, ⟨1, 16, false, .str, some (.str)⟩),
  (24, ⟨1, 24, false, .slice 5, some (.list (.int .u8))⟩),
  (27, ⟨1, 4, false, .int .u32, some (.int .u32)⟩),
  (29, ⟨1, 8, false, .other, none⟩),
  (33, ⟨1, 24, false, .slice 9, some (.list (.str))⟩),
  (35, ⟨7, 104, true, .struct [(3, 0), (9, 1), (9, 2), (9, 3), (9, 4), (3, 5), (33, 6)], some (.pair (.int .i64) (.pair (.str) (.pair (.str) (.pair (.str) (.pair (.str) (.pair (.int .i64) (.list (.str))))))))⟩),
  (38, ⟨2, 32, true, .struct [(24, 0), (3, 1)], some (.pair (.list (.int .u8)) (.int .i64))⟩),
  (49, ⟨1, 24, false, .slice 3, some (.list (.int .i64))⟩)]
theorem tyOk : TyOk Try.prog (lookΓ Γl) := tyOk_of (by kernel_rfl)
theorem mixed : Try.prog.follows .mixedOrders = true := by kernel_rfl
def str0 : ByteArray := ⟨#[109, 97, 105, 110]⟩
def str1 : ByteArray := ⟨#[115, 105, 100, 101]⟩
def str2 : ByteArray := ⟨#[100, 101, 118]⟩
def str3 : ByteArray := ⟨#[97, 110, 110]⟩
def str4 : ByteArray := ⟨#[98, 111, 98]⟩
def str5 : ByteArray := ⟨#[99, 105, 100]⟩
def str6 : ByteArray := ⟨#[97]⟩
def str7 : ByteArray := ⟨#[98]⟩
def str8 : ByteArray := ⟨#[100, 47, 101]⟩
def str9 : ByteArray := ⟨#[100, 47, 102]⟩
def str10 : ByteArray := ⟨#[103, 47, 104, 47, 105]⟩
def str11 : ByteArray := ⟨#[103, 47, 107]⟩
def str12 : ByteArray := ⟨#[122]⟩
def str13 : ByteArray := ⟨#[111, 108, 100]⟩
def str14 : ByteArray := ⟨#[99]⟩
def str15 : ByteArray := ⟨#[100]⟩
def str16 : ByteArray := ⟨#[120, 32, 121]⟩
def str17 : ByteArray := ⟨#[115, 101, 101, 32, 97]⟩
def str18 : ByteArray := ⟨#[115, 101, 101, 32, 100, 47, 101]⟩
def str19 : ByteArray := ⟨#[101, 110, 100]⟩
def str20 : ByteArray := ⟨#[115, 101, 116]⟩
def str21 : ByteArray := ⟨#[100, 114, 111, 112]⟩
def str22 : ByteArray := ⟨#[109, 111, 118, 101]⟩
def str23 : ByteArray := ⟨#[102, 111, 114, 107]⟩
def str24 : ByteArray := ⟨#[117, 110, 105, 116, 101]⟩
def str25 : ByteArray := ⟨#[112, 105, 99, 107]⟩
def str26 : ByteArray := ⟨#[98, 97, 99, 107]⟩
def str27 : ByteArray := ⟨#[32]⟩
def str28 : ByteArray := ⟨#[45, 57, 50, 50, 51, 51, 55, 50, 48, 51, 54, 56, 53, 52, 55, 55, 53, 56, 48, 56]⟩
def str29 : ByteArray := ⟨#[45]⟩
def str30 : ByteArray := ⟨#[124]⟩
def str31 : ByteArray := ⟨#[49, 50, 51, 52, 53, 54, 55, 56, 57]⟩
/-! ### loop.example/stemma/spec.l30Open: function 9 -/
abbrev spec_l30Open.R : Type := Den [.list (.int .u8), .int .i64]
def spec_l30Open.sig : Sig := ⟨1, ⟨[], [(0, .l (.dat (.list (.int .u8))))]⟩, [.list (.int .u8)], ⟨[.box [.dat (.list (.int .u8)), .dat (.int .i64)]], [(0, .l (.ptr 0 0))]⟩, [.list (.int .u8), .int .i64]⟩
abbrev spec_l30Open.Tab : Type := Unit
def spec_l30Open.start (m : Nat) (t : spec_l30Open.Tab) (x0 : List Int) : Option spec_l30Open.R :=
  cond (decide ((lLen x0) > (2000 : Int))) (cond (decide ((0 : Int) ≤ (2000 : Int))) (cond (decide ((2000 : Int) ≤ (List.length x0 : Int))) (some ((cutL x0 0 (Int.toNat (2000 : Int))), (0 : Int), ())) none) none) (some (x0, (0 : Int), ()))
def spec_l30Open.tab (m : Nat) : Nat → spec_l30Open.Tab
  | 0 => (())
  | k + 1 => (())
def spec_l30Open (m : Nat) (x : Den [.list (.int .u8)]) : Option spec_l30Open.R := spec_l30Open.start m (spec_l30Open.tab m m) x.1
def spec_l30Open.cons (m : Nat) : List (Nat × Contract) := []
def spec_l30Open.cuts (m : Nat) : List (CutF (Den spec_l30Open.sig.us)) := []
theorem spec_l30Open.eq (m : Nat) (x : Den spec_l30Open.sig.ts) : spec_l30Open m x = startF ⟨lookΓ Γl, lookC (spec_l30Open.cons m)⟩ Try.f9 spec_l30Open.sig (spec_l30Open.cuts m) m x := by kernel_rfl
theorem spec_l30Open.ok (m : Nat) : Meets Try.prog 9 spec_l30Open.sig (spec_l30Open m) :=
  fn_is (cx_is tyOk mixed (l := spec_l30Open.cons m) trivial) (fn := Try.f9) rfl (by kernel_rfl) (cl := spec_l30Open.cuts m) trivial (k := m) (spec_l30Open.eq m)

/-! ### (*loop.example/stemma/spec.l30Rd).pick: function 13 -/
abbrev spec_l30Rd_pick.R : Type := Den [.list (.int .u8), .int .i64, .int .i64]
def spec_l30Rd_pick.sig : Sig := ⟨2, ⟨[.box [.dat (.list (.int .u8)), .dat (.int .i64)]], [(0, .l (.ptr 0 0)), (1, .l (.dat (.int .i64)))]⟩, [.list (.int .u8), .int .i64, .int .i64], ⟨[.box [.dat (.list (.int .u8)), .dat (.int .i64)]], [(0, .l (.dat (.int .i64)))]⟩, [.list (.int .u8), .int .i64, .int .i64]⟩
abbrev spec_l30Rd_pick.Tab : Type := Unit
def spec_l30Rd_pick.start (m : Nat) (t : spec_l30Rd_pick.Tab) (x0 : List Int) (x1 : Int) (x2 : Int) : Option spec_l30Rd_pick.R :=
  cond (decide (x2 < (1 : Int))) (some (x0, (w64 (x1 + (1 : Int))), (0 : Int), ())) (cond ((lLen x0) == (0 : Int)) (some (x0, (w64 (x1 + (1 : Int))), (0 : Int), ())) (lett ((w64 ((w64 (x1 + (1 : Int))) - (1 : Int))) : Int) fun v1 => cond (decide (v1 < (lLen x0))) (cond (decide ((0 : Int) ≤ v1)) (cond (decide (v1 < lLen x0)) (cond (x2 == 0) none (lett ((Int.tmod (wr .i64 (getL x0 v1 (0 : Int))) x2) : Int) fun v2 => some (x0, (w64 (x1 + (1 : Int))), v2, ()))) none) none) (cond ((lLen x0) == 0) none (cond (decide ((0 : Int) ≤ (Int.tmod v1 (lLen x0)))) (cond (decide ((Int.tmod v1 (lLen x0)) < lLen x0)) (lett ((getL x0 (Int.tmod v1 (lLen x0)) (0 : Int)) : Int) fun v3 => lett ((w64 ((w64 (v1 * (7 : Int))) + (3 : Int))) : Int) fun v4 => cond ((lLen x0) == 0) none (cond (decide ((0 : Int) ≤ (Int.tmod v4 (lLen x0)))) (cond (decide ((Int.tmod v4 (lLen x0)) < lLen x0)) (lett ((getL x0 (Int.tmod v4 (lLen x0)) (0 : Int)) : Int) fun v5 => lett ((w64 ((w64 ((wr .i64 v3) * (131 : Int))) + (w64 ((wr .i64 v5) * (1117 : Int))))) : Int) fun v6 => cond ((lLen x0) == 0) none (lett ((w64 ((w64 (Int.tdiv v1 (lLen x0))) * (53 : Int))) : Int) fun v7 => lett ((w64 ((w64 (v6 + (w64 (v1 * (29 : Int))))) + v7)) : Int) fun v8 => cond ((64 : Int) == 0) none (lett ((xorI .i64 v8 (w64 (Int.tdiv v8 (64 : Int)))) : Int) fun v9 => cond (x2 == 0) none (some (x0, (w64 (x1 + (1 : Int))), (Int.tmod v9 x2), ()))))) none) none)) none) none))))
def spec_l30Rd_pick.tab (m : Nat) : Nat → spec_l30Rd_pick.Tab
  | 0 => (())
  | k + 1 => (())
def spec_l30Rd_pick (m : Nat) (x : Den [.list (.int .u8), .int .i64, .int .i64]) : Option spec_l30Rd_pick.R := spec_l30Rd_pick.start m (spec_l30Rd_pick.tab m m) x.1 x.2.1 x.2.2.1
def spec_l30Rd_pick.cons (m : Nat) : List (Nat × Contract) := []
def spec_l30Rd_pick.cuts (m : Nat) : List (CutF (Den spec_l30Rd_pick.sig.us)) := []
theorem spec_l30Rd_pick.eq (m : Nat) (x : Den spec_l30Rd_pick.sig.ts) : spec_l30Rd_pick m x = startF ⟨lookΓ Γl, lookC (spec_l30Rd_pick.cons m)⟩ Try.f13 spec_l30Rd_pick.sig (spec_l30Rd_pick.cuts m) m x := by kernel_rfl
theorem spec_l30Rd_pick.ok (m : Nat) : Meets Try.prog 13 spec_l30Rd_pick.sig (spec_l30Rd_pick m) :=
  fn_is (cx_is tyOk mixed (l := spec_l30Rd_pick.cons m) trivial) (fn := Try.f13) rfl (by kernel_rfl) (cl := spec_l30Rd_pick.cuts m) trivial (k := m) (spec_l30Rd_pick.eq m)

/-! ### (*loop.example/stemma/spec.l30Rd).of: function 10 -/
abbrev spec_l30Rd_of.R : Type := Den [.list (.int .u8), .int .i64, .str]
def spec_l30Rd_of.sig : Sig := ⟨2, ⟨[.box [.dat (.list (.int .u8)), .dat (.int .i64)]], [(0, .l (.ptr 0 0)), (1, .l (.dat (.list (.str))))]⟩, [.list (.int .u8), .int .i64, .list (.str)], ⟨[.box [.dat (.list (.int .u8)), .dat (.int .i64)]], [(0, .l (.dat (.str)))]⟩, [.list (.int .u8), .int .i64, .str]⟩
abbrev spec_l30Rd_of.Tab : Type := Unit
def spec_l30Rd_of.start (m : Nat) (t : spec_l30Rd_of.Tab) (x0 : List Int) (x1 : Int) (x2 : List ByteArray) : Option spec_l30Rd_of.R :=
  Option.bind (spec_l30Rd_pick m (x0, x1, (lLen x2), ())) fun r1 => cond (decide ((0 : Int) ≤ r1.2.2.1)) (cond (decide (r1.2.2.1 < lLen x2)) (some (r1.1, r1.2.1, (getL x2 r1.2.2.1 ByteArray.empty), ())) none) none
def spec_l30Rd_of.tab (m : Nat) : Nat → spec_l30Rd_of.Tab
  | 0 => (())
  | k + 1 => (())
def spec_l30Rd_of (m : Nat) (x : Den [.list (.int .u8), .int .i64, .list (.str)]) : Option spec_l30Rd_of.R := spec_l30Rd_of.start m (spec_l30Rd_of.tab m m) x.1 x.2.1 x.2.2.1
def spec_l30Rd_of.cons (m : Nat) : List (Nat × Contract) := [(13, ⟨spec_l30Rd_pick.sig, spec_l30Rd_pick m⟩)]
def spec_l30Rd_of.cuts (m : Nat) : List (CutF (Den spec_l30Rd_of.sig.us)) := []
theorem spec_l30Rd_of.eq (m : Nat) (x : Den spec_l30Rd_of.sig.ts) : spec_l30Rd_of m x = startF ⟨lookΓ Γl, lookC (spec_l30Rd_of.cons m)⟩ Try.f10 spec_l30Rd_of.sig (spec_l30Rd_of.cuts m) m x := by kernel_rfl
theorem spec_l30Rd_of.ok (m : Nat) : Meets Try.prog 10 spec_l30Rd_of.sig (spec_l30Rd_of m) :=
  fn_is (cx_is tyOk mixed (l := spec_l30Rd_of.cons m) ⟨spec_l30Rd_pick.ok m, trivial⟩) (fn := Try.f10) rfl (by kernel_rfl) (cl := spec_l30Rd_of.cuts m) trivial (k := m) (spec_l30Rd_of.eq m)

/-! ### loop.example/stemma/spec.l30Branch: function 16 -/
abbrev spec_l30Branch.R : Type := Den [.list (.int .u8), .int .i64, .str]
def spec_l30Branch.sig : Sig := ⟨1, ⟨[.box [.dat (.list (.int .u8)), .dat (.int .i64)]], [(0, .l (.ptr 0 0))]⟩, [.list (.int .u8), .int .i64], ⟨[.box [.dat (.list (.int .u8)), .dat (.int .i64)]], [(0, .l (.dat (.str)))]⟩, [.list (.int .u8), .int .i64, .str]⟩
abbrev spec_l30Branch.Tab : Type := Unit
def spec_l30Branch.start (m : Nat) (t : spec_l30Branch.Tab) (x0 : List Int) (x1 : Int) : Option spec_l30Branch.R :=
  Option.bind (spec_l30Rd_of m (x0, x1, [str0, str0, str1, str2], ())) fun r1 => some (r1.1, r1.2.1, r1.2.2.1, ())
def spec_l30Branch.tab (m : Nat) : Nat → spec_l30Branch.Tab
  | 0 => (())
  | k + 1 => (())
def spec_l30Branch (m : Nat) (x : Den [.list (.int .u8), .int .i64]) : Option spec_l30Branch.R := spec_l30Branch.start m (spec_l30Branch.tab m m) x.1 x.2.1
def spec_l30Branch.cons (m : Nat) : List (Nat × Contract) := [(10, ⟨spec_l30Rd_of.sig, spec_l30Rd_of m⟩)]
def spec_l30Branch.cuts (m : Nat) : List (CutF (Den spec_l30Branch.sig.us)) := []
theorem spec_l30Branch.eq (m : Nat) (x : Den spec_l30Branch.sig.ts) : spec_l30Branch m x = startF ⟨lookΓ Γl, lookC (spec_l30Branch.cons m)⟩ Try.f16 spec_l30Branch.sig (spec_l30Branch.cuts m) m x := by kernel_rfl
theorem spec_l30Branch.ok (m : Nat) : Meets Try.prog 16 spec_l30Branch.sig (spec_l30Branch m) :=
  fn_is (cx_is tyOk mixed (l := spec_l30Branch.cons m) ⟨spec_l30Rd_of.ok m, trivial⟩) (fn := Try.f16) rfl (by kernel_rfl) (cl := spec_l30Branch.cuts m) trivial (k := m) (spec_l30Branch.eq m)

/-! ### loop.example/stemma/spec.l30Path: function 17 -/
abbrev spec_l30Path.R : Type := Den [.list (.int .u8), .int .i64, .str]
def spec_l30Path.sig : Sig := ⟨1, ⟨[.box [.dat (.list (.int .u8)), .dat (.int .i64)]], [(0, .l (.ptr 0 0))]⟩, [.list (.int .u8), .int .i64], ⟨[.box [.dat (.list (.int .u8)), .dat (.int .i64)]], [(0, .l (.dat (.str)))]⟩, [.list (.int .u8), .int .i64, .str]⟩
abbrev spec_l30Path.Tab : Type := Unit
def spec_l30Path.start (m : Nat) (t : spec_l30Path.Tab) (x0 : List Int) (x1 : Int) : Option spec_l30Path.R :=
  Option.bind (spec_l30Rd_of m (x0, x1, [str6, str7, str8, str9, str10, str11, str12], ())) fun r1 => some (r1.1, r1.2.1, r1.2.2.1, ())
def spec_l30Path.tab (m : Nat) : Nat → spec_l30Path.Tab
  | 0 => (())
  | k + 1 => (())
def spec_l30Path (m : Nat) (x : Den [.list (.int .u8), .int .i64]) : Option spec_l30Path.R := spec_l30Path.start m (spec_l30Path.tab m m) x.1 x.2.1
def spec_l30Path.cons (m : Nat) : List (Nat × Contract) := [(10, ⟨spec_l30Rd_of.sig, spec_l30Rd_of m⟩)]
def spec_l30Path.cuts (m : Nat) : List (CutF (Den spec_l30Path.sig.us)) := []
theorem spec_l30Path.eq (m : Nat) (x : Den spec_l30Path.sig.ts) : spec_l30Path m x = startF ⟨lookΓ Γl, lookC (spec_l30Path.cons m)⟩ Try.f17 spec_l30Path.sig (spec_l30Path.cuts m) m x := by kernel_rfl
theorem spec_l30Path.ok (m : Nat) : Meets Try.prog 17 spec_l30Path.sig (spec_l30Path m) :=
  fn_is (cx_is tyOk mixed (l := spec_l30Path.cons m) ⟨spec_l30Rd_of.ok m, trivial⟩) (fn := Try.f17) rfl (by kernel_rfl) (cl := spec_l30Path.cuts m) trivial (k := m) (spec_l30Path.eq m)

/-! ### (*loop.example/stemma/spec.l30Rd).one: function 26 -/
abbrev spec_l30Rd_one.R : Type := Den [.list (.int .u8), .int .i64, .int .i64]
def spec_l30Rd_one.sig : Sig := ⟨2, ⟨[.box [.dat (.list (.int .u8)), .dat (.int .i64)]], [(0, .l (.ptr 0 0)), (1, .l (.dat (.list (.int .i64))))]⟩, [.list (.int .u8), .int .i64, .list (.int .i64)], ⟨[.box [.dat (.list (.int .u8)), .dat (.int .i64)]], [(0, .l (.dat (.int .i64)))]⟩, [.list (.int .u8), .int .i64, .int .i64]⟩
abbrev spec_l30Rd_one.Tab : Type := Unit
def spec_l30Rd_one.start (m : Nat) (t : spec_l30Rd_one.Tab) (x0 : List Int) (x1 : Int) (x2 : List Int) : Option spec_l30Rd_one.R :=
  Option.bind (spec_l30Rd_pick m (x0, x1, (lLen x2), ())) fun r1 => cond (decide ((0 : Int) ≤ r1.2.2.1)) (cond (decide (r1.2.2.1 < lLen x2)) (some (r1.1, r1.2.1, (getL x2 r1.2.2.1 (0 : Int)), ())) none) none
def spec_l30Rd_one.tab (m : Nat) : Nat → spec_l30Rd_one.Tab
  | 0 => (())
  | k + 1 => (())
def spec_l30Rd_one (m : Nat) (x : Den [.list (.int .u8), .int .i64, .list (.int .i64)]) : Option spec_l30Rd_one.R := spec_l30Rd_one.start m (spec_l30Rd_one.tab m m) x.1 x.2.1 x.2.2.1
def spec_l30Rd_one.cons (m : Nat) : List (Nat × Contract) := [(13, ⟨spec_l30Rd_pick.sig, spec_l30Rd_pick m⟩)]
def spec_l30Rd_one.cuts (m : Nat) : List (CutF (Den spec_l30Rd_one.sig.us)) := []
theorem spec_l30Rd_one.eq (m : Nat) (x : Den spec_l30Rd_one.sig.ts) : spec_l30Rd_one m x = startF ⟨lookΓ Γl, lookC (spec_l30Rd_one.cons m)⟩ Try.f26 spec_l30Rd_one.sig (spec_l30Rd_one.cuts m) m x := by kernel_rfl
theorem spec_l30Rd_one.ok (m : Nat) : Meets Try.prog 26 spec_l30Rd_one.sig (spec_l30Rd_one m) :=
  fn_is (cx_is tyOk mixed (l := spec_l30Rd_one.cons m) ⟨spec_l30Rd_pick.ok m, trivial⟩) (fn := Try.f26) rfl (by kernel_rfl) (cl := spec_l30Rd_one.cuts m) trivial (k := m) (spec_l30Rd_one.eq m)

/-! ### loop.example/stemma/spec.l30Line: function 27 -/
abbrev spec_l30Line.R : Type := Den [.list (.int .u8), .int .i64, .str]
def spec_l30Line.sig : Sig := ⟨1, ⟨[.box [.dat (.list (.int .u8)), .dat (.int .i64)]], [(0, .l (.ptr 0 0))]⟩, [.list (.int .u8), .int .i64], ⟨[.box [.dat (.list (.int .u8)), .dat (.int .i64)]], [(0, .l (.dat (.str)))]⟩, [.list (.int .u8), .int .i64, .str]⟩
abbrev spec_l30Line.Tab : Type := Unit
def spec_l30Line.start (m : Nat) (t : spec_l30Line.Tab) (x0 : List Int) (x1 : Int) : Option spec_l30Line.R :=
  lett ([str6, str7, str14, str15, ByteArray.empty, str16, str17, str18, str19] : List ByteArray) fun v1 => Option.bind (spec_l30Rd_of m (x0, x1, v1, ())) fun r2 => some (r2.1, r2.2.1, r2.2.2.1, ())
def spec_l30Line.tab (m : Nat) : Nat → spec_l30Line.Tab
  | 0 => (())
  | k + 1 => (())
def spec_l30Line (m : Nat) (x : Den [.list (.int .u8), .int .i64]) : Option spec_l30Line.R := spec_l30Line.start m (spec_l30Line.tab m m) x.1 x.2.1
def spec_l30Line.cons (m : Nat) : List (Nat × Contract) := [(10, ⟨spec_l30Rd_of.sig, spec_l30Rd_of m⟩)]
def spec_l30Line.cuts (m : Nat) : List (CutF (Den spec_l30Line.sig.us)) := []
theorem spec_l30Line.eq (m : Nat) (x : Den spec_l30Line.sig.ts) : spec_l30Line m x = startF ⟨lookΓ Γl, lookC (spec_l30Line.cons m)⟩ Try.f27 spec_l30Line.sig (spec_l30Line.cuts m) m x := by kernel_rfl
theorem spec_l30Line.ok (m : Nat) : Meets Try.prog 27 spec_l30Line.sig (spec_l30Line m) :=
  fn_is (cx_is tyOk mixed (l := spec_l30Line.cons m) ⟨spec_l30Rd_of.ok m, trivial⟩) (fn := Try.f27) rfl (by kernel_rfl) (cl := spec_l30Line.cuts m) trivial (k := m) (spec_l30Line.eq m)

/-! ### loop.example/stemma/spec.l30Text: function 18 -/
abbrev spec_l30Text.R : Type := Den [.list (.int .u8), .int .i64, .list (.str)]
def spec_l30Text.sig : Sig := ⟨1, ⟨[.box [.dat (.list (.int .u8)), .dat (.int .i64)]], [(0, .l (.ptr 0 0))]⟩, [.list (.int .u8), .int .i64], ⟨[.box [.dat (.list (.int .u8)), .dat (.int .i64)]], [(0, .l (.dat (.list (.str))))]⟩, [.list (.int .u8), .int .i64, .list (.str)]⟩
abbrev spec_l30Text.Tab : Type := (Den [.list (.int .u8), .int .i64, .list (.str), .int .i64] → Option spec_l30Text.R) × Unit
def spec_l30Text.start (m : Nat) (t : spec_l30Text.Tab) (x0 : List Int) (x1 : Int) : Option spec_l30Text.R :=
  Option.bind (spec_l30Rd_one m (x0, x1, [(0 : Int), (1 : Int), (3 : Int), (5 : Int), (8 : Int)], ())) fun r1 => t.1 (r1.1, r1.2.1, [], r1.2.2.1, ())
def spec_l30Text.b0 (m : Nat) (t : spec_l30Text.Tab) (a0 : List Int) (a1 : Int) (a2 : List ByteArray) (a3 : Int) : Option spec_l30Text.R :=
  cond (decide (a3 > (0 : Int))) (Option.bind (spec_l30Line m (a0, a1, ())) fun r1 => cond (decide (List.length a2 + List.length ([r1.2.2.1] : List ByteArray) ≤ apCap)) (t.1 (r1.1, r1.2.1, (List.append a2 ([r1.2.2.1] : List ByteArray)), (w64 (a3 - (1 : Int))), ())) none) (some (a0, a1, a2, ()))
def spec_l30Text.tab (m : Nat) : Nat → spec_l30Text.Tab
  | 0 => (fun _ => none, ())
  | k + 1 => (fun x => spec_l30Text.b0 m (spec_l30Text.tab m k) x.1 x.2.1 x.2.2.1 x.2.2.2.1, ())
def spec_l30Text (m : Nat) (x : Den [.list (.int .u8), .int .i64]) : Option spec_l30Text.R := spec_l30Text.start m (spec_l30Text.tab m m) x.1 x.2.1
def spec_l30Text.cons (m : Nat) : List (Nat × Contract) := [(26, ⟨spec_l30Rd_one.sig, spec_l30Rd_one m⟩), (27, ⟨spec_l30Line.sig, spec_l30Line m⟩)]
def spec_l30Text.cuts (m : Nat) : List (CutF (Den spec_l30Text.sig.us)) := [⟨[false, true, false, true, true], 58, ⟨[.box [.dat (.list (.int .u8)), .dat (.int .i64)], .row true (.str)], [(0, .l (.ptr 0 0)), (3, .l (.sl 1)), (4, .l (.dat (.int .i64)))]⟩, [.list (.int .u8), .int .i64, .list (.str), .int .i64], fun k => (spec_l30Text.tab m k).1⟩]
theorem spec_l30Text.eq0 (m k : Nat) (x : Den [.list (.int .u8), .int .i64, .list (.str), .int .i64]) : (spec_l30Text.tab m (k + 1)).1 x = runF ⟨lookΓ Γl, lookC (spec_l30Text.cons m)⟩ Try.f18 spec_l30Text.sig (spec_l30Text.cuts m) k [false, true, false, true, true] ⟨[.box [.dat (.list (.int .u8)), .dat (.int .i64)], .row true (.str)], [(0, .l (.ptr 0 0)), (3, .l (.sl 1)), (4, .l (.dat (.int .i64)))]⟩ [.list (.int .u8), .int .i64, .list (.str), .int .i64] x := by kernel_rfl
theorem spec_l30Text.eq (m : Nat) (x : Den spec_l30Text.sig.ts) : spec_l30Text m x = startF ⟨lookΓ Γl, lookC (spec_l30Text.cons m)⟩ Try.f18 spec_l30Text.sig (spec_l30Text.cuts m) m x := by kernel_rfl
theorem spec_l30Text.ok (m : Nat) : Meets Try.prog 18 spec_l30Text.sig (spec_l30Text m) :=
  fn_is (cx_is tyOk mixed (l := spec_l30Text.cons m) ⟨spec_l30Rd_one.ok m, spec_l30Line.ok m, trivial⟩) (fn := Try.f18) rfl (by kernel_rfl) (cl := spec_l30Text.cuts m) ⟨⟨by kernel_rfl, fun _ => rfl, fun k x => spec_l30Text.eq0 m k x⟩, trivial⟩ (k := m) (spec_l30Text.eq m)

/-! ### loop.example/stemma/spec.l30Op: function 12 -/
abbrev spec_l30Op.R : Type := Den [.list (.int .u8), .int .i64, .int .i64, .str, .str, .str, .str, .int .i64, .list (.str)]
def spec_l30Op.sig : Sig := ⟨1, ⟨[.box [.dat (.list (.int .u8)), .dat (.int .i64)]], [(0, .l (.ptr 0 0))]⟩, [.list (.int .u8), .int .i64], ⟨[.box [.dat (.list (.int .u8)), .dat (.int .i64)]], [(0, .agg [.dat (.int .i64), .dat (.str), .dat (.str), .dat (.str), .dat (.str), .dat (.int .i64), .dat (.list (.str))])]⟩, [.list (.int .u8), .int .i64, .int .i64, .str, .str, .str, .str, .int .i64, .list (.str)]⟩
abbrev spec_l30Op.Tab : Type := (Den [.list (.int .u8), .int .i64, .int .i64, .str, .str, .str, .str, .int .i64, .int .i64, .str, .str, .str, .str, .int .i64, .int .i64, .bool] → Option spec_l30Op.R) × (Den [.list (.int .u8), .int .i64, .int .i64, .str, .str, .str, .str, .int .i64, .int .i64, .str, .str, .str, .str, .int .i64, .int .i64, .bool] → Option spec_l30Op.R) × Unit
def spec_l30Op.start (m : Nat) (t : spec_l30Op.Tab) (x0 : List Int) (x1 : Int) : Option spec_l30Op.R :=
  Option.bind (spec_l30Branch m (x0, x1, ())) fun r1 => Option.bind (spec_l30Rd_of m (r1.1, r1.2.1, [str3, str4, str5], ())) fun r2 => Option.bind (spec_l30Rd_pick m (r2.1, r2.2.1, (12 : Int), ())) fun r3 => cond (r3.2.2.1 == (0 : Int)) (Option.bind (spec_l30Path m (r3.1, r3.2.1, ())) fun r4 => some (r4.1, r4.2.1, (2 : Int), r1.2.2.1, r2.2.2.1, r4.2.2.1, ByteArray.empty, (0 : Int), [], ())) (cond (r3.2.2.1 == (1 : Int)) (Option.bind (spec_l30Path m (r3.1, r3.2.1, ())) fun r5 => Option.bind (spec_l30Path m (r5.1, r5.2.1, ())) fun r6 => some (r6.1, r6.2.1, (3 : Int), r1.2.2.1, r2.2.2.1, r5.2.2.1, r6.2.2.1, (0 : Int), [], ())) (cond (r3.2.2.1 == (2 : Int)) (t.1 (r3.1, r3.2.1, (0 : Int), ByteArray.empty, ByteArray.empty, ByteArray.empty, ByteArray.empty, (0 : Int), (0 : Int), r1.2.2.1, r2.2.2.1, ByteArray.empty, ByteArray.empty, (0 : Int), r3.2.2.1, (r3.2.2.1 == (2 : Int)), ())) (t.1 (r3.1, r3.2.1, (0 : Int), ByteArray.empty, ByteArray.empty, ByteArray.empty, ByteArray.empty, (0 : Int), (0 : Int), r1.2.2.1, r2.2.2.1, ByteArray.empty, ByteArray.empty, (0 : Int), r3.2.2.1, (r3.2.2.1 == (3 : Int)), ()))))
def spec_l30Op.b0 (m : Nat) (t : spec_l30Op.Tab) (a0 : List Int) (a1 : Int) (a2 : Int) (a3 : ByteArray) (a4 : ByteArray) (a5 : ByteArray) (a6 : ByteArray) (a7 : Int) (a8 : Int) (a9 : ByteArray) (a10 : ByteArray) (a11 : ByteArray) (a12 : ByteArray) (a13 : Int) (a14 : Int) (a15 : Bool) : Option spec_l30Op.R :=
  cond a15 (Option.bind (spec_l30Rd_of m (a0, a1, [str1, str2, str13], ())) fun r1 => some (r1.1, r1.2.1, (4 : Int), a9, a10, a11, r1.2.2.1, a13, [], ())) (cond (a14 == (4 : Int)) (t.2.1 (a0, a1, a2, a3, a4, a5, a6, a7, a8, a9, a10, a11, a12, a13, a14, (a14 == (4 : Int)), ())) (cond (a14 == (5 : Int)) (t.2.1 (a0, a1, a2, a3, a4, a5, a6, a7, a8, a9, a10, a11, a12, a13, a14, (a14 == (5 : Int)), ())) (t.2.1 (a0, a1, a2, a3, a4, a5, a6, a7, a8, a9, a10, a11, a12, a13, a14, (a14 == (6 : Int)), ()))))
def spec_l30Op.b1 (m : Nat) (t : spec_l30Op.Tab) (a0 : List Int) (a1 : Int) (a2 : Int) (a3 : ByteArray) (a4 : ByteArray) (a5 : ByteArray) (a6 : ByteArray) (a7 : Int) (a8 : Int) (a9 : ByteArray) (a10 : ByteArray) (a11 : ByteArray) (a12 : ByteArray) (a13 : Int) (a14 : Int) (a15 : Bool) : Option spec_l30Op.R :=
  cond a15 (Option.bind (spec_l30Branch m (a0, a1, ())) fun r1 => some (r1.1, r1.2.1, (5 : Int), a9, a10, a11, r1.2.2.1, a13, [], ())) (cond (a14 == (7 : Int)) (Option.bind (spec_l30Rd_pick m (a0, a1, (10 : Int), ())) fun r2 => some (r2.1, r2.2.1, (6 : Int), a9, a10, a11, a12, r2.2.2.1, [], ())) (cond (a14 == (8 : Int)) (Option.bind (spec_l30Rd_pick m (a0, a1, (10 : Int), ())) fun r3 => some (r3.1, r3.2.1, (7 : Int), a9, a10, a11, a12, r3.2.2.1, [], ())) (Option.bind (spec_l30Path m (a0, a1, ())) fun r4 => Option.bind (spec_l30Text m (r4.1, r4.2.1, ())) fun r5 => some (r5.1, r5.2.1, (1 : Int), a9, a10, r4.2.2.1, a12, a13, r5.2.2.1, ()))))
def spec_l30Op.tab (m : Nat) : Nat → spec_l30Op.Tab
  | 0 => (fun _ => none, fun _ => none, ())
  | k + 1 => (fun x => spec_l30Op.b0 m (spec_l30Op.tab m k) x.1 x.2.1 x.2.2.1 x.2.2.2.1 x.2.2.2.2.1 x.2.2.2.2.2.1 x.2.2.2.2.2.2.1 x.2.2.2.2.2.2.2.1 x.2.2.2.2.2.2.2.2.1 x.2.2.2.2.2.2.2.2.2.1 x.2.2.2.2.2.2.2.2.2.2.1 x.2.2.2.2.2.2.2.2.2.2.2.1 x.2.2.2.2.2.2.2.2.2.2.2.2.1 x.2.2.2.2.2.2.2.2.2.2.2.2.2.1 x.2.2.2.2.2.2.2.2.2.2.2.2.2.2.1 x.2.2.2.2.2.2.2.2.2.2.2.2.2.2.2.1, fun x => spec_l30Op.b1 m (spec_l30Op.tab m k) x.1 x.2.1 x.2.2.1 x.2.2.2.1 x.2.2.2.2.1 x.2.2.2.2.2.1 x.2.2.2.2.2.2.1 x.2.2.2.2.2.2.2.1 x.2.2.2.2.2.2.2.2.1 x.2.2.2.2.2.2.2.2.2.1 x.2.2.2.2.2.2.2.2.2.2.1 x.2.2.2.2.2.2.2.2.2.2.2.1 x.2.2.2.2.2.2.2.2.2.2.2.2.1 x.2.2.2.2.2.2.2.2.2.2.2.2.2.1 x.2.2.2.2.2.2.2.2.2.2.2.2.2.2.1 x.2.2.2.2.2.2.2.2.2.2.2.2.2.2.2.1, ())
def spec_l30Op (m : Nat) (x : Den [.list (.int .u8), .int .i64]) : Option spec_l30Op.R := spec_l30Op.start m (spec_l30Op.tab m m) x.1 x.2.1
def spec_l30Op.cons (m : Nat) : List (Nat × Contract) := [(16, ⟨spec_l30Branch.sig, spec_l30Branch m⟩), (10, ⟨spec_l30Rd_of.sig, spec_l30Rd_of m⟩), (13, ⟨spec_l30Rd_pick.sig, spec_l30Rd_pick m⟩), (17, ⟨spec_l30Path.sig, spec_l30Path m⟩), (18, ⟨spec_l30Text.sig, spec_l30Text m⟩)]
def spec_l30Op.cuts (m : Nat) : List (CutF (Den spec_l30Op.sig.us)) := [⟨[true, true, true, true, true, false, true, false, true, true], 1887, ⟨[.box [.dat (.list (.int .u8)), .dat (.int .i64)], .box [.dat (.int .i64), .dat (.str), .dat (.str), .dat (.str), .dat (.str), .dat (.int .i64), .nils], .box [.dat (.int .i64), .dat (.str), .dat (.str), .dat (.str), .dat (.str), .dat (.int .i64), .nils]], [(0, .l (.ptr 0 0)), (2, .l (.ptr 1 0)), (3, .l (.ptr 2 0)), (11, .l (.dat (.int .i64))), (34, .l (.dat (.bool)))]⟩, [.list (.int .u8), .int .i64, .int .i64, .str, .str, .str, .str, .int .i64, .int .i64, .str, .str, .str, .str, .int .i64, .int .i64, .bool], fun k => (spec_l30Op.tab m k).1⟩,
  ⟨[true, true, true, true, true, true, true, false, true, false, true, true], 7551, ⟨[.box [.dat (.list (.int .u8)), .dat (.int .i64)], .box [.dat (.int .i64), .dat (.str), .dat (.str), .dat (.str), .dat (.str), .dat (.int .i64), .nils], .box [.dat (.int .i64), .dat (.str), .dat (.str), .dat (.str), .dat (.str), .dat (.int .i64), .nils]], [(0, .l (.ptr 0 0)), (2, .l (.ptr 1 0)), (3, .l (.ptr 2 0)), (11, .l (.dat (.int .i64))), (42, .l (.dat (.bool)))]⟩, [.list (.int .u8), .int .i64, .int .i64, .str, .str, .str, .str, .int .i64, .int .i64, .str, .str, .str, .str, .int .i64, .int .i64, .bool], fun k => (spec_l30Op.tab m k).2.1⟩]
theorem spec_l30Op.eq0 (m k : Nat) (x : Den [.list (.int .u8), .int .i64, .int .i64, .str, .str, .str, .str, .int .i64, .int .i64, .str, .str, .str, .str, .int .i64, .int .i64, .bool]) : (spec_l30Op.tab m (k + 1)).1 x = runF ⟨lookΓ Γl, lookC (spec_l30Op.cons m)⟩ Try.f12 spec_l30Op.sig (spec_l30Op.cuts m) k [true, true, true, true, true, false, true, false, true, true] ⟨[.box [.dat (.list (.int .u8)), .dat (.int .i64)], .box [.dat (.int .i64), .dat (.str), .dat (.str), .dat (.str), .dat (.str), .dat (.int .i64), .nils], .box [.dat (.int .i64), .dat (.str), .dat (.str), .dat (.str), .dat (.str), .dat (.int .i64), .nils]], [(0, .l (.ptr 0 0)), (2, .l (.ptr 1 0)), (3, .l (.ptr 2 0)), (11, .l (.dat (.int .i64))), (34, .l (.dat (.bool)))]⟩ [.list (.int .u8), .int .i64, .int .i64, .str, .str, .str, .str, .int .i64, .int .i64, .str, .str, .str, .str, .int .i64, .int .i64, .bool] x := by kernel_rfl
theorem spec_l30Op.eq1 (m k : Nat) (x : Den [.list (.int .u8), .int .i64, .int .i64, .str, .str, .str, .str, .int .i64, .int .i64, .str, .str, .str, .str, .int .i64, .int .i64, .bool]) : (spec_l30Op.tab m (k + 1)).2.1 x = runF ⟨lookΓ Γl, lookC (spec_l30Op.cons m)⟩ Try.f12 spec_l30Op.sig (spec_l30Op.cuts m) k [true, true, true, true, true, true, true, false, true, false, true, true] ⟨[.box [.dat (.list (.int .u8)), .dat (.int .i64)], .box [.dat (.int .i64), .dat (.str), .dat (.str), .dat (.str), .dat (.str), .dat (.int .i64), .nils], .box [.dat (.int .i64), .dat (.str), .dat (.str), .dat (.str), .dat (.str), .dat (.int .i64), .nils]], [(0, .l (.ptr 0 0)), (2, .l (.ptr 1 0)), (3, .l (.ptr 2 0)), (11, .l (.dat (.int .i64))), (42, .l (.dat (.bool)))]⟩ [.list (.int .u8), .int .i64, .int .i64, .str, .str, .str, .str, .int .i64, .int .i64, .str, .str, .str, .str, .int .i64, .int .i64, .bool] x := by kernel_rfl
theorem spec_l30Op.eq (m : Nat) (x : Den spec_l30Op.sig.ts) : spec_l30Op m x = startF ⟨lookΓ Γl, lookC (spec_l30Op.cons m)⟩ Try.f12 spec_l30Op.sig (spec_l30Op.cuts m) m x := by kernel_rfl
theorem spec_l30Op.ok (m : Nat) : Meets Try.prog 12 spec_l30Op.sig (spec_l30Op m) :=
  fn_is (cx_is tyOk mixed (l := spec_l30Op.cons m) ⟨spec_l30Branch.ok m, spec_l30Rd_of.ok m, spec_l30Rd_pick.ok m, spec_l30Path.ok m, spec_l30Text.ok m, trivial⟩) (fn := Try.f12) rfl (by kernel_rfl) (cl := spec_l30Op.cuts m) ⟨⟨by kernel_rfl, fun _ => rfl, fun k x => spec_l30Op.eq0 m k x⟩, ⟨by kernel_rfl, fun _ => rfl, fun k x => spec_l30Op.eq1 m k x⟩, trivial⟩ (k := m) (spec_l30Op.eq m)

/-! ### loop.example/stemma/spec.l1In: function 23 -/
abbrev spec_l1In.R : Type := Den [.bool]
def spec_l1In.sig : Sig := ⟨3, ⟨[], [(0, .l (.dat (.int .i64))), (1, .l (.dat (.int .i64))), (2, .l (.dat (.int .i64)))]⟩, [.int .i64, .int .i64, .int .i64], ⟨[], [(0, .l (.dat (.bool)))]⟩, [.bool]⟩
abbrev spec_l1In.Tab : Type := Unit
def spec_l1In.start (m : Nat) (t : spec_l1In.Tab) (x0 : Int) (x1 : Int) (x2 : Int) : Option spec_l1In.R :=
  cond (decide (x0 ≥ x1)) (some ((decide (x0 ≤ x2)), ())) (some (false, ()))
def spec_l1In.tab (m : Nat) : Nat → spec_l1In.Tab
  | 0 => (())
  | k + 1 => (())
def spec_l1In (m : Nat) (x : Den [.int .i64, .int .i64, .int .i64]) : Option spec_l1In.R := spec_l1In.start m (spec_l1In.tab m m) x.1 x.2.1 x.2.2.1
def spec_l1In.cons (m : Nat) : List (Nat × Contract) := []
def spec_l1In.cuts (m : Nat) : List (CutF (Den spec_l1In.sig.us)) := []
theorem spec_l1In.eq (m : Nat) (x : Den spec_l1In.sig.ts) : spec_l1In m x = startF ⟨lookΓ Γl, lookC (spec_l1In.cons m)⟩ Try.f23 spec_l1In.sig (spec_l1In.cuts m) m x := by kernel_rfl
theorem spec_l1In.ok (m : Nat) : Meets Try.prog 23 spec_l1In.sig (spec_l1In m) :=
  fn_is (cx_is tyOk mixed (l := spec_l1In.cons m) trivial) (fn := Try.f23) rfl (by kernel_rfl) (cl := spec_l1In.cuts m) trivial (k := m) (spec_l1In.eq m)

/-! ### loop.example/stemma/spec.l4Name: function 19 -/
abbrev spec_l4Name.R : Type := Den [.bool]
def spec_l4Name.sig : Sig := ⟨1, ⟨[], [(0, .l (.dat (.str)))]⟩, [.str], ⟨[], [(0, .l (.dat (.bool)))]⟩, [.bool]⟩
abbrev spec_l4Name.Tab : Type := (Den [.str, .int .i64] → Option spec_l4Name.R) × (Den [.str, .int .i64, .bool] → Option spec_l4Name.R) × Unit
def spec_l4Name.start (m : Nat) (t : spec_l4Name.Tab) (x0 : ByteArray) : Option spec_l4Name.R :=
  t.1 (x0, (0 : Int), ())
def spec_l4Name.b0 (m : Nat) (t : spec_l4Name.Tab) (a0 : ByteArray) (a1 : Int) : Option spec_l4Name.R :=
  cond (decide (a1 < (sLen a0))) (cond (decide ((0 : Int) ≤ a1)) (cond (decide (a1 < sLen a0)) (cond (decide ((byteAt a0 a1) < (97 : Int))) (cond (decide ((0 : Int) ≤ a1)) (cond (decide (a1 < sLen a0)) (cond (decide ((byteAt a0 a1) < (48 : Int))) (t.2.1 (a0, a1, true, ())) (cond (decide ((0 : Int) ≤ a1)) (cond (decide (a1 < sLen a0)) (t.2.1 (a0, a1, (decide ((byteAt a0 a1) > (57 : Int))), ())) none) none)) none) none) (cond (decide ((0 : Int) ≤ a1)) (cond (decide (a1 < sLen a0)) (cond (decide ((byteAt a0 a1) > (122 : Int))) (cond (decide ((0 : Int) ≤ a1)) (cond (decide (a1 < sLen a0)) (cond (decide ((byteAt a0 a1) < (48 : Int))) (t.2.1 (a0, a1, true, ())) (cond (decide ((0 : Int) ≤ a1)) (cond (decide (a1 < sLen a0)) (t.2.1 (a0, a1, (decide ((byteAt a0 a1) > (57 : Int))), ())) none) none)) none) none) (t.2.1 (a0, a1, false, ()))) none) none)) none) none) (Option.bind (spec_l1In m ((sLen a0), (1 : Int), (6 : Int), ())) fun r1 => some (r1.1, ()))
def spec_l4Name.b1 (m : Nat) (t : spec_l4Name.Tab) (a0 : ByteArray) (a1 : Int) (a2 : Bool) : Option spec_l4Name.R :=
  cond a2 (some (false, ())) (t.1 (a0, (w64 (a1 + (1 : Int))), ()))
def spec_l4Name.tab (m : Nat) : Nat → spec_l4Name.Tab
  | 0 => (fun _ => none, fun _ => none, ())
  | k + 1 => (fun x => spec_l4Name.b0 m (spec_l4Name.tab m k) x.1 x.2.1, fun x => spec_l4Name.b1 m (spec_l4Name.tab m k) x.1 x.2.1 x.2.2.1, ())
def spec_l4Name (m : Nat) (x : Den [.str]) : Option spec_l4Name.R := spec_l4Name.start m (spec_l4Name.tab m m) x.1
def spec_l4Name.cons (m : Nat) : List (Nat × Contract) := [(23, ⟨spec_l1In.sig, spec_l1In m⟩)]
def spec_l4Name.cuts (m : Nat) : List (CutF (Den spec_l4Name.sig.us)) := [⟨[false, true, false, true], 26, ⟨[], [(0, .l (.dat (.str))), (3, .l (.dat (.int .i64)))]⟩, [.str, .int .i64], fun k => (spec_l4Name.tab m k).1⟩,
  ⟨[true, false, false, true, false, false, true, false, true], 841, ⟨[], [(0, .l (.dat (.str))), (3, .l (.dat (.int .i64))), (31, .l (.dat (.bool)))]⟩, [.str, .int .i64, .bool], fun k => (spec_l4Name.tab m k).2.1⟩]
theorem spec_l4Name.eq0 (m k : Nat) (x : Den [.str, .int .i64]) : (spec_l4Name.tab m (k + 1)).1 x = runF ⟨lookΓ Γl, lookC (spec_l4Name.cons m)⟩ Try.f19 spec_l4Name.sig (spec_l4Name.cuts m) k [false, true, false, true] ⟨[], [(0, .l (.dat (.str))), (3, .l (.dat (.int .i64)))]⟩ [.str, .int .i64] x := by kernel_rfl
theorem spec_l4Name.eq1 (m k : Nat) (x : Den [.str, .int .i64, .bool]) : (spec_l4Name.tab m (k + 1)).2.1 x = runF ⟨lookΓ Γl, lookC (spec_l4Name.cons m)⟩ Try.f19 spec_l4Name.sig (spec_l4Name.cuts m) k [true, false, false, true, false, false, true, false, true] ⟨[], [(0, .l (.dat (.str))), (3, .l (.dat (.int .i64))), (31, .l (.dat (.bool)))]⟩ [.str, .int .i64, .bool] x := by kernel_rfl
theorem spec_l4Name.eq (m : Nat) (x : Den spec_l4Name.sig.ts) : spec_l4Name m x = startF ⟨lookΓ Γl, lookC (spec_l4Name.cons m)⟩ Try.f19 spec_l4Name.sig (spec_l4Name.cuts m) m x := by kernel_rfl
theorem spec_l4Name.ok (m : Nat) : Meets Try.prog 19 spec_l4Name.sig (spec_l4Name m) :=
  fn_is (cx_is tyOk mixed (l := spec_l4Name.cons m) ⟨spec_l1In.ok m, trivial⟩) (fn := Try.f19) rfl (by kernel_rfl) (cl := spec_l4Name.cuts m) ⟨⟨by kernel_rfl, fun _ => rfl, fun k x => spec_l4Name.eq0 m k x⟩, ⟨by kernel_rfl, fun _ => rfl, fun k x => spec_l4Name.eq1 m k x⟩, trivial⟩ (k := m) (spec_l4Name.eq m)

/-! ### loop.example/stemma/spec.l19Bare: function 20 -/
abbrev spec_l19Bare.R : Type := Den [.bool]
def spec_l19Bare.sig : Sig := ⟨5, ⟨[], [(0, .agg [.dat (.int .i64), .dat (.str), .dat (.str), .dat (.str), .dat (.str), .dat (.int .i64), .dat (.list (.str))]), (1, .l (.dat (.bool))), (2, .l (.dat (.bool))), (3, .l (.dat (.bool))), (4, .l (.dat (.bool)))]⟩, [.int .i64, .str, .str, .str, .str, .int .i64, .list (.str), .bool, .bool, .bool, .bool], ⟨[], [(0, .l (.dat (.bool)))]⟩, [.bool]⟩
abbrev spec_l19Bare.Tab : Type := (Den [.bool] → Option spec_l19Bare.R) × Unit
def spec_l19Bare.start (m : Nat) (t : spec_l19Bare.Tab) (x0 : Int) (x1 : ByteArray) (x2 : ByteArray) (x3 : ByteArray) (x4 : ByteArray) (x5 : Int) (x6 : List ByteArray) (x7 : Bool) (x8 : Bool) (x9 : Bool) (x10 : Bool) : Option spec_l19Bare.R :=
  cond x7 (cond x8 (cond x9 (cond x10 (t.1 (true, ())) (t.1 (((lLen x6) == (0 : Int)), ()))) (cond (x5 == (0 : Int)) (cond x10 (t.1 (true, ())) (t.1 (((lLen x6) == (0 : Int)), ()))) (t.1 (false, ())))) (cond (sEq x4 ByteArray.empty) (cond x9 (cond x10 (t.1 (true, ())) (t.1 (((lLen x6) == (0 : Int)), ()))) (cond (x5 == (0 : Int)) (cond x10 (t.1 (true, ())) (t.1 (((lLen x6) == (0 : Int)), ()))) (t.1 (false, ())))) (t.1 (false, ())))) (cond (sEq x3 ByteArray.empty) (cond x8 (cond x9 (cond x10 (t.1 (true, ())) (t.1 (((lLen x6) == (0 : Int)), ()))) (cond (x5 == (0 : Int)) (cond x10 (t.1 (true, ())) (t.1 (((lLen x6) == (0 : Int)), ()))) (t.1 (false, ())))) (cond (sEq x4 ByteArray.empty) (cond x9 (cond x10 (t.1 (true, ())) (t.1 (((lLen x6) == (0 : Int)), ()))) (cond (x5 == (0 : Int)) (cond x10 (t.1 (true, ())) (t.1 (((lLen x6) == (0 : Int)), ()))) (t.1 (false, ())))) (t.1 (false, ())))) (t.1 (false, ())))
def spec_l19Bare.b0 (m : Nat) (t : spec_l19Bare.Tab) (a0 : Bool) : Option spec_l19Bare.R :=
  some (a0, ())
def spec_l19Bare.tab (m : Nat) : Nat → spec_l19Bare.Tab
  | 0 => (fun _ => none, ())
  | k + 1 => (fun x => spec_l19Bare.b0 m (spec_l19Bare.tab m k) x.1, ())
def spec_l19Bare (m : Nat) (x : Den [.int .i64, .str, .str, .str, .str, .int .i64, .list (.str), .bool, .bool, .bool, .bool]) : Option spec_l19Bare.R := spec_l19Bare.start m (spec_l19Bare.tab m m) x.1 x.2.1 x.2.2.1 x.2.2.2.1 x.2.2.2.2.1 x.2.2.2.2.2.1 x.2.2.2.2.2.2.1 x.2.2.2.2.2.2.2.1 x.2.2.2.2.2.2.2.2.1 x.2.2.2.2.2.2.2.2.2.1 x.2.2.2.2.2.2.2.2.2.2.1
def spec_l19Bare.cons (m : Nat) : List (Nat × Contract) := []
def spec_l19Bare.cuts (m : Nat) : List (CutF (Den spec_l19Bare.sig.us)) := [⟨[true, true], 7, ⟨[], [(10, .l (.dat (.bool)))]⟩, [.bool], fun k => (spec_l19Bare.tab m k).1⟩]
theorem spec_l19Bare.eq0 (m k : Nat) (x : Den [.bool]) : (spec_l19Bare.tab m (k + 1)).1 x = runF ⟨lookΓ Γl, lookC (spec_l19Bare.cons m)⟩ Try.f20 spec_l19Bare.sig (spec_l19Bare.cuts m) k [true, true] ⟨[], [(10, .l (.dat (.bool)))]⟩ [.bool] x := by kernel_rfl
theorem spec_l19Bare.eq (m : Nat) (x : Den spec_l19Bare.sig.ts) : spec_l19Bare m x = startF ⟨lookΓ Γl, lookC (spec_l19Bare.cons m)⟩ Try.f20 spec_l19Bare.sig (spec_l19Bare.cuts m) m x := by kernel_rfl
theorem spec_l19Bare.ok (m : Nat) : Meets Try.prog 20 spec_l19Bare.sig (spec_l19Bare m) :=
  fn_is (cx_is tyOk mixed (l := spec_l19Bare.cons m) trivial) (fn := Try.f20) rfl (by kernel_rfl) (cl := spec_l19Bare.cuts m) ⟨⟨by kernel_rfl, fun _ => rfl, fun k x => spec_l19Bare.eq0 m k x⟩, trivial⟩ (k := m) (spec_l19Bare.eq m)

/-! ### loop.example/stemma/spec.l1Cut: function 28 -/
abbrev spec_l1Cut.R : Type := Den [.list (.str)]
def spec_l1Cut.sig : Sig := ⟨3, ⟨[], [(0, .l (.dat (.str))), (1, .l (.dat (.int .u8))), (2, .l (.dat (.int .i64)))]⟩, [.str, .int .u8, .int .i64], ⟨[], [(0, .l (.dat (.list (.str))))]⟩, [.list (.str)]⟩
abbrev spec_l1Cut.Tab : Type := (Den [.list (.str), .str, .int .u8, .int .i64, .int .i64, .int .i64] → Option spec_l1Cut.R) × Unit
def spec_l1Cut.start (m : Nat) (t : spec_l1Cut.Tab) (x0 : ByteArray) (x1 : Int) (x2 : Int) : Option spec_l1Cut.R :=
  t.1 ([], x0, x1, x2, (0 : Int), (0 : Int), ())
def spec_l1Cut.b0 (m : Nat) (t : spec_l1Cut.Tab) (a0 : List ByteArray) (a1 : ByteArray) (a2 : Int) (a3 : Int) (a4 : Int) (a5 : Int) : Option spec_l1Cut.R :=
  cond (decide (a5 < (sLen a1))) (cond (decide ((lLen a0) < a3)) (cond (decide ((0 : Int) ≤ a5)) (cond (decide (a5 < sLen a1)) (cond ((byteAt a1 a5) == a2) (cond (decide ((0 : Int) ≤ a5)) (cond (decide (a5 ≤ (ByteArray.size a1 : Int))) (cond (decide ((0 : Int) ≤ a4)) (cond (decide (a4 ≤ a5)) (cond (decide (List.length a0 + List.length ([(cutS a1 (Int.toNat a4) (Int.toNat a5))] : List ByteArray) ≤ apCap)) (lett ((List.append a0 ([(cutS a1 (Int.toNat a4) (Int.toNat a5))] : List ByteArray)) : List ByteArray) fun v1 => t.1 (v1, a1, a2, a3, (w64 (a5 + (1 : Int))), (w64 (a5 + (1 : Int))), ())) none) none) none) none) none) (t.1 (a0, a1, a2, a3, a4, (w64 (a5 + (1 : Int))), ()))) none) none) (cond (decide ((0 : Int) ≤ a4)) (cond (decide (a4 ≤ (ByteArray.size a1 : Int))) (lett ((cutS a1 (Int.toNat a4) (ByteArray.size a1)) : ByteArray) fun v2 => cond (decide (List.length a0 + List.length ([v2] : List ByteArray) ≤ apCap)) (some ((List.append a0 ([v2] : List ByteArray)), ())) none) none) none)) (cond (decide ((0 : Int) ≤ a4)) (cond (decide (a4 ≤ (ByteArray.size a1 : Int))) (lett ((cutS a1 (Int.toNat a4) (ByteArray.size a1)) : ByteArray) fun v3 => cond (decide (List.length a0 + List.length ([v3] : List ByteArray) ≤ apCap)) (some ((List.append a0 ([v3] : List ByteArray)), ())) none) none) none)
def spec_l1Cut.tab (m : Nat) : Nat → spec_l1Cut.Tab
  | 0 => (fun _ => none, ())
  | k + 1 => (fun x => spec_l1Cut.b0 m (spec_l1Cut.tab m k) x.1 x.2.1 x.2.2.1 x.2.2.2.1 x.2.2.2.2.1 x.2.2.2.2.2.1, ())
def spec_l1Cut (m : Nat) (x : Den [.str, .int .u8, .int .i64]) : Option spec_l1Cut.R := spec_l1Cut.start m (spec_l1Cut.tab m m) x.1 x.2.1 x.2.2.1
def spec_l1Cut.cons (m : Nat) : List (Nat × Contract) := []
def spec_l1Cut.cuts (m : Nat) : List (CutF (Den spec_l1Cut.sig.us)) := [⟨[false, true, false, true, true, true], 122, ⟨[.row true (.str)], [(0, .l (.dat (.str))), (1, .l (.dat (.int .u8))), (2, .l (.dat (.int .i64))), (7, .l (.sl 0)), (8, .l (.dat (.int .i64))), (9, .l (.dat (.int .i64)))]⟩, [.list (.str), .str, .int .u8, .int .i64, .int .i64, .int .i64], fun k => (spec_l1Cut.tab m k).1⟩]
theorem spec_l1Cut.eq0 (m k : Nat) (x : Den [.list (.str), .str, .int .u8, .int .i64, .int .i64, .int .i64]) : (spec_l1Cut.tab m (k + 1)).1 x = runF ⟨lookΓ Γl, lookC (spec_l1Cut.cons m)⟩ Try.f28 spec_l1Cut.sig (spec_l1Cut.cuts m) k [false, true, false, true, true, true] ⟨[.row true (.str)], [(0, .l (.dat (.str))), (1, .l (.dat (.int .u8))), (2, .l (.dat (.int .i64))), (7, .l (.sl 0)), (8, .l (.dat (.int .i64))), (9, .l (.dat (.int .i64)))]⟩ [.list (.str), .str, .int .u8, .int .i64, .int .i64, .int .i64] x := by kernel_rfl
theorem spec_l1Cut.eq (m : Nat) (x : Den spec_l1Cut.sig.ts) : spec_l1Cut m x = startF ⟨lookΓ Γl, lookC (spec_l1Cut.cons m)⟩ Try.f28 spec_l1Cut.sig (spec_l1Cut.cuts m) m x := by kernel_rfl
theorem spec_l1Cut.ok (m : Nat) : Meets Try.prog 28 spec_l1Cut.sig (spec_l1Cut m) :=
  fn_is (cx_is tyOk mixed (l := spec_l1Cut.cons m) trivial) (fn := Try.f28) rfl (by kernel_rfl) (cl := spec_l1Cut.cuts m) ⟨⟨by kernel_rfl, fun _ => rfl, fun k x => spec_l1Cut.eq0 m k x⟩, trivial⟩ (k := m) (spec_l1Cut.eq m)

/-! ### loop.example/stemma/spec.l4Path: function 21 -/
abbrev spec_l4Path.R : Type := Den [.bool]
def spec_l4Path.sig : Sig := ⟨1, ⟨[], [(0, .l (.dat (.str)))]⟩, [.str], ⟨[], [(0, .l (.dat (.bool)))]⟩, [.bool]⟩
abbrev spec_l4Path.Tab : Type := (Den [.list (.str), .int .i64] → Option spec_l4Path.R) × Unit
def spec_l4Path.start (m : Nat) (t : spec_l4Path.Tab) (x0 : ByteArray) : Option spec_l4Path.R :=
  Option.bind (spec_l1Cut m (x0, (47 : Int), (3 : Int), ())) fun r1 => t.1 (r1.1, (0 : Int), ())
def spec_l4Path.b0 (m : Nat) (t : spec_l4Path.Tab) (a0 : List ByteArray) (a1 : Int) : Option spec_l4Path.R :=
  cond (decide (a1 < (lLen a0))) (cond (decide ((0 : Int) ≤ a1)) (cond (decide (a1 < lLen a0)) (Option.bind (spec_l4Name m ((getL a0 a1 ByteArray.empty), ())) fun r1 => cond (!r1.1) (some (false, ())) (t.1 (a0, (w64 (a1 + (1 : Int))), ()))) none) none) (some ((decide ((lLen a0) ≤ (3 : Int))), ()))
def spec_l4Path.tab (m : Nat) : Nat → spec_l4Path.Tab
  | 0 => (fun _ => none, ())
  | k + 1 => (fun x => spec_l4Path.b0 m (spec_l4Path.tab m k) x.1 x.2.1, ())
def spec_l4Path (m : Nat) (x : Den [.str]) : Option spec_l4Path.R := spec_l4Path.start m (spec_l4Path.tab m m) x.1
def spec_l4Path.cons (m : Nat) : List (Nat × Contract) := [(28, ⟨spec_l1Cut.sig, spec_l1Cut m⟩), (19, ⟨spec_l4Name.sig, spec_l4Name m⟩)]
def spec_l4Path.cuts (m : Nat) : List (CutF (Den spec_l4Path.sig.us)) := [⟨[false, true, false, true, true], 58, ⟨[], [(3, .l (.dat (.list (.str)))), (4, .l (.dat (.int .i64)))]⟩, [.list (.str), .int .i64], fun k => (spec_l4Path.tab m k).1⟩]
theorem spec_l4Path.eq0 (m k : Nat) (x : Den [.list (.str), .int .i64]) : (spec_l4Path.tab m (k + 1)).1 x = runF ⟨lookΓ Γl, lookC (spec_l4Path.cons m)⟩ Try.f21 spec_l4Path.sig (spec_l4Path.cuts m) k [false, true, false, true, true] ⟨[], [(3, .l (.dat (.list (.str)))), (4, .l (.dat (.int .i64)))]⟩ [.list (.str), .int .i64] x := by kernel_rfl
theorem spec_l4Path.eq (m : Nat) (x : Den spec_l4Path.sig.ts) : spec_l4Path m x = startF ⟨lookΓ Γl, lookC (spec_l4Path.cons m)⟩ Try.f21 spec_l4Path.sig (spec_l4Path.cuts m) m x := by kernel_rfl
theorem spec_l4Path.ok (m : Nat) : Meets Try.prog 21 spec_l4Path.sig (spec_l4Path m) :=
  fn_is (cx_is tyOk mixed (l := spec_l4Path.cons m) ⟨spec_l1Cut.ok m, spec_l4Name.ok m, trivial⟩) (fn := Try.f21) rfl (by kernel_rfl) (cl := spec_l4Path.cuts m) ⟨⟨by kernel_rfl, fun _ => rfl, fun k x => spec_l4Path.eq0 m k x⟩, trivial⟩ (k := m) (spec_l4Path.eq m)

/-! ### loop.example/stemma/spec.l1Line: function 30 -/
abbrev spec_l1Line.R : Type := Den [.bool]
def spec_l1Line.sig : Sig := ⟨1, ⟨[], [(0, .l (.dat (.str)))]⟩, [.str], ⟨[], [(0, .l (.dat (.bool)))]⟩, [.bool]⟩
abbrev spec_l1Line.Tab : Type := (Den [.str, .int .i64] → Option spec_l1Line.R) × Unit
def spec_l1Line.start (m : Nat) (t : spec_l1Line.Tab) (x0 : ByteArray) : Option spec_l1Line.R :=
  t.1 (x0, (0 : Int), ())
def spec_l1Line.b0 (m : Nat) (t : spec_l1Line.Tab) (a0 : ByteArray) (a1 : Int) : Option spec_l1Line.R :=
  cond (decide (a1 < (sLen a0))) (cond (decide ((0 : Int) ≤ a1)) (cond (decide (a1 < sLen a0)) (cond (decide ((byteAt a0 a1) < (32 : Int))) (some (false, ())) (cond (decide ((0 : Int) ≤ a1)) (cond (decide (a1 < sLen a0)) (cond (decide ((byteAt a0 a1) > (126 : Int))) (some (false, ())) (t.1 (a0, (w64 (a1 + (1 : Int))), ()))) none) none)) none) none) (some ((decide ((sLen a0) ≤ (12 : Int))), ()))
def spec_l1Line.tab (m : Nat) : Nat → spec_l1Line.Tab
  | 0 => (fun _ => none, ())
  | k + 1 => (fun x => spec_l1Line.b0 m (spec_l1Line.tab m k) x.1 x.2.1, ())
def spec_l1Line (m : Nat) (x : Den [.str]) : Option spec_l1Line.R := spec_l1Line.start m (spec_l1Line.tab m m) x.1
def spec_l1Line.cons (m : Nat) : List (Nat × Contract) := []
def spec_l1Line.cuts (m : Nat) : List (CutF (Den spec_l1Line.sig.us)) := [⟨[false, true, false, true], 26, ⟨[], [(0, .l (.dat (.str))), (3, .l (.dat (.int .i64)))]⟩, [.str, .int .i64], fun k => (spec_l1Line.tab m k).1⟩]
theorem spec_l1Line.eq0 (m k : Nat) (x : Den [.str, .int .i64]) : (spec_l1Line.tab m (k + 1)).1 x = runF ⟨lookΓ Γl, lookC (spec_l1Line.cons m)⟩ Try.f30 spec_l1Line.sig (spec_l1Line.cuts m) k [false, true, false, true] ⟨[], [(0, .l (.dat (.str))), (3, .l (.dat (.int .i64)))]⟩ [.str, .int .i64] x := by kernel_rfl
theorem spec_l1Line.eq (m : Nat) (x : Den spec_l1Line.sig.ts) : spec_l1Line m x = startF ⟨lookΓ Γl, lookC (spec_l1Line.cons m)⟩ Try.f30 spec_l1Line.sig (spec_l1Line.cuts m) m x := by kernel_rfl
theorem spec_l1Line.ok (m : Nat) : Meets Try.prog 30 spec_l1Line.sig (spec_l1Line m) :=
  fn_is (cx_is tyOk mixed (l := spec_l1Line.cons m) trivial) (fn := Try.f30) rfl (by kernel_rfl) (cl := spec_l1Line.cuts m) ⟨⟨by kernel_rfl, fun _ => rfl, fun k x => spec_l1Line.eq0 m k x⟩, trivial⟩ (k := m) (spec_l1Line.eq m)

/-! ### loop.example/stemma/spec.l1Ok: function 29 -/
abbrev spec_l1Ok.R : Type := Den [.bool]
def spec_l1Ok.sig : Sig := ⟨1, ⟨[], [(0, .l (.dat (.list (.str))))]⟩, [.list (.str)], ⟨[], [(0, .l (.dat (.bool)))]⟩, [.bool]⟩
abbrev spec_l1Ok.Tab : Type := (Den [.list (.str), .int .i64] → Option spec_l1Ok.R) × Unit
def spec_l1Ok.start (m : Nat) (t : spec_l1Ok.Tab) (x0 : List ByteArray) : Option spec_l1Ok.R :=
  t.1 (x0, (0 : Int), ())
def spec_l1Ok.b0 (m : Nat) (t : spec_l1Ok.Tab) (a0 : List ByteArray) (a1 : Int) : Option spec_l1Ok.R :=
  cond (decide (a1 < (lLen a0))) (cond (decide ((0 : Int) ≤ a1)) (cond (decide (a1 < lLen a0)) (Option.bind (spec_l1Line m ((getL a0 a1 ByteArray.empty), ())) fun r1 => cond (!r1.1) (some (false, ())) (t.1 (a0, (w64 (a1 + (1 : Int))), ()))) none) none) (some ((decide ((lLen a0) ≤ (10 : Int))), ()))
def spec_l1Ok.tab (m : Nat) : Nat → spec_l1Ok.Tab
  | 0 => (fun _ => none, ())
  | k + 1 => (fun x => spec_l1Ok.b0 m (spec_l1Ok.tab m k) x.1 x.2.1, ())
def spec_l1Ok (m : Nat) (x : Den [.list (.str)]) : Option spec_l1Ok.R := spec_l1Ok.start m (spec_l1Ok.tab m m) x.1
def spec_l1Ok.cons (m : Nat) : List (Nat × Contract) := [(30, ⟨spec_l1Line.sig, spec_l1Line m⟩)]
def spec_l1Ok.cuts (m : Nat) : List (CutF (Den spec_l1Ok.sig.us)) := [⟨[false, true, false, true], 26, ⟨[], [(0, .l (.dat (.list (.str)))), (3, .l (.dat (.int .i64)))]⟩, [.list (.str), .int .i64], fun k => (spec_l1Ok.tab m k).1⟩]
theorem spec_l1Ok.eq0 (m k : Nat) (x : Den [.list (.str), .int .i64]) : (spec_l1Ok.tab m (k + 1)).1 x = runF ⟨lookΓ Γl, lookC (spec_l1Ok.cons m)⟩ Try.f29 spec_l1Ok.sig (spec_l1Ok.cuts m) k [false, true, false, true] ⟨[], [(0, .l (.dat (.list (.str)))), (3, .l (.dat (.int .i64)))]⟩ [.list (.str), .int .i64] x := by kernel_rfl
theorem spec_l1Ok.eq (m : Nat) (x : Den spec_l1Ok.sig.ts) : spec_l1Ok m x = startF ⟨lookΓ Γl, lookC (spec_l1Ok.cons m)⟩ Try.f29 spec_l1Ok.sig (spec_l1Ok.cuts m) m x := by kernel_rfl
theorem spec_l1Ok.ok (m : Nat) : Meets Try.prog 29 spec_l1Ok.sig (spec_l1Ok m) :=
  fn_is (cx_is tyOk mixed (l := spec_l1Ok.cons m) ⟨spec_l1Line.ok m, trivial⟩) (fn := Try.f29) rfl (by kernel_rfl) (cl := spec_l1Ok.cuts m) ⟨⟨by kernel_rfl, fun _ => rfl, fun k x => spec_l1Ok.eq0 m k x⟩, trivial⟩ (k := m) (spec_l1Ok.eq m)

/-! ### loop.example/stemma/spec.l19Lines: function 22 -/
abbrev spec_l19Lines.R : Type := Den [.bool]
def spec_l19Lines.sig : Sig := ⟨1, ⟨[], [(0, .l (.dat (.list (.str))))]⟩, [.list (.str)], ⟨[], [(0, .l (.dat (.bool)))]⟩, [.bool]⟩
abbrev spec_l19Lines.Tab : Type := (Den [.list (.str), .int .i64] → Option spec_l19Lines.R) × (Den [.list (.str), .int .i64, .int .i64] → Option spec_l19Lines.R) × Unit
def spec_l19Lines.start (m : Nat) (t : spec_l19Lines.Tab) (x0 : List ByteArray) : Option spec_l19Lines.R :=
  t.1 (x0, (0 : Int), ())
def spec_l19Lines.b0 (m : Nat) (t : spec_l19Lines.Tab) (a0 : List ByteArray) (a1 : Int) : Option spec_l19Lines.R :=
  cond (decide (a1 < (lLen a0))) (t.2.1 (a0, a1, (0 : Int), ())) (Option.bind (spec_l1Ok m (a0, ())) fun r1 => some (r1.1, ()))
def spec_l19Lines.b1 (m : Nat) (t : spec_l19Lines.Tab) (a0 : List ByteArray) (a1 : Int) (a2 : Int) : Option spec_l19Lines.R :=
  cond (decide ((0 : Int) ≤ a1)) (cond (decide (a1 < lLen a0)) (lett ((decide (a2 < (sLen (getL a0 a1 ByteArray.empty)))) : Bool) fun v1 => cond v1 (cond (decide ((0 : Int) ≤ a1)) (cond (decide (a1 < lLen a0)) (cond (decide ((0 : Int) ≤ a2)) (cond (decide (a2 < sLen (getL a0 a1 ByteArray.empty))) (lett (((byteAt (getL a0 a1 ByteArray.empty) a2) == (124 : Int)) : Bool) fun v2 => cond v2 (some (false, ())) (t.2.1 (a0, a1, (w64 (a2 + (1 : Int))), ()))) none) none) none) none) (t.1 (a0, (w64 (a1 + (1 : Int))), ()))) none) none
def spec_l19Lines.tab (m : Nat) : Nat → spec_l19Lines.Tab
  | 0 => (fun _ => none, fun _ => none, ())
  | k + 1 => (fun x => spec_l19Lines.b0 m (spec_l19Lines.tab m k) x.1 x.2.1, fun x => spec_l19Lines.b1 m (spec_l19Lines.tab m k) x.1 x.2.1 x.2.2.1, ())
def spec_l19Lines (m : Nat) (x : Den [.list (.str)]) : Option spec_l19Lines.R := spec_l19Lines.start m (spec_l19Lines.tab m m) x.1
def spec_l19Lines.cons (m : Nat) : List (Nat × Contract) := [(29, ⟨spec_l1Ok.sig, spec_l1Ok m⟩)]
def spec_l19Lines.cuts (m : Nat) : List (CutF (Den spec_l19Lines.sig.us)) := [⟨[false, true, false, true], 26, ⟨[], [(0, .l (.dat (.list (.str)))), (3, .l (.dat (.int .i64)))]⟩, [.list (.str), .int .i64], fun k => (spec_l19Lines.tab m k).1⟩,
  ⟨[false, true, false, false, true, false, false, true, false, true], 1682, ⟨[], [(0, .l (.dat (.list (.str)))), (3, .l (.dat (.int .i64))), (4, .l (.dat (.int .i64)))]⟩, [.list (.str), .int .i64, .int .i64], fun k => (spec_l19Lines.tab m k).2.1⟩]
theorem spec_l19Lines.eq0 (m k : Nat) (x : Den [.list (.str), .int .i64]) : (spec_l19Lines.tab m (k + 1)).1 x = runF ⟨lookΓ Γl, lookC (spec_l19Lines.cons m)⟩ Try.f22 spec_l19Lines.sig (spec_l19Lines.cuts m) k [false, true, false, true] ⟨[], [(0, .l (.dat (.list (.str)))), (3, .l (.dat (.int .i64)))]⟩ [.list (.str), .int .i64] x := by kernel_rfl
theorem spec_l19Lines.eq1 (m k : Nat) (x : Den [.list (.str), .int .i64, .int .i64]) : (spec_l19Lines.tab m (k + 1)).2.1 x = runF ⟨lookΓ Γl, lookC (spec_l19Lines.cons m)⟩ Try.f22 spec_l19Lines.sig (spec_l19Lines.cuts m) k [false, true, false, false, true, false, false, true, false, true] ⟨[], [(0, .l (.dat (.list (.str)))), (3, .l (.dat (.int .i64))), (4, .l (.dat (.int .i64)))]⟩ [.list (.str), .int .i64, .int .i64] x := by kernel_rfl
theorem spec_l19Lines.eq (m : Nat) (x : Den spec_l19Lines.sig.ts) : spec_l19Lines m x = startF ⟨lookΓ Γl, lookC (spec_l19Lines.cons m)⟩ Try.f22 spec_l19Lines.sig (spec_l19Lines.cuts m) m x := by kernel_rfl
theorem spec_l19Lines.ok (m : Nat) : Meets Try.prog 22 spec_l19Lines.sig (spec_l19Lines m) :=
  fn_is (cx_is tyOk mixed (l := spec_l19Lines.cons m) ⟨spec_l1Ok.ok m, trivial⟩) (fn := Try.f22) rfl (by kernel_rfl) (cl := spec_l19Lines.cuts m) ⟨⟨by kernel_rfl, fun _ => rfl, fun k x => spec_l19Lines.eq0 m k x⟩, ⟨by kernel_rfl, fun _ => rfl, fun k x => spec_l19Lines.eq1 m k x⟩, trivial⟩ (k := m) (spec_l19Lines.eq m)

/-! ### loop.example/stemma/spec.l19Ok: function 14 -/
abbrev spec_l19Ok.R : Type := Den [.bool]
def spec_l19Ok.sig : Sig := ⟨1, ⟨[], [(0, .agg [.dat (.int .i64), .dat (.str), .dat (.str), .dat (.str), .dat (.str), .dat (.int .i64), .dat (.list (.str))])]⟩, [.int .i64, .str, .str, .str, .str, .int .i64, .list (.str)], ⟨[], [(0, .l (.dat (.bool)))]⟩, [.bool]⟩
abbrev spec_l19Ok.Tab : Type := (Den [.int .i64, .str, .str, .str, .str, .int .i64, .list (.str), .int .i64, .bool] → Option spec_l19Ok.R) × (Den [.int .i64, .str, .str, .str, .str, .int .i64, .list (.str), .bool] → Option spec_l19Ok.R) × Unit
def spec_l19Ok.start (m : Nat) (t : spec_l19Ok.Tab) (x0 : Int) (x1 : ByteArray) (x2 : ByteArray) (x3 : ByteArray) (x4 : ByteArray) (x5 : Int) (x6 : List ByteArray) : Option spec_l19Ok.R :=
  Option.bind (spec_l4Name m (x1, ())) fun r1 => cond (!r1.1) (some (false, ())) (Option.bind (spec_l4Name m (x2, ())) fun r2 => cond (!r2.1) (some (false, ())) (cond (x0 == (1 : Int)) (Option.bind (spec_l19Bare m (x0, x1, x2, x3, x4, x5, x6, true, false, false, true, ())) fun r3 => cond r3.1 (Option.bind (spec_l4Path m (x3, ())) fun r4 => cond r4.1 (Option.bind (spec_l19Lines m (x6, ())) fun r5 => some (r5.1, ())) (some (false, ()))) (some (false, ()))) (cond (x0 == (2 : Int)) (Option.bind (spec_l19Bare m (x0, x1, x2, x3, x4, x5, x6, true, false, false, false, ())) fun r6 => cond r6.1 (Option.bind (spec_l4Path m (x3, ())) fun r7 => some (r7.1, ())) (some (false, ()))) (cond (x0 == (3 : Int)) (Option.bind (spec_l19Bare m (x0, x1, x2, x3, x4, x5, x6, true, true, false, false, ())) fun r8 => cond r8.1 (Option.bind (spec_l4Path m (x3, ())) fun r9 => cond r9.1 (Option.bind (spec_l4Path m (x4, ())) fun r10 => some (r10.1, ())) (some (false, ()))) (some (false, ()))) (cond (x0 == (4 : Int)) (t.1 (x0, x1, x2, x3, x4, x5, x6, x0, (x0 == (4 : Int)), ())) (t.1 (x0, x1, x2, x3, x4, x5, x6, x0, (x0 == (5 : Int)), ())))))))
def spec_l19Ok.b0 (m : Nat) (t : spec_l19Ok.Tab) (a0 : Int) (a1 : ByteArray) (a2 : ByteArray) (a3 : ByteArray) (a4 : ByteArray) (a5 : Int) (a6 : List ByteArray) (a7 : Int) (a8 : Bool) : Option spec_l19Ok.R :=
  cond a8 (Option.bind (spec_l19Bare m (a0, a1, a2, a3, a4, a5, a6, false, true, false, false, ())) fun r1 => cond r1.1 (Option.bind (spec_l4Name m (a4, ())) fun r2 => some (r2.1, ())) (some (false, ()))) (cond (a7 == (6 : Int)) (t.2.1 (a0, a1, a2, a3, a4, a5, a6, (a7 == (6 : Int)), ())) (t.2.1 (a0, a1, a2, a3, a4, a5, a6, (a7 == (7 : Int)), ())))
def spec_l19Ok.b1 (m : Nat) (t : spec_l19Ok.Tab) (a0 : Int) (a1 : ByteArray) (a2 : ByteArray) (a3 : ByteArray) (a4 : ByteArray) (a5 : Int) (a6 : List ByteArray) (a7 : Bool) : Option spec_l19Ok.R :=
  cond a7 (Option.bind (spec_l19Bare m (a0, a1, a2, a3, a4, a5, a6, false, false, true, false, ())) fun r1 => cond r1.1 (Option.bind (spec_l1In m (a5, (0 : Int), (15 : Int), ())) fun r2 => some (r2.1, ())) (some (false, ()))) (some (false, ()))
def spec_l19Ok.tab (m : Nat) : Nat → spec_l19Ok.Tab
  | 0 => (fun _ => none, fun _ => none, ())
  | k + 1 => (fun x => spec_l19Ok.b0 m (spec_l19Ok.tab m k) x.1 x.2.1 x.2.2.1 x.2.2.2.1 x.2.2.2.2.1 x.2.2.2.2.2.1 x.2.2.2.2.2.2.1 x.2.2.2.2.2.2.2.1 x.2.2.2.2.2.2.2.2.1, fun x => spec_l19Ok.b1 m (spec_l19Ok.tab m k) x.1 x.2.1 x.2.2.1 x.2.2.2.1 x.2.2.2.2.1 x.2.2.2.2.2.1 x.2.2.2.2.2.2.1 x.2.2.2.2.2.2.2.1, ())
def spec_l19Ok (m : Nat) (x : Den [.int .i64, .str, .str, .str, .str, .int .i64, .list (.str)]) : Option spec_l19Ok.R := spec_l19Ok.start m (spec_l19Ok.tab m m) x.1 x.2.1 x.2.2.1 x.2.2.2.1 x.2.2.2.2.1 x.2.2.2.2.2.1 x.2.2.2.2.2.2.1
def spec_l19Ok.cons (m : Nat) : List (Nat × Contract) := [(19, ⟨spec_l4Name.sig, spec_l4Name m⟩), (20, ⟨spec_l19Bare.sig, spec_l19Bare m⟩), (21, ⟨spec_l4Path.sig, spec_l4Path m⟩), (22, ⟨spec_l19Lines.sig, spec_l19Lines m⟩), (23, ⟨spec_l1In.sig, spec_l1In m⟩)]
def spec_l19Ok.cuts (m : Nat) : List (CutF (Den spec_l19Ok.sig.us)) := [⟨[true, true, true, true, true, true, true, false, true, false, true, true], 7551, ⟨[.box [.dat (.int .i64), .dat (.str), .dat (.str), .dat (.str), .dat (.str), .dat (.int .i64), .dat (.list (.str))]], [(1, .l (.ptr 0 0)), (14, .l (.dat (.int .i64))), (52, .l (.dat (.bool)))]⟩, [.int .i64, .str, .str, .str, .str, .int .i64, .list (.str), .int .i64, .bool], fun k => (spec_l19Ok.tab m k).1⟩,
  ⟨[true, true, true, true, true, true, true, true, true, false, true, false, true, true], 30207, ⟨[.box [.dat (.int .i64), .dat (.str), .dat (.str), .dat (.str), .dat (.str), .dat (.int .i64), .dat (.list (.str))]], [(1, .l (.ptr 0 0)), (62, .l (.dat (.bool)))]⟩, [.int .i64, .str, .str, .str, .str, .int .i64, .list (.str), .bool], fun k => (spec_l19Ok.tab m k).2.1⟩]
theorem spec_l19Ok.eq0 (m k : Nat) (x : Den [.int .i64, .str, .str, .str, .str, .int .i64, .list (.str), .int .i64, .bool]) : (spec_l19Ok.tab m (k + 1)).1 x = runF ⟨lookΓ Γl, lookC (spec_l19Ok.cons m)⟩ Try.f14 spec_l19Ok.sig (spec_l19Ok.cuts m) k [true, true, true, true, true, true, true, false, true, false, true, true] ⟨[.box [.dat (.int .i64), .dat (.str), .dat (.str), .dat (.str), .dat (.str), .dat (.int .i64), .dat (.list (.str))]], [(1, .l (.ptr 0 0)), (14, .l (.dat (.int .i64))), (52, .l (.dat (.bool)))]⟩ [.int .i64, .str, .str, .str, .str, .int .i64, .list (.str), .int .i64, .bool] x := by kernel_rfl
theorem spec_l19Ok.eq1 (m k : Nat) (x : Den [.int .i64, .str, .str, .str, .str, .int .i64, .list (.str), .bool]) : (spec_l19Ok.tab m (k + 1)).2.1 x = runF ⟨lookΓ Γl, lookC (spec_l19Ok.cons m)⟩ Try.f14 spec_l19Ok.sig (spec_l19Ok.cuts m) k [true, true, true, true, true, true, true, true, true, false, true, false, true, true] ⟨[.box [.dat (.int .i64), .dat (.str), .dat (.str), .dat (.str), .dat (.str), .dat (.int .i64), .dat (.list (.str))]], [(1, .l (.ptr 0 0)), (62, .l (.dat (.bool)))]⟩ [.int .i64, .str, .str, .str, .str, .int .i64, .list (.str), .bool] x := by kernel_rfl
theorem spec_l19Ok.eq (m : Nat) (x : Den spec_l19Ok.sig.ts) : spec_l19Ok m x = startF ⟨lookΓ Γl, lookC (spec_l19Ok.cons m)⟩ Try.f14 spec_l19Ok.sig (spec_l19Ok.cuts m) m x := by kernel_rfl
theorem spec_l19Ok.ok (m : Nat) : Meets Try.prog 14 spec_l19Ok.sig (spec_l19Ok m) :=
  fn_is (cx_is tyOk mixed (l := spec_l19Ok.cons m) ⟨spec_l4Name.ok m, spec_l19Bare.ok m, spec_l4Path.ok m, spec_l19Lines.ok m, spec_l1In.ok m, trivial⟩) (fn := Try.f14) rfl (by kernel_rfl) (cl := spec_l19Ok.cuts m) ⟨⟨by kernel_rfl, fun _ => rfl, fun k x => spec_l19Ok.eq0 m k x⟩, ⟨by kernel_rfl, fun _ => rfl, fun k x => spec_l19Ok.eq1 m k x⟩, trivial⟩ (k := m) (spec_l19Ok.eq m)

/-! ### loop.example/stemma/spec.l19Words: function 24 -/
abbrev spec_l19Words.R : Type := Den [.list (.str)]
def spec_l19Words.sig : Sig := ⟨0, ⟨[], []⟩, [], ⟨[], [(0, .l (.dat (.list (.str))))]⟩, [.list (.str)]⟩
abbrev spec_l19Words.Tab : Type := Unit
def spec_l19Words.start (m : Nat) (t : spec_l19Words.Tab) : Option spec_l19Words.R :=
  lett ([ByteArray.empty, str20, str21, str22, str23, str24, str25, str26] : List ByteArray) fun v1 => some (v1, ())
def spec_l19Words.tab (m : Nat) : Nat → spec_l19Words.Tab
  | 0 => (())
  | k + 1 => (())
def spec_l19Words (m : Nat) (x : Den []) : Option spec_l19Words.R := spec_l19Words.start m (spec_l19Words.tab m m)
def spec_l19Words.cons (m : Nat) : List (Nat × Contract) := []
def spec_l19Words.cuts (m : Nat) : List (CutF (Den spec_l19Words.sig.us)) := []
theorem spec_l19Words.eq (m : Nat) (x : Den spec_l19Words.sig.ts) : spec_l19Words m x = startF ⟨lookΓ Γl, lookC (spec_l19Words.cons m)⟩ Try.f24 spec_l19Words.sig (spec_l19Words.cuts m) m x := by kernel_rfl
theorem spec_l19Words.ok (m : Nat) : Meets Try.prog 24 spec_l19Words.sig (spec_l19Words m) :=
  fn_is (cx_is tyOk mixed (l := spec_l19Words.cons m) trivial) (fn := Try.f24) rfl (by kernel_rfl) (cl := spec_l19Words.cuts m) trivial (k := m) (spec_l19Words.eq m)

/-! ### loop.example/stemma/spec.l1Dec: function 25 -/
abbrev spec_l1Dec.R : Type := Den [.str]
def spec_l1Dec.sig : Sig := ⟨1, ⟨[], [(0, .l (.dat (.int .i64)))]⟩, [.int .i64], ⟨[], [(0, .l (.dat (.str)))]⟩, [.str]⟩
abbrev spec_l1Dec.Tab : Type := Unit
def spec_l1Dec.start (m : Nat) (self : Den [.int .i64] → Option spec_l1Dec.R) (t : spec_l1Dec.Tab) (x0 : Int) : Option spec_l1Dec.R :=
  lett ((decide (x0 < (-9223372036854775807 : Int))) : Bool) fun v1 => cond v1 (some (str28, ())) (cond (decide (x0 < (0 : Int))) (Option.bind (self ((wr .i64 (0 - x0)), ())) fun r2 => cond (decide (ByteArray.size str29 + ByteArray.size r2.1 ≤ cap)) (some ((ByteArray.append str29 r2.1), ())) none) (cond (decide (x0 < (10 : Int))) (lett ((strOfNums [(wr .u8 (w64 ((48 : Int) + x0)))]) : ByteArray) fun v3 => some (v3, ())) (cond ((10 : Int) == 0) none (Option.bind (self ((w64 (Int.tdiv x0 (10 : Int))), ())) fun r4 => cond ((10 : Int) == 0) none (lett ((w64 ((48 : Int) + (Int.tmod x0 (10 : Int)))) : Int) fun v5 => cond (decide (ByteArray.size r4.1 + ByteArray.size (strOfNums [(wr .u8 v5)]) ≤ cap)) (lett ((ByteArray.append r4.1 (strOfNums [(wr .u8 v5)])) : ByteArray) fun v6 => some (v6, ())) none)))))
def spec_l1Dec.tab (m : Nat) (self : Den [.int .i64] → Option spec_l1Dec.R) : Nat → spec_l1Dec.Tab
  | 0 => (())
  | k + 1 => (())
def spec_l1Dec : Nat → Den [.int .i64] → Option spec_l1Dec.R
  | 0, _ => none
  | m + 1, x => spec_l1Dec.start m (spec_l1Dec m) (spec_l1Dec.tab m (spec_l1Dec m) m) x.1
def spec_l1Dec.cons (m : Nat) : List (Nat × Contract) := [(25, ⟨spec_l1Dec.sig, spec_l1Dec m⟩)]
def spec_l1Dec.cuts (m : Nat) : List (CutF (Den spec_l1Dec.sig.us)) := []
theorem spec_l1Dec.eq (m : Nat) (x : Den spec_l1Dec.sig.ts) : spec_l1Dec (m + 1) x = startF ⟨lookΓ Γl, lookC (spec_l1Dec.cons m)⟩ Try.f25 spec_l1Dec.sig (spec_l1Dec.cuts m) m x := by kernel_rfl
theorem spec_l1Dec.ok : ∀ m, Meets Try.prog 25 spec_l1Dec.sig (spec_l1Dec m)
  | 0 => ⟨by kernel_rfl, by decide, fun x r h => nomatch h⟩
  | m + 1 => fn_is (cx_is tyOk mixed (l := spec_l1Dec.cons m) ⟨spec_l1Dec.ok m, trivial⟩) (fn := Try.f25) rfl (by kernel_rfl) (cl := spec_l1Dec.cuts m) trivial (k := m) (spec_l1Dec.eq m)

/-! ### loop.example/stemma/spec.l19Put: function 15 -/
abbrev spec_l19Put.R : Type := Den [.str]
def spec_l19Put.sig : Sig := ⟨1, ⟨[], [(0, .agg [.dat (.int .i64), .dat (.str), .dat (.str), .dat (.str), .dat (.str), .dat (.int .i64), .dat (.list (.str))])]⟩, [.int .i64, .str, .str, .str, .str, .int .i64, .list (.str)], ⟨[], [(0, .l (.dat (.str)))]⟩, [.str]⟩
abbrev spec_l19Put.Tab : Type := (Den [.int .i64, .str, .str, .str, .str, .int .i64, .list (.str), .str, .int .i64] → Option spec_l19Put.R) × (Den [.int .i64, .str, .str, .str, .str, .int .i64, .list (.str), .str, .bool] → Option spec_l19Put.R) × (Den [.str] → Option spec_l19Put.R) × Unit
def spec_l19Put.start (m : Nat) (t : spec_l19Put.Tab) (x0 : Int) (x1 : ByteArray) (x2 : ByteArray) (x3 : ByteArray) (x4 : ByteArray) (x5 : Int) (x6 : List ByteArray) : Option spec_l19Put.R :=
  Option.bind (spec_l19Words m (())) fun r1 => cond (decide ((0 : Int) ≤ x0)) (cond (decide (x0 < lLen r1.1)) (cond (decide (ByteArray.size (getL r1.1 x0 ByteArray.empty) + ByteArray.size str27 ≤ cap)) (lett ((ByteArray.append (getL r1.1 x0 ByteArray.empty) str27) : ByteArray) fun v2 => cond (decide (ByteArray.size v2 + ByteArray.size x1 ≤ cap)) (cond (decide (ByteArray.size (ByteArray.append v2 x1) + ByteArray.size str27 ≤ cap)) (lett ((ByteArray.append (ByteArray.append v2 x1) str27) : ByteArray) fun v3 => cond (decide (ByteArray.size v3 + ByteArray.size x2 ≤ cap)) (cond (x0 == (1 : Int)) (cond (decide (ByteArray.size (ByteArray.append v3 x2) + ByteArray.size str27 ≤ cap)) (lett ((ByteArray.append (ByteArray.append v3 x2) str27) : ByteArray) fun v4 => cond (decide (ByteArray.size v4 + ByteArray.size x3 ≤ cap)) (cond (decide (ByteArray.size (ByteArray.append v4 x3) + ByteArray.size str27 ≤ cap)) (lett ((ByteArray.append (ByteArray.append v4 x3) str27) : ByteArray) fun v5 => t.1 (x0, x1, x2, x3, x4, x5, x6, v5, (0 : Int), ())) none) none) none) (cond (x0 == (2 : Int)) (cond (decide (ByteArray.size (ByteArray.append v3 x2) + ByteArray.size str27 ≤ cap)) (lett ((ByteArray.append (ByteArray.append v3 x2) str27) : ByteArray) fun v6 => cond (decide (ByteArray.size v6 + ByteArray.size x3 ≤ cap)) (t.2.2.1 ((ByteArray.append v6 x3), ())) none) none) (cond (x0 == (3 : Int)) (cond (decide (ByteArray.size (ByteArray.append v3 x2) + ByteArray.size str27 ≤ cap)) (lett ((ByteArray.append (ByteArray.append v3 x2) str27) : ByteArray) fun v7 => cond (decide (ByteArray.size v7 + ByteArray.size x3 ≤ cap)) (cond (decide (ByteArray.size (ByteArray.append v7 x3) + ByteArray.size str27 ≤ cap)) (lett ((ByteArray.append (ByteArray.append v7 x3) str27) : ByteArray) fun v8 => cond (decide (ByteArray.size v8 + ByteArray.size x4 ≤ cap)) (t.2.2.1 ((ByteArray.append v8 x4), ())) none) none) none) none) (cond (x0 == (4 : Int)) (t.2.1 (x0, x1, x2, x3, x4, x5, x6, (ByteArray.append v3 x2), (x0 == (4 : Int)), ())) (t.2.1 (x0, x1, x2, x3, x4, x5, x6, (ByteArray.append v3 x2), (x0 == (5 : Int)), ())))))) none) none) none) none) none) none
def spec_l19Put.b0 (m : Nat) (t : spec_l19Put.Tab) (a0 : Int) (a1 : ByteArray) (a2 : ByteArray) (a3 : ByteArray) (a4 : ByteArray) (a5 : Int) (a6 : List ByteArray) (a7 : ByteArray) (a8 : Int) : Option spec_l19Put.R :=
  cond (decide (a8 < (lLen a6))) (cond (decide (ByteArray.size a7 + ByteArray.size str30 ≤ cap)) (cond (decide ((0 : Int) ≤ a8)) (cond (decide (a8 < lLen a6)) (cond (decide (ByteArray.size (ByteArray.append a7 str30) + ByteArray.size (getL a6 a8 ByteArray.empty) ≤ cap)) (lett ((ByteArray.append (ByteArray.append a7 str30) (getL a6 a8 ByteArray.empty)) : ByteArray) fun v1 => t.1 (a0, a1, a2, a3, a4, a5, a6, v1, (w64 (a8 + (1 : Int))), ())) none) none) none) none) (t.2.2.1 (a7, ()))
def spec_l19Put.b1 (m : Nat) (t : spec_l19Put.Tab) (a0 : Int) (a1 : ByteArray) (a2 : ByteArray) (a3 : ByteArray) (a4 : ByteArray) (a5 : Int) (a6 : List ByteArray) (a7 : ByteArray) (a8 : Bool) : Option spec_l19Put.R :=
  cond a8 (cond (decide (ByteArray.size a7 + ByteArray.size str27 ≤ cap)) (cond (decide (ByteArray.size (ByteArray.append a7 str27) + ByteArray.size a4 ≤ cap)) (lett ((ByteArray.append (ByteArray.append a7 str27) a4) : ByteArray) fun v1 => t.2.2.1 (v1, ())) none) none) (cond (decide (ByteArray.size a7 + ByteArray.size str27 ≤ cap)) (Option.bind (spec_l1Dec m (a5, ())) fun r2 => cond (decide (ByteArray.size (ByteArray.append a7 str27) + ByteArray.size r2.1 ≤ cap)) (lett ((ByteArray.append (ByteArray.append a7 str27) r2.1) : ByteArray) fun v3 => t.2.2.1 (v3, ())) none) none)
def spec_l19Put.b2 (m : Nat) (t : spec_l19Put.Tab) (a0 : ByteArray) : Option spec_l19Put.R :=
  some (a0, ())
def spec_l19Put.tab (m : Nat) : Nat → spec_l19Put.Tab
  | 0 => (fun _ => none, fun _ => none, fun _ => none, ())
  | k + 1 => (fun x => spec_l19Put.b0 m (spec_l19Put.tab m k) x.1 x.2.1 x.2.2.1 x.2.2.2.1 x.2.2.2.2.1 x.2.2.2.2.2.1 x.2.2.2.2.2.2.1 x.2.2.2.2.2.2.2.1 x.2.2.2.2.2.2.2.2.1, fun x => spec_l19Put.b1 m (spec_l19Put.tab m k) x.1 x.2.1 x.2.2.1 x.2.2.2.1 x.2.2.2.2.1 x.2.2.2.2.2.1 x.2.2.2.2.2.2.1 x.2.2.2.2.2.2.2.1 x.2.2.2.2.2.2.2.2.1, fun x => spec_l19Put.b2 m (spec_l19Put.tab m k) x.1, ())
def spec_l19Put (m : Nat) (x : Den [.int .i64, .str, .str, .str, .str, .int .i64, .list (.str)]) : Option spec_l19Put.R := spec_l19Put.start m (spec_l19Put.tab m m) x.1 x.2.1 x.2.2.1 x.2.2.2.1 x.2.2.2.2.1 x.2.2.2.2.2.1 x.2.2.2.2.2.2.1
def spec_l19Put.cons (m : Nat) : List (Nat × Contract) := [(24, ⟨spec_l19Words.sig, spec_l19Words m⟩), (25, ⟨spec_l1Dec.sig, spec_l1Dec m⟩)]
def spec_l19Put.cuts (m : Nat) : List (CutF (Den spec_l19Put.sig.us)) := [⟨[false, true, true, false, true, false, true, false, true, true], 1878, ⟨[.box [.dat (.int .i64), .dat (.str), .dat (.str), .dat (.str), .dat (.str), .dat (.int .i64), .dat (.list (.str))]], [(1, .l (.ptr 0 0)), (3, .l (.dat (.str))), (4, .l (.dat (.int .i64)))]⟩, [.int .i64, .str, .str, .str, .str, .int .i64, .list (.str), .str, .int .i64], fun k => (spec_l19Put.tab m k).1⟩,
  ⟨[true, true, true, true, true, true, true, false, true, false, true, true], 7551, ⟨[.box [.dat (.int .i64), .dat (.str), .dat (.str), .dat (.str), .dat (.str), .dat (.int .i64), .dat (.list (.str))]], [(1, .l (.ptr 0 0)), (3, .l (.dat (.str))), (67, .l (.dat (.bool)))]⟩, [.int .i64, .str, .str, .str, .str, .int .i64, .list (.str), .str, .bool], fun k => (spec_l19Put.tab m k).2.1⟩,
  ⟨[true, true, true], 15, ⟨[], [(3, .l (.dat (.str)))]⟩, [.str], fun k => (spec_l19Put.tab m k).2.2.1⟩]
theorem spec_l19Put.eq0 (m k : Nat) (x : Den [.int .i64, .str, .str, .str, .str, .int .i64, .list (.str), .str, .int .i64]) : (spec_l19Put.tab m (k + 1)).1 x = runF ⟨lookΓ Γl, lookC (spec_l19Put.cons m)⟩ Try.f15 spec_l19Put.sig (spec_l19Put.cuts m) k [false, true, true, false, true, false, true, false, true, true] ⟨[.box [.dat (.int .i64), .dat (.str), .dat (.str), .dat (.str), .dat (.str), .dat (.int .i64), .dat (.list (.str))]], [(1, .l (.ptr 0 0)), (3, .l (.dat (.str))), (4, .l (.dat (.int .i64)))]⟩ [.int .i64, .str, .str, .str, .str, .int .i64, .list (.str), .str, .int .i64] x := by kernel_rfl
theorem spec_l19Put.eq1 (m k : Nat) (x : Den [.int .i64, .str, .str, .str, .str, .int .i64, .list (.str), .str, .bool]) : (spec_l19Put.tab m (k + 1)).2.1 x = runF ⟨lookΓ Γl, lookC (spec_l19Put.cons m)⟩ Try.f15 spec_l19Put.sig (spec_l19Put.cuts m) k [true, true, true, true, true, true, true, false, true, false, true, true] ⟨[.box [.dat (.int .i64), .dat (.str), .dat (.str), .dat (.str), .dat (.str), .dat (.int .i64), .dat (.list (.str))]], [(1, .l (.ptr 0 0)), (3, .l (.dat (.str))), (67, .l (.dat (.bool)))]⟩ [.int .i64, .str, .str, .str, .str, .int .i64, .list (.str), .str, .bool] x := by kernel_rfl
theorem spec_l19Put.eq2 (m k : Nat) (x : Den [.str]) : (spec_l19Put.tab m (k + 1)).2.2.1 x = runF ⟨lookΓ Γl, lookC (spec_l19Put.cons m)⟩ Try.f15 spec_l19Put.sig (spec_l19Put.cuts m) k [true, true, true] ⟨[], [(3, .l (.dat (.str)))]⟩ [.str] x := by kernel_rfl
theorem spec_l19Put.eq (m : Nat) (x : Den spec_l19Put.sig.ts) : spec_l19Put m x = startF ⟨lookΓ Γl, lookC (spec_l19Put.cons m)⟩ Try.f15 spec_l19Put.sig (spec_l19Put.cuts m) m x := by kernel_rfl
theorem spec_l19Put.ok (m : Nat) : Meets Try.prog 15 spec_l19Put.sig (spec_l19Put m) :=
  fn_is (cx_is tyOk mixed (l := spec_l19Put.cons m) ⟨spec_l19Words.ok m, spec_l1Dec.ok m, trivial⟩) (fn := Try.f15) rfl (by kernel_rfl) (cl := spec_l19Put.cuts m) ⟨⟨by kernel_rfl, fun _ => rfl, fun k x => spec_l19Put.eq0 m k x⟩, ⟨by kernel_rfl, fun _ => rfl, fun k x => spec_l19Put.eq1 m k x⟩, ⟨by kernel_rfl, fun _ => rfl, fun k x => spec_l19Put.eq2 m k x⟩, trivial⟩ (k := m) (spec_l19Put.eq m)

/-! ### loop.example/stemma/spec.OpPut: function 11 -/
abbrev spec_OpPut.R : Type := Den [.str]
def spec_OpPut.sig : Sig := ⟨1, ⟨[], [(0, .agg [.dat (.int .i64), .dat (.str), .dat (.str), .dat (.str), .dat (.str), .dat (.int .i64), .dat (.list (.str))])]⟩, [.int .i64, .str, .str, .str, .str, .int .i64, .list (.str)], ⟨[], [(0, .l (.dat (.str)))]⟩, [.str]⟩
abbrev spec_OpPut.Tab : Type := Unit
def spec_OpPut.start (m : Nat) (t : spec_OpPut.Tab) (x0 : Int) (x1 : ByteArray) (x2 : ByteArray) (x3 : ByteArray) (x4 : ByteArray) (x5 : Int) (x6 : List ByteArray) : Option spec_OpPut.R :=
  Option.bind (spec_l19Ok m (x0, x1, x2, x3, x4, x5, x6, ())) fun r1 => cond (!r1.1) (some (ByteArray.empty, ())) (Option.bind (spec_l19Put m (x0, x1, x2, x3, x4, x5, x6, ())) fun r2 => some (r2.1, ()))
def spec_OpPut.tab (m : Nat) : Nat → spec_OpPut.Tab
  | 0 => (())
  | k + 1 => (())
def spec_OpPut (m : Nat) (x : Den [.int .i64, .str, .str, .str, .str, .int .i64, .list (.str)]) : Option spec_OpPut.R := spec_OpPut.start m (spec_OpPut.tab m m) x.1 x.2.1 x.2.2.1 x.2.2.2.1 x.2.2.2.2.1 x.2.2.2.2.2.1 x.2.2.2.2.2.2.1
def spec_OpPut.cons (m : Nat) : List (Nat × Contract) := [(14, ⟨spec_l19Ok.sig, spec_l19Ok m⟩), (15, ⟨spec_l19Put.sig, spec_l19Put m⟩)]
def spec_OpPut.cuts (m : Nat) : List (CutF (Den spec_OpPut.sig.us)) := []
theorem spec_OpPut.eq (m : Nat) (x : Den spec_OpPut.sig.ts) : spec_OpPut m x = startF ⟨lookΓ Γl, lookC (spec_OpPut.cons m)⟩ Try.f11 spec_OpPut.sig (spec_OpPut.cuts m) m x := by kernel_rfl
theorem spec_OpPut.ok (m : Nat) : Meets Try.prog 11 spec_OpPut.sig (spec_OpPut m) :=
  fn_is (cx_is tyOk mixed (l := spec_OpPut.cons m) ⟨spec_l19Ok.ok m, spec_l19Put.ok m, trivial⟩) (fn := Try.f11) rfl (by kernel_rfl) (cl := spec_OpPut.cuts m) trivial (k := m) (spec_OpPut.eq m)

/-! ### loop.example/stemma/spec.DrawCrc: function 7 -/
abbrev spec_DrawCrc.R : Type := Den [.str]
def spec_DrawCrc.sig : Sig := ⟨1, ⟨[], [(0, .l (.dat (.list (.int .u8))))]⟩, [.list (.int .u8)], ⟨[], [(0, .l (.dat (.str)))]⟩, [.str]⟩
abbrev spec_DrawCrc.Tab : Type := Unit
def spec_DrawCrc.start (m : Nat) (t : spec_DrawCrc.Tab) (x0 : List Int) : Option spec_DrawCrc.R :=
  Option.bind (spec_l30Open m (x0, ())) fun r1 => Option.bind (spec_l30Op m (r1.1, r1.2.1, ())) fun r2 => Option.bind (spec_OpPut m (r2.2.2.1, r2.2.2.2.1, r2.2.2.2.2.1, r2.2.2.2.2.2.1, r2.2.2.2.2.2.2.1, r2.2.2.2.2.2.2.2.1, r2.2.2.2.2.2.2.2.2.1, ())) fun r3 => Option.bind (spec_l30Rd_of m (r2.1, r2.2.1, [ByteArray.empty, str31, str6, r3.1], ())) fun r4 => some (r4.2.2.1, ())
def spec_DrawCrc.tab (m : Nat) : Nat → spec_DrawCrc.Tab
  | 0 => (())
  | k + 1 => (())
def spec_DrawCrc (m : Nat) (x : Den [.list (.int .u8)]) : Option spec_DrawCrc.R := spec_DrawCrc.start m (spec_DrawCrc.tab m m) x.1
def spec_DrawCrc.cons (m : Nat) : List (Nat × Contract) := [(9, ⟨spec_l30Open.sig, spec_l30Open m⟩), (12, ⟨spec_l30Op.sig, spec_l30Op m⟩), (11, ⟨spec_OpPut.sig, spec_OpPut m⟩), (10, ⟨spec_l30Rd_of.sig, spec_l30Rd_of m⟩)]
def spec_DrawCrc.cuts (m : Nat) : List (CutF (Den spec_DrawCrc.sig.us)) := []
theorem spec_DrawCrc.eq (m : Nat) (x : Den spec_DrawCrc.sig.ts) : spec_DrawCrc m x = startF ⟨lookΓ Γl, lookC (spec_DrawCrc.cons m)⟩ Try.f7 spec_DrawCrc.sig (spec_DrawCrc.cuts m) m x := by kernel_rfl
theorem spec_DrawCrc.ok (m : Nat) : Meets Try.prog 7 spec_DrawCrc.sig (spec_DrawCrc m) :=
  fn_is (cx_is tyOk mixed (l := spec_DrawCrc.cons m) ⟨spec_l30Open.ok m, spec_l30Op.ok m, spec_OpPut.ok m, spec_l30Rd_of.ok m, trivial⟩) (fn := Try.f7) rfl (by kernel_rfl) (cl := spec_DrawCrc.cuts m) trivial (k := m) (spec_DrawCrc.eq m)

/-! ### loop.example/stemma/impl.Crc: function 6 -/
abbrev impl_Crc.R : Type := Den [.int .i64]
def impl_Crc.sig : Sig := ⟨1, ⟨[], [(0, .l (.dat (.str)))]⟩, [.str], ⟨[], [(0, .l (.dat (.int .i64)))]⟩, [.int .i64]⟩
abbrev impl_Crc.Tab : Type := (Den [.str, .int .u32, .int .i64, .int .i64] → Option impl_Crc.R) × (Den [.str, .int .u32, .int .i64, .int .i64, .int .i64] → Option impl_Crc.R) × Unit
def impl_Crc.start (m : Nat) (t : impl_Crc.Tab) (x0 : ByteArray) : Option impl_Crc.R :=
  t.1 (x0, (4294967295 : Int), (sLen x0), (0 : Int), ())
def impl_Crc.b0 (m : Nat) (t : impl_Crc.Tab) (a0 : ByteArray) (a1 : Int) (a2 : Int) (a3 : Int) : Option impl_Crc.R :=
  cond (decide (a3 < a2)) (cond (decide ((0 : Int) ≤ a3)) (cond (decide (a3 < sLen a0)) (t.2.1 (a0, (xorI .u32 a1 (wr .u32 (byteAt a0 a3))), a2, a3, (0 : Int), ())) none) none) (some ((wr .i64 (notI .u32 a1)), ()))
def impl_Crc.b1 (m : Nat) (t : impl_Crc.Tab) (a0 : ByteArray) (a1 : Int) (a2 : Int) (a3 : Int) (a4 : Int) : Option impl_Crc.R :=
  cond (decide (a4 < (8 : Int))) (cond (decide ((1 : Int) < 0)) none (cond ((andI .u32 a1 (1 : Int)) == (1 : Int)) (lett ((xorI .u32 (shrI .u32 a1 (1 : Int)) (3988292384 : Int)) : Int) fun v1 => t.2.1 (a0, v1, a2, a3, (w64 (a4 + (1 : Int))), ())) (t.2.1 (a0, (shrI .u32 a1 (1 : Int)), a2, a3, (w64 (a4 + (1 : Int))), ())))) (t.1 (a0, a1, a2, (w64 (a3 + (1 : Int))), ()))
def impl_Crc.tab (m : Nat) : Nat → impl_Crc.Tab
  | 0 => (fun _ => none, fun _ => none, ())
  | k + 1 => (fun x => impl_Crc.b0 m (impl_Crc.tab m k) x.1 x.2.1 x.2.2.1 x.2.2.2.1, fun x => impl_Crc.b1 m (impl_Crc.tab m k) x.1 x.2.1 x.2.2.1 x.2.2.2.1 x.2.2.2.2.1, ())
def impl_Crc (m : Nat) (x : Den [.str]) : Option impl_Crc.R := impl_Crc.start m (impl_Crc.tab m m) x.1
def impl_Crc.cons (m : Nat) : List (Nat × Contract) := []
def impl_Crc.cuts (m : Nat) : List (CutF (Den impl_Crc.sig.us)) := [⟨[false, true, false, true, true], 58, ⟨[], [(0, .l (.dat (.str))), (3, .l (.dat (.int .u32))), (7, .l (.dat (.int .i64))), (8, .l (.dat (.int .i64)))]⟩, [.str, .int .u32, .int .i64, .int .i64], fun k => (impl_Crc.tab m k).1⟩,
  ⟨[false, true, true, true, false, false, true, true, false, false, true, false, true, true], 29902, ⟨[], [(0, .l (.dat (.str))), (3, .l (.dat (.int .u32))), (7, .l (.dat (.int .i64))), (8, .l (.dat (.int .i64))), (17, .l (.dat (.int .i64)))]⟩, [.str, .int .u32, .int .i64, .int .i64, .int .i64], fun k => (impl_Crc.tab m k).2.1⟩]
theorem impl_Crc.eq0 (m k : Nat) (x : Den [.str, .int .u32, .int .i64, .int .i64]) : (impl_Crc.tab m (k + 1)).1 x = runF ⟨lookΓ Γl, lookC (impl_Crc.cons m)⟩ Try.f6 impl_Crc.sig (impl_Crc.cuts m) k [false, true, false, true, true] ⟨[], [(0, .l (.dat (.str))), (3, .l (.dat (.int .u32))), (7, .l (.dat (.int .i64))), (8, .l (.dat (.int .i64)))]⟩ [.str, .int .u32, .int .i64, .int .i64] x := by kernel_rfl
theorem impl_Crc.eq1 (m k : Nat) (x : Den [.str, .int .u32, .int .i64, .int .i64, .int .i64]) : (impl_Crc.tab m (k + 1)).2.1 x = runF ⟨lookΓ Γl, lookC (impl_Crc.cons m)⟩ Try.f6 impl_Crc.sig (impl_Crc.cuts m) k [false, true, true, true, false, false, true, true, false, false, true, false, true, true] ⟨[], [(0, .l (.dat (.str))), (3, .l (.dat (.int .u32))), (7, .l (.dat (.int .i64))), (8, .l (.dat (.int .i64))), (17, .l (.dat (.int .i64)))]⟩ [.str, .int .u32, .int .i64, .int .i64, .int .i64] x := by kernel_rfl
theorem impl_Crc.eq (m : Nat) (x : Den impl_Crc.sig.ts) : impl_Crc m x = startF ⟨lookΓ Γl, lookC (impl_Crc.cons m)⟩ Try.f6 impl_Crc.sig (impl_Crc.cuts m) m x := by kernel_rfl
theorem impl_Crc.ok (m : Nat) : Meets Try.prog 6 impl_Crc.sig (impl_Crc m) :=
  fn_is (cx_is tyOk mixed (l := impl_Crc.cons m) trivial) (fn := Try.f6) rfl (by kernel_rfl) (cl := impl_Crc.cuts m) ⟨⟨by kernel_rfl, fun _ => rfl, fun k x => impl_Crc.eq0 m k x⟩, ⟨by kernel_rfl, fun _ => rfl, fun k x => impl_Crc.eq1 m k x⟩, trivial⟩ (k := m) (impl_Crc.eq m)

/-! ### loop.example/stemma/spec.l20Crc: function 8 -/
abbrev spec_l20Crc.R : Type := Den [.int .i64]
def spec_l20Crc.sig : Sig := ⟨1, ⟨[], [(0, .l (.dat (.str)))]⟩, [.str], ⟨[], [(0, .l (.dat (.int .i64)))]⟩, [.int .i64]⟩
abbrev spec_l20Crc.Tab : Type := (Den [.str, .int .i64, .int .i64] → Option spec_l20Crc.R) × (Den [.str, .int .i64, .int .i64, .int .i64] → Option spec_l20Crc.R) × Unit
def spec_l20Crc.start (m : Nat) (t : spec_l20Crc.Tab) (x0 : ByteArray) : Option spec_l20Crc.R :=
  t.1 (x0, (4294967295 : Int), (0 : Int), ())
def spec_l20Crc.b0 (m : Nat) (t : spec_l20Crc.Tab) (a0 : ByteArray) (a1 : Int) (a2 : Int) : Option spec_l20Crc.R :=
  cond (decide (a2 < (sLen a0))) (cond (decide ((0 : Int) ≤ a2)) (cond (decide (a2 < sLen a0)) (t.2.1 (a0, (xorI .i64 a1 (wr .i64 (byteAt a0 a2))), a2, (0 : Int), ())) none) none) (some ((xorI .i64 a1 (4294967295 : Int)), ()))
def spec_l20Crc.b1 (m : Nat) (t : spec_l20Crc.Tab) (a0 : ByteArray) (a1 : Int) (a2 : Int) (a3 : Int) : Option spec_l20Crc.R :=
  cond (decide (a3 < (8 : Int))) (cond ((2 : Int) == 0) none (cond ((Int.tmod a1 (2 : Int)) == (1 : Int)) (cond ((2 : Int) == 0) none (lett ((xorI .i64 (w64 (Int.tdiv a1 (2 : Int))) (3988292384 : Int)) : Int) fun v1 => t.2.1 (a0, v1, a2, (w64 (a3 + (1 : Int))), ()))) (cond ((2 : Int) == 0) none (t.2.1 (a0, (w64 (Int.tdiv a1 (2 : Int))), a2, (w64 (a3 + (1 : Int))), ()))))) (t.1 (a0, a1, (w64 (a2 + (1 : Int))), ()))
def spec_l20Crc.tab (m : Nat) : Nat → spec_l20Crc.Tab
  | 0 => (fun _ => none, fun _ => none, ())
  | k + 1 => (fun x => spec_l20Crc.b0 m (spec_l20Crc.tab m k) x.1 x.2.1 x.2.2.1, fun x => spec_l20Crc.b1 m (spec_l20Crc.tab m k) x.1 x.2.1 x.2.2.1 x.2.2.2.1, ())
def spec_l20Crc (m : Nat) (x : Den [.str]) : Option spec_l20Crc.R := spec_l20Crc.start m (spec_l20Crc.tab m m) x.1
def spec_l20Crc.cons (m : Nat) : List (Nat × Contract) := []
def spec_l20Crc.cuts (m : Nat) : List (CutF (Den spec_l20Crc.sig.us)) := [⟨[false, true, false, true, true], 58, ⟨[], [(0, .l (.dat (.str))), (3, .l (.dat (.int .i64))), (4, .l (.dat (.int .i64)))]⟩, [.str, .int .i64, .int .i64], fun k => (spec_l20Crc.tab m k).1⟩,
  ⟨[false, true, true, false, false, true, false, false, true, false, true, true], 7462, ⟨[], [(0, .l (.dat (.str))), (3, .l (.dat (.int .i64))), (4, .l (.dat (.int .i64))), (5, .l (.dat (.int .i64)))]⟩, [.str, .int .i64, .int .i64, .int .i64], fun k => (spec_l20Crc.tab m k).2.1⟩]
theorem spec_l20Crc.eq0 (m k : Nat) (x : Den [.str, .int .i64, .int .i64]) : (spec_l20Crc.tab m (k + 1)).1 x = runF ⟨lookΓ Γl, lookC (spec_l20Crc.cons m)⟩ Try.f8 spec_l20Crc.sig (spec_l20Crc.cuts m) k [false, true, false, true, true] ⟨[], [(0, .l (.dat (.str))), (3, .l (.dat (.int .i64))), (4, .l (.dat (.int .i64)))]⟩ [.str, .int .i64, .int .i64] x := by kernel_rfl
theorem spec_l20Crc.eq1 (m k : Nat) (x : Den [.str, .int .i64, .int .i64, .int .i64]) : (spec_l20Crc.tab m (k + 1)).2.1 x = runF ⟨lookΓ Γl, lookC (spec_l20Crc.cons m)⟩ Try.f8 spec_l20Crc.sig (spec_l20Crc.cuts m) k [false, true, true, false, false, true, false, false, true, false, true, true] ⟨[], [(0, .l (.dat (.str))), (3, .l (.dat (.int .i64))), (4, .l (.dat (.int .i64))), (5, .l (.dat (.int .i64)))]⟩ [.str, .int .i64, .int .i64, .int .i64] x := by kernel_rfl
theorem spec_l20Crc.eq (m : Nat) (x : Den spec_l20Crc.sig.ts) : spec_l20Crc m x = startF ⟨lookΓ Γl, lookC (spec_l20Crc.cons m)⟩ Try.f8 spec_l20Crc.sig (spec_l20Crc.cuts m) m x := by kernel_rfl
theorem spec_l20Crc.ok (m : Nat) : Meets Try.prog 8 spec_l20Crc.sig (spec_l20Crc m) :=
  fn_is (cx_is tyOk mixed (l := spec_l20Crc.cons m) trivial) (fn := Try.f8) rfl (by kernel_rfl) (cl := spec_l20Crc.cuts m) ⟨⟨by kernel_rfl, fun _ => rfl, fun k x => spec_l20Crc.eq0 m k x⟩, ⟨by kernel_rfl, fun _ => rfl, fun k x => spec_l20Crc.eq1 m k x⟩, trivial⟩ (k := m) (spec_l20Crc.eq m)

/-! ### loop.example/stemma/spec.Crc: function 5 -/
abbrev spec_Crc.R : Type := Den [.int .i64]
def spec_Crc.sig : Sig := ⟨1, ⟨[], [(0, .l (.dat (.str)))]⟩, [.str], ⟨[], [(0, .l (.dat (.int .i64)))]⟩, [.int .i64]⟩
abbrev spec_Crc.Tab : Type := Unit
def spec_Crc.start (m : Nat) (t : spec_Crc.Tab) (x0 : ByteArray) : Option spec_Crc.R :=
  Option.bind (spec_l20Crc m (x0, ())) fun r1 => some (r1.1, ())
def spec_Crc.tab (m : Nat) : Nat → spec_Crc.Tab
  | 0 => (())
  | k + 1 => (())
def spec_Crc (m : Nat) (x : Den [.str]) : Option spec_Crc.R := spec_Crc.start m (spec_Crc.tab m m) x.1
def spec_Crc.cons (m : Nat) : List (Nat × Contract) := [(8, ⟨spec_l20Crc.sig, spec_l20Crc m⟩)]
def spec_Crc.cuts (m : Nat) : List (CutF (Den spec_Crc.sig.us)) := []
theorem spec_Crc.eq (m : Nat) (x : Den spec_Crc.sig.ts) : spec_Crc m x = startF ⟨lookΓ Γl, lookC (spec_Crc.cons m)⟩ Try.f5 spec_Crc.sig (spec_Crc.cuts m) m x := by kernel_rfl
theorem spec_Crc.ok (m : Nat) : Meets Try.prog 5 spec_Crc.sig (spec_Crc m) :=
  fn_is (cx_is tyOk mixed (l := spec_Crc.cons m) ⟨spec_l20Crc.ok m, trivial⟩) (fn := Try.f5) rfl (by kernel_rfl) (cl := spec_Crc.cuts m) trivial (k := m) (spec_Crc.eq m)

/-! ### loop.example/stemma/laws.FnCrc: function 4 -/
abbrev laws_FnCrc.R : Type := Den [.bool]
def laws_FnCrc.sig : Sig := ⟨2, ⟨[], [(0, .l (.dat (.list (.int .u8)))), (1, .l (.dat (.list (.int .u8))))]⟩, [.list (.int .u8), .list (.int .u8)], ⟨[], [(0, .l (.dat (.bool)))]⟩, [.bool]⟩
abbrev laws_FnCrc.Tab : Type := (Den [.list (.int .u8), .str, .int .i64, .bool] → Option laws_FnCrc.R) × Unit
def laws_FnCrc.start (m : Nat) (t : laws_FnCrc.Tab) (x0 : List Int) (x1 : List Int) : Option laws_FnCrc.R :=
  cond (decide ((lLen x0) > (1048576 : Int))) (some (true, ())) (cond (decide ((lLen x1) > (1048576 : Int))) (some (true, ())) (Option.bind (spec_DrawCrc m (x0, ())) fun r1 => Option.bind (impl_Crc m (r1.1, ())) fun r2 => Option.bind (spec_Crc m (r1.1, ())) fun r3 => cond (r2.1 != r3.1) (t.1 (x1, r1.1, r2.1, true, ())) (Option.bind (impl_Crc m (str31, ())) fun r4 => cond (r4.1 != (3421780262 : Int)) (t.1 (x1, r1.1, r2.1, true, ())) (t.1 (x1, r1.1, r2.1, ((sLen r1.1) == (0 : Int)), ())))))
def laws_FnCrc.b0 (m : Nat) (t : laws_FnCrc.Tab) (a0 : List Int) (a1 : ByteArray) (a2 : Int) (a3 : Bool) : Option laws_FnCrc.R :=
  cond a3 (Option.bind (spec_Crc m (a1, ())) fun r1 => cond (a2 == r1.1) (Option.bind (impl_Crc m (str31, ())) fun r2 => cond (r2.1 == (3421780262 : Int)) (some ((a2 == (0 : Int)), ())) (some (false, ()))) (some (false, ()))) (cond ((lLen (bytesI a1)) == 0) none (cond (decide ((0 : Int) ≤ (Int.tmod (lLen a0) (lLen (bytesI a1))))) (cond (decide ((Int.tmod (lLen a0) (lLen (bytesI a1))) < lLen (bytesI a1))) (lett ((List.getD (bytesI a1) (Int.toNat (Int.tmod (lLen a0) (lLen (bytesI a1)))) (0 : Int)) : Int) fun v3 => cond ((8 : Int) == 0) none (cond (decide ((Int.tmod (lLen a0) (8 : Int)) < 0)) none (lett ((shlI .u8 (1 : Int) (Int.tmod (lLen a0) (8 : Int))) : Int) fun v4 => cond (decide ((0 : Int) ≤ (Int.tmod (lLen a0) (lLen (bytesI a1))))) (cond (decide ((Int.tmod (lLen a0) (lLen (bytesI a1))) < lLen (bytesI a1))) (lett ((List.set (bytesI a1) (Int.toNat (Int.tmod (lLen a0) (lLen (bytesI a1)))) (xorI .u8 v3 v4)) : List Int) fun v5 => Option.bind (impl_Crc m ((strOfNums v5), ())) fun r6 => some ((r6.1 != a2), ())) none) none))) none) none))
def laws_FnCrc.tab (m : Nat) : Nat → laws_FnCrc.Tab
  | 0 => (fun _ => none, ())
  | k + 1 => (fun x => laws_FnCrc.b0 m (laws_FnCrc.tab m k) x.1 x.2.1 x.2.2.1 x.2.2.2.1, ())
def laws_FnCrc (m : Nat) (x : Den [.list (.int .u8), .list (.int .u8)]) : Option laws_FnCrc.R := laws_FnCrc.start m (laws_FnCrc.tab m m) x.1 x.2.1
def laws_FnCrc.cons (m : Nat) : List (Nat × Contract) := [(7, ⟨spec_DrawCrc.sig, spec_DrawCrc m⟩), (6, ⟨impl_Crc.sig, impl_Crc m⟩), (5, ⟨spec_Crc.sig, spec_Crc m⟩)]
def laws_FnCrc.cuts (m : Nat) : List (CutF (Den laws_FnCrc.sig.us)) := [⟨[true, false, true, true, true, true], 125, ⟨[], [(1, .l (.dat (.list (.int .u8)))), (5, .l (.dat (.str))), (6, .l (.dat (.int .i64))), (33, .l (.dat (.bool)))]⟩, [.list (.int .u8), .str, .int .i64, .bool], fun k => (laws_FnCrc.tab m k).1⟩]
theorem laws_FnCrc.eq0 (m k : Nat) (x : Den [.list (.int .u8), .str, .int .i64, .bool]) : (laws_FnCrc.tab m (k + 1)).1 x = runF ⟨lookΓ Γl, lookC (laws_FnCrc.cons m)⟩ Try.f4 laws_FnCrc.sig (laws_FnCrc.cuts m) k [true, false, true, true, true, true] ⟨[], [(1, .l (.dat (.list (.int .u8)))), (5, .l (.dat (.str))), (6, .l (.dat (.int .i64))), (33, .l (.dat (.bool)))]⟩ [.list (.int .u8), .str, .int .i64, .bool] x := by kernel_rfl
theorem laws_FnCrc.eq (m : Nat) (x : Den laws_FnCrc.sig.ts) : laws_FnCrc m x = startF ⟨lookΓ Γl, lookC (laws_FnCrc.cons m)⟩ Try.f4 laws_FnCrc.sig (laws_FnCrc.cuts m) m x := by kernel_rfl
theorem laws_FnCrc.ok (m : Nat) : Meets Try.prog 4 laws_FnCrc.sig (laws_FnCrc m) :=
  fn_is (cx_is tyOk mixed (l := laws_FnCrc.cons m) ⟨spec_DrawCrc.ok m, impl_Crc.ok m, spec_Crc.ok m, trivial⟩) (fn := Try.f4) rfl (by kernel_rfl) (cl := laws_FnCrc.cuts m) ⟨⟨by kernel_rfl, fun _ => rfl, fun k x => laws_FnCrc.eq0 m k x⟩, trivial⟩ (k := m) (laws_FnCrc.eq m)

end
end Go.Sx.Try
