/- The functions that FnTreeRead reaches, as plain Lean functions, and that the program's functions do what these say: no condition. Printed by wip/gen/sx.py. -/
import Derived.Test.YtpchbfkiingmjaaDoorSxD
import Derived.Test.YtpchbfkiingmjaaDoorTtrAT6
import Derived.Test.YtpchbfkiingmjaaDoorChecked
namespace Go.Sx.Tryd
open Go Go.Proofs Go.Sx
set_option linter.unusedVariables false
noncomputable section
abbrev GL : Gl := errG 0 1
def Γl : List (Nat × TI) := [(2, ⟨1, 8, false, .int .i64, some (.int .i64)⟩),
  (3, ⟨1, 8, false, .int .i64, some (.int .i64)⟩),
  (4, ⟨1, 1, false, .bool, some (.bool)⟩),
  (5, ⟨1, 1, false, .int .u8, some (.int .u8)⟩),
  (9, ⟨1, 16, false, .str, some (.str)⟩),
  (22, ⟨1, 24, false, .slice 5, some (.list (.int .u8))⟩),
  (23, ⟨1, 24, false, .slice 34, some (.list (.pair (.str) (.list (.str))))⟩),
  (24, ⟨1, 24, false, .slice 9, some (.list (.str))⟩),
  (34, ⟨2, 40, true, .struct [(9, 0), (24, 1)], some (.pair (.str) (.list (.str)))⟩),
  (42, ⟨1, 8, false, .other, none⟩),
  (50, ⟨1, 8, false, .other, none⟩),
  (54, ⟨1, 8, false, .other, none⟩),
  (60, ⟨1, 8, false, .other, none⟩),
  (63, ⟨3, 40, true, .struct [(24, 0), (3, 1), (4, 2)], some (.pair (.list (.str)) (.pair (.int .i64) (.bool)))⟩),
  (67, ⟨2, 32, true, .struct [(22, 0), (3, 1)], some (.pair (.list (.int .u8)) (.int .i64))⟩),
  (81, ⟨1, 16, false, .iface, none⟩),
  (88, ⟨1, 24, false, .slice 3, some (.list (.int .i64))⟩),
  (107, ⟨24, 24, true, .other, none⟩),
  (108, ⟨1, 8, false, .int .u64, some (.int .u64)⟩),
  (125, ⟨65, 65, true, .other, none⟩)]
theorem tyOk : TyOk Tryd.prog (lookΓ Γl) := tyOk_of (by kernel_rfl)
def Γs : List (Nat × TI) := [(4, ⟨1, 1, false, .bool, some (.bool)⟩),
  (5, ⟨1, 1, false, .int .u8, some (.int .u8)⟩),
  (9, ⟨1, 16, false, .str, some (.str)⟩),
  (22, ⟨1, 24, false, .slice 5, some (.sp (.int .u8))⟩),
  (23, ⟨1, 24, false, .slice 34, some (.sp (.pair (.str) (.sp (.str))))⟩),
  (24, ⟨1, 24, false, .slice 9, some (.sp (.str))⟩),
  (34, ⟨2, 40, true, .struct [(9, 0), (24, 1)], some (.pair (.str) (.sp (.str)))⟩)]
theorem tyOks : TyOk Tryd.prog (lookΓ Γs) := tyOk_of (by kernel_rfl)
theorem mixed : Tryd.prog.follows .mixedOrders = true := by kernel_rfl
def s_61 : ByteArray := ⟨#[97]⟩
def s_62 : ByteArray := ⟨#[98]⟩
def s_642f65 : ByteArray := ⟨#[100, 47, 101]⟩
def s_642f66 : ByteArray := ⟨#[100, 47, 102]⟩
def s_672f682f69 : ByteArray := ⟨#[103, 47, 104, 47, 105]⟩
def s_672f6b : ByteArray := ⟨#[103, 47, 107]⟩
def s_7a : ByteArray := ⟨#[122]⟩
def s_63 : ByteArray := ⟨#[99]⟩
def s_64 : ByteArray := ⟨#[100]⟩
def s_782079 : ByteArray := ⟨#[120, 32, 121]⟩
def s_7365652061 : ByteArray := ⟨#[115, 101, 101, 32, 97]⟩
def s_73656520642f65 : ByteArray := ⟨#[115, 101, 101, 32, 100, 47, 101]⟩
def s_656e64 : ByteArray := ⟨#[101, 110, 100]⟩
def s_66696c6520 : ByteArray := ⟨#[102, 105, 108, 101, 32]⟩
def s_20 : ByteArray := ⟨#[32]⟩
def s_2d39323233333732303336383534373735383038 : ByteArray := ⟨#[45, 57, 50, 50, 51, 51, 55, 50, 48, 51, 54, 56, 53, 52, 55, 55, 53, 56, 48, 56]⟩
def s_2d : ByteArray := ⟨#[45]⟩
def s_0a : ByteArray := ⟨#[10]⟩
def s_30 : ByteArray := ⟨#[48]⟩
def s_31 : ByteArray := ⟨#[49]⟩
def s_2b : ByteArray := ⟨#[43]⟩
def s_40 : ByteArray := ⟨#[64]⟩
def s_7c : ByteArray := ⟨#[124]⟩
def s_78 : ByteArray := ⟨#[120]⟩
def s_2b780a : ByteArray := ⟨#[43, 120, 10]⟩
def s_66696c65 : ByteArray := ⟨#[102, 105, 108, 101]⟩
def s_2f : ByteArray := ⟨#[47]⟩
def s_30313233343536373839616263646566_36 : ByteArray := ⟨#[48, 49, 50, 51, 52, 53, 54, 55, 56, 57, 97, 98, 99, 100, 101, 102, 103, 104, 105, 106, 107, 108, 109, 110, 111, 112, 113, 114, 115, 116, 117, 118, 119, 120, 121, 122]⟩
def s_30303031303230333034303530363037_200 : ByteArray := ⟨#[48, 48, 48, 49, 48, 50, 48, 51, 48, 52, 48, 53, 48, 54, 48, 55, 48, 56, 48, 57, 49, 48, 49, 49, 49, 50, 49, 51, 49, 52, 49, 53, 49, 54, 49, 55, 49, 56, 49, 57, 50, 48, 50, 49, 50, 50, 50, 51, 50, 52, 50, 53, 50, 54, 50, 55, 50, 56, 50, 57, 51, 48, 51, 49, 51, 50, 51, 51, 51, 52, 51, 53, 51, 54, 51, 55, 51, 56, 51, 57, 52, 48, 52, 49, 52, 50, 52, 51, 52, 52, 52, 53, 52, 54, 52, 55, 52, 56, 52, 57, 53, 48, 53, 49, 53, 50, 53, 51, 53, 52, 53, 53, 53, 54, 53, 55, 53, 56, 53, 57, 54, 48, 54, 49, 54, 50, 54, 51, 54, 52, 54, 53, 54, 54, 54, 55, 54, 56, 54, 57, 55, 48, 55, 49, 55, 50, 55, 51, 55, 52, 55, 53, 55, 54, 55, 55, 55, 56, 55, 57, 56, 48, 56, 49, 56, 50, 56, 51, 56, 52, 56, 53, 56, 54, 56, 55, 56, 56, 56, 57, 57, 48, 57, 49, 57, 50, 57, 51, 57, 52, 57, 53, 57, 54, 57, 55, 57, 56, 57, 57]⟩
/-! ### loop.example/stemma/spec.l30Open: function 18 -/
abbrev spec_l30Open.R : Type := Den [.list (.int .u8), .int .i64]
def spec_l30Open.sig : Sig := ⟨1, ⟨[], [(0, .l (.dat (.list (.int .u8))))]⟩, [.list (.int .u8)], ⟨[.box [.dat (.list (.int .u8)), .dat (.int .i64)]], [(0, .l (.ptr 0 0))]⟩, [.list (.int .u8), .int .i64]⟩
abbrev spec_l30Open.Tab : Type := Unit
def spec_l30Open.start (m : Nat) (t : spec_l30Open.Tab) (x0 : List Int) : Option spec_l30Open.R :=
  cond (decide ((lLen x0) > (2000 : Int))) (cond (decide ((0 : Int) ≤ (2000 : Int))) (cond (decide ((2000 : Int) ≤ (List.length x0 : Int))) (some ((cutL x0 0 (Int.toNat (2000 : Int))), (0 : Int), ())) none) none) (some (x0, (0 : Int), ()))
def spec_l30Open.tab (m : Nat) : Nat → spec_l30Open.Tab
  | 0 => (())
  | k + 1 => (())
def spec_l30Open (m : Nat) (x : Den [.list (.int .u8)]) : Option spec_l30Open.R := spec_l30Open.start m (spec_l30Open.tab m m) x.1
def spec_l30Open.cons (m : Nat) : List (Nat × Contract) := []
def spec_l30Open.cuts (m : Nat) : List (CutF (Den spec_l30Open.sig.us)) := []
theorem spec_l30Open.eq (m : Nat) (x : Den spec_l30Open.sig.ts) : spec_l30Open m x = startF ⟨lookΓ Γl, lookC (spec_l30Open.cons m), false⟩ Tryd.f18 spec_l30Open.sig (spec_l30Open.cuts m) m x := by kernel_rfl
theorem spec_l30Open.ok (m : Nat) : Meets GL Tryd.prog 18 spec_l30Open.sig (spec_l30Open m) :=
  fn_is (cx_is tyOk mixed (l := spec_l30Open.cons m) trivial) (fn := Tryd.f18) Tryd.func18 (by kernel_rfl) (cl := spec_l30Open.cuts m) trivial (k := m) (spec_l30Open.eq m)

/-! ### (*loop.example/stemma/spec.l30Rd).pick: function 22 -/
abbrev spec_l30Rd_pick.R : Type := Den [.list (.int .u8), .int .i64, .int .i64]
def spec_l30Rd_pick.sig : Sig := ⟨2, ⟨[.box [.dat (.list (.int .u8)), .dat (.int .i64)]], [(0, .l (.ptr 0 0)), (1, .l (.dat (.int .i64)))]⟩, [.list (.int .u8), .int .i64, .int .i64], ⟨[.box [.dat (.list (.int .u8)), .dat (.int .i64)]], [(0, .l (.dat (.int .i64)))]⟩, [.list (.int .u8), .int .i64, .int .i64]⟩
abbrev spec_l30Rd_pick.Tab : Type := Unit
def spec_l30Rd_pick.start (m : Nat) (t : spec_l30Rd_pick.Tab) (x0 : List Int) (x1 : Int) (x2 : Int) : Option spec_l30Rd_pick.R :=
  cond (decide (x2 < (1 : Int))) (some (x0, (w64 (x1 + (1 : Int))), (0 : Int), ())) (cond ((lLen x0) == (0 : Int)) (some (x0, (w64 (x1 + (1 : Int))), (0 : Int), ())) (lett ((w64 ((w64 (x1 + (1 : Int))) - (1 : Int))) : Int) fun v1 => cond (decide (v1 < (lLen x0))) (cond (decide ((0 : Int) ≤ v1)) (cond (decide (v1 < lLen x0)) (cond (x2 == 0) none (lett ((Int.tmod (wr .i64 (getL x0 v1 (0 : Int))) x2) : Int) fun v2 => some (x0, (w64 (x1 + (1 : Int))), v2, ()))) none) none) (cond ((lLen x0) == 0) none (cond (decide ((0 : Int) ≤ (Int.tmod v1 (lLen x0)))) (cond (decide ((Int.tmod v1 (lLen x0)) < lLen x0)) (lett ((getL x0 (Int.tmod v1 (lLen x0)) (0 : Int)) : Int) fun v3 => lett ((w64 ((w64 (v1 * (7 : Int))) + (3 : Int))) : Int) fun v4 => cond ((lLen x0) == 0) none (cond (decide ((0 : Int) ≤ (Int.tmod v4 (lLen x0)))) (cond (decide ((Int.tmod v4 (lLen x0)) < lLen x0)) (lett ((getL x0 (Int.tmod v4 (lLen x0)) (0 : Int)) : Int) fun v5 => lett ((w64 ((w64 ((wr .i64 v3) * (131 : Int))) + (w64 ((wr .i64 v5) * (1117 : Int))))) : Int) fun v6 => cond ((lLen x0) == 0) none (lett ((w64 ((w64 (Int.tdiv v1 (lLen x0))) * (53 : Int))) : Int) fun v7 => lett ((w64 ((w64 (v6 + (w64 (v1 * (29 : Int))))) + v7)) : Int) fun v8 => cond ((64 : Int) == 0) none (lett ((xorI .i64 v8 (w64 (Int.tdiv v8 (64 : Int)))) : Int) fun v9 => cond (x2 == 0) none (some (x0, (w64 (x1 + (1 : Int))), (Int.tmod v9 x2), ()))))) none) none)) none) none))))
def spec_l30Rd_pick.tab (m : Nat) : Nat → spec_l30Rd_pick.Tab
  | 0 => (())
  | k + 1 => (())
def spec_l30Rd_pick (m : Nat) (x : Den [.list (.int .u8), .int .i64, .int .i64]) : Option spec_l30Rd_pick.R := spec_l30Rd_pick.start m (spec_l30Rd_pick.tab m m) x.1 x.2.1 x.2.2.1
def spec_l30Rd_pick.cons (m : Nat) : List (Nat × Contract) := []
def spec_l30Rd_pick.cuts (m : Nat) : List (CutF (Den spec_l30Rd_pick.sig.us)) := []
theorem spec_l30Rd_pick.eq (m : Nat) (x : Den spec_l30Rd_pick.sig.ts) : spec_l30Rd_pick m x = startF ⟨lookΓ Γl, lookC (spec_l30Rd_pick.cons m), false⟩ Tryd.f22 spec_l30Rd_pick.sig (spec_l30Rd_pick.cuts m) m x := by kernel_rfl
theorem spec_l30Rd_pick.ok (m : Nat) : Meets GL Tryd.prog 22 spec_l30Rd_pick.sig (spec_l30Rd_pick m) :=
  fn_is (cx_is tyOk mixed (l := spec_l30Rd_pick.cons m) trivial) (fn := Tryd.f22) Tryd.func22 (by kernel_rfl) (cl := spec_l30Rd_pick.cuts m) trivial (k := m) (spec_l30Rd_pick.eq m)

/-! ### (*loop.example/stemma/spec.l30Rd).of: function 54 -/
abbrev spec_l30Rd_of.R : Type := Den [.list (.int .u8), .int .i64, .str]
def spec_l30Rd_of.sig : Sig := ⟨2, ⟨[.box [.dat (.list (.int .u8)), .dat (.int .i64)]], [(0, .l (.ptr 0 0)), (1, .l (.dat (.list (.str))))]⟩, [.list (.int .u8), .int .i64, .list (.str)], ⟨[.box [.dat (.list (.int .u8)), .dat (.int .i64)]], [(0, .l (.dat (.str)))]⟩, [.list (.int .u8), .int .i64, .str]⟩
abbrev spec_l30Rd_of.Tab : Type := Unit
def spec_l30Rd_of.start (m : Nat) (t : spec_l30Rd_of.Tab) (x0 : List Int) (x1 : Int) (x2 : List ByteArray) : Option spec_l30Rd_of.R :=
  Option.bind (spec_l30Rd_pick m (x0, x1, (lLen x2), ())) fun r1 => cond (decide ((0 : Int) ≤ r1.2.2.1)) (cond (decide (r1.2.2.1 < lLen x2)) (some (r1.1, r1.2.1, (getL x2 r1.2.2.1 ByteArray.empty), ())) none) none
def spec_l30Rd_of.tab (m : Nat) : Nat → spec_l30Rd_of.Tab
  | 0 => (())
  | k + 1 => (())
def spec_l30Rd_of (m : Nat) (x : Den [.list (.int .u8), .int .i64, .list (.str)]) : Option spec_l30Rd_of.R := spec_l30Rd_of.start m (spec_l30Rd_of.tab m m) x.1 x.2.1 x.2.2.1
def spec_l30Rd_of.cons (m : Nat) : List (Nat × Contract) := [(22, ⟨spec_l30Rd_pick.sig, spec_l30Rd_pick m⟩)]
def spec_l30Rd_of.cuts (m : Nat) : List (CutF (Den spec_l30Rd_of.sig.us)) := []
theorem spec_l30Rd_of.eq (m : Nat) (x : Den spec_l30Rd_of.sig.ts) : spec_l30Rd_of m x = startF ⟨lookΓ Γl, lookC (spec_l30Rd_of.cons m), false⟩ Tryd.f54 spec_l30Rd_of.sig (spec_l30Rd_of.cuts m) m x := by kernel_rfl
theorem spec_l30Rd_of.ok (m : Nat) : Meets GL Tryd.prog 54 spec_l30Rd_of.sig (spec_l30Rd_of m) :=
  fn_is (cx_is tyOk mixed (l := spec_l30Rd_of.cons m) ⟨spec_l30Rd_pick.ok m, trivial⟩) (fn := Tryd.f54) Tryd.func54 (by kernel_rfl) (cl := spec_l30Rd_of.cuts m) trivial (k := m) (spec_l30Rd_of.eq m)

/-! ### loop.example/stemma/spec.l30Path: function 56 -/
abbrev spec_l30Path.R : Type := Den [.list (.int .u8), .int .i64, .str]
def spec_l30Path.sig : Sig := ⟨1, ⟨[.box [.dat (.list (.int .u8)), .dat (.int .i64)]], [(0, .l (.ptr 0 0))]⟩, [.list (.int .u8), .int .i64], ⟨[.box [.dat (.list (.int .u8)), .dat (.int .i64)]], [(0, .l (.dat (.str)))]⟩, [.list (.int .u8), .int .i64, .str]⟩
abbrev spec_l30Path.Tab : Type := Unit
def spec_l30Path.start (m : Nat) (t : spec_l30Path.Tab) (x0 : List Int) (x1 : Int) : Option spec_l30Path.R :=
  lett ([s_61, s_62, s_642f65, s_642f66, s_672f682f69, s_672f6b, s_7a] : List ByteArray) fun v1 => Option.bind (spec_l30Rd_of m (x0, x1, v1, ())) fun r2 => some (r2.1, r2.2.1, r2.2.2.1, ())
def spec_l30Path.tab (m : Nat) : Nat → spec_l30Path.Tab
  | 0 => (())
  | k + 1 => (())
def spec_l30Path (m : Nat) (x : Den [.list (.int .u8), .int .i64]) : Option spec_l30Path.R := spec_l30Path.start m (spec_l30Path.tab m m) x.1 x.2.1
def spec_l30Path.cons (m : Nat) : List (Nat × Contract) := [(54, ⟨spec_l30Rd_of.sig, spec_l30Rd_of m⟩)]
def spec_l30Path.cuts (m : Nat) : List (CutF (Den spec_l30Path.sig.us)) := []
theorem spec_l30Path.eq (m : Nat) (x : Den spec_l30Path.sig.ts) : spec_l30Path m x = startF ⟨lookΓ Γl, lookC (spec_l30Path.cons m), false⟩ Tryd.f56 spec_l30Path.sig (spec_l30Path.cuts m) m x := by kernel_rfl
theorem spec_l30Path.ok (m : Nat) : Meets GL Tryd.prog 56 spec_l30Path.sig (spec_l30Path m) :=
  fn_is (cx_is tyOk mixed (l := spec_l30Path.cons m) ⟨spec_l30Rd_of.ok m, trivial⟩) (fn := Tryd.f56) Tryd.func56 (by kernel_rfl) (cl := spec_l30Path.cuts m) trivial (k := m) (spec_l30Path.eq m)

/-! ### (*loop.example/stemma/spec.l30Rd).one: function 84 -/
abbrev spec_l30Rd_one.R : Type := Den [.list (.int .u8), .int .i64, .int .i64]
def spec_l30Rd_one.sig : Sig := ⟨2, ⟨[.box [.dat (.list (.int .u8)), .dat (.int .i64)]], [(0, .l (.ptr 0 0)), (1, .l (.dat (.list (.int .i64))))]⟩, [.list (.int .u8), .int .i64, .list (.int .i64)], ⟨[.box [.dat (.list (.int .u8)), .dat (.int .i64)]], [(0, .l (.dat (.int .i64)))]⟩, [.list (.int .u8), .int .i64, .int .i64]⟩
abbrev spec_l30Rd_one.Tab : Type := Unit
def spec_l30Rd_one.start (m : Nat) (t : spec_l30Rd_one.Tab) (x0 : List Int) (x1 : Int) (x2 : List Int) : Option spec_l30Rd_one.R :=
  Option.bind (spec_l30Rd_pick m (x0, x1, (lLen x2), ())) fun r1 => cond (decide ((0 : Int) ≤ r1.2.2.1)) (cond (decide (r1.2.2.1 < lLen x2)) (some (r1.1, r1.2.1, (getL x2 r1.2.2.1 (0 : Int)), ())) none) none
def spec_l30Rd_one.tab (m : Nat) : Nat → spec_l30Rd_one.Tab
  | 0 => (())
  | k + 1 => (())
def spec_l30Rd_one (m : Nat) (x : Den [.list (.int .u8), .int .i64, .list (.int .i64)]) : Option spec_l30Rd_one.R := spec_l30Rd_one.start m (spec_l30Rd_one.tab m m) x.1 x.2.1 x.2.2.1
def spec_l30Rd_one.cons (m : Nat) : List (Nat × Contract) := [(22, ⟨spec_l30Rd_pick.sig, spec_l30Rd_pick m⟩)]
def spec_l30Rd_one.cuts (m : Nat) : List (CutF (Den spec_l30Rd_one.sig.us)) := []
theorem spec_l30Rd_one.eq (m : Nat) (x : Den spec_l30Rd_one.sig.ts) : spec_l30Rd_one m x = startF ⟨lookΓ Γl, lookC (spec_l30Rd_one.cons m), false⟩ Tryd.f84 spec_l30Rd_one.sig (spec_l30Rd_one.cuts m) m x := by kernel_rfl
theorem spec_l30Rd_one.ok (m : Nat) : Meets GL Tryd.prog 84 spec_l30Rd_one.sig (spec_l30Rd_one m) :=
  fn_is (cx_is tyOk mixed (l := spec_l30Rd_one.cons m) ⟨spec_l30Rd_pick.ok m, trivial⟩) (fn := Tryd.f84) Tryd.func84 (by kernel_rfl) (cl := spec_l30Rd_one.cuts m) trivial (k := m) (spec_l30Rd_one.eq m)

/-! ### loop.example/stemma/spec.l30Line: function 85 -/
abbrev spec_l30Line.R : Type := Den [.list (.int .u8), .int .i64, .str]
def spec_l30Line.sig : Sig := ⟨1, ⟨[.box [.dat (.list (.int .u8)), .dat (.int .i64)]], [(0, .l (.ptr 0 0))]⟩, [.list (.int .u8), .int .i64], ⟨[.box [.dat (.list (.int .u8)), .dat (.int .i64)]], [(0, .l (.dat (.str)))]⟩, [.list (.int .u8), .int .i64, .str]⟩
abbrev spec_l30Line.Tab : Type := Unit
def spec_l30Line.start (m : Nat) (t : spec_l30Line.Tab) (x0 : List Int) (x1 : Int) : Option spec_l30Line.R :=
  lett ([s_61, s_62, s_63, s_64, ByteArray.empty, s_782079, s_7365652061, s_73656520642f65, s_656e64] : List ByteArray) fun v1 => Option.bind (spec_l30Rd_of m (x0, x1, v1, ())) fun r2 => some (r2.1, r2.2.1, r2.2.2.1, ())
def spec_l30Line.tab (m : Nat) : Nat → spec_l30Line.Tab
  | 0 => (())
  | k + 1 => (())
def spec_l30Line (m : Nat) (x : Den [.list (.int .u8), .int .i64]) : Option spec_l30Line.R := spec_l30Line.start m (spec_l30Line.tab m m) x.1 x.2.1
def spec_l30Line.cons (m : Nat) : List (Nat × Contract) := [(54, ⟨spec_l30Rd_of.sig, spec_l30Rd_of m⟩)]
def spec_l30Line.cuts (m : Nat) : List (CutF (Den spec_l30Line.sig.us)) := []
theorem spec_l30Line.eq (m : Nat) (x : Den spec_l30Line.sig.ts) : spec_l30Line m x = startF ⟨lookΓ Γl, lookC (spec_l30Line.cons m), false⟩ Tryd.f85 spec_l30Line.sig (spec_l30Line.cuts m) m x := by kernel_rfl
theorem spec_l30Line.ok (m : Nat) : Meets GL Tryd.prog 85 spec_l30Line.sig (spec_l30Line m) :=
  fn_is (cx_is tyOk mixed (l := spec_l30Line.cons m) ⟨spec_l30Rd_of.ok m, trivial⟩) (fn := Tryd.f85) Tryd.func85 (by kernel_rfl) (cl := spec_l30Line.cuts m) trivial (k := m) (spec_l30Line.eq m)

/-! ### loop.example/stemma/spec.l30Text: function 57 -/
abbrev spec_l30Text.R : Type := Den [.list (.int .u8), .int .i64, .list (.str)]
def spec_l30Text.sig : Sig := ⟨1, ⟨[.box [.dat (.list (.int .u8)), .dat (.int .i64)]], [(0, .l (.ptr 0 0))]⟩, [.list (.int .u8), .int .i64], ⟨[.box [.dat (.list (.int .u8)), .dat (.int .i64)], .row true (.str)], [(0, .l (.sl 1))]⟩, [.list (.int .u8), .int .i64, .list (.str)]⟩
abbrev spec_l30Text.Tab : Type := (Den [.list (.int .u8), .int .i64, .list (.str), .int .i64] → Option spec_l30Text.R) × Unit
def spec_l30Text.start (m : Nat) (t : spec_l30Text.Tab) (x0 : List Int) (x1 : Int) : Option spec_l30Text.R :=
  Option.bind (spec_l30Rd_one m (x0, x1, [(0 : Int), (1 : Int), (3 : Int), (5 : Int), (8 : Int)], ())) fun r1 => t.1 (r1.1, r1.2.1, [], r1.2.2.1, ())
def spec_l30Text.b0 (m : Nat) (t : spec_l30Text.Tab) (a0 : List Int) (a1 : Int) (a2 : List ByteArray) (a3 : Int) : Option spec_l30Text.R :=
  cond (decide (a3 > (0 : Int))) (Option.bind (spec_l30Line m (a0, a1, ())) fun r1 => cond (decide (List.length a2 + List.length ([r1.2.2.1] : List ByteArray) ≤ apCap)) (t.1 (r1.1, r1.2.1, (List.append a2 ([r1.2.2.1] : List ByteArray)), (w64 (a3 - (1 : Int))), ())) none) (some (a0, a1, a2, ()))
def spec_l30Text.tab (m : Nat) : Nat → spec_l30Text.Tab
  | 0 => (fun _ => none, ())
  | k + 1 => (fun x => spec_l30Text.b0 m (spec_l30Text.tab m k) x.1 x.2.1 x.2.2.1 x.2.2.2.1, ())
def spec_l30Text (m : Nat) (x : Den [.list (.int .u8), .int .i64]) : Option spec_l30Text.R := spec_l30Text.start m (spec_l30Text.tab m m) x.1 x.2.1
def spec_l30Text.cons (m : Nat) : List (Nat × Contract) := [(84, ⟨spec_l30Rd_one.sig, spec_l30Rd_one m⟩), (85, ⟨spec_l30Line.sig, spec_l30Line m⟩)]
def spec_l30Text.cuts (m : Nat) : List (CutF (Den spec_l30Text.sig.us)) := [⟨[false, true, false, true, true], 58, ⟨[.box [.dat (.list (.int .u8)), .dat (.int .i64)], .row true (.str)], [(0, .l (.ptr 0 0)), (3, .l (.sl 1)), (4, .l (.dat (.int .i64)))]⟩, [.list (.int .u8), .int .i64, .list (.str), .int .i64], fun k => (spec_l30Text.tab m k).1⟩]
theorem spec_l30Text.eq0 (m k : Nat) (x : Den [.list (.int .u8), .int .i64, .list (.str), .int .i64]) : (spec_l30Text.tab m (k + 1)).1 x = runF ⟨lookΓ Γl, lookC (spec_l30Text.cons m), false⟩ Tryd.f57 spec_l30Text.sig (spec_l30Text.cuts m) k [false, true, false, true, true] ⟨[.box [.dat (.list (.int .u8)), .dat (.int .i64)], .row true (.str)], [(0, .l (.ptr 0 0)), (3, .l (.sl 1)), (4, .l (.dat (.int .i64)))]⟩ [.list (.int .u8), .int .i64, .list (.str), .int .i64] x := by kernel_rfl
theorem spec_l30Text.eq (m : Nat) (x : Den spec_l30Text.sig.ts) : spec_l30Text m x = startF ⟨lookΓ Γl, lookC (spec_l30Text.cons m), false⟩ Tryd.f57 spec_l30Text.sig (spec_l30Text.cuts m) m x := by kernel_rfl
theorem spec_l30Text.ok (m : Nat) : Meets GL Tryd.prog 57 spec_l30Text.sig (spec_l30Text m) :=
  fn_is (cx_is tyOk mixed (l := spec_l30Text.cons m) ⟨spec_l30Rd_one.ok m, spec_l30Line.ok m, trivial⟩) (fn := Tryd.f57) Tryd.func57 (by kernel_rfl) (cl := spec_l30Text.cuts m) ⟨⟨by kernel_rfl, fun _ => rfl, fun k x => spec_l30Text.eq0 m k x⟩, trivial⟩ (k := m) (spec_l30Text.eq m)

/-! ### loop.example/stemma/spec.l1Cut: function 48 -/
abbrev spec_l1Cut.R : Type := Den [.list (.str)]
def spec_l1Cut.sig : Sig := ⟨3, ⟨[], [(0, .l (.dat (.str))), (1, .l (.dat (.int .u8))), (2, .l (.dat (.int .i64)))]⟩, [.str, .int .u8, .int .i64], ⟨[], [(0, .l (.dat (.list (.str))))]⟩, [.list (.str)]⟩
abbrev spec_l1Cut.Tab : Type := (Den [.list (.str), .str, .int .u8, .int .i64, .int .i64, .int .i64] → Option spec_l1Cut.R) × Unit
def spec_l1Cut.start (m : Nat) (t : spec_l1Cut.Tab) (x0 : ByteArray) (x1 : Int) (x2 : Int) : Option spec_l1Cut.R :=
  t.1 ([], x0, x1, x2, (0 : Int), (0 : Int), ())
def spec_l1Cut.b0 (m : Nat) (t : spec_l1Cut.Tab) (a0 : List ByteArray) (a1 : ByteArray) (a2 : Int) (a3 : Int) (a4 : Int) (a5 : Int) : Option spec_l1Cut.R :=
  cond (decide (a5 < (sLen a1))) (cond (decide ((lLen a0) < a3)) (cond (decide ((0 : Int) ≤ a5)) (cond (decide (a5 < sLen a1)) (cond ((byteAt a1 a5) == a2) (cond (decide ((0 : Int) ≤ a5)) (cond (decide (a5 ≤ (ByteArray.size a1 : Int))) (cond (decide ((0 : Int) ≤ a4)) (cond (decide (a4 ≤ a5)) (cond (decide (List.length a0 + List.length ([(cutS a1 (Int.toNat a4) (Int.toNat a5))] : List ByteArray) ≤ apCap)) (lett ((List.append a0 ([(cutS a1 (Int.toNat a4) (Int.toNat a5))] : List ByteArray)) : List ByteArray) fun v1 => t.1 (v1, a1, a2, a3, (w64 (a5 + (1 : Int))), (w64 (a5 + (1 : Int))), ())) none) none) none) none) none) (t.1 (a0, a1, a2, a3, a4, (w64 (a5 + (1 : Int))), ()))) none) none) (cond (decide ((0 : Int) ≤ a4)) (cond (decide (a4 ≤ (ByteArray.size a1 : Int))) (lett ((cutS a1 (Int.toNat a4) (ByteArray.size a1)) : ByteArray) fun v2 => cond (decide (List.length a0 + List.length ([v2] : List ByteArray) ≤ apCap)) (some ((List.append a0 ([v2] : List ByteArray)), ())) none) none) none)) (cond (decide ((0 : Int) ≤ a4)) (cond (decide (a4 ≤ (ByteArray.size a1 : Int))) (lett ((cutS a1 (Int.toNat a4) (ByteArray.size a1)) : ByteArray) fun v3 => cond (decide (List.length a0 + List.length ([v3] : List ByteArray) ≤ apCap)) (some ((List.append a0 ([v3] : List ByteArray)), ())) none) none) none)
def spec_l1Cut.tab (m : Nat) : Nat → spec_l1Cut.Tab
  | 0 => (fun _ => none, ())
  | k + 1 => (fun x => spec_l1Cut.b0 m (spec_l1Cut.tab m k) x.1 x.2.1 x.2.2.1 x.2.2.2.1 x.2.2.2.2.1 x.2.2.2.2.2.1, ())
def spec_l1Cut (m : Nat) (x : Den [.str, .int .u8, .int .i64]) : Option spec_l1Cut.R := spec_l1Cut.start m (spec_l1Cut.tab m m) x.1 x.2.1 x.2.2.1
def spec_l1Cut.cons (m : Nat) : List (Nat × Contract) := []
def spec_l1Cut.cuts (m : Nat) : List (CutF (Den spec_l1Cut.sig.us)) := [⟨[false, true, false, true, true, true], 122, ⟨[.row true (.str)], [(0, .l (.dat (.str))), (1, .l (.dat (.int .u8))), (2, .l (.dat (.int .i64))), (7, .l (.sl 0)), (8, .l (.dat (.int .i64))), (9, .l (.dat (.int .i64)))]⟩, [.list (.str), .str, .int .u8, .int .i64, .int .i64, .int .i64], fun k => (spec_l1Cut.tab m k).1⟩]
theorem spec_l1Cut.eq0 (m k : Nat) (x : Den [.list (.str), .str, .int .u8, .int .i64, .int .i64, .int .i64]) : (spec_l1Cut.tab m (k + 1)).1 x = runF ⟨lookΓ Γl, lookC (spec_l1Cut.cons m), false⟩ Tryd.f48 spec_l1Cut.sig (spec_l1Cut.cuts m) k [false, true, false, true, true, true] ⟨[.row true (.str)], [(0, .l (.dat (.str))), (1, .l (.dat (.int .u8))), (2, .l (.dat (.int .i64))), (7, .l (.sl 0)), (8, .l (.dat (.int .i64))), (9, .l (.dat (.int .i64)))]⟩ [.list (.str), .str, .int .u8, .int .i64, .int .i64, .int .i64] x := by kernel_rfl
theorem spec_l1Cut.eq (m : Nat) (x : Den spec_l1Cut.sig.ts) : spec_l1Cut m x = startF ⟨lookΓ Γl, lookC (spec_l1Cut.cons m), false⟩ Tryd.f48 spec_l1Cut.sig (spec_l1Cut.cuts m) m x := by kernel_rfl
theorem spec_l1Cut.ok (m : Nat) : Meets GL Tryd.prog 48 spec_l1Cut.sig (spec_l1Cut m) :=
  fn_is (cx_is tyOk mixed (l := spec_l1Cut.cons m) trivial) (fn := Tryd.f48) Tryd.func48 (by kernel_rfl) (cl := spec_l1Cut.cuts m) ⟨⟨by kernel_rfl, fun _ => rfl, fun k x => spec_l1Cut.eq0 m k x⟩, trivial⟩ (k := m) (spec_l1Cut.eq m)

/-! ### loop.example/stemma/spec.l1In: function 100 -/
abbrev spec_l1In.R : Type := Den [.bool]
def spec_l1In.sig : Sig := ⟨3, ⟨[], [(0, .l (.dat (.int .i64))), (1, .l (.dat (.int .i64))), (2, .l (.dat (.int .i64)))]⟩, [.int .i64, .int .i64, .int .i64], ⟨[], [(0, .l (.dat (.bool)))]⟩, [.bool]⟩
abbrev spec_l1In.Tab : Type := Unit
def spec_l1In.start (m : Nat) (t : spec_l1In.Tab) (x0 : Int) (x1 : Int) (x2 : Int) : Option spec_l1In.R :=
  cond (decide (x0 ≥ x1)) (some ((decide (x0 ≤ x2)), ())) (some (false, ()))
def spec_l1In.tab (m : Nat) : Nat → spec_l1In.Tab
  | 0 => (())
  | k + 1 => (())
def spec_l1In (m : Nat) (x : Den [.int .i64, .int .i64, .int .i64]) : Option spec_l1In.R := spec_l1In.start m (spec_l1In.tab m m) x.1 x.2.1 x.2.2.1
def spec_l1In.cons (m : Nat) : List (Nat × Contract) := []
def spec_l1In.cuts (m : Nat) : List (CutF (Den spec_l1In.sig.us)) := []
theorem spec_l1In.eq (m : Nat) (x : Den spec_l1In.sig.ts) : spec_l1In m x = startF ⟨lookΓ Γl, lookC (spec_l1In.cons m), false⟩ Tryd.f100 spec_l1In.sig (spec_l1In.cuts m) m x := by kernel_rfl
theorem spec_l1In.ok (m : Nat) : Meets GL Tryd.prog 100 spec_l1In.sig (spec_l1In m) :=
  fn_is (cx_is tyOk mixed (l := spec_l1In.cons m) trivial) (fn := Tryd.f100) Tryd.func100 (by kernel_rfl) (cl := spec_l1In.cuts m) trivial (k := m) (spec_l1In.eq m)

/-! ### loop.example/stemma/spec.l4Name: function 89 -/
abbrev spec_l4Name.R : Type := Den [.bool]
def spec_l4Name.sig : Sig := ⟨1, ⟨[], [(0, .l (.dat (.str)))]⟩, [.str], ⟨[], [(0, .l (.dat (.bool)))]⟩, [.bool]⟩
abbrev spec_l4Name.Tab : Type := (Den [.str, .int .i64] → Option spec_l4Name.R) × (Den [.str, .int .i64, .bool] → Option spec_l4Name.R) × Unit
def spec_l4Name.start (m : Nat) (t : spec_l4Name.Tab) (x0 : ByteArray) : Option spec_l4Name.R :=
  t.1 (x0, (0 : Int), ())
def spec_l4Name.b0 (m : Nat) (t : spec_l4Name.Tab) (a0 : ByteArray) (a1 : Int) : Option spec_l4Name.R :=
  cond (decide (a1 < (sLen a0))) (cond (decide ((0 : Int) ≤ a1)) (cond (decide (a1 < sLen a0)) (cond (decide ((byteAt a0 a1) < (97 : Int))) (cond (decide ((0 : Int) ≤ a1)) (cond (decide (a1 < sLen a0)) (cond (decide ((byteAt a0 a1) < (48 : Int))) (t.2.1 (a0, a1, true, ())) (cond (decide ((0 : Int) ≤ a1)) (cond (decide (a1 < sLen a0)) (t.2.1 (a0, a1, (decide ((byteAt a0 a1) > (57 : Int))), ())) none) none)) none) none) (cond (decide ((0 : Int) ≤ a1)) (cond (decide (a1 < sLen a0)) (cond (decide ((byteAt a0 a1) > (122 : Int))) (cond (decide ((0 : Int) ≤ a1)) (cond (decide (a1 < sLen a0)) (cond (decide ((byteAt a0 a1) < (48 : Int))) (t.2.1 (a0, a1, true, ())) (cond (decide ((0 : Int) ≤ a1)) (cond (decide (a1 < sLen a0)) (t.2.1 (a0, a1, (decide ((byteAt a0 a1) > (57 : Int))), ())) none) none)) none) none) (t.2.1 (a0, a1, false, ()))) none) none)) none) none) (Option.bind (spec_l1In m ((sLen a0), (1 : Int), (6 : Int), ())) fun r1 => some (r1.1, ()))
def spec_l4Name.b1 (m : Nat) (t : spec_l4Name.Tab) (a0 : ByteArray) (a1 : Int) (a2 : Bool) : Option spec_l4Name.R :=
  cond a2 (some (false, ())) (t.1 (a0, (w64 (a1 + (1 : Int))), ()))
def spec_l4Name.tab (m : Nat) : Nat → spec_l4Name.Tab
  | 0 => (fun _ => none, fun _ => none, ())
  | k + 1 => (fun x => spec_l4Name.b0 m (spec_l4Name.tab m k) x.1 x.2.1, fun x => spec_l4Name.b1 m (spec_l4Name.tab m k) x.1 x.2.1 x.2.2.1, ())
def spec_l4Name (m : Nat) (x : Den [.str]) : Option spec_l4Name.R := spec_l4Name.start m (spec_l4Name.tab m m) x.1
def spec_l4Name.cons (m : Nat) : List (Nat × Contract) := [(100, ⟨spec_l1In.sig, spec_l1In m⟩)]
def spec_l4Name.cuts (m : Nat) : List (CutF (Den spec_l4Name.sig.us)) := [⟨[false, true, false, true], 26, ⟨[], [(0, .l (.dat (.str))), (3, .l (.dat (.int .i64)))]⟩, [.str, .int .i64], fun k => (spec_l4Name.tab m k).1⟩,
  ⟨[true, false, false, true, false, false, true, false, true], 841, ⟨[], [(0, .l (.dat (.str))), (3, .l (.dat (.int .i64))), (31, .l (.dat (.bool)))]⟩, [.str, .int .i64, .bool], fun k => (spec_l4Name.tab m k).2.1⟩]
theorem spec_l4Name.eq0 (m k : Nat) (x : Den [.str, .int .i64]) : (spec_l4Name.tab m (k + 1)).1 x = runF ⟨lookΓ Γl, lookC (spec_l4Name.cons m), false⟩ Tryd.f89 spec_l4Name.sig (spec_l4Name.cuts m) k [false, true, false, true] ⟨[], [(0, .l (.dat (.str))), (3, .l (.dat (.int .i64)))]⟩ [.str, .int .i64] x := by kernel_rfl
theorem spec_l4Name.eq1 (m k : Nat) (x : Den [.str, .int .i64, .bool]) : (spec_l4Name.tab m (k + 1)).2.1 x = runF ⟨lookΓ Γl, lookC (spec_l4Name.cons m), false⟩ Tryd.f89 spec_l4Name.sig (spec_l4Name.cuts m) k [true, false, false, true, false, false, true, false, true] ⟨[], [(0, .l (.dat (.str))), (3, .l (.dat (.int .i64))), (31, .l (.dat (.bool)))]⟩ [.str, .int .i64, .bool] x := by kernel_rfl
theorem spec_l4Name.eq (m : Nat) (x : Den spec_l4Name.sig.ts) : spec_l4Name m x = startF ⟨lookΓ Γl, lookC (spec_l4Name.cons m), false⟩ Tryd.f89 spec_l4Name.sig (spec_l4Name.cuts m) m x := by kernel_rfl
theorem spec_l4Name.ok (m : Nat) : Meets GL Tryd.prog 89 spec_l4Name.sig (spec_l4Name m) :=
  fn_is (cx_is tyOk mixed (l := spec_l4Name.cons m) ⟨spec_l1In.ok m, trivial⟩) (fn := Tryd.f89) Tryd.func89 (by kernel_rfl) (cl := spec_l4Name.cuts m) ⟨⟨by kernel_rfl, fun _ => rfl, fun k x => spec_l4Name.eq0 m k x⟩, ⟨by kernel_rfl, fun _ => rfl, fun k x => spec_l4Name.eq1 m k x⟩, trivial⟩ (k := m) (spec_l4Name.eq m)

/-! ### loop.example/stemma/spec.l4Path: function 67 -/
abbrev spec_l4Path.R : Type := Den [.bool]
def spec_l4Path.sig : Sig := ⟨1, ⟨[], [(0, .l (.dat (.str)))]⟩, [.str], ⟨[], [(0, .l (.dat (.bool)))]⟩, [.bool]⟩
abbrev spec_l4Path.Tab : Type := (Den [.list (.str), .int .i64] → Option spec_l4Path.R) × Unit
def spec_l4Path.start (m : Nat) (t : spec_l4Path.Tab) (x0 : ByteArray) : Option spec_l4Path.R :=
  Option.bind (spec_l1Cut m (x0, (47 : Int), (3 : Int), ())) fun r1 => t.1 (r1.1, (0 : Int), ())
def spec_l4Path.b0 (m : Nat) (t : spec_l4Path.Tab) (a0 : List ByteArray) (a1 : Int) : Option spec_l4Path.R :=
  cond (decide (a1 < (lLen a0))) (cond (decide ((0 : Int) ≤ a1)) (cond (decide (a1 < lLen a0)) (Option.bind (spec_l4Name m ((getL a0 a1 ByteArray.empty), ())) fun r1 => cond (!r1.1) (some (false, ())) (t.1 (a0, (w64 (a1 + (1 : Int))), ()))) none) none) (some ((decide ((lLen a0) ≤ (3 : Int))), ()))
def spec_l4Path.tab (m : Nat) : Nat → spec_l4Path.Tab
  | 0 => (fun _ => none, ())
  | k + 1 => (fun x => spec_l4Path.b0 m (spec_l4Path.tab m k) x.1 x.2.1, ())
def spec_l4Path (m : Nat) (x : Den [.str]) : Option spec_l4Path.R := spec_l4Path.start m (spec_l4Path.tab m m) x.1
def spec_l4Path.cons (m : Nat) : List (Nat × Contract) := [(48, ⟨spec_l1Cut.sig, spec_l1Cut m⟩), (89, ⟨spec_l4Name.sig, spec_l4Name m⟩)]
def spec_l4Path.cuts (m : Nat) : List (CutF (Den spec_l4Path.sig.us)) := [⟨[false, true, false, true, true], 58, ⟨[], [(3, .l (.dat (.list (.str)))), (4, .l (.dat (.int .i64)))]⟩, [.list (.str), .int .i64], fun k => (spec_l4Path.tab m k).1⟩]
theorem spec_l4Path.eq0 (m k : Nat) (x : Den [.list (.str), .int .i64]) : (spec_l4Path.tab m (k + 1)).1 x = runF ⟨lookΓ Γl, lookC (spec_l4Path.cons m), false⟩ Tryd.f67 spec_l4Path.sig (spec_l4Path.cuts m) k [false, true, false, true, true] ⟨[], [(3, .l (.dat (.list (.str)))), (4, .l (.dat (.int .i64)))]⟩ [.list (.str), .int .i64] x := by kernel_rfl
theorem spec_l4Path.eq (m : Nat) (x : Den spec_l4Path.sig.ts) : spec_l4Path m x = startF ⟨lookΓ Γl, lookC (spec_l4Path.cons m), false⟩ Tryd.f67 spec_l4Path.sig (spec_l4Path.cuts m) m x := by kernel_rfl
theorem spec_l4Path.ok (m : Nat) : Meets GL Tryd.prog 67 spec_l4Path.sig (spec_l4Path m) :=
  fn_is (cx_is tyOk mixed (l := spec_l4Path.cons m) ⟨spec_l1Cut.ok m, spec_l4Name.ok m, trivial⟩) (fn := Tryd.f67) Tryd.func67 (by kernel_rfl) (cl := spec_l4Path.cuts m) ⟨⟨by kernel_rfl, fun _ => rfl, fun k x => spec_l4Path.eq0 m k x⟩, trivial⟩ (k := m) (spec_l4Path.eq m)

/-! ### loop.example/stemma/spec.l1Line: function 90 -/
abbrev spec_l1Line.R : Type := Den [.bool]
def spec_l1Line.sig : Sig := ⟨1, ⟨[], [(0, .l (.dat (.str)))]⟩, [.str], ⟨[], [(0, .l (.dat (.bool)))]⟩, [.bool]⟩
abbrev spec_l1Line.Tab : Type := (Den [.str, .int .i64] → Option spec_l1Line.R) × Unit
def spec_l1Line.start (m : Nat) (t : spec_l1Line.Tab) (x0 : ByteArray) : Option spec_l1Line.R :=
  t.1 (x0, (0 : Int), ())
def spec_l1Line.b0 (m : Nat) (t : spec_l1Line.Tab) (a0 : ByteArray) (a1 : Int) : Option spec_l1Line.R :=
  cond (decide (a1 < (sLen a0))) (cond (decide ((0 : Int) ≤ a1)) (cond (decide (a1 < sLen a0)) (cond (decide ((byteAt a0 a1) < (32 : Int))) (some (false, ())) (cond (decide ((0 : Int) ≤ a1)) (cond (decide (a1 < sLen a0)) (cond (decide ((byteAt a0 a1) > (126 : Int))) (some (false, ())) (t.1 (a0, (w64 (a1 + (1 : Int))), ()))) none) none)) none) none) (some ((decide ((sLen a0) ≤ (12 : Int))), ()))
def spec_l1Line.tab (m : Nat) : Nat → spec_l1Line.Tab
  | 0 => (fun _ => none, ())
  | k + 1 => (fun x => spec_l1Line.b0 m (spec_l1Line.tab m k) x.1 x.2.1, ())
def spec_l1Line (m : Nat) (x : Den [.str]) : Option spec_l1Line.R := spec_l1Line.start m (spec_l1Line.tab m m) x.1
def spec_l1Line.cons (m : Nat) : List (Nat × Contract) := []
def spec_l1Line.cuts (m : Nat) : List (CutF (Den spec_l1Line.sig.us)) := [⟨[false, true, false, true], 26, ⟨[], [(0, .l (.dat (.str))), (3, .l (.dat (.int .i64)))]⟩, [.str, .int .i64], fun k => (spec_l1Line.tab m k).1⟩]
theorem spec_l1Line.eq0 (m k : Nat) (x : Den [.str, .int .i64]) : (spec_l1Line.tab m (k + 1)).1 x = runF ⟨lookΓ Γl, lookC (spec_l1Line.cons m), false⟩ Tryd.f90 spec_l1Line.sig (spec_l1Line.cuts m) k [false, true, false, true] ⟨[], [(0, .l (.dat (.str))), (3, .l (.dat (.int .i64)))]⟩ [.str, .int .i64] x := by kernel_rfl
theorem spec_l1Line.eq (m : Nat) (x : Den spec_l1Line.sig.ts) : spec_l1Line m x = startF ⟨lookΓ Γl, lookC (spec_l1Line.cons m), false⟩ Tryd.f90 spec_l1Line.sig (spec_l1Line.cuts m) m x := by kernel_rfl
theorem spec_l1Line.ok (m : Nat) : Meets GL Tryd.prog 90 spec_l1Line.sig (spec_l1Line m) :=
  fn_is (cx_is tyOk mixed (l := spec_l1Line.cons m) trivial) (fn := Tryd.f90) Tryd.func90 (by kernel_rfl) (cl := spec_l1Line.cuts m) ⟨⟨by kernel_rfl, fun _ => rfl, fun k x => spec_l1Line.eq0 m k x⟩, trivial⟩ (k := m) (spec_l1Line.eq m)

/-! ### loop.example/stemma/spec.l1Ok: function 68 -/
abbrev spec_l1Ok.R : Type := Den [.bool]
def spec_l1Ok.sig : Sig := ⟨1, ⟨[], [(0, .l (.dat (.list (.str))))]⟩, [.list (.str)], ⟨[], [(0, .l (.dat (.bool)))]⟩, [.bool]⟩
abbrev spec_l1Ok.Tab : Type := (Den [.list (.str), .int .i64] → Option spec_l1Ok.R) × Unit
def spec_l1Ok.start (m : Nat) (t : spec_l1Ok.Tab) (x0 : List ByteArray) : Option spec_l1Ok.R :=
  t.1 (x0, (0 : Int), ())
def spec_l1Ok.b0 (m : Nat) (t : spec_l1Ok.Tab) (a0 : List ByteArray) (a1 : Int) : Option spec_l1Ok.R :=
  cond (decide (a1 < (lLen a0))) (cond (decide ((0 : Int) ≤ a1)) (cond (decide (a1 < lLen a0)) (Option.bind (spec_l1Line m ((getL a0 a1 ByteArray.empty), ())) fun r1 => cond (!r1.1) (some (false, ())) (t.1 (a0, (w64 (a1 + (1 : Int))), ()))) none) none) (some ((decide ((lLen a0) ≤ (10 : Int))), ()))
def spec_l1Ok.tab (m : Nat) : Nat → spec_l1Ok.Tab
  | 0 => (fun _ => none, ())
  | k + 1 => (fun x => spec_l1Ok.b0 m (spec_l1Ok.tab m k) x.1 x.2.1, ())
def spec_l1Ok (m : Nat) (x : Den [.list (.str)]) : Option spec_l1Ok.R := spec_l1Ok.start m (spec_l1Ok.tab m m) x.1
def spec_l1Ok.cons (m : Nat) : List (Nat × Contract) := [(90, ⟨spec_l1Line.sig, spec_l1Line m⟩)]
def spec_l1Ok.cuts (m : Nat) : List (CutF (Den spec_l1Ok.sig.us)) := [⟨[false, true, false, true], 26, ⟨[], [(0, .l (.dat (.list (.str)))), (3, .l (.dat (.int .i64)))]⟩, [.list (.str), .int .i64], fun k => (spec_l1Ok.tab m k).1⟩]
theorem spec_l1Ok.eq0 (m k : Nat) (x : Den [.list (.str), .int .i64]) : (spec_l1Ok.tab m (k + 1)).1 x = runF ⟨lookΓ Γl, lookC (spec_l1Ok.cons m), false⟩ Tryd.f68 spec_l1Ok.sig (spec_l1Ok.cuts m) k [false, true, false, true] ⟨[], [(0, .l (.dat (.list (.str)))), (3, .l (.dat (.int .i64)))]⟩ [.list (.str), .int .i64] x := by kernel_rfl
theorem spec_l1Ok.eq (m : Nat) (x : Den spec_l1Ok.sig.ts) : spec_l1Ok m x = startF ⟨lookΓ Γl, lookC (spec_l1Ok.cons m), false⟩ Tryd.f68 spec_l1Ok.sig (spec_l1Ok.cuts m) m x := by kernel_rfl
theorem spec_l1Ok.ok (m : Nat) : Meets GL Tryd.prog 68 spec_l1Ok.sig (spec_l1Ok m) :=
  fn_is (cx_is tyOk mixed (l := spec_l1Ok.cons m) ⟨spec_l1Line.ok m, trivial⟩) (fn := Tryd.f68) Tryd.func68 (by kernel_rfl) (cl := spec_l1Ok.cuts m) ⟨⟨by kernel_rfl, fun _ => rfl, fun k x => spec_l1Ok.eq0 m k x⟩, trivial⟩ (k := m) (spec_l1Ok.eq m)

/-! ### loop.example/stemma/spec.l4In: function 69 -/
abbrev spec_l4In.R : Type := Den [.bool]
def spec_l4In.sig : Sig := ⟨2, ⟨[], [(0, .l (.dat (.str))), (1, .l (.dat (.str)))]⟩, [.str, .str], ⟨[], [(0, .l (.dat (.bool)))]⟩, [.bool]⟩
abbrev spec_l4In.Tab : Type := Unit
def spec_l4In.start (m : Nat) (t : spec_l4In.Tab) (x0 : ByteArray) (x1 : ByteArray) : Option spec_l4In.R :=
  cond (decide ((sLen x1) > (sLen x0))) (cond (decide ((0 : Int) ≤ (sLen x0))) (cond (decide ((sLen x0) ≤ (ByteArray.size x1 : Int))) (lett ((sEq (cutS x1 0 (Int.toNat (sLen x0))) x0) : Bool) fun v1 => cond v1 (cond (decide ((0 : Int) ≤ (sLen x0))) (cond (decide ((sLen x0) < sLen x1)) (some (((byteAt x1 (sLen x0)) == (47 : Int)), ())) none) none) (some (false, ()))) none) none) (some (false, ()))
def spec_l4In.tab (m : Nat) : Nat → spec_l4In.Tab
  | 0 => (())
  | k + 1 => (())
def spec_l4In (m : Nat) (x : Den [.str, .str]) : Option spec_l4In.R := spec_l4In.start m (spec_l4In.tab m m) x.1 x.2.1
def spec_l4In.cons (m : Nat) : List (Nat × Contract) := []
def spec_l4In.cuts (m : Nat) : List (CutF (Den spec_l4In.sig.us)) := []
theorem spec_l4In.eq (m : Nat) (x : Den spec_l4In.sig.ts) : spec_l4In m x = startF ⟨lookΓ Γl, lookC (spec_l4In.cons m), false⟩ Tryd.f69 spec_l4In.sig (spec_l4In.cuts m) m x := by kernel_rfl
theorem spec_l4In.ok (m : Nat) : Meets GL Tryd.prog 69 spec_l4In.sig (spec_l4In m) :=
  fn_is (cx_is tyOk mixed (l := spec_l4In.cons m) trivial) (fn := Tryd.f69) Tryd.func69 (by kernel_rfl) (cl := spec_l4In.cuts m) trivial (k := m) (spec_l4In.eq m)

/-! ### loop.example/stemma/spec.l4Ok: function 32 -/
abbrev spec_l4Ok.R : Type := Den [.bool]
def spec_l4Ok.sig : Sig := ⟨1, ⟨[], [(0, .l (.dat (.list (.pair (.str) (.list (.str))))))]⟩, [.list (.pair (.str) (.list (.str)))], ⟨[], [(0, .l (.dat (.bool)))]⟩, [.bool]⟩
abbrev spec_l4Ok.Tab : Type := (Den [.list (.pair (.str) (.list (.str))), .int .i64] → Option spec_l4Ok.R) × (Den [.list (.pair (.str) (.list (.str))), .int .i64, .int .i64] → Option spec_l4Ok.R) × (Den [.list (.pair (.str) (.list (.str))), .int .i64, .bool] → Option spec_l4Ok.R) × (Den [.list (.pair (.str) (.list (.str))), .int .i64] → Option spec_l4Ok.R) × Unit
def spec_l4Ok.start (m : Nat) (t : spec_l4Ok.Tab) (x0 : List (ByteArray × List ByteArray)) : Option spec_l4Ok.R :=
  t.1 (x0, (0 : Int), ())
def spec_l4Ok.b0 (m : Nat) (t : spec_l4Ok.Tab) (a0 : List (ByteArray × List ByteArray)) (a1 : Int) : Option spec_l4Ok.R :=
  cond (decide (a1 < (lLen a0))) (cond (decide ((0 : Int) ≤ a1)) (cond (decide (a1 < lLen a0)) (lett ((getL a0 a1 (ByteArray.empty, ([] : List ByteArray))) : ByteArray × List ByteArray) fun v1 => Option.bind (spec_l4Path m (v1.1, ())) fun r2 => cond (!r2.1) (t.2.2.1 (a0, a1, true, ())) (cond (decide ((0 : Int) ≤ a1)) (cond (decide (a1 < lLen a0)) (lett ((getL a0 a1 (ByteArray.empty, ([] : List ByteArray))) : ByteArray × List ByteArray) fun v3 => Option.bind (spec_l1Ok m (v3.2, ())) fun r4 => cond (!r4.1) (t.2.2.1 (a0, a1, true, ())) (cond (decide (a1 > (0 : Int))) (cond (decide ((0 : Int) ≤ a1)) (cond (decide (a1 < lLen a0)) (lett ((getL a0 a1 (ByteArray.empty, ([] : List ByteArray))) : ByteArray × List ByteArray) fun v5 => cond (decide ((0 : Int) ≤ (w64 (a1 - (1 : Int))))) (cond (decide ((w64 (a1 - (1 : Int))) < lLen a0)) (lett ((getL a0 (w64 (a1 - (1 : Int))) (ByteArray.empty, ([] : List ByteArray))) : ByteArray × List ByteArray) fun v6 => t.2.2.1 (a0, a1, (sLt v5.1 v6.1 || sEq v5.1 v6.1), ())) none) none) none) none) (t.2.2.1 (a0, a1, false, ())))) none) none)) none) none) (some ((decide ((lLen a0) ≤ (8 : Int))), ()))
def spec_l4Ok.b1 (m : Nat) (t : spec_l4Ok.Tab) (a0 : List (ByteArray × List ByteArray)) (a1 : Int) (a2 : Int) : Option spec_l4Ok.R :=
  cond (decide (a2 < (lLen a0))) (cond (decide ((0 : Int) ≤ a1)) (cond (decide (a1 < lLen a0)) (lett ((getL a0 a1 (ByteArray.empty, ([] : List ByteArray))) : ByteArray × List ByteArray) fun v1 => cond (decide ((0 : Int) ≤ a2)) (cond (decide (a2 < lLen a0)) (lett ((getL a0 a2 (ByteArray.empty, ([] : List ByteArray))) : ByteArray × List ByteArray) fun v2 => Option.bind (spec_l4In m (v1.1, v2.1, ())) fun r3 => cond r3.1 (some (false, ())) (t.2.1 (a0, a1, (w64 (a2 + (1 : Int))), ()))) none) none) none) none) (t.1 (a0, (w64 (a1 + (1 : Int))), ()))
def spec_l4Ok.b2 (m : Nat) (t : spec_l4Ok.Tab) (a0 : List (ByteArray × List ByteArray)) (a1 : Int) (a2 : Bool) : Option spec_l4Ok.R :=
  cond a2 (some (false, ())) (t.2.2.2.1 (a0, a1, ()))
def spec_l4Ok.b3 (m : Nat) (t : spec_l4Ok.Tab) (a0 : List (ByteArray × List ByteArray)) (a1 : Int) : Option spec_l4Ok.R :=
  t.2.1 (a0, a1, (0 : Int), ())
def spec_l4Ok.tab (m : Nat) : Nat → spec_l4Ok.Tab
  | 0 => (fun _ => none, fun _ => none, fun _ => none, fun _ => none, ())
  | k + 1 => (fun x => spec_l4Ok.b0 m (spec_l4Ok.tab m k) x.1 x.2.1, fun x => spec_l4Ok.b1 m (spec_l4Ok.tab m k) x.1 x.2.1 x.2.2.1, fun x => spec_l4Ok.b2 m (spec_l4Ok.tab m k) x.1 x.2.1 x.2.2.1, fun x => spec_l4Ok.b3 m (spec_l4Ok.tab m k) x.1 x.2.1, ())
def spec_l4Ok (m : Nat) (x : Den [.list (.pair (.str) (.list (.str)))]) : Option spec_l4Ok.R := spec_l4Ok.start m (spec_l4Ok.tab m m) x.1
def spec_l4Ok.cons (m : Nat) : List (Nat × Contract) := [(67, ⟨spec_l4Path.sig, spec_l4Path m⟩), (68, ⟨spec_l1Ok.sig, spec_l1Ok m⟩), (69, ⟨spec_l4In.sig, spec_l4In m⟩)]
def spec_l4Ok.cuts (m : Nat) : List (CutF (Den spec_l4Ok.sig.us)) := [⟨[false, true, false, true], 26, ⟨[], [(0, .l (.dat (.list (.pair (.str) (.list (.str)))))), (3, .l (.dat (.int .i64)))]⟩, [.list (.pair (.str) (.list (.str))), .int .i64], fun k => (spec_l4Ok.tab m k).1⟩,
  ⟨[false, true, true, false, false, true, false, false, true, false, true], 3366, ⟨[], [(0, .l (.dat (.list (.pair (.str) (.list (.str)))))), (3, .l (.dat (.int .i64))), (4, .l (.dat (.int .i64)))]⟩, [.list (.pair (.str) (.list (.str))), .int .i64, .int .i64], fun k => (spec_l4Ok.tab m k).2.1⟩,
  ⟨[true, false, false, false, true, false, false, true, false, true], 1681, ⟨[], [(0, .l (.dat (.list (.pair (.str) (.list (.str)))))), (3, .l (.dat (.int .i64))), (44, .l (.dat (.bool)))]⟩, [.list (.pair (.str) (.list (.str))), .int .i64, .bool], fun k => (spec_l4Ok.tab m k).2.2.1⟩,
  ⟨[true, false, false, true, false, false, true, false, true], 841, ⟨[], [(0, .l (.dat (.list (.pair (.str) (.list (.str)))))), (3, .l (.dat (.int .i64)))]⟩, [.list (.pair (.str) (.list (.str))), .int .i64], fun k => (spec_l4Ok.tab m k).2.2.2.1⟩]
theorem spec_l4Ok.eq0 (m k : Nat) (x : Den [.list (.pair (.str) (.list (.str))), .int .i64]) : (spec_l4Ok.tab m (k + 1)).1 x = runF ⟨lookΓ Γl, lookC (spec_l4Ok.cons m), false⟩ Tryd.f32 spec_l4Ok.sig (spec_l4Ok.cuts m) k [false, true, false, true] ⟨[], [(0, .l (.dat (.list (.pair (.str) (.list (.str)))))), (3, .l (.dat (.int .i64)))]⟩ [.list (.pair (.str) (.list (.str))), .int .i64] x := by kernel_rfl
theorem spec_l4Ok.eq1 (m k : Nat) (x : Den [.list (.pair (.str) (.list (.str))), .int .i64, .int .i64]) : (spec_l4Ok.tab m (k + 1)).2.1 x = runF ⟨lookΓ Γl, lookC (spec_l4Ok.cons m), false⟩ Tryd.f32 spec_l4Ok.sig (spec_l4Ok.cuts m) k [false, true, true, false, false, true, false, false, true, false, true] ⟨[], [(0, .l (.dat (.list (.pair (.str) (.list (.str)))))), (3, .l (.dat (.int .i64))), (4, .l (.dat (.int .i64)))]⟩ [.list (.pair (.str) (.list (.str))), .int .i64, .int .i64] x := by kernel_rfl
theorem spec_l4Ok.eq2 (m k : Nat) (x : Den [.list (.pair (.str) (.list (.str))), .int .i64, .bool]) : (spec_l4Ok.tab m (k + 1)).2.2.1 x = runF ⟨lookΓ Γl, lookC (spec_l4Ok.cons m), false⟩ Tryd.f32 spec_l4Ok.sig (spec_l4Ok.cuts m) k [true, false, false, false, true, false, false, true, false, true] ⟨[], [(0, .l (.dat (.list (.pair (.str) (.list (.str)))))), (3, .l (.dat (.int .i64))), (44, .l (.dat (.bool)))]⟩ [.list (.pair (.str) (.list (.str))), .int .i64, .bool] x := by kernel_rfl
theorem spec_l4Ok.eq3 (m k : Nat) (x : Den [.list (.pair (.str) (.list (.str))), .int .i64]) : (spec_l4Ok.tab m (k + 1)).2.2.2.1 x = runF ⟨lookΓ Γl, lookC (spec_l4Ok.cons m), false⟩ Tryd.f32 spec_l4Ok.sig (spec_l4Ok.cuts m) k [true, false, false, true, false, false, true, false, true] ⟨[], [(0, .l (.dat (.list (.pair (.str) (.list (.str)))))), (3, .l (.dat (.int .i64)))]⟩ [.list (.pair (.str) (.list (.str))), .int .i64] x := by kernel_rfl
theorem spec_l4Ok.eq (m : Nat) (x : Den spec_l4Ok.sig.ts) : spec_l4Ok m x = startF ⟨lookΓ Γl, lookC (spec_l4Ok.cons m), false⟩ Tryd.f32 spec_l4Ok.sig (spec_l4Ok.cuts m) m x := by kernel_rfl
theorem spec_l4Ok.ok (m : Nat) : Meets GL Tryd.prog 32 spec_l4Ok.sig (spec_l4Ok m) :=
  fn_is (cx_is tyOk mixed (l := spec_l4Ok.cons m) ⟨spec_l4Path.ok m, spec_l1Ok.ok m, spec_l4In.ok m, trivial⟩) (fn := Tryd.f32) Tryd.func32 (by kernel_rfl) (cl := spec_l4Ok.cuts m) ⟨⟨by kernel_rfl, fun _ => rfl, fun k x => spec_l4Ok.eq0 m k x⟩, ⟨by kernel_rfl, fun _ => rfl, fun k x => spec_l4Ok.eq1 m k x⟩, ⟨by kernel_rfl, fun _ => rfl, fun k x => spec_l4Ok.eq2 m k x⟩, ⟨by kernel_rfl, fun _ => rfl, fun k x => spec_l4Ok.eq3 m k x⟩, trivial⟩ (k := m) (spec_l4Ok.eq m)

/-! ### loop.example/stemma/spec.l4Copy: function 34 -/
abbrev spec_l4Copy.R : Type := Den [.list (.pair (.str) (.list (.str)))]
def spec_l4Copy.sig : Sig := ⟨1, ⟨[], [(0, .l (.dat (.list (.pair (.str) (.list (.str))))))]⟩, [.list (.pair (.str) (.list (.str)))], ⟨[.row true (.pair (.str) (.list (.str)))], [(0, .l (.sl 0))]⟩, [.list (.pair (.str) (.list (.str)))]⟩
abbrev spec_l4Copy.Tab : Type := (Den [.list (.pair (.str) (.list (.str))), .list (.pair (.str) (.list (.str))), .int .i64] → Option spec_l4Copy.R) × Unit
def spec_l4Copy.start (m : Nat) (t : spec_l4Copy.Tab) (x0 : List (ByteArray × List ByteArray)) : Option spec_l4Copy.R :=
  t.1 ([], x0, (0 : Int), ())
def spec_l4Copy.b0 (m : Nat) (t : spec_l4Copy.Tab) (a0 : List (ByteArray × List ByteArray)) (a1 : List (ByteArray × List ByteArray)) (a2 : Int) : Option spec_l4Copy.R :=
  cond (decide (a2 < (lLen a1))) (cond (decide ((0 : Int) ≤ a2)) (cond (decide (a2 < lLen a1)) (lett ((getL a1 a2 (ByteArray.empty, ([] : List ByteArray))) : ByteArray × List ByteArray) fun v1 => cond (decide ((0 : Int) ≤ a2)) (cond (decide (a2 < lLen a1)) (lett ((getL a1 a2 (ByteArray.empty, ([] : List ByteArray))) : ByteArray × List ByteArray) fun v2 => cond (decide (List.length ([] : List ByteArray) + List.length v2.2 ≤ apCap)) (cond (decide (List.length a0 + List.length ([(v1.1, (List.append ([] : List ByteArray) v2.2))] : List (ByteArray × List ByteArray)) ≤ apCap)) (lett ((List.append a0 ([(v1.1, (List.append ([] : List ByteArray) v2.2))] : List (ByteArray × List ByteArray))) : List (ByteArray × List ByteArray)) fun v3 => t.1 (v3, a1, (w64 (a2 + (1 : Int))), ())) none) none) none) none) none) none) (some (a0, ()))
def spec_l4Copy.tab (m : Nat) : Nat → spec_l4Copy.Tab
  | 0 => (fun _ => none, ())
  | k + 1 => (fun x => spec_l4Copy.b0 m (spec_l4Copy.tab m k) x.1 x.2.1 x.2.2.1, ())
def spec_l4Copy (m : Nat) (x : Den [.list (.pair (.str) (.list (.str)))]) : Option spec_l4Copy.R := spec_l4Copy.start m (spec_l4Copy.tab m m) x.1
def spec_l4Copy.cons (m : Nat) : List (Nat × Contract) := []
def spec_l4Copy.cuts (m : Nat) : List (CutF (Den spec_l4Copy.sig.us)) := [⟨[false, true, false, true, true], 58, ⟨[.row true (.pair (.str) (.list (.str)))], [(0, .l (.dat (.list (.pair (.str) (.list (.str)))))), (3, .l (.sl 0)), (4, .l (.dat (.int .i64)))]⟩, [.list (.pair (.str) (.list (.str))), .list (.pair (.str) (.list (.str))), .int .i64], fun k => (spec_l4Copy.tab m k).1⟩]
theorem spec_l4Copy.eq0 (m k : Nat) (x : Den [.list (.pair (.str) (.list (.str))), .list (.pair (.str) (.list (.str))), .int .i64]) : (spec_l4Copy.tab m (k + 1)).1 x = runF ⟨lookΓ Γl, lookC (spec_l4Copy.cons m), false⟩ Tryd.f34 spec_l4Copy.sig (spec_l4Copy.cuts m) k [false, true, false, true, true] ⟨[.row true (.pair (.str) (.list (.str)))], [(0, .l (.dat (.list (.pair (.str) (.list (.str)))))), (3, .l (.sl 0)), (4, .l (.dat (.int .i64)))]⟩ [.list (.pair (.str) (.list (.str))), .list (.pair (.str) (.list (.str))), .int .i64] x := by kernel_rfl
theorem spec_l4Copy.eq (m : Nat) (x : Den spec_l4Copy.sig.ts) : spec_l4Copy m x = startF ⟨lookΓ Γl, lookC (spec_l4Copy.cons m), false⟩ Tryd.f34 spec_l4Copy.sig (spec_l4Copy.cuts m) m x := by kernel_rfl
theorem spec_l4Copy.ok (m : Nat) : Meets GL Tryd.prog 34 spec_l4Copy.sig (spec_l4Copy m) :=
  fn_is (cx_is tyOk mixed (l := spec_l4Copy.cons m) trivial) (fn := Tryd.f34) Tryd.func34 (by kernel_rfl) (cl := spec_l4Copy.cuts m) ⟨⟨by kernel_rfl, fun _ => rfl, fun k x => spec_l4Copy.eq0 m k x⟩, trivial⟩ (k := m) (spec_l4Copy.eq m)

/-! ### loop.example/stemma/spec.l4Set: function 36 -/
abbrev spec_l4Set.R : Type := Den [.list (.pair (.str) (.list (.str)))]
def spec_l4Set.sig : Sig := ⟨2, ⟨[], [(0, .l (.dat (.list (.pair (.str) (.list (.str)))))), (1, .agg [.dat (.str), .dat (.list (.str))])]⟩, [.list (.pair (.str) (.list (.str))), .str, .list (.str)], ⟨[], [(0, .l (.dat (.list (.pair (.str) (.list (.str))))))]⟩, [.list (.pair (.str) (.list (.str)))]⟩
abbrev spec_l4Set.Tab : Type := (Den [.str, .list (.str), .list (.pair (.str) (.list (.str))), .list (.pair (.str) (.list (.str))), .bool, .int .i64] → Option spec_l4Set.R) × (Den [.str, .list (.str), .list (.pair (.str) (.list (.str))), .list (.pair (.str) (.list (.str))), .bool, .int .i64, .bool] → Option spec_l4Set.R) × (Den [.str, .list (.str), .list (.pair (.str) (.list (.str))), .list (.pair (.str) (.list (.str))), .bool, .int .i64] → Option spec_l4Set.R) × Unit
def spec_l4Set.start (m : Nat) (t : spec_l4Set.Tab) (x0 : List (ByteArray × List ByteArray)) (x1 : ByteArray) (x2 : List ByteArray) : Option spec_l4Set.R :=
  t.1 (x1, x2, [], x0, false, (0 : Int), ())
def spec_l4Set.b0 (m : Nat) (t : spec_l4Set.Tab) (a0 : ByteArray) (a1 : List ByteArray) (a2 : List (ByteArray × List ByteArray)) (a3 : List (ByteArray × List ByteArray)) (a4 : Bool) (a5 : Int) : Option spec_l4Set.R :=
  cond (decide (a5 < (lLen a3))) (cond (!a4) (cond (decide ((0 : Int) ≤ a5)) (cond (decide (a5 < lLen a3)) (lett ((getL a3 a5 (ByteArray.empty, ([] : List ByteArray))) : ByteArray × List ByteArray) fun v1 => t.2.1 (a0, a1, a2, a3, a4, a5, (!sLt v1.1 a0), ())) none) none) (t.2.1 (a0, a1, a2, a3, a4, a5, false, ()))) (cond (!a4) (cond (decide (List.length ([] : List ByteArray) + List.length a1 ≤ apCap)) (cond (decide (List.length a2 + List.length ([(a0, (List.append ([] : List ByteArray) a1))] : List (ByteArray × List ByteArray)) ≤ apCap)) (lett ((List.append a2 ([(a0, (List.append ([] : List ByteArray) a1))] : List (ByteArray × List ByteArray))) : List (ByteArray × List ByteArray)) fun v2 => some (v2, ())) none) none) (some (a2, ())))
def spec_l4Set.b1 (m : Nat) (t : spec_l4Set.Tab) (a0 : ByteArray) (a1 : List ByteArray) (a2 : List (ByteArray × List ByteArray)) (a3 : List (ByteArray × List ByteArray)) (a4 : Bool) (a5 : Int) (a6 : Bool) : Option spec_l4Set.R :=
  cond a6 (cond (decide (List.length ([] : List ByteArray) + List.length a1 ≤ apCap)) (cond (decide (List.length a2 + List.length ([(a0, (List.append ([] : List ByteArray) a1))] : List (ByteArray × List ByteArray)) ≤ apCap)) (lett ((List.append a2 ([(a0, (List.append ([] : List ByteArray) a1))] : List (ByteArray × List ByteArray))) : List (ByteArray × List ByteArray)) fun v1 => t.2.2.1 (a0, a1, v1, a3, true, a5, ())) none) none) (t.2.2.1 (a0, a1, a2, a3, a4, a5, ()))
def spec_l4Set.b2 (m : Nat) (t : spec_l4Set.Tab) (a0 : ByteArray) (a1 : List ByteArray) (a2 : List (ByteArray × List ByteArray)) (a3 : List (ByteArray × List ByteArray)) (a4 : Bool) (a5 : Int) : Option spec_l4Set.R :=
  cond (decide ((0 : Int) ≤ a5)) (cond (decide (a5 < lLen a3)) (lett ((getL a3 a5 (ByteArray.empty, ([] : List ByteArray))) : ByteArray × List ByteArray) fun v1 => cond (!sEq v1.1 a0) (cond (decide ((0 : Int) ≤ a5)) (cond (decide (a5 < lLen a3)) (lett ((getL a3 a5 (ByteArray.empty, ([] : List ByteArray))) : ByteArray × List ByteArray) fun v2 => cond (decide (List.length a2 + List.length ([(v2.1, v2.2)] : List (ByteArray × List ByteArray)) ≤ apCap)) (lett ((List.append a2 ([(v2.1, v2.2)] : List (ByteArray × List ByteArray))) : List (ByteArray × List ByteArray)) fun v3 => t.1 (a0, a1, v3, a3, a4, (w64 (a5 + (1 : Int))), ())) none) none) none) (t.1 (a0, a1, a2, a3, a4, (w64 (a5 + (1 : Int))), ()))) none) none
def spec_l4Set.tab (m : Nat) : Nat → spec_l4Set.Tab
  | 0 => (fun _ => none, fun _ => none, fun _ => none, ())
  | k + 1 => (fun x => spec_l4Set.b0 m (spec_l4Set.tab m k) x.1 x.2.1 x.2.2.1 x.2.2.2.1 x.2.2.2.2.1 x.2.2.2.2.2.1, fun x => spec_l4Set.b1 m (spec_l4Set.tab m k) x.1 x.2.1 x.2.2.1 x.2.2.2.1 x.2.2.2.2.1 x.2.2.2.2.2.1 x.2.2.2.2.2.2.1, fun x => spec_l4Set.b2 m (spec_l4Set.tab m k) x.1 x.2.1 x.2.2.1 x.2.2.2.1 x.2.2.2.2.1 x.2.2.2.2.2.1, ())
def spec_l4Set (m : Nat) (x : Den [.list (.pair (.str) (.list (.str))), .str, .list (.str)]) : Option spec_l4Set.R := spec_l4Set.start m (spec_l4Set.tab m m) x.1 x.2.1 x.2.2.1
def spec_l4Set.cons (m : Nat) : List (Nat × Contract) := []
def spec_l4Set.cuts (m : Nat) : List (CutF (Den spec_l4Set.sig.us)) := [⟨[false, true, false, true, true, true], 122, ⟨[.box [.dat (.str), .dat (.list (.str))], .row false (.pair (.str) (.list (.str)))], [(0, .l (.dat (.list (.pair (.str) (.list (.str)))))), (3, .l (.ptr 0 0)), (5, .l (.sl 1)), (6, .l (.dat (.bool))), (7, .l (.dat (.int .i64)))]⟩, [.str, .list (.str), .list (.pair (.str) (.list (.str))), .list (.pair (.str) (.list (.str))), .bool, .int .i64], fun k => (spec_l4Set.tab m k).1⟩,
  ⟨[true, false, false, false, true, false, false, true, false, true, true, true], 7825, ⟨[.box [.dat (.str), .dat (.list (.str))], .row false (.pair (.str) (.list (.str)))], [(0, .l (.dat (.list (.pair (.str) (.list (.str)))))), (3, .l (.ptr 0 0)), (5, .l (.sl 1)), (6, .l (.dat (.bool))), (7, .l (.dat (.int .i64))), (26, .l (.dat (.bool)))]⟩, [.str, .list (.str), .list (.pair (.str) (.list (.str))), .list (.pair (.str) (.list (.str))), .bool, .int .i64, .bool], fun k => (spec_l4Set.tab m k).2.1⟩,
  ⟨[true, false, false, true, false, false, true, false, true, true, true], 3913, ⟨[.box [.dat (.str), .dat (.list (.str))], .row false (.pair (.str) (.list (.str)))], [(0, .l (.dat (.list (.pair (.str) (.list (.str)))))), (3, .l (.ptr 0 0)), (5, .l (.sl 1)), (6, .l (.dat (.bool))), (7, .l (.dat (.int .i64)))]⟩, [.str, .list (.str), .list (.pair (.str) (.list (.str))), .list (.pair (.str) (.list (.str))), .bool, .int .i64], fun k => (spec_l4Set.tab m k).2.2.1⟩]
theorem spec_l4Set.eq0 (m k : Nat) (x : Den [.str, .list (.str), .list (.pair (.str) (.list (.str))), .list (.pair (.str) (.list (.str))), .bool, .int .i64]) : (spec_l4Set.tab m (k + 1)).1 x = runF ⟨lookΓ Γl, lookC (spec_l4Set.cons m), false⟩ Tryd.f36 spec_l4Set.sig (spec_l4Set.cuts m) k [false, true, false, true, true, true] ⟨[.box [.dat (.str), .dat (.list (.str))], .row false (.pair (.str) (.list (.str)))], [(0, .l (.dat (.list (.pair (.str) (.list (.str)))))), (3, .l (.ptr 0 0)), (5, .l (.sl 1)), (6, .l (.dat (.bool))), (7, .l (.dat (.int .i64)))]⟩ [.str, .list (.str), .list (.pair (.str) (.list (.str))), .list (.pair (.str) (.list (.str))), .bool, .int .i64] x := by kernel_rfl
theorem spec_l4Set.eq1 (m k : Nat) (x : Den [.str, .list (.str), .list (.pair (.str) (.list (.str))), .list (.pair (.str) (.list (.str))), .bool, .int .i64, .bool]) : (spec_l4Set.tab m (k + 1)).2.1 x = runF ⟨lookΓ Γl, lookC (spec_l4Set.cons m), false⟩ Tryd.f36 spec_l4Set.sig (spec_l4Set.cuts m) k [true, false, false, false, true, false, false, true, false, true, true, true] ⟨[.box [.dat (.str), .dat (.list (.str))], .row false (.pair (.str) (.list (.str)))], [(0, .l (.dat (.list (.pair (.str) (.list (.str)))))), (3, .l (.ptr 0 0)), (5, .l (.sl 1)), (6, .l (.dat (.bool))), (7, .l (.dat (.int .i64))), (26, .l (.dat (.bool)))]⟩ [.str, .list (.str), .list (.pair (.str) (.list (.str))), .list (.pair (.str) (.list (.str))), .bool, .int .i64, .bool] x := by kernel_rfl
theorem spec_l4Set.eq2 (m k : Nat) (x : Den [.str, .list (.str), .list (.pair (.str) (.list (.str))), .list (.pair (.str) (.list (.str))), .bool, .int .i64]) : (spec_l4Set.tab m (k + 1)).2.2.1 x = runF ⟨lookΓ Γl, lookC (spec_l4Set.cons m), false⟩ Tryd.f36 spec_l4Set.sig (spec_l4Set.cuts m) k [true, false, false, true, false, false, true, false, true, true, true] ⟨[.box [.dat (.str), .dat (.list (.str))], .row false (.pair (.str) (.list (.str)))], [(0, .l (.dat (.list (.pair (.str) (.list (.str)))))), (3, .l (.ptr 0 0)), (5, .l (.sl 1)), (6, .l (.dat (.bool))), (7, .l (.dat (.int .i64)))]⟩ [.str, .list (.str), .list (.pair (.str) (.list (.str))), .list (.pair (.str) (.list (.str))), .bool, .int .i64] x := by kernel_rfl
theorem spec_l4Set.eq (m : Nat) (x : Den spec_l4Set.sig.ts) : spec_l4Set m x = startF ⟨lookΓ Γl, lookC (spec_l4Set.cons m), false⟩ Tryd.f36 spec_l4Set.sig (spec_l4Set.cuts m) m x := by kernel_rfl
theorem spec_l4Set.ok (m : Nat) : Meets GL Tryd.prog 36 spec_l4Set.sig (spec_l4Set m) :=
  fn_is (cx_is tyOk mixed (l := spec_l4Set.cons m) trivial) (fn := Tryd.f36) Tryd.func36 (by kernel_rfl) (cl := spec_l4Set.cuts m) ⟨⟨by kernel_rfl, fun _ => rfl, fun k x => spec_l4Set.eq0 m k x⟩, ⟨by kernel_rfl, fun _ => rfl, fun k x => spec_l4Set.eq1 m k x⟩, ⟨by kernel_rfl, fun _ => rfl, fun k x => spec_l4Set.eq2 m k x⟩, trivial⟩ (k := m) (spec_l4Set.eq m)

/-! ### loop.example/stemma/spec.TreeSet: function 55 -/
abbrev spec_TreeSet.R : Type := Den [.list (.pair (.str) (.list (.str))), .bool]
def spec_TreeSet.sig : Sig := ⟨2, ⟨[], [(0, .l (.dat (.list (.pair (.str) (.list (.str)))))), (1, .agg [.dat (.str), .dat (.list (.str))])]⟩, [.list (.pair (.str) (.list (.str))), .str, .list (.str)], ⟨[], [(0, .l (.dat (.list (.pair (.str) (.list (.str)))))), (1, .l (.dat (.bool)))]⟩, [.list (.pair (.str) (.list (.str))), .bool]⟩
abbrev spec_TreeSet.Tab : Type := Unit
def spec_TreeSet.start (m : Nat) (t : spec_TreeSet.Tab) (x0 : List (ByteArray × List ByteArray)) (x1 : ByteArray) (x2 : List ByteArray) : Option spec_TreeSet.R :=
  Option.bind (spec_l4Ok m (x0, ())) fun r1 => cond (!r1.1) (some ([], false, ())) (Option.bind (spec_l4Copy m (x0, ())) fun r2 => Option.bind (spec_l4Set m (r2.1, x1, x2, ())) fun r3 => Option.bind (spec_l4Ok m (r3.1, ())) fun r4 => cond (!r4.1) (Option.bind (spec_l4Copy m (x0, ())) fun r5 => some (r5.1, false, ())) (some (r3.1, true, ())))
def spec_TreeSet.tab (m : Nat) : Nat → spec_TreeSet.Tab
  | 0 => (())
  | k + 1 => (())
def spec_TreeSet (m : Nat) (x : Den [.list (.pair (.str) (.list (.str))), .str, .list (.str)]) : Option spec_TreeSet.R := spec_TreeSet.start m (spec_TreeSet.tab m m) x.1 x.2.1 x.2.2.1
def spec_TreeSet.cons (m : Nat) : List (Nat × Contract) := [(32, ⟨spec_l4Ok.sig, spec_l4Ok m⟩), (34, ⟨spec_l4Copy.sig, spec_l4Copy m⟩), (36, ⟨spec_l4Set.sig, spec_l4Set m⟩)]
def spec_TreeSet.cuts (m : Nat) : List (CutF (Den spec_TreeSet.sig.us)) := []
theorem spec_TreeSet.eq (m : Nat) (x : Den spec_TreeSet.sig.ts) : spec_TreeSet m x = startF ⟨lookΓ Γl, lookC (spec_TreeSet.cons m), false⟩ Tryd.f55 spec_TreeSet.sig (spec_TreeSet.cuts m) m x := by kernel_rfl
theorem spec_TreeSet.ok (m : Nat) : Meets GL Tryd.prog 55 spec_TreeSet.sig (spec_TreeSet m) :=
  fn_is (cx_is tyOk mixed (l := spec_TreeSet.cons m) ⟨spec_l4Ok.ok m, spec_l4Copy.ok m, spec_l4Set.ok m, trivial⟩) (fn := Tryd.f55) Tryd.func55 (by kernel_rfl) (cl := spec_TreeSet.cuts m) trivial (k := m) (spec_TreeSet.eq m)

/-! ### loop.example/stemma/spec.l30Tree: function 23 -/
abbrev spec_l30Tree.R : Type := Den [.list (.int .u8), .int .i64, .list (.pair (.str) (.list (.str)))]
def spec_l30Tree.sig : Sig := ⟨1, ⟨[.box [.dat (.list (.int .u8)), .dat (.int .i64)]], [(0, .l (.ptr 0 0))]⟩, [.list (.int .u8), .int .i64], ⟨[.box [.dat (.list (.int .u8)), .dat (.int .i64)], .row true (.pair (.str) (.list (.str)))], [(0, .l (.sl 1))]⟩, [.list (.int .u8), .int .i64, .list (.pair (.str) (.list (.str)))]⟩
abbrev spec_l30Tree.Tab : Type := (Den [.list (.int .u8), .int .i64, .list (.pair (.str) (.list (.str))), .int .i64] → Option spec_l30Tree.R) × Unit
def spec_l30Tree.start (m : Nat) (t : spec_l30Tree.Tab) (x0 : List Int) (x1 : Int) : Option spec_l30Tree.R :=
  Option.bind (spec_l30Rd_pick m (x0, x1, (6 : Int), ())) fun r1 => t.1 (r1.1, r1.2.1, [], r1.2.2.1, ())
def spec_l30Tree.b0 (m : Nat) (t : spec_l30Tree.Tab) (a0 : List Int) (a1 : Int) (a2 : List (ByteArray × List ByteArray)) (a3 : Int) : Option spec_l30Tree.R :=
  cond (decide (a3 > (0 : Int))) (Option.bind (spec_l30Path m (a0, a1, ())) fun r1 => Option.bind (spec_l30Text m (r1.1, r1.2.1, ())) fun r2 => Option.bind (spec_TreeSet m (a2, r1.2.2.1, r2.2.2.1, ())) fun r3 => t.1 (r2.1, r2.2.1, r3.1, (w64 (a3 - (1 : Int))), ())) (Option.bind (spec_l4Copy m (a2, ())) fun r4 => some (a0, a1, r4.1, ()))
def spec_l30Tree.tab (m : Nat) : Nat → spec_l30Tree.Tab
  | 0 => (fun _ => none, ())
  | k + 1 => (fun x => spec_l30Tree.b0 m (spec_l30Tree.tab m k) x.1 x.2.1 x.2.2.1 x.2.2.2.1, ())
def spec_l30Tree (m : Nat) (x : Den [.list (.int .u8), .int .i64]) : Option spec_l30Tree.R := spec_l30Tree.start m (spec_l30Tree.tab m m) x.1 x.2.1
def spec_l30Tree.cons (m : Nat) : List (Nat × Contract) := [(22, ⟨spec_l30Rd_pick.sig, spec_l30Rd_pick m⟩), (56, ⟨spec_l30Path.sig, spec_l30Path m⟩), (57, ⟨spec_l30Text.sig, spec_l30Text m⟩), (55, ⟨spec_TreeSet.sig, spec_TreeSet m⟩), (34, ⟨spec_l4Copy.sig, spec_l4Copy m⟩)]
def spec_l30Tree.cuts (m : Nat) : List (CutF (Den spec_l30Tree.sig.us)) := [⟨[false, true, false, true, true], 58, ⟨[.box [.dat (.list (.int .u8)), .dat (.int .i64)]], [(0, .l (.ptr 0 0)), (3, .l (.dat (.list (.pair (.str) (.list (.str)))))), (4, .l (.dat (.int .i64)))]⟩, [.list (.int .u8), .int .i64, .list (.pair (.str) (.list (.str))), .int .i64], fun k => (spec_l30Tree.tab m k).1⟩]
theorem spec_l30Tree.eq0 (m k : Nat) (x : Den [.list (.int .u8), .int .i64, .list (.pair (.str) (.list (.str))), .int .i64]) : (spec_l30Tree.tab m (k + 1)).1 x = runF ⟨lookΓ Γl, lookC (spec_l30Tree.cons m), false⟩ Tryd.f23 spec_l30Tree.sig (spec_l30Tree.cuts m) k [false, true, false, true, true] ⟨[.box [.dat (.list (.int .u8)), .dat (.int .i64)]], [(0, .l (.ptr 0 0)), (3, .l (.dat (.list (.pair (.str) (.list (.str)))))), (4, .l (.dat (.int .i64)))]⟩ [.list (.int .u8), .int .i64, .list (.pair (.str) (.list (.str))), .int .i64] x := by kernel_rfl
theorem spec_l30Tree.eq (m : Nat) (x : Den spec_l30Tree.sig.ts) : spec_l30Tree m x = startF ⟨lookΓ Γl, lookC (spec_l30Tree.cons m), false⟩ Tryd.f23 spec_l30Tree.sig (spec_l30Tree.cuts m) m x := by kernel_rfl
theorem spec_l30Tree.ok (m : Nat) : Meets GL Tryd.prog 23 spec_l30Tree.sig (spec_l30Tree m) :=
  fn_is (cx_is tyOk mixed (l := spec_l30Tree.cons m) ⟨spec_l30Rd_pick.ok m, spec_l30Path.ok m, spec_l30Text.ok m, spec_TreeSet.ok m, spec_l4Copy.ok m, trivial⟩) (fn := Tryd.f23) Tryd.func23 (by kernel_rfl) (cl := spec_l30Tree.cuts m) ⟨⟨by kernel_rfl, fun _ => rfl, fun k x => spec_l30Tree.eq0 m k x⟩, trivial⟩ (k := m) (spec_l30Tree.eq m)

/-! ### loop.example/stemma/spec.l1Dec: function 82 -/
abbrev spec_l1Dec.R : Type := Den [.str]
def spec_l1Dec.sig : Sig := ⟨1, ⟨[], [(0, .l (.dat (.int .i64)))]⟩, [.int .i64], ⟨[], [(0, .l (.dat (.str)))]⟩, [.str]⟩
abbrev spec_l1Dec.Tab : Type := Unit
def spec_l1Dec.start (m : Nat) (self : Den [.int .i64] → Option spec_l1Dec.R) (t : spec_l1Dec.Tab) (x0 : Int) : Option spec_l1Dec.R :=
  lett ((decide (x0 < (-9223372036854775807 : Int))) : Bool) fun v1 => cond v1 (lett (s_2d39323233333732303336383534373735383038 : ByteArray) fun v2 => some (v2, ())) (cond (decide (x0 < (0 : Int))) (Option.bind (self ((wr .i64 (0 - x0)), ())) fun r3 => cond (decide (ByteArray.size s_2d + ByteArray.size r3.1 ≤ cap)) (some ((ByteArray.append s_2d r3.1), ())) none) (cond (decide (x0 < (10 : Int))) (lett ((strOfNums [(wr .u8 (w64 ((48 : Int) + x0)))]) : ByteArray) fun v4 => some (v4, ())) (cond ((10 : Int) == 0) none (Option.bind (self ((w64 (Int.tdiv x0 (10 : Int))), ())) fun r5 => cond ((10 : Int) == 0) none (lett ((w64 ((48 : Int) + (Int.tmod x0 (10 : Int)))) : Int) fun v6 => cond (decide (ByteArray.size r5.1 + ByteArray.size (strOfNums [(wr .u8 v6)]) ≤ cap)) (lett ((ByteArray.append r5.1 (strOfNums [(wr .u8 v6)])) : ByteArray) fun v7 => some (v7, ())) none)))))
def spec_l1Dec.tab (m : Nat) (self : Den [.int .i64] → Option spec_l1Dec.R) : Nat → spec_l1Dec.Tab
  | 0 => (())
  | k + 1 => (())
def spec_l1Dec : Nat → Den [.int .i64] → Option spec_l1Dec.R
  | 0, _ => none
  | m + 1, x => spec_l1Dec.start m (spec_l1Dec m) (spec_l1Dec.tab m (spec_l1Dec m) m) x.1
def spec_l1Dec.cons (m : Nat) : List (Nat × Contract) := [(82, ⟨spec_l1Dec.sig, spec_l1Dec m⟩)]
def spec_l1Dec.cuts (m : Nat) : List (CutF (Den spec_l1Dec.sig.us)) := []
theorem spec_l1Dec.eq (m : Nat) (x : Den spec_l1Dec.sig.ts) : spec_l1Dec (m + 1) x = startF ⟨lookΓ Γl, lookC (spec_l1Dec.cons m), false⟩ Tryd.f82 spec_l1Dec.sig (spec_l1Dec.cuts m) m x := by kernel_rfl
theorem spec_l1Dec.ok : ∀ m, Meets GL Tryd.prog 82 spec_l1Dec.sig (spec_l1Dec m)
  | 0 => ⟨by kernel_rfl, by decide, fun x r h => nomatch h⟩
  | m + 1 => fn_is (cx_is tyOk mixed (l := spec_l1Dec.cons m) ⟨spec_l1Dec.ok m, trivial⟩) (fn := Tryd.f82) Tryd.func82 (by kernel_rfl) (cl := spec_l1Dec.cuts m) trivial (k := m) (spec_l1Dec.eq m)

/-! ### loop.example/stemma/spec.l24Tree: function 50 -/
abbrev spec_l24Tree.R : Type := Den [.str]
def spec_l24Tree.sig : Sig := ⟨1, ⟨[], [(0, .l (.dat (.list (.pair (.str) (.list (.str))))))]⟩, [.list (.pair (.str) (.list (.str)))], ⟨[], [(0, .l (.dat (.str)))]⟩, [.str]⟩
abbrev spec_l24Tree.Tab : Type := (Den [.list (.pair (.str) (.list (.str))), .str, .int .i64] → Option spec_l24Tree.R) × (Den [.list (.pair (.str) (.list (.str))), .str, .int .i64, .int .i64] → Option spec_l24Tree.R) × Unit
def spec_l24Tree.start (m : Nat) (t : spec_l24Tree.Tab) (x0 : List (ByteArray × List ByteArray)) : Option spec_l24Tree.R :=
  t.1 (x0, ByteArray.empty, (0 : Int), ())
def spec_l24Tree.b0 (m : Nat) (t : spec_l24Tree.Tab) (a0 : List (ByteArray × List ByteArray)) (a1 : ByteArray) (a2 : Int) : Option spec_l24Tree.R :=
  cond (decide (a2 < (lLen a0))) (cond (decide (ByteArray.size a1 + ByteArray.size s_66696c6520 ≤ cap)) (cond (decide ((0 : Int) ≤ a2)) (cond (decide (a2 < lLen a0)) (lett ((getL a0 a2 (ByteArray.empty, ([] : List ByteArray))) : ByteArray × List ByteArray) fun v1 => cond (decide (ByteArray.size (ByteArray.append a1 s_66696c6520) + ByteArray.size v1.1 ≤ cap)) (lett ((ByteArray.append (ByteArray.append a1 s_66696c6520) v1.1) : ByteArray) fun v2 => cond (decide (ByteArray.size v2 + ByteArray.size s_20 ≤ cap)) (cond (decide ((0 : Int) ≤ a2)) (cond (decide (a2 < lLen a0)) (lett ((getL a0 a2 (ByteArray.empty, ([] : List ByteArray))) : ByteArray × List ByteArray) fun v3 => Option.bind (spec_l1Dec m ((lLen v3.2), ())) fun r4 => cond (decide (ByteArray.size (ByteArray.append v2 s_20) + ByteArray.size r4.1 ≤ cap)) (lett ((ByteArray.append (ByteArray.append v2 s_20) r4.1) : ByteArray) fun v5 => cond (decide (ByteArray.size v5 + ByteArray.size s_0a ≤ cap)) (t.2.1 (a0, (ByteArray.append v5 s_0a), a2, (0 : Int), ())) none) none) none) none) none) none) none) none) none) (some (a1, ()))
def spec_l24Tree.b1 (m : Nat) (t : spec_l24Tree.Tab) (a0 : List (ByteArray × List ByteArray)) (a1 : ByteArray) (a2 : Int) (a3 : Int) : Option spec_l24Tree.R :=
  cond (decide ((0 : Int) ≤ a2)) (cond (decide (a2 < lLen a0)) (lett ((getL a0 a2 (ByteArray.empty, ([] : List ByteArray))) : ByteArray × List ByteArray) fun v1 => cond (decide (a3 < (lLen v1.2))) (cond (decide ((0 : Int) ≤ a2)) (cond (decide (a2 < lLen a0)) (lett ((getL a0 a2 (ByteArray.empty, ([] : List ByteArray))) : ByteArray × List ByteArray) fun v2 => cond (decide ((0 : Int) ≤ a3)) (cond (decide (a3 < lLen v2.2)) (cond (decide (ByteArray.size a1 + ByteArray.size (getL v2.2 a3 ByteArray.empty) ≤ cap)) (lett ((ByteArray.append a1 (getL v2.2 a3 ByteArray.empty)) : ByteArray) fun v3 => cond (decide (ByteArray.size v3 + ByteArray.size s_0a ≤ cap)) (t.2.1 (a0, (ByteArray.append v3 s_0a), a2, (w64 (a3 + (1 : Int))), ())) none) none) none) none) none) none) (t.1 (a0, a1, (w64 (a2 + (1 : Int))), ()))) none) none
def spec_l24Tree.tab (m : Nat) : Nat → spec_l24Tree.Tab
  | 0 => (fun _ => none, fun _ => none, ())
  | k + 1 => (fun x => spec_l24Tree.b0 m (spec_l24Tree.tab m k) x.1 x.2.1 x.2.2.1, fun x => spec_l24Tree.b1 m (spec_l24Tree.tab m k) x.1 x.2.1 x.2.2.1 x.2.2.2.1, ())
def spec_l24Tree (m : Nat) (x : Den [.list (.pair (.str) (.list (.str)))]) : Option spec_l24Tree.R := spec_l24Tree.start m (spec_l24Tree.tab m m) x.1
def spec_l24Tree.cons (m : Nat) : List (Nat × Contract) := [(82, ⟨spec_l1Dec.sig, spec_l1Dec m⟩)]
def spec_l24Tree.cuts (m : Nat) : List (CutF (Den spec_l24Tree.sig.us)) := [⟨[false, true, false, true, true], 58, ⟨[], [(0, .l (.dat (.list (.pair (.str) (.list (.str)))))), (3, .l (.dat (.str))), (4, .l (.dat (.int .i64)))]⟩, [.list (.pair (.str) (.list (.str))), .str, .int .i64], fun k => (spec_l24Tree.tab m k).1⟩,
  ⟨[false, true, true, false, false, true, false, false, true, false, true, true], 7462, ⟨[], [(0, .l (.dat (.list (.pair (.str) (.list (.str)))))), (3, .l (.dat (.str))), (4, .l (.dat (.int .i64))), (5, .l (.dat (.int .i64)))]⟩, [.list (.pair (.str) (.list (.str))), .str, .int .i64, .int .i64], fun k => (spec_l24Tree.tab m k).2.1⟩]
theorem spec_l24Tree.eq0 (m k : Nat) (x : Den [.list (.pair (.str) (.list (.str))), .str, .int .i64]) : (spec_l24Tree.tab m (k + 1)).1 x = runF ⟨lookΓ Γl, lookC (spec_l24Tree.cons m), false⟩ Tryd.f50 spec_l24Tree.sig (spec_l24Tree.cuts m) k [false, true, false, true, true] ⟨[], [(0, .l (.dat (.list (.pair (.str) (.list (.str)))))), (3, .l (.dat (.str))), (4, .l (.dat (.int .i64)))]⟩ [.list (.pair (.str) (.list (.str))), .str, .int .i64] x := by kernel_rfl
theorem spec_l24Tree.eq1 (m k : Nat) (x : Den [.list (.pair (.str) (.list (.str))), .str, .int .i64, .int .i64]) : (spec_l24Tree.tab m (k + 1)).2.1 x = runF ⟨lookΓ Γl, lookC (spec_l24Tree.cons m), false⟩ Tryd.f50 spec_l24Tree.sig (spec_l24Tree.cuts m) k [false, true, true, false, false, true, false, false, true, false, true, true] ⟨[], [(0, .l (.dat (.list (.pair (.str) (.list (.str)))))), (3, .l (.dat (.str))), (4, .l (.dat (.int .i64))), (5, .l (.dat (.int .i64)))]⟩ [.list (.pair (.str) (.list (.str))), .str, .int .i64, .int .i64] x := by kernel_rfl
theorem spec_l24Tree.eq (m : Nat) (x : Den spec_l24Tree.sig.ts) : spec_l24Tree m x = startF ⟨lookΓ Γl, lookC (spec_l24Tree.cons m), false⟩ Tryd.f50 spec_l24Tree.sig (spec_l24Tree.cuts m) m x := by kernel_rfl
theorem spec_l24Tree.ok (m : Nat) : Meets GL Tryd.prog 50 spec_l24Tree.sig (spec_l24Tree m) :=
  fn_is (cx_is tyOk mixed (l := spec_l24Tree.cons m) ⟨spec_l1Dec.ok m, trivial⟩) (fn := Tryd.f50) Tryd.func50 (by kernel_rfl) (cl := spec_l24Tree.cuts m) ⟨⟨by kernel_rfl, fun _ => rfl, fun k x => spec_l24Tree.eq0 m k x⟩, ⟨by kernel_rfl, fun _ => rfl, fun k x => spec_l24Tree.eq1 m k x⟩, trivial⟩ (k := m) (spec_l24Tree.eq m)

/-! ### loop.example/stemma/spec.TreePut: function 44 -/
abbrev spec_TreePut.R : Type := Den [.str]
def spec_TreePut.sig : Sig := ⟨1, ⟨[], [(0, .l (.dat (.list (.pair (.str) (.list (.str))))))]⟩, [.list (.pair (.str) (.list (.str)))], ⟨[], [(0, .l (.dat (.str)))]⟩, [.str]⟩
abbrev spec_TreePut.Tab : Type := Unit
def spec_TreePut.start (m : Nat) (t : spec_TreePut.Tab) (x0 : List (ByteArray × List ByteArray)) : Option spec_TreePut.R :=
  Option.bind (spec_l4Ok m (x0, ())) fun r1 => cond (!r1.1) (some (ByteArray.empty, ())) (Option.bind (spec_l24Tree m (x0, ())) fun r2 => some (r2.1, ()))
def spec_TreePut.tab (m : Nat) : Nat → spec_TreePut.Tab
  | 0 => (())
  | k + 1 => (())
def spec_TreePut (m : Nat) (x : Den [.list (.pair (.str) (.list (.str)))]) : Option spec_TreePut.R := spec_TreePut.start m (spec_TreePut.tab m m) x.1
def spec_TreePut.cons (m : Nat) : List (Nat × Contract) := [(32, ⟨spec_l4Ok.sig, spec_l4Ok m⟩), (50, ⟨spec_l24Tree.sig, spec_l24Tree m⟩)]
def spec_TreePut.cuts (m : Nat) : List (CutF (Den spec_TreePut.sig.us)) := []
theorem spec_TreePut.eq (m : Nat) (x : Den spec_TreePut.sig.ts) : spec_TreePut m x = startF ⟨lookΓ Γl, lookC (spec_TreePut.cons m), false⟩ Tryd.f44 spec_TreePut.sig (spec_TreePut.cuts m) m x := by kernel_rfl
theorem spec_TreePut.ok (m : Nat) : Meets GL Tryd.prog 44 spec_TreePut.sig (spec_TreePut m) :=
  fn_is (cx_is tyOk mixed (l := spec_TreePut.cons m) ⟨spec_l4Ok.ok m, spec_l24Tree.ok m, trivial⟩) (fn := Tryd.f44) Tryd.func44 (by kernel_rfl) (cl := spec_TreePut.cuts m) trivial (k := m) (spec_TreePut.eq m)

/-! ### loop.example/stemma/spec.l30Bent: function 45 -/
abbrev spec_l30Bent.R : Type := Den [.list (.int .u8), .int .i64, .str]
def spec_l30Bent.sig : Sig := ⟨2, ⟨[.box [.dat (.list (.int .u8)), .dat (.int .i64)]], [(0, .l (.ptr 0 0)), (1, .l (.dat (.str)))]⟩, [.list (.int .u8), .int .i64, .str], ⟨[.box [.dat (.list (.int .u8)), .dat (.int .i64)]], [(0, .l (.dat (.str)))]⟩, [.list (.int .u8), .int .i64, .str]⟩
abbrev spec_l30Bent.Tab : Type := Unit
def spec_l30Bent.start (m : Nat) (t : spec_l30Bent.Tab) (x0 : List Int) (x1 : Int) (x2 : ByteArray) : Option spec_l30Bent.R :=
  Option.bind (spec_l30Rd_pick m (x0, x1, (w64 ((sLen x2) + (1 : Int))), ())) fun r1 => Option.bind (spec_l30Rd_pick m (r1.1, r1.2.1, (5 : Int), ())) fun r2 => cond (r2.2.2.1 == (0 : Int)) (cond (decide (r1.2.2.1 < (sLen x2))) (cond (decide ((0 : Int) ≤ r1.2.2.1)) (cond (decide (r1.2.2.1 ≤ (ByteArray.size x2 : Int))) (Option.bind (spec_l30Rd_of m (r2.1, r2.2.1, [s_30, s_31, s_20, s_2d, s_2b, s_0a, s_40, s_7c, s_78], ())) fun r3 => cond (decide (ByteArray.size (cutS x2 0 (Int.toNat r1.2.2.1)) + ByteArray.size r3.2.2.1 ≤ cap)) (lett ((ByteArray.append (cutS x2 0 (Int.toNat r1.2.2.1)) r3.2.2.1) : ByteArray) fun v4 => cond (decide ((0 : Int) ≤ (w64 (r1.2.2.1 + (1 : Int))))) (cond (decide ((w64 (r1.2.2.1 + (1 : Int))) ≤ (ByteArray.size x2 : Int))) (lett ((cutS x2 (Int.toNat (w64 (r1.2.2.1 + (1 : Int)))) (ByteArray.size x2)) : ByteArray) fun v5 => cond (decide (ByteArray.size v4 + ByteArray.size v5 ≤ cap)) (some (r3.1, r3.2.1, (ByteArray.append v4 v5), ())) none) none) none) none) none) none) (some (r2.1, r2.2.1, x2, ()))) (cond (r2.2.2.1 == (1 : Int)) (cond (decide ((0 : Int) ≤ r1.2.2.1)) (cond (decide (r1.2.2.1 ≤ (ByteArray.size x2 : Int))) (some (r2.1, r2.2.1, (cutS x2 0 (Int.toNat r1.2.2.1)), ())) none) none) (cond (r2.2.2.1 == (2 : Int)) (Option.bind (spec_l30Rd_of m (r2.1, r2.2.1, [s_30, s_20, s_0a, s_7c, s_2b780a], ())) fun r6 => cond (decide (ByteArray.size x2 + ByteArray.size r6.2.2.1 ≤ cap)) (some (r6.1, r6.2.1, (ByteArray.append x2 r6.2.2.1), ())) none) (some (r2.1, r2.2.1, x2, ()))))
def spec_l30Bent.tab (m : Nat) : Nat → spec_l30Bent.Tab
  | 0 => (())
  | k + 1 => (())
def spec_l30Bent (m : Nat) (x : Den [.list (.int .u8), .int .i64, .str]) : Option spec_l30Bent.R := spec_l30Bent.start m (spec_l30Bent.tab m m) x.1 x.2.1 x.2.2.1
def spec_l30Bent.cons (m : Nat) : List (Nat × Contract) := [(22, ⟨spec_l30Rd_pick.sig, spec_l30Rd_pick m⟩), (54, ⟨spec_l30Rd_of.sig, spec_l30Rd_of m⟩)]
def spec_l30Bent.cuts (m : Nat) : List (CutF (Den spec_l30Bent.sig.us)) := []
theorem spec_l30Bent.eq (m : Nat) (x : Den spec_l30Bent.sig.ts) : spec_l30Bent m x = startF ⟨lookΓ Γl, lookC (spec_l30Bent.cons m), false⟩ Tryd.f45 spec_l30Bent.sig (spec_l30Bent.cuts m) m x := by kernel_rfl
theorem spec_l30Bent.ok (m : Nat) : Meets GL Tryd.prog 45 spec_l30Bent.sig (spec_l30Bent m) :=
  fn_is (cx_is tyOk mixed (l := spec_l30Bent.cons m) ⟨spec_l30Rd_pick.ok m, spec_l30Rd_of.ok m, trivial⟩) (fn := Tryd.f45) Tryd.func45 (by kernel_rfl) (cl := spec_l30Bent.cuts m) trivial (k := m) (spec_l30Bent.eq m)

/-! ### loop.example/stemma/spec.DrawTreeRead: function 14 -/
abbrev spec_DrawTreeRead.R : Type := Den [.str]
def spec_DrawTreeRead.sig : Sig := ⟨1, ⟨[], [(0, .l (.dat (.list (.int .u8))))]⟩, [.list (.int .u8)], ⟨[], [(0, .l (.dat (.str)))]⟩, [.str]⟩
abbrev spec_DrawTreeRead.Tab : Type := Unit
def spec_DrawTreeRead.start (m : Nat) (t : spec_DrawTreeRead.Tab) (x0 : List Int) : Option spec_DrawTreeRead.R :=
  Option.bind (spec_l30Open m (x0, ())) fun r1 => Option.bind (spec_l30Tree m (r1.1, r1.2.1, ())) fun r2 => Option.bind (spec_TreePut m (r2.2.2.1, ())) fun r3 => Option.bind (spec_l30Rd_pick m (r2.1, r2.2.1, (2 : Int), ())) fun r4 => cond (r4.2.2.1 == (0 : Int)) (some (r3.1, ())) (Option.bind (spec_l30Bent m (r4.1, r4.2.1, r3.1, ())) fun r5 => some (r5.2.2.1, ()))
def spec_DrawTreeRead.tab (m : Nat) : Nat → spec_DrawTreeRead.Tab
  | 0 => (())
  | k + 1 => (())
def spec_DrawTreeRead (m : Nat) (x : Den [.list (.int .u8)]) : Option spec_DrawTreeRead.R := spec_DrawTreeRead.start m (spec_DrawTreeRead.tab m m) x.1
def spec_DrawTreeRead.cons (m : Nat) : List (Nat × Contract) := [(18, ⟨spec_l30Open.sig, spec_l30Open m⟩), (23, ⟨spec_l30Tree.sig, spec_l30Tree m⟩), (44, ⟨spec_TreePut.sig, spec_TreePut m⟩), (22, ⟨spec_l30Rd_pick.sig, spec_l30Rd_pick m⟩), (45, ⟨spec_l30Bent.sig, spec_l30Bent m⟩)]
def spec_DrawTreeRead.cuts (m : Nat) : List (CutF (Den spec_DrawTreeRead.sig.us)) := []
theorem spec_DrawTreeRead.eq (m : Nat) (x : Den spec_DrawTreeRead.sig.ts) : spec_DrawTreeRead m x = startF ⟨lookΓ Γl, lookC (spec_DrawTreeRead.cons m), false⟩ Tryd.f14 spec_DrawTreeRead.sig (spec_DrawTreeRead.cuts m) m x := by kernel_rfl
theorem spec_DrawTreeRead.ok (m : Nat) : Meets GL Tryd.prog 14 spec_DrawTreeRead.sig (spec_DrawTreeRead m) :=
  fn_is (cx_is tyOk mixed (l := spec_DrawTreeRead.cons m) ⟨spec_l30Open.ok m, spec_l30Tree.ok m, spec_TreePut.ok m, spec_l30Rd_pick.ok m, spec_l30Bent.ok m, trivial⟩) (fn := Tryd.f14) Tryd.func14 (by kernel_rfl) (cl := spec_DrawTreeRead.cuts m) trivial (k := m) (spec_DrawTreeRead.eq m)

/-! ### internal/bytealg.CountString: function 116 -/
def internal_bytealg_CountString.sig : Sig := cntByteSig
def internal_bytealg_CountString (m : Nat) (x : Den [.str, .int .u8]) : Option (Den [.int .i64]) := cntByteF x
theorem internal_bytealg_CountString.ok (m : Nat) : Meets GL Tryd.prog 116 internal_bytealg_CountString.sig (internal_bytealg_CountString m) := cntByte_meets (fn := Tryd.f116) Tryd.func116 (by kernel_rfl) (by kernel_rfl) (by kernel_rfl) (by kernel_rfl)

/-! ### internal/bytealg.IndexByteString: function 136 -/
def internal_bytealg_IndexByteString.sig : Sig := idxByteSig
def internal_bytealg_IndexByteString (m : Nat) (x : Den [.str, .int .u8]) : Option (Den [.int .i64]) := idxByteF x
theorem internal_bytealg_IndexByteString.ok (m : Nat) : Meets GL Tryd.prog 136 internal_bytealg_IndexByteString.sig (internal_bytealg_IndexByteString m) := idxByte_meets (fn := Tryd.f136) Tryd.func136 (by kernel_rfl) (by kernel_rfl) (by kernel_rfl) (by kernel_rfl)

/-! ### internal/stringslite.IndexByte: function 128 -/
abbrev internal_stringslite_IndexByte.R : Type := Den [.int .i64]
def internal_stringslite_IndexByte.sig : Sig := ⟨2, ⟨[], [(0, .l (.dat (.str))), (1, .l (.dat (.int .u8)))]⟩, [.str, .int .u8], ⟨[], [(0, .l (.dat (.int .i64)))]⟩, [.int .i64]⟩
abbrev internal_stringslite_IndexByte.Tab : Type := Unit
def internal_stringslite_IndexByte.start (m : Nat) (t : internal_stringslite_IndexByte.Tab) (x0 : ByteArray) (x1 : Int) : Option internal_stringslite_IndexByte.R :=
  Option.bind (internal_bytealg_IndexByteString m (x0, x1, ())) fun r1 => some (r1.1, ())
def internal_stringslite_IndexByte.tab (m : Nat) : Nat → internal_stringslite_IndexByte.Tab
  | 0 => (())
  | k + 1 => (())
def internal_stringslite_IndexByte (m : Nat) (x : Den [.str, .int .u8]) : Option internal_stringslite_IndexByte.R := internal_stringslite_IndexByte.start m (internal_stringslite_IndexByte.tab m m) x.1 x.2.1
def internal_stringslite_IndexByte.cons (m : Nat) : List (Nat × Contract) := [(136, ⟨internal_bytealg_IndexByteString.sig, internal_bytealg_IndexByteString m⟩)]
def internal_stringslite_IndexByte.cuts (m : Nat) : List (CutF (Den internal_stringslite_IndexByte.sig.us)) := []
theorem internal_stringslite_IndexByte.eq (m : Nat) (x : Den internal_stringslite_IndexByte.sig.ts) : internal_stringslite_IndexByte m x = startF ⟨lookΓ Γl, lookC (internal_stringslite_IndexByte.cons m), false⟩ Tryd.f128 internal_stringslite_IndexByte.sig (internal_stringslite_IndexByte.cuts m) m x := by kernel_rfl
theorem internal_stringslite_IndexByte.ok (m : Nat) : Meets GL Tryd.prog 128 internal_stringslite_IndexByte.sig (internal_stringslite_IndexByte m) :=
  fn_is (cx_is tyOk mixed (l := internal_stringslite_IndexByte.cons m) ⟨internal_bytealg_IndexByteString.ok m, trivial⟩) (fn := Tryd.f128) Tryd.func128 (by kernel_rfl) (cl := internal_stringslite_IndexByte.cuts m) trivial (k := m) (internal_stringslite_IndexByte.eq m)

/-! ### internal/stringslite.Index: function 117 -/
abbrev internal_stringslite_Index.R : Type := Den [.int .i64]
def internal_stringslite_Index.sig : Sig := ⟨2, ⟨[], [(0, .l (.dat (.str))), (1, .l (.dat (.str)))]⟩, [.str, .str], ⟨[], [(0, .l (.dat (.int .i64)))]⟩, [.int .i64]⟩
abbrev internal_stringslite_Index.Tab : Type := (Den [.str, .str, .int .i64, .bool] → Option internal_stringslite_Index.R) × Unit
def internal_stringslite_Index.start (m : Nat) (t : internal_stringslite_Index.Tab) (x0 : ByteArray) (x1 : ByteArray) : Option internal_stringslite_Index.R :=
  cond ((sLen x1) == (0 : Int)) (t.1 (x0, x1, (sLen x1), true, ())) (t.1 (x0, x1, (sLen x1), (sEq x1 x0), ()))
def internal_stringslite_Index.b0 (m : Nat) (t : internal_stringslite_Index.Tab) (a0 : ByteArray) (a1 : ByteArray) (a2 : Int) (a3 : Bool) : Option internal_stringslite_Index.R :=
  cond a3 (some ((0 : Int), ())) (cond (a2 == (1 : Int)) (cond (decide ((0 : Int) ≤ (0 : Int))) (cond (decide ((0 : Int) < sLen a1)) (Option.bind (internal_stringslite_IndexByte m (a0, (byteAt a1 (0 : Int)), ())) fun r1 => some (r1.1, ())) none) none) (cond (decide (a2 ≥ (sLen a0))) (some ((-1 : Int), ())) (none)))
def internal_stringslite_Index.tab (m : Nat) : Nat → internal_stringslite_Index.Tab
  | 0 => (fun _ => none, ())
  | k + 1 => (fun x => internal_stringslite_Index.b0 m (internal_stringslite_Index.tab m k) x.1 x.2.1 x.2.2.1 x.2.2.2.1, ())
def internal_stringslite_Index (m : Nat) (x : Den [.str, .str]) : Option internal_stringslite_Index.R := internal_stringslite_Index.start m (internal_stringslite_Index.tab m m) x.1 x.2.1
def internal_stringslite_Index.cons (m : Nat) : List (Nat × Contract) := [(128, ⟨internal_stringslite_IndexByte.sig, internal_stringslite_IndexByte m⟩)]
def internal_stringslite_Index.cuts (m : Nat) : List (CutF (Den internal_stringslite_Index.sig.us)) := [⟨[true, false, false, true, true], 57, ⟨[], [(0, .l (.dat (.str))), (1, .l (.dat (.str))), (5, .l (.dat (.int .i64))), (16, .l (.dat (.bool)))]⟩, [.str, .str, .int .i64, .bool], fun k => (internal_stringslite_Index.tab m k).1⟩]
theorem internal_stringslite_Index.eq0 (m k : Nat) (x : Den [.str, .str, .int .i64, .bool]) : (internal_stringslite_Index.tab m (k + 1)).1 x = runF ⟨lookΓ Γl, lookC (internal_stringslite_Index.cons m), false⟩ Tryd.f117 internal_stringslite_Index.sig (internal_stringslite_Index.cuts m) k [true, false, false, true, true] ⟨[], [(0, .l (.dat (.str))), (1, .l (.dat (.str))), (5, .l (.dat (.int .i64))), (16, .l (.dat (.bool)))]⟩ [.str, .str, .int .i64, .bool] x := by kernel_rfl
theorem internal_stringslite_Index.eq (m : Nat) (x : Den internal_stringslite_Index.sig.ts) : internal_stringslite_Index m x = startF ⟨lookΓ Γl, lookC (internal_stringslite_Index.cons m), false⟩ Tryd.f117 internal_stringslite_Index.sig (internal_stringslite_Index.cuts m) m x := by kernel_rfl
theorem internal_stringslite_Index.ok (m : Nat) : Meets GL Tryd.prog 117 internal_stringslite_Index.sig (internal_stringslite_Index m) :=
  fn_is (cx_is tyOk mixed (l := internal_stringslite_Index.cons m) ⟨internal_stringslite_IndexByte.ok m, trivial⟩) (fn := Tryd.f117) Tryd.func117 (by kernel_rfl) (cl := internal_stringslite_Index.cuts m) ⟨⟨by kernel_rfl, fun _ => rfl, fun k x => internal_stringslite_Index.eq0 m k x⟩, trivial⟩ (k := m) (internal_stringslite_Index.eq m)

/-! ### strings.Index: function 103 -/
abbrev strings_Index.R : Type := Den [.int .i64]
def strings_Index.sig : Sig := ⟨2, ⟨[], [(0, .l (.dat (.str))), (1, .l (.dat (.str)))]⟩, [.str, .str], ⟨[], [(0, .l (.dat (.int .i64)))]⟩, [.int .i64]⟩
abbrev strings_Index.Tab : Type := Unit
def strings_Index.start (m : Nat) (t : strings_Index.Tab) (x0 : ByteArray) (x1 : ByteArray) : Option strings_Index.R :=
  Option.bind (internal_stringslite_Index m (x0, x1, ())) fun r1 => some (r1.1, ())
def strings_Index.tab (m : Nat) : Nat → strings_Index.Tab
  | 0 => (())
  | k + 1 => (())
def strings_Index (m : Nat) (x : Den [.str, .str]) : Option strings_Index.R := strings_Index.start m (strings_Index.tab m m) x.1 x.2.1
def strings_Index.cons (m : Nat) : List (Nat × Contract) := [(117, ⟨internal_stringslite_Index.sig, internal_stringslite_Index m⟩)]
def strings_Index.cuts (m : Nat) : List (CutF (Den strings_Index.sig.us)) := []
theorem strings_Index.eq (m : Nat) (x : Den strings_Index.sig.ts) : strings_Index m x = startF ⟨lookΓ Γl, lookC (strings_Index.cons m), false⟩ Tryd.f103 strings_Index.sig (strings_Index.cuts m) m x := by kernel_rfl
theorem strings_Index.ok (m : Nat) : Meets GL Tryd.prog 103 strings_Index.sig (strings_Index m) :=
  fn_is (cx_is tyOk mixed (l := strings_Index.cons m) ⟨internal_stringslite_Index.ok m, trivial⟩) (fn := Tryd.f103) Tryd.func103 (by kernel_rfl) (cl := strings_Index.cuts m) trivial (k := m) (strings_Index.eq m)

/-! ### strings.Count: function 102 -/
abbrev strings_Count.R : Type := Den [.int .i64]
def strings_Count.sig : Sig := ⟨2, ⟨[], [(0, .l (.dat (.str))), (1, .l (.dat (.str)))]⟩, [.str, .str], ⟨[], [(0, .l (.dat (.int .i64)))]⟩, [.int .i64]⟩
abbrev strings_Count.Tab : Type := (Den [.str, .str, .int .i64] → Option strings_Count.R) × Unit
def strings_Count.start (m : Nat) (t : strings_Count.Tab) (x0 : ByteArray) (x1 : ByteArray) : Option strings_Count.R :=
  cond ((sLen x1) == (0 : Int)) (none) (cond ((sLen x1) == (1 : Int)) (cond (decide ((0 : Int) ≤ (0 : Int))) (cond (decide ((0 : Int) < sLen x1)) (Option.bind (internal_bytealg_CountString m (x0, (byteAt x1 (0 : Int)), ())) fun r1 => some (r1.1, ())) none) none) (t.1 (x0, x1, (0 : Int), ())))
def strings_Count.b0 (m : Nat) (t : strings_Count.Tab) (a0 : ByteArray) (a1 : ByteArray) (a2 : Int) : Option strings_Count.R :=
  Option.bind (strings_Index m (a0, a1, ())) fun r1 => cond (r1.1 == (-1 : Int)) (some (a2, ())) (cond (decide ((0 : Int) ≤ (w64 (r1.1 + (sLen a1))))) (cond (decide ((w64 (r1.1 + (sLen a1))) ≤ (ByteArray.size a0 : Int))) (lett ((cutS a0 (Int.toNat (w64 (r1.1 + (sLen a1)))) (ByteArray.size a0)) : ByteArray) fun v2 => t.1 (v2, a1, (w64 (a2 + (1 : Int))), ())) none) none)
def strings_Count.tab (m : Nat) : Nat → strings_Count.Tab
  | 0 => (fun _ => none, ())
  | k + 1 => (fun x => strings_Count.b0 m (strings_Count.tab m k) x.1 x.2.1 x.2.2.1, ())
def strings_Count (m : Nat) (x : Den [.str, .str]) : Option strings_Count.R := strings_Count.start m (strings_Count.tab m m) x.1 x.2.1
def strings_Count.cons (m : Nat) : List (Nat × Contract) := [(116, ⟨internal_bytealg_CountString.sig, internal_bytealg_CountString m⟩), (103, ⟨strings_Index.sig, strings_Index m⟩)]
def strings_Count.cuts (m : Nat) : List (CutF (Den strings_Count.sig.us)) := [⟨[false, true, true, true, true], 62, ⟨[], [(0, .l (.dat (.str))), (1, .l (.dat (.str))), (5, .l (.dat (.int .i64)))]⟩, [.str, .str, .int .i64], fun k => (strings_Count.tab m k).1⟩]
theorem strings_Count.eq0 (m k : Nat) (x : Den [.str, .str, .int .i64]) : (strings_Count.tab m (k + 1)).1 x = runF ⟨lookΓ Γl, lookC (strings_Count.cons m), false⟩ Tryd.f102 strings_Count.sig (strings_Count.cuts m) k [false, true, true, true, true] ⟨[], [(0, .l (.dat (.str))), (1, .l (.dat (.str))), (5, .l (.dat (.int .i64)))]⟩ [.str, .str, .int .i64] x := by kernel_rfl
theorem strings_Count.eq (m : Nat) (x : Den strings_Count.sig.ts) : strings_Count m x = startF ⟨lookΓ Γl, lookC (strings_Count.cons m), false⟩ Tryd.f102 strings_Count.sig (strings_Count.cuts m) m x := by kernel_rfl
theorem strings_Count.ok (m : Nat) : Meets GL Tryd.prog 102 strings_Count.sig (strings_Count m) :=
  fn_is (cx_is tyOk mixed (l := strings_Count.cons m) ⟨internal_bytealg_CountString.ok m, strings_Index.ok m, trivial⟩) (fn := Tryd.f102) Tryd.func102 (by kernel_rfl) (cl := strings_Count.cuts m) ⟨⟨by kernel_rfl, fun _ => rfl, fun k x => strings_Count.eq0 m k x⟩, trivial⟩ (k := m) (strings_Count.eq m)

/-! ### strings.genSplit: function 91 -/
abbrev strings_genSplit.R : Type := Den [.list (.str)]
def strings_genSplit.sig : Sig := ⟨4, ⟨[], [(0, .l (.dat (.str))), (1, .l (.dat (.str))), (2, .l (.dat (.int .i64))), (3, .l (.dat (.int .i64)))]⟩, [.str, .str, .int .i64, .int .i64], ⟨[], [(0, .l (.dat (.list (.str))))]⟩, [.list (.str)]⟩
abbrev strings_genSplit.Tab : Type := (Den [.list (.str), .str, .str, .int .i64, .int .i64, .int .i64] → Option strings_genSplit.R) × (Den [.str, .str, .int .i64, .int .i64] → Option strings_genSplit.R) × Unit
def strings_genSplit.start (m : Nat) (t : strings_genSplit.Tab) (x0 : ByteArray) (x1 : ByteArray) (x2 : Int) (x3 : Int) : Option strings_genSplit.R :=
  cond (x3 == (0 : Int)) (some ([], ())) (cond (sEq x1 ByteArray.empty) (none) (cond (decide (x3 < (0 : Int))) (Option.bind (strings_Count m (x0, x1, ())) fun r1 => t.2.1 (x0, x1, x2, (w64 (r1.1 + (1 : Int))), ())) (t.2.1 (x0, x1, x2, x3, ()))))
def strings_genSplit.b0 (m : Nat) (t : strings_genSplit.Tab) (a0 : List ByteArray) (a1 : ByteArray) (a2 : ByteArray) (a3 : Int) (a4 : Int) (a5 : Int) : Option strings_genSplit.R :=
  cond (decide (a5 < a4)) (Option.bind (strings_Index m (a1, a2, ())) fun r1 => cond (decide (r1.1 < (0 : Int))) (cond (decide ((0 : Int) ≤ a5)) (cond (decide (a5 < lLen a0)) (cond (decide ((0 : Int) ≤ (w64 (a5 + (1 : Int))))) (cond (decide ((w64 (a5 + (1 : Int))) ≤ ((List.length (List.set a0 (Int.toNat a5) a1)) : Int))) (lett ((List.take (Int.toNat (w64 (a5 + (1 : Int)))) (List.set a0 (Int.toNat a5) a1)) : List ByteArray) fun v2 => some (v2, ())) none) none) none) none) (cond (decide ((0 : Int) ≤ (w64 (r1.1 + a3)))) (cond (decide ((w64 (r1.1 + a3)) ≤ (ByteArray.size a1 : Int))) (lett ((cutS a1 0 (Int.toNat (w64 (r1.1 + a3)))) : ByteArray) fun v3 => cond (decide ((0 : Int) ≤ a5)) (cond (decide (a5 < lLen a0)) (cond (decide ((0 : Int) ≤ (w64 (r1.1 + (sLen a2))))) (cond (decide ((w64 (r1.1 + (sLen a2))) ≤ (ByteArray.size a1 : Int))) (lett ((cutS a1 (Int.toNat (w64 (r1.1 + (sLen a2)))) (ByteArray.size a1)) : ByteArray) fun v4 => t.1 ((List.set a0 (Int.toNat a5) v3), v4, a2, a3, a4, (w64 (a5 + (1 : Int))), ())) none) none) none) none) none) none)) (cond (decide ((0 : Int) ≤ a5)) (cond (decide (a5 < lLen a0)) (cond (decide ((0 : Int) ≤ (w64 (a5 + (1 : Int))))) (cond (decide ((w64 (a5 + (1 : Int))) ≤ ((List.length (List.set a0 (Int.toNat a5) a1)) : Int))) (lett ((List.take (Int.toNat (w64 (a5 + (1 : Int)))) (List.set a0 (Int.toNat a5) a1)) : List ByteArray) fun v5 => some (v5, ())) none) none) none) none)
def strings_genSplit.b1 (m : Nat) (t : strings_genSplit.Tab) (a0 : ByteArray) (a1 : ByteArray) (a2 : Int) (a3 : Int) : Option strings_genSplit.R :=
  cond (decide ((0 : Int) ≤ (minI a3 (w64 ((sLen a0) + (1 : Int)))))) (cond (decide (Int.toNat (minI a3 (w64 ((sLen a0) + (1 : Int)))) ≤ apCap)) (lett ((List.replicate (Int.toNat (minI a3 (w64 ((sLen a0) + (1 : Int))))) ByteArray.empty) : List ByteArray) fun v1 => lett ((w64 ((minI a3 (w64 ((sLen a0) + (1 : Int)))) - (1 : Int))) : Int) fun v2 => t.1 (v1, a0, a1, a2, v2, (0 : Int), ())) none) none
def strings_genSplit.tab (m : Nat) : Nat → strings_genSplit.Tab
  | 0 => (fun _ => none, fun _ => none, ())
  | k + 1 => (fun x => strings_genSplit.b0 m (strings_genSplit.tab m k) x.1 x.2.1 x.2.2.1 x.2.2.2.1 x.2.2.2.2.1 x.2.2.2.2.2.1, fun x => strings_genSplit.b1 m (strings_genSplit.tab m k) x.1 x.2.1 x.2.2.1 x.2.2.2.1, ())
def strings_genSplit (m : Nat) (x : Den [.str, .str, .int .i64, .int .i64]) : Option strings_genSplit.R := strings_genSplit.start m (strings_genSplit.tab m m) x.1 x.2.1 x.2.2.1 x.2.2.2.1
def strings_genSplit.cons (m : Nat) : List (Nat × Contract) := [(102, ⟨strings_Count.sig, strings_Count m⟩), (103, ⟨strings_Index.sig, strings_Index m⟩)]
def strings_genSplit.cuts (m : Nat) : List (CutF (Den strings_genSplit.sig.us)) := [⟨[false, false, true, true, true, true, true, true, true, true], 2044, ⟨[.row true (.str)], [(0, .l (.dat (.str))), (1, .l (.dat (.str))), (2, .l (.dat (.int .i64))), (3, .l (.dat (.int .i64))), (9, .l (.sl 0)), (10, .l (.dat (.int .i64)))]⟩, [.list (.str), .str, .str, .int .i64, .int .i64, .int .i64], fun k => (strings_genSplit.tab m k).1⟩,
  ⟨[true, true, true, true], 31, ⟨[], [(0, .l (.dat (.str))), (1, .l (.dat (.str))), (2, .l (.dat (.int .i64))), (3, .l (.dat (.int .i64)))]⟩, [.str, .str, .int .i64, .int .i64], fun k => (strings_genSplit.tab m k).2.1⟩]
theorem strings_genSplit.eq0 (m k : Nat) (x : Den [.list (.str), .str, .str, .int .i64, .int .i64, .int .i64]) : (strings_genSplit.tab m (k + 1)).1 x = runF ⟨lookΓ Γl, lookC (strings_genSplit.cons m), false⟩ Tryd.f91 strings_genSplit.sig (strings_genSplit.cuts m) k [false, false, true, true, true, true, true, true, true, true] ⟨[.row true (.str)], [(0, .l (.dat (.str))), (1, .l (.dat (.str))), (2, .l (.dat (.int .i64))), (3, .l (.dat (.int .i64))), (9, .l (.sl 0)), (10, .l (.dat (.int .i64)))]⟩ [.list (.str), .str, .str, .int .i64, .int .i64, .int .i64] x := by kernel_rfl
theorem strings_genSplit.eq1 (m k : Nat) (x : Den [.str, .str, .int .i64, .int .i64]) : (strings_genSplit.tab m (k + 1)).2.1 x = runF ⟨lookΓ Γl, lookC (strings_genSplit.cons m), false⟩ Tryd.f91 strings_genSplit.sig (strings_genSplit.cuts m) k [true, true, true, true] ⟨[], [(0, .l (.dat (.str))), (1, .l (.dat (.str))), (2, .l (.dat (.int .i64))), (3, .l (.dat (.int .i64)))]⟩ [.str, .str, .int .i64, .int .i64] x := by kernel_rfl
theorem strings_genSplit.eq (m : Nat) (x : Den strings_genSplit.sig.ts) : strings_genSplit m x = startF ⟨lookΓ Γl, lookC (strings_genSplit.cons m), false⟩ Tryd.f91 strings_genSplit.sig (strings_genSplit.cuts m) m x := by kernel_rfl
theorem strings_genSplit.ok (m : Nat) : Meets GL Tryd.prog 91 strings_genSplit.sig (strings_genSplit m) :=
  fn_is (cx_is tyOk mixed (l := strings_genSplit.cons m) ⟨strings_Count.ok m, strings_Index.ok m, trivial⟩) (fn := Tryd.f91) Tryd.func91 (by kernel_rfl) (cl := strings_genSplit.cuts m) ⟨⟨by kernel_rfl, fun _ => rfl, fun k x => strings_genSplit.eq0 m k x⟩, ⟨by kernel_rfl, fun _ => rfl, fun k x => strings_genSplit.eq1 m k x⟩, trivial⟩ (k := m) (strings_genSplit.eq m)

/-! ### strings.Split: function 70 -/
abbrev strings_Split.R : Type := Den [.list (.str)]
def strings_Split.sig : Sig := ⟨2, ⟨[], [(0, .l (.dat (.str))), (1, .l (.dat (.str)))]⟩, [.str, .str], ⟨[], [(0, .l (.dat (.list (.str))))]⟩, [.list (.str)]⟩
abbrev strings_Split.Tab : Type := Unit
def strings_Split.start (m : Nat) (t : strings_Split.Tab) (x0 : ByteArray) (x1 : ByteArray) : Option strings_Split.R :=
  Option.bind (strings_genSplit m (x0, x1, (0 : Int), (-1 : Int), ())) fun r1 => some (r1.1, ())
def strings_Split.tab (m : Nat) : Nat → strings_Split.Tab
  | 0 => (())
  | k + 1 => (())
def strings_Split (m : Nat) (x : Den [.str, .str]) : Option strings_Split.R := strings_Split.start m (strings_Split.tab m m) x.1 x.2.1
def strings_Split.cons (m : Nat) : List (Nat × Contract) := [(91, ⟨strings_genSplit.sig, strings_genSplit m⟩)]
def strings_Split.cuts (m : Nat) : List (CutF (Den strings_Split.sig.us)) := []
theorem strings_Split.eq (m : Nat) (x : Den strings_Split.sig.ts) : strings_Split m x = startF ⟨lookΓ Γl, lookC (strings_Split.cons m), false⟩ Tryd.f70 strings_Split.sig (strings_Split.cuts m) m x := by kernel_rfl
theorem strings_Split.ok (m : Nat) : Meets GL Tryd.prog 70 strings_Split.sig (strings_Split m) :=
  fn_is (cx_is tyOk mixed (l := strings_Split.cons m) ⟨strings_genSplit.ok m, trivial⟩) (fn := Tryd.f70) Tryd.func70 (by kernel_rfl) (cl := strings_Split.cuts m) trivial (k := m) (strings_Split.eq m)

/-! ### loop.example/stemma/impl.linesOf: function 47 -/
abbrev impl_linesOf.R : Type := Den [.list (.str)]
def impl_linesOf.sig : Sig := ⟨1, ⟨[], [(0, .l (.dat (.str)))]⟩, [.str], ⟨[], [(0, .l (.dat (.list (.str))))]⟩, [.list (.str)]⟩
abbrev impl_linesOf.Tab : Type := Unit
def impl_linesOf.start (m : Nat) (t : impl_linesOf.Tab) (x0 : ByteArray) : Option impl_linesOf.R :=
  Option.bind (strings_Split m (x0, s_0a, ())) fun r1 => cond (decide ((0 : Int) ≤ (w64 ((lLen r1.1) - (1 : Int))))) (cond (decide ((w64 ((lLen r1.1) - (1 : Int))) ≤ (List.length r1.1 : Int))) (lett ((cutL r1.1 0 (Int.toNat (w64 ((lLen r1.1) - (1 : Int))))) : List ByteArray) fun v2 => some (v2, ())) none) none
def impl_linesOf.tab (m : Nat) : Nat → impl_linesOf.Tab
  | 0 => (())
  | k + 1 => (())
def impl_linesOf (m : Nat) (x : Den [.str]) : Option impl_linesOf.R := impl_linesOf.start m (impl_linesOf.tab m m) x.1
def impl_linesOf.cons (m : Nat) : List (Nat × Contract) := [(70, ⟨strings_Split.sig, strings_Split m⟩)]
def impl_linesOf.cuts (m : Nat) : List (CutF (Den impl_linesOf.sig.us)) := []
theorem impl_linesOf.eq (m : Nat) (x : Den impl_linesOf.sig.ts) : impl_linesOf m x = startF ⟨lookΓ Γl, lookC (impl_linesOf.cons m), false⟩ Tryd.f47 impl_linesOf.sig (impl_linesOf.cuts m) m x := by kernel_rfl
theorem impl_linesOf.ok (m : Nat) : Meets GL Tryd.prog 47 impl_linesOf.sig (impl_linesOf m) :=
  fn_is (cx_is tyOk mixed (l := impl_linesOf.cons m) ⟨strings_Split.ok m, trivial⟩) (fn := Tryd.f47) Tryd.func47 (by kernel_rfl) (cl := impl_linesOf.cuts m) trivial (k := m) (impl_linesOf.eq m)

/-! ### strconv.Atoi: function 77 -/
def strconv_Atoi.sig : Sig := atoiSig
def strconv_Atoi (m : Nat) (x : Den [.str]) : Option (Den [.int .i64, .bool]) := atoiF x
theorem strconv_Atoi.ok (m : Nat) : Meets GL Tryd.prog 77 strconv_Atoi.sig (strconv_Atoi m) := Tryd.atoi

/-! ### loop.example/stemma/impl.within: function 78 -/
abbrev impl_within.R : Type := Den [.bool]
def impl_within.sig : Sig := ⟨3, ⟨[], [(0, .l (.dat (.int .i64))), (1, .l (.dat (.int .i64))), (2, .l (.dat (.int .i64)))]⟩, [.int .i64, .int .i64, .int .i64], ⟨[], [(0, .l (.dat (.bool)))]⟩, [.bool]⟩
abbrev impl_within.Tab : Type := Unit
def impl_within.start (m : Nat) (t : impl_within.Tab) (x0 : Int) (x1 : Int) (x2 : Int) : Option impl_within.R :=
  cond (decide (x0 ≥ x1)) (some ((decide (x0 ≤ x2)), ())) (some (false, ()))
def impl_within.tab (m : Nat) : Nat → impl_within.Tab
  | 0 => (())
  | k + 1 => (())
def impl_within (m : Nat) (x : Den [.int .i64, .int .i64, .int .i64]) : Option impl_within.R := impl_within.start m (impl_within.tab m m) x.1 x.2.1 x.2.2.1
def impl_within.cons (m : Nat) : List (Nat × Contract) := []
def impl_within.cuts (m : Nat) : List (CutF (Den impl_within.sig.us)) := []
theorem impl_within.eq (m : Nat) (x : Den impl_within.sig.ts) : impl_within m x = startF ⟨lookΓ Γl, lookC (impl_within.cons m), false⟩ Tryd.f78 impl_within.sig (impl_within.cuts m) m x := by kernel_rfl
theorem impl_within.ok (m : Nat) : Meets GL Tryd.prog 78 impl_within.sig (impl_within m) :=
  fn_is (cx_is tyOk mixed (l := impl_within.cons m) trivial) (fn := Tryd.f78) Tryd.func78 (by kernel_rfl) (cl := impl_within.cuts m) trivial (k := m) (impl_within.eq m)

/-! ### loop.example/stemma/impl.readFiles: function 46 -/
abbrev impl_readFiles.R : Type := Den [.list (.pair (.str) (.list (.str))), .list (.str)]
def impl_readFiles.sig : Sig := ⟨1, ⟨[], [(0, .l (.dat (.list (.str))))]⟩, [.list (.str)], ⟨[], [(0, .l (.dat (.list (.pair (.str) (.list (.str)))))), (1, .l (.dat (.list (.str))))]⟩, [.list (.pair (.str) (.list (.str))), .list (.str)]⟩
abbrev impl_readFiles.Tab : Type := (Den [.list (.pair (.str) (.list (.str))), .list (.str)] → Option impl_readFiles.R) × (Den [.list (.pair (.str) (.list (.str))), .list (.str)] → Option impl_readFiles.R) × Unit
def impl_readFiles.start (m : Nat) (t : impl_readFiles.Tab) (x0 : List ByteArray) : Option impl_readFiles.R :=
  t.1 ([], x0, ())
def impl_readFiles.b0 (m : Nat) (t : impl_readFiles.Tab) (a0 : List (ByteArray × List ByteArray)) (a1 : List ByteArray) : Option impl_readFiles.R :=
  cond (decide ((lLen a1) > (0 : Int))) (cond (decide ((0 : Int) ≤ (0 : Int))) (cond (decide ((0 : Int) < lLen a1)) (Option.bind (strings_Split m ((getL a1 (0 : Int) ByteArray.empty), s_20, ())) fun r1 => cond ((lLen r1.1) != (3 : Int)) (t.2.1 (a0, a1, ())) (cond (decide ((0 : Int) ≤ (0 : Int))) (cond (decide ((0 : Int) < lLen r1.1)) (lett ((!sEq (getL r1.1 (0 : Int) ByteArray.empty) s_66696c65) : Bool) fun v2 => cond v2 (t.2.1 (a0, a1, ())) (cond (decide ((0 : Int) ≤ (2 : Int))) (cond (decide ((2 : Int) < lLen r1.1)) (Option.bind (strconv_Atoi m ((getL r1.1 (2 : Int) ByteArray.empty), ())) fun r3 => cond r3.2.1 (t.2.1 (a0, a1, ())) (Option.bind (impl_within m (r3.1, (0 : Int), (w64 ((lLen a1) - (1 : Int))), ())) fun r4 => cond (!r4.1) (t.2.1 (a0, a1, ())) (cond (decide ((0 : Int) ≤ (1 : Int))) (cond (decide ((1 : Int) < lLen r1.1)) (cond (decide ((0 : Int) ≤ (w64 (r3.1 + (1 : Int))))) (cond (decide ((w64 (r3.1 + (1 : Int))) ≤ (List.length a1 : Int))) (cond (decide ((0 : Int) ≤ (1 : Int))) (cond (decide ((1 : Int) ≤ (w64 (r3.1 + (1 : Int))))) (lett ((cutL a1 (Int.toNat (1 : Int)) (Int.toNat (w64 (r3.1 + (1 : Int))))) : List ByteArray) fun v5 => cond (decide (List.length ([] : List ByteArray) + List.length v5 ≤ apCap)) (lett ([((getL r1.1 (1 : Int) ByteArray.empty), (List.append ([] : List ByteArray) v5))] : List (ByteArray × List ByteArray)) fun v6 => cond (decide (List.length a0 + List.length v6 ≤ apCap)) (cond (decide ((0 : Int) ≤ (w64 (r3.1 + (1 : Int))))) (cond (decide ((w64 (r3.1 + (1 : Int))) ≤ (List.length a1 : Int))) (lett ((cutL a1 (Int.toNat (w64 (r3.1 + (1 : Int)))) (List.length a1)) : List ByteArray) fun v7 => t.1 ((List.append a0 v6), v7, ())) none) none) none) none) none) none) none) none) none) none))) none) none)) none) none)) none) none) (t.2.1 (a0, a1, ()))
def impl_readFiles.b1 (m : Nat) (t : impl_readFiles.Tab) (a0 : List (ByteArray × List ByteArray)) (a1 : List ByteArray) : Option impl_readFiles.R :=
  some (a0, a1, ())
def impl_readFiles.tab (m : Nat) : Nat → impl_readFiles.Tab
  | 0 => (fun _ => none, fun _ => none, ())
  | k + 1 => (fun x => impl_readFiles.b0 m (impl_readFiles.tab m k) x.1 x.2.1, fun x => impl_readFiles.b1 m (impl_readFiles.tab m k) x.1 x.2.1, ())
def impl_readFiles (m : Nat) (x : Den [.list (.str)]) : Option impl_readFiles.R := impl_readFiles.start m (impl_readFiles.tab m m) x.1
def impl_readFiles.cons (m : Nat) : List (Nat × Contract) := [(70, ⟨strings_Split.sig, strings_Split m⟩), (77, ⟨strconv_Atoi.sig, strconv_Atoi m⟩), (78, ⟨impl_within.sig, impl_within m⟩)]
def impl_readFiles.cuts (m : Nat) : List (CutF (Den impl_readFiles.sig.us)) := [⟨[false, false, true, true], 28, ⟨[.row true (.pair (.str) (.list (.str)))], [(0, .l (.dat (.list (.str)))), (4, .l (.sl 0))]⟩, [.list (.pair (.str) (.list (.str))), .list (.str)], fun k => (impl_readFiles.tab m k).1⟩,
  ⟨[true, true, true], 15, ⟨[.row true (.pair (.str) (.list (.str)))], [(0, .l (.dat (.list (.str)))), (4, .l (.sl 0))]⟩, [.list (.pair (.str) (.list (.str))), .list (.str)], fun k => (impl_readFiles.tab m k).2.1⟩]
theorem impl_readFiles.eq0 (m k : Nat) (x : Den [.list (.pair (.str) (.list (.str))), .list (.str)]) : (impl_readFiles.tab m (k + 1)).1 x = runF ⟨lookΓ Γl, lookC (impl_readFiles.cons m), false⟩ Tryd.f46 impl_readFiles.sig (impl_readFiles.cuts m) k [false, false, true, true] ⟨[.row true (.pair (.str) (.list (.str)))], [(0, .l (.dat (.list (.str)))), (4, .l (.sl 0))]⟩ [.list (.pair (.str) (.list (.str))), .list (.str)] x := by kernel_rfl
theorem impl_readFiles.eq1 (m k : Nat) (x : Den [.list (.pair (.str) (.list (.str))), .list (.str)]) : (impl_readFiles.tab m (k + 1)).2.1 x = runF ⟨lookΓ Γl, lookC (impl_readFiles.cons m), false⟩ Tryd.f46 impl_readFiles.sig (impl_readFiles.cuts m) k [true, true, true] ⟨[.row true (.pair (.str) (.list (.str)))], [(0, .l (.dat (.list (.str)))), (4, .l (.sl 0))]⟩ [.list (.pair (.str) (.list (.str))), .list (.str)] x := by kernel_rfl
theorem impl_readFiles.eq (m : Nat) (x : Den impl_readFiles.sig.ts) : impl_readFiles m x = startF ⟨lookΓ Γl, lookC (impl_readFiles.cons m), false⟩ Tryd.f46 impl_readFiles.sig (impl_readFiles.cuts m) m x := by kernel_rfl
theorem impl_readFiles.ok (m : Nat) : Meets GL Tryd.prog 46 impl_readFiles.sig (impl_readFiles m) :=
  fn_is (cx_is tyOk mixed (l := impl_readFiles.cons m) ⟨strings_Split.ok m, strconv_Atoi.ok m, impl_within.ok m, trivial⟩) (fn := Tryd.f46) Tryd.func46 (by kernel_rfl) (cl := impl_readFiles.cuts m) ⟨⟨by kernel_rfl, fun _ => rfl, fun k x => impl_readFiles.eq0 m k x⟩, ⟨by kernel_rfl, fun _ => rfl, fun k x => impl_readFiles.eq1 m k x⟩, trivial⟩ (k := m) (impl_readFiles.eq m)

/-! ### loop.example/stemma/impl.isNameByte: function 92 -/
abbrev impl_isNameByte.R : Type := Den [.bool]
def impl_isNameByte.sig : Sig := ⟨1, ⟨[], [(0, .l (.dat (.int .u8)))]⟩, [.int .u8], ⟨[], [(0, .l (.dat (.bool)))]⟩, [.bool]⟩
abbrev impl_isNameByte.Tab : Type := Unit
def impl_isNameByte.start (m : Nat) (t : impl_isNameByte.Tab) (x0 : Int) : Option impl_isNameByte.R :=
  cond (decide (x0 ≥ (97 : Int))) (cond (decide (x0 ≤ (122 : Int))) (some (true, ())) (cond (decide (x0 ≥ (48 : Int))) (some ((decide (x0 ≤ (57 : Int))), ())) (some (false, ())))) (cond (decide (x0 ≥ (48 : Int))) (some ((decide (x0 ≤ (57 : Int))), ())) (some (false, ())))
def impl_isNameByte.tab (m : Nat) : Nat → impl_isNameByte.Tab
  | 0 => (())
  | k + 1 => (())
def impl_isNameByte (m : Nat) (x : Den [.int .u8]) : Option impl_isNameByte.R := impl_isNameByte.start m (impl_isNameByte.tab m m) x.1
def impl_isNameByte.cons (m : Nat) : List (Nat × Contract) := []
def impl_isNameByte.cuts (m : Nat) : List (CutF (Den impl_isNameByte.sig.us)) := []
theorem impl_isNameByte.eq (m : Nat) (x : Den impl_isNameByte.sig.ts) : impl_isNameByte m x = startF ⟨lookΓ Γl, lookC (impl_isNameByte.cons m), false⟩ Tryd.f92 impl_isNameByte.sig (impl_isNameByte.cuts m) m x := by kernel_rfl
theorem impl_isNameByte.ok (m : Nat) : Meets GL Tryd.prog 92 impl_isNameByte.sig (impl_isNameByte m) :=
  fn_is (cx_is tyOk mixed (l := impl_isNameByte.cons m) trivial) (fn := Tryd.f92) Tryd.func92 (by kernel_rfl) (cl := impl_isNameByte.cuts m) trivial (k := m) (impl_isNameByte.eq m)

/-! ### loop.example/stemma/impl.nameOk: function 72 -/
abbrev impl_nameOk.R : Type := Den [.bool]
def impl_nameOk.sig : Sig := ⟨1, ⟨[], [(0, .l (.dat (.str)))]⟩, [.str], ⟨[], [(0, .l (.dat (.bool)))]⟩, [.bool]⟩
abbrev impl_nameOk.Tab : Type := (Den [.str, .int .i64, .int .i64] → Option impl_nameOk.R) × Unit
def impl_nameOk.start (m : Nat) (t : impl_nameOk.Tab) (x0 : ByteArray) : Option impl_nameOk.R :=
  t.1 (x0, (sLen x0), (0 : Int), ())
def impl_nameOk.b0 (m : Nat) (t : impl_nameOk.Tab) (a0 : ByteArray) (a1 : Int) (a2 : Int) : Option impl_nameOk.R :=
  cond (decide (a2 < a1)) (cond (decide ((0 : Int) ≤ a2)) (cond (decide (a2 < sLen a0)) (Option.bind (impl_isNameByte m ((byteAt a0 a2), ())) fun r1 => cond (!r1.1) (some (false, ())) (t.1 (a0, a1, (w64 (a2 + (1 : Int))), ()))) none) none) (Option.bind (impl_within m ((sLen a0), (1 : Int), (6 : Int), ())) fun r2 => some (r2.1, ()))
def impl_nameOk.tab (m : Nat) : Nat → impl_nameOk.Tab
  | 0 => (fun _ => none, ())
  | k + 1 => (fun x => impl_nameOk.b0 m (impl_nameOk.tab m k) x.1 x.2.1 x.2.2.1, ())
def impl_nameOk (m : Nat) (x : Den [.str]) : Option impl_nameOk.R := impl_nameOk.start m (impl_nameOk.tab m m) x.1
def impl_nameOk.cons (m : Nat) : List (Nat × Contract) := [(92, ⟨impl_isNameByte.sig, impl_isNameByte m⟩), (78, ⟨impl_within.sig, impl_within m⟩)]
def impl_nameOk.cuts (m : Nat) : List (CutF (Den impl_nameOk.sig.us)) := [⟨[false, true, false, true], 26, ⟨[], [(0, .l (.dat (.str))), (5, .l (.dat (.int .i64))), (6, .l (.dat (.int .i64)))]⟩, [.str, .int .i64, .int .i64], fun k => (impl_nameOk.tab m k).1⟩]
theorem impl_nameOk.eq0 (m k : Nat) (x : Den [.str, .int .i64, .int .i64]) : (impl_nameOk.tab m (k + 1)).1 x = runF ⟨lookΓ Γl, lookC (impl_nameOk.cons m), false⟩ Tryd.f72 impl_nameOk.sig (impl_nameOk.cuts m) k [false, true, false, true] ⟨[], [(0, .l (.dat (.str))), (5, .l (.dat (.int .i64))), (6, .l (.dat (.int .i64)))]⟩ [.str, .int .i64, .int .i64] x := by kernel_rfl
theorem impl_nameOk.eq (m : Nat) (x : Den impl_nameOk.sig.ts) : impl_nameOk m x = startF ⟨lookΓ Γl, lookC (impl_nameOk.cons m), false⟩ Tryd.f72 impl_nameOk.sig (impl_nameOk.cuts m) m x := by kernel_rfl
theorem impl_nameOk.ok (m : Nat) : Meets GL Tryd.prog 72 impl_nameOk.sig (impl_nameOk m) :=
  fn_is (cx_is tyOk mixed (l := impl_nameOk.cons m) ⟨impl_isNameByte.ok m, impl_within.ok m, trivial⟩) (fn := Tryd.f72) Tryd.func72 (by kernel_rfl) (cl := impl_nameOk.cuts m) ⟨⟨by kernel_rfl, fun _ => rfl, fun k x => impl_nameOk.eq0 m k x⟩, trivial⟩ (k := m) (impl_nameOk.eq m)

/-! ### loop.example/stemma/impl.PathOk$1: function 71 -/
abbrev impl_PathOk_1.R : Type := Den [.bool]
def impl_PathOk_1.sig : Sig := ⟨1, ⟨[], [(0, .l (.dat (.str)))]⟩, [.str], ⟨[], [(0, .l (.dat (.bool)))]⟩, [.bool]⟩
abbrev impl_PathOk_1.Tab : Type := Unit
def impl_PathOk_1.start (m : Nat) (t : impl_PathOk_1.Tab) (x0 : ByteArray) : Option impl_PathOk_1.R :=
  Option.bind (impl_nameOk m (x0, ())) fun r1 => some ((!r1.1), ())
def impl_PathOk_1.tab (m : Nat) : Nat → impl_PathOk_1.Tab
  | 0 => (())
  | k + 1 => (())
def impl_PathOk_1 (m : Nat) (x : Den [.str]) : Option impl_PathOk_1.R := impl_PathOk_1.start m (impl_PathOk_1.tab m m) x.1
def impl_PathOk_1.cons (m : Nat) : List (Nat × Contract) := [(72, ⟨impl_nameOk.sig, impl_nameOk m⟩)]
def impl_PathOk_1.cuts (m : Nat) : List (CutF (Den impl_PathOk_1.sig.us)) := []
theorem impl_PathOk_1.eq (m : Nat) (x : Den impl_PathOk_1.sig.ts) : impl_PathOk_1 m x = startF ⟨lookΓ Γl, lookC (impl_PathOk_1.cons m), false⟩ Tryd.f71 impl_PathOk_1.sig (impl_PathOk_1.cuts m) m x := by kernel_rfl
theorem impl_PathOk_1.ok (m : Nat) : Meets GL Tryd.prog 71 impl_PathOk_1.sig (impl_PathOk_1 m) :=
  fn_is (cx_is tyOk mixed (l := impl_PathOk_1.cons m) ⟨impl_nameOk.ok m, trivial⟩) (fn := Tryd.f71) Tryd.func71 (by kernel_rfl) (cl := impl_PathOk_1.cuts m) trivial (k := m) (impl_PathOk_1.eq m)

/-! ### slices.IndexFunc[[]string,string]: function 86 -/
abbrev slices_IndexFunc_string_of_impl_PathOk_1.R : Type := Den [.int .i64]
def slices_IndexFunc_string_of_impl_PathOk_1.sig : Sig := ⟨2, ⟨[], [(0, .l (.dat (.list (.str)))), (1, .l (.fn 71 []))]⟩, [.list (.str)], ⟨[], [(0, .l (.dat (.int .i64)))]⟩, [.int .i64]⟩
abbrev slices_IndexFunc_string_of_impl_PathOk_1.Tab : Type := (Den [.list (.str), .int .i64, .int .i64] → Option slices_IndexFunc_string_of_impl_PathOk_1.R) × Unit
def slices_IndexFunc_string_of_impl_PathOk_1.start (m : Nat) (t : slices_IndexFunc_string_of_impl_PathOk_1.Tab) (x0 : List ByteArray) : Option slices_IndexFunc_string_of_impl_PathOk_1.R :=
  t.1 (x0, (lLen x0), (0 : Int), ())
def slices_IndexFunc_string_of_impl_PathOk_1.b0 (m : Nat) (t : slices_IndexFunc_string_of_impl_PathOk_1.Tab) (a0 : List ByteArray) (a1 : Int) (a2 : Int) : Option slices_IndexFunc_string_of_impl_PathOk_1.R :=
  cond (decide (a2 < a1)) (cond (decide ((0 : Int) ≤ a2)) (cond (decide (a2 < lLen a0)) (Option.bind (impl_PathOk_1 m ((getL a0 a2 ByteArray.empty), ())) fun r1 => cond r1.1 (some (a2, ())) (t.1 (a0, a1, (w64 (a2 + (1 : Int))), ()))) none) none) (some ((-1 : Int), ()))
def slices_IndexFunc_string_of_impl_PathOk_1.tab (m : Nat) : Nat → slices_IndexFunc_string_of_impl_PathOk_1.Tab
  | 0 => (fun _ => none, ())
  | k + 1 => (fun x => slices_IndexFunc_string_of_impl_PathOk_1.b0 m (slices_IndexFunc_string_of_impl_PathOk_1.tab m k) x.1 x.2.1 x.2.2.1, ())
def slices_IndexFunc_string_of_impl_PathOk_1 (m : Nat) (x : Den [.list (.str)]) : Option slices_IndexFunc_string_of_impl_PathOk_1.R := slices_IndexFunc_string_of_impl_PathOk_1.start m (slices_IndexFunc_string_of_impl_PathOk_1.tab m m) x.1
def slices_IndexFunc_string_of_impl_PathOk_1.cons (m : Nat) : List (Nat × Contract) := [(71, ⟨impl_PathOk_1.sig, impl_PathOk_1 m⟩)]
def slices_IndexFunc_string_of_impl_PathOk_1.cuts (m : Nat) : List (CutF (Den slices_IndexFunc_string_of_impl_PathOk_1.sig.us)) := [⟨[false, true, false, true], 26, ⟨[], [(0, .l (.dat (.list (.str)))), (1, .l (.fn 71 [])), (7, .l (.dat (.int .i64))), (8, .l (.dat (.int .i64)))]⟩, [.list (.str), .int .i64, .int .i64], fun k => (slices_IndexFunc_string_of_impl_PathOk_1.tab m k).1⟩]
theorem slices_IndexFunc_string_of_impl_PathOk_1.eq0 (m k : Nat) (x : Den [.list (.str), .int .i64, .int .i64]) : (slices_IndexFunc_string_of_impl_PathOk_1.tab m (k + 1)).1 x = runF ⟨lookΓ Γl, lookC (slices_IndexFunc_string_of_impl_PathOk_1.cons m), false⟩ Tryd.f86 slices_IndexFunc_string_of_impl_PathOk_1.sig (slices_IndexFunc_string_of_impl_PathOk_1.cuts m) k [false, true, false, true] ⟨[], [(0, .l (.dat (.list (.str)))), (1, .l (.fn 71 [])), (7, .l (.dat (.int .i64))), (8, .l (.dat (.int .i64)))]⟩ [.list (.str), .int .i64, .int .i64] x := by kernel_rfl
theorem slices_IndexFunc_string_of_impl_PathOk_1.eq (m : Nat) (x : Den slices_IndexFunc_string_of_impl_PathOk_1.sig.ts) : slices_IndexFunc_string_of_impl_PathOk_1 m x = startF ⟨lookΓ Γl, lookC (slices_IndexFunc_string_of_impl_PathOk_1.cons m), false⟩ Tryd.f86 slices_IndexFunc_string_of_impl_PathOk_1.sig (slices_IndexFunc_string_of_impl_PathOk_1.cuts m) m x := by kernel_rfl
theorem slices_IndexFunc_string_of_impl_PathOk_1.ok (m : Nat) : Meets GL Tryd.prog 86 slices_IndexFunc_string_of_impl_PathOk_1.sig (slices_IndexFunc_string_of_impl_PathOk_1 m) :=
  fn_is (cx_is tyOk mixed (l := slices_IndexFunc_string_of_impl_PathOk_1.cons m) ⟨impl_PathOk_1.ok m, trivial⟩) (fn := Tryd.f86) Tryd.func86 (by kernel_rfl) (cl := slices_IndexFunc_string_of_impl_PathOk_1.cuts m) ⟨⟨by kernel_rfl, fun _ => rfl, fun k x => slices_IndexFunc_string_of_impl_PathOk_1.eq0 m k x⟩, trivial⟩ (k := m) (slices_IndexFunc_string_of_impl_PathOk_1.eq m)

/-! ### slices.ContainsFunc[[]string,string]: function 58 -/
abbrev slices_ContainsFunc_string_of_impl_PathOk_1.R : Type := Den [.bool]
def slices_ContainsFunc_string_of_impl_PathOk_1.sig : Sig := ⟨2, ⟨[], [(0, .l (.dat (.list (.str)))), (1, .l (.fn 71 []))]⟩, [.list (.str)], ⟨[], [(0, .l (.dat (.bool)))]⟩, [.bool]⟩
abbrev slices_ContainsFunc_string_of_impl_PathOk_1.Tab : Type := Unit
def slices_ContainsFunc_string_of_impl_PathOk_1.start (m : Nat) (t : slices_ContainsFunc_string_of_impl_PathOk_1.Tab) (x0 : List ByteArray) : Option slices_ContainsFunc_string_of_impl_PathOk_1.R :=
  Option.bind (slices_IndexFunc_string_of_impl_PathOk_1 m (x0, ())) fun r1 => some ((decide (r1.1 ≥ (0 : Int))), ())
def slices_ContainsFunc_string_of_impl_PathOk_1.tab (m : Nat) : Nat → slices_ContainsFunc_string_of_impl_PathOk_1.Tab
  | 0 => (())
  | k + 1 => (())
def slices_ContainsFunc_string_of_impl_PathOk_1 (m : Nat) (x : Den [.list (.str)]) : Option slices_ContainsFunc_string_of_impl_PathOk_1.R := slices_ContainsFunc_string_of_impl_PathOk_1.start m (slices_ContainsFunc_string_of_impl_PathOk_1.tab m m) x.1
def slices_ContainsFunc_string_of_impl_PathOk_1.cons (m : Nat) : List (Nat × Contract) := [(86, ⟨slices_IndexFunc_string_of_impl_PathOk_1.sig, slices_IndexFunc_string_of_impl_PathOk_1 m⟩)]
def slices_ContainsFunc_string_of_impl_PathOk_1.cuts (m : Nat) : List (CutF (Den slices_ContainsFunc_string_of_impl_PathOk_1.sig.us)) := []
theorem slices_ContainsFunc_string_of_impl_PathOk_1.eq (m : Nat) (x : Den slices_ContainsFunc_string_of_impl_PathOk_1.sig.ts) : slices_ContainsFunc_string_of_impl_PathOk_1 m x = startF ⟨lookΓ Γl, lookC (slices_ContainsFunc_string_of_impl_PathOk_1.cons m), false⟩ Tryd.f58 slices_ContainsFunc_string_of_impl_PathOk_1.sig (slices_ContainsFunc_string_of_impl_PathOk_1.cuts m) m x := by kernel_rfl
theorem slices_ContainsFunc_string_of_impl_PathOk_1.ok (m : Nat) : Meets GL Tryd.prog 58 slices_ContainsFunc_string_of_impl_PathOk_1.sig (slices_ContainsFunc_string_of_impl_PathOk_1 m) :=
  fn_is (cx_is tyOk mixed (l := slices_ContainsFunc_string_of_impl_PathOk_1.cons m) ⟨slices_IndexFunc_string_of_impl_PathOk_1.ok m, trivial⟩) (fn := Tryd.f58) Tryd.func58 (by kernel_rfl) (cl := slices_ContainsFunc_string_of_impl_PathOk_1.cuts m) trivial (k := m) (slices_ContainsFunc_string_of_impl_PathOk_1.eq m)

/-! ### loop.example/stemma/impl.PathOk: function 37 -/
abbrev impl_PathOk.R : Type := Den [.bool]
def impl_PathOk.sig : Sig := ⟨1, ⟨[], [(0, .l (.dat (.str)))]⟩, [.str], ⟨[], [(0, .l (.dat (.bool)))]⟩, [.bool]⟩
abbrev impl_PathOk.Tab : Type := Unit
def impl_PathOk.start (m : Nat) (t : impl_PathOk.Tab) (x0 : ByteArray) : Option impl_PathOk.R :=
  Option.bind (strings_Split m (x0, s_2f, ())) fun r1 => cond (decide ((lLen r1.1) ≤ (3 : Int))) (Option.bind (slices_ContainsFunc_string_of_impl_PathOk_1 m (r1.1, ())) fun r2 => some ((!r2.1), ())) (some (false, ()))
def impl_PathOk.tab (m : Nat) : Nat → impl_PathOk.Tab
  | 0 => (())
  | k + 1 => (())
def impl_PathOk (m : Nat) (x : Den [.str]) : Option impl_PathOk.R := impl_PathOk.start m (impl_PathOk.tab m m) x.1
def impl_PathOk.cons (m : Nat) : List (Nat × Contract) := [(70, ⟨strings_Split.sig, strings_Split m⟩), (58, ⟨slices_ContainsFunc_string_of_impl_PathOk_1.sig, slices_ContainsFunc_string_of_impl_PathOk_1 m⟩)]
def impl_PathOk.cuts (m : Nat) : List (CutF (Den impl_PathOk.sig.us)) := []
theorem impl_PathOk.eq (m : Nat) (x : Den impl_PathOk.sig.ts) : impl_PathOk m x = startF ⟨lookΓ Γl, lookC (impl_PathOk.cons m), false⟩ Tryd.f37 impl_PathOk.sig (impl_PathOk.cuts m) m x := by kernel_rfl
theorem impl_PathOk.ok (m : Nat) : Meets GL Tryd.prog 37 impl_PathOk.sig (impl_PathOk m) :=
  fn_is (cx_is tyOk mixed (l := impl_PathOk.cons m) ⟨strings_Split.ok m, slices_ContainsFunc_string_of_impl_PathOk_1.ok m, trivial⟩) (fn := Tryd.f37) Tryd.func37 (by kernel_rfl) (cl := impl_PathOk.cuts m) trivial (k := m) (impl_PathOk.eq m)

/-! ### loop.example/stemma/impl.lineOk: function 74 -/
abbrev impl_lineOk.R : Type := Den [.bool]
def impl_lineOk.sig : Sig := ⟨1, ⟨[], [(0, .l (.dat (.str)))]⟩, [.str], ⟨[], [(0, .l (.dat (.bool)))]⟩, [.bool]⟩
abbrev impl_lineOk.Tab : Type := (Den [.str, .int .i64, .int .i64] → Option impl_lineOk.R) × Unit
def impl_lineOk.start (m : Nat) (t : impl_lineOk.Tab) (x0 : ByteArray) : Option impl_lineOk.R :=
  t.1 (x0, (sLen x0), (0 : Int), ())
def impl_lineOk.b0 (m : Nat) (t : impl_lineOk.Tab) (a0 : ByteArray) (a1 : Int) (a2 : Int) : Option impl_lineOk.R :=
  cond (decide (a2 < a1)) (cond (decide ((0 : Int) ≤ a2)) (cond (decide (a2 < sLen a0)) (cond (decide ((byteAt a0 a2) < (32 : Int))) (some (false, ())) (cond (decide ((0 : Int) ≤ a2)) (cond (decide (a2 < sLen a0)) (cond (decide ((byteAt a0 a2) > (126 : Int))) (some (false, ())) (t.1 (a0, a1, (w64 (a2 + (1 : Int))), ()))) none) none)) none) none) (some ((decide ((sLen a0) ≤ (12 : Int))), ()))
def impl_lineOk.tab (m : Nat) : Nat → impl_lineOk.Tab
  | 0 => (fun _ => none, ())
  | k + 1 => (fun x => impl_lineOk.b0 m (impl_lineOk.tab m k) x.1 x.2.1 x.2.2.1, ())
def impl_lineOk (m : Nat) (x : Den [.str]) : Option impl_lineOk.R := impl_lineOk.start m (impl_lineOk.tab m m) x.1
def impl_lineOk.cons (m : Nat) : List (Nat × Contract) := []
def impl_lineOk.cuts (m : Nat) : List (CutF (Den impl_lineOk.sig.us)) := [⟨[false, true, false, true], 26, ⟨[], [(0, .l (.dat (.str))), (5, .l (.dat (.int .i64))), (6, .l (.dat (.int .i64)))]⟩, [.str, .int .i64, .int .i64], fun k => (impl_lineOk.tab m k).1⟩]
theorem impl_lineOk.eq0 (m k : Nat) (x : Den [.str, .int .i64, .int .i64]) : (impl_lineOk.tab m (k + 1)).1 x = runF ⟨lookΓ Γl, lookC (impl_lineOk.cons m), false⟩ Tryd.f74 impl_lineOk.sig (impl_lineOk.cuts m) k [false, true, false, true] ⟨[], [(0, .l (.dat (.str))), (5, .l (.dat (.int .i64))), (6, .l (.dat (.int .i64)))]⟩ [.str, .int .i64, .int .i64] x := by kernel_rfl
theorem impl_lineOk.eq (m : Nat) (x : Den impl_lineOk.sig.ts) : impl_lineOk m x = startF ⟨lookΓ Γl, lookC (impl_lineOk.cons m), false⟩ Tryd.f74 impl_lineOk.sig (impl_lineOk.cuts m) m x := by kernel_rfl
theorem impl_lineOk.ok (m : Nat) : Meets GL Tryd.prog 74 impl_lineOk.sig (impl_lineOk m) :=
  fn_is (cx_is tyOk mixed (l := impl_lineOk.cons m) trivial) (fn := Tryd.f74) Tryd.func74 (by kernel_rfl) (cl := impl_lineOk.cuts m) ⟨⟨by kernel_rfl, fun _ => rfl, fun k x => impl_lineOk.eq0 m k x⟩, trivial⟩ (k := m) (impl_lineOk.eq m)

/-! ### loop.example/stemma/impl.TextOk$1: function 73 -/
abbrev impl_TextOk_1.R : Type := Den [.bool]
def impl_TextOk_1.sig : Sig := ⟨1, ⟨[], [(0, .l (.dat (.str)))]⟩, [.str], ⟨[], [(0, .l (.dat (.bool)))]⟩, [.bool]⟩
abbrev impl_TextOk_1.Tab : Type := Unit
def impl_TextOk_1.start (m : Nat) (t : impl_TextOk_1.Tab) (x0 : ByteArray) : Option impl_TextOk_1.R :=
  Option.bind (impl_lineOk m (x0, ())) fun r1 => some ((!r1.1), ())
def impl_TextOk_1.tab (m : Nat) : Nat → impl_TextOk_1.Tab
  | 0 => (())
  | k + 1 => (())
def impl_TextOk_1 (m : Nat) (x : Den [.str]) : Option impl_TextOk_1.R := impl_TextOk_1.start m (impl_TextOk_1.tab m m) x.1
def impl_TextOk_1.cons (m : Nat) : List (Nat × Contract) := [(74, ⟨impl_lineOk.sig, impl_lineOk m⟩)]
def impl_TextOk_1.cuts (m : Nat) : List (CutF (Den impl_TextOk_1.sig.us)) := []
theorem impl_TextOk_1.eq (m : Nat) (x : Den impl_TextOk_1.sig.ts) : impl_TextOk_1 m x = startF ⟨lookΓ Γl, lookC (impl_TextOk_1.cons m), false⟩ Tryd.f73 impl_TextOk_1.sig (impl_TextOk_1.cuts m) m x := by kernel_rfl
theorem impl_TextOk_1.ok (m : Nat) : Meets GL Tryd.prog 73 impl_TextOk_1.sig (impl_TextOk_1 m) :=
  fn_is (cx_is tyOk mixed (l := impl_TextOk_1.cons m) ⟨impl_lineOk.ok m, trivial⟩) (fn := Tryd.f73) Tryd.func73 (by kernel_rfl) (cl := impl_TextOk_1.cuts m) trivial (k := m) (impl_TextOk_1.eq m)

/-! ### slices.IndexFunc[[]string,string]: function 86 -/
abbrev slices_IndexFunc_string_of_impl_TextOk_1.R : Type := Den [.int .i64]
def slices_IndexFunc_string_of_impl_TextOk_1.sig : Sig := ⟨2, ⟨[], [(0, .l (.dat (.list (.str)))), (1, .l (.fn 73 []))]⟩, [.list (.str)], ⟨[], [(0, .l (.dat (.int .i64)))]⟩, [.int .i64]⟩
abbrev slices_IndexFunc_string_of_impl_TextOk_1.Tab : Type := (Den [.list (.str), .int .i64, .int .i64] → Option slices_IndexFunc_string_of_impl_TextOk_1.R) × Unit
def slices_IndexFunc_string_of_impl_TextOk_1.start (m : Nat) (t : slices_IndexFunc_string_of_impl_TextOk_1.Tab) (x0 : List ByteArray) : Option slices_IndexFunc_string_of_impl_TextOk_1.R :=
  t.1 (x0, (lLen x0), (0 : Int), ())
def slices_IndexFunc_string_of_impl_TextOk_1.b0 (m : Nat) (t : slices_IndexFunc_string_of_impl_TextOk_1.Tab) (a0 : List ByteArray) (a1 : Int) (a2 : Int) : Option slices_IndexFunc_string_of_impl_TextOk_1.R :=
  cond (decide (a2 < a1)) (cond (decide ((0 : Int) ≤ a2)) (cond (decide (a2 < lLen a0)) (Option.bind (impl_TextOk_1 m ((getL a0 a2 ByteArray.empty), ())) fun r1 => cond r1.1 (some (a2, ())) (t.1 (a0, a1, (w64 (a2 + (1 : Int))), ()))) none) none) (some ((-1 : Int), ()))
def slices_IndexFunc_string_of_impl_TextOk_1.tab (m : Nat) : Nat → slices_IndexFunc_string_of_impl_TextOk_1.Tab
  | 0 => (fun _ => none, ())
  | k + 1 => (fun x => slices_IndexFunc_string_of_impl_TextOk_1.b0 m (slices_IndexFunc_string_of_impl_TextOk_1.tab m k) x.1 x.2.1 x.2.2.1, ())
def slices_IndexFunc_string_of_impl_TextOk_1 (m : Nat) (x : Den [.list (.str)]) : Option slices_IndexFunc_string_of_impl_TextOk_1.R := slices_IndexFunc_string_of_impl_TextOk_1.start m (slices_IndexFunc_string_of_impl_TextOk_1.tab m m) x.1
def slices_IndexFunc_string_of_impl_TextOk_1.cons (m : Nat) : List (Nat × Contract) := [(73, ⟨impl_TextOk_1.sig, impl_TextOk_1 m⟩)]
def slices_IndexFunc_string_of_impl_TextOk_1.cuts (m : Nat) : List (CutF (Den slices_IndexFunc_string_of_impl_TextOk_1.sig.us)) := [⟨[false, true, false, true], 26, ⟨[], [(0, .l (.dat (.list (.str)))), (1, .l (.fn 73 [])), (7, .l (.dat (.int .i64))), (8, .l (.dat (.int .i64)))]⟩, [.list (.str), .int .i64, .int .i64], fun k => (slices_IndexFunc_string_of_impl_TextOk_1.tab m k).1⟩]
theorem slices_IndexFunc_string_of_impl_TextOk_1.eq0 (m k : Nat) (x : Den [.list (.str), .int .i64, .int .i64]) : (slices_IndexFunc_string_of_impl_TextOk_1.tab m (k + 1)).1 x = runF ⟨lookΓ Γl, lookC (slices_IndexFunc_string_of_impl_TextOk_1.cons m), false⟩ Tryd.f86 slices_IndexFunc_string_of_impl_TextOk_1.sig (slices_IndexFunc_string_of_impl_TextOk_1.cuts m) k [false, true, false, true] ⟨[], [(0, .l (.dat (.list (.str)))), (1, .l (.fn 73 [])), (7, .l (.dat (.int .i64))), (8, .l (.dat (.int .i64)))]⟩ [.list (.str), .int .i64, .int .i64] x := by kernel_rfl
theorem slices_IndexFunc_string_of_impl_TextOk_1.eq (m : Nat) (x : Den slices_IndexFunc_string_of_impl_TextOk_1.sig.ts) : slices_IndexFunc_string_of_impl_TextOk_1 m x = startF ⟨lookΓ Γl, lookC (slices_IndexFunc_string_of_impl_TextOk_1.cons m), false⟩ Tryd.f86 slices_IndexFunc_string_of_impl_TextOk_1.sig (slices_IndexFunc_string_of_impl_TextOk_1.cuts m) m x := by kernel_rfl
theorem slices_IndexFunc_string_of_impl_TextOk_1.ok (m : Nat) : Meets GL Tryd.prog 86 slices_IndexFunc_string_of_impl_TextOk_1.sig (slices_IndexFunc_string_of_impl_TextOk_1 m) :=
  fn_is (cx_is tyOk mixed (l := slices_IndexFunc_string_of_impl_TextOk_1.cons m) ⟨impl_TextOk_1.ok m, trivial⟩) (fn := Tryd.f86) Tryd.func86 (by kernel_rfl) (cl := slices_IndexFunc_string_of_impl_TextOk_1.cuts m) ⟨⟨by kernel_rfl, fun _ => rfl, fun k x => slices_IndexFunc_string_of_impl_TextOk_1.eq0 m k x⟩, trivial⟩ (k := m) (slices_IndexFunc_string_of_impl_TextOk_1.eq m)

/-! ### slices.ContainsFunc[[]string,string]: function 58 -/
abbrev slices_ContainsFunc_string_of_impl_TextOk_1.R : Type := Den [.bool]
def slices_ContainsFunc_string_of_impl_TextOk_1.sig : Sig := ⟨2, ⟨[], [(0, .l (.dat (.list (.str)))), (1, .l (.fn 73 []))]⟩, [.list (.str)], ⟨[], [(0, .l (.dat (.bool)))]⟩, [.bool]⟩
abbrev slices_ContainsFunc_string_of_impl_TextOk_1.Tab : Type := Unit
def slices_ContainsFunc_string_of_impl_TextOk_1.start (m : Nat) (t : slices_ContainsFunc_string_of_impl_TextOk_1.Tab) (x0 : List ByteArray) : Option slices_ContainsFunc_string_of_impl_TextOk_1.R :=
  Option.bind (slices_IndexFunc_string_of_impl_TextOk_1 m (x0, ())) fun r1 => some ((decide (r1.1 ≥ (0 : Int))), ())
def slices_ContainsFunc_string_of_impl_TextOk_1.tab (m : Nat) : Nat → slices_ContainsFunc_string_of_impl_TextOk_1.Tab
  | 0 => (())
  | k + 1 => (())
def slices_ContainsFunc_string_of_impl_TextOk_1 (m : Nat) (x : Den [.list (.str)]) : Option slices_ContainsFunc_string_of_impl_TextOk_1.R := slices_ContainsFunc_string_of_impl_TextOk_1.start m (slices_ContainsFunc_string_of_impl_TextOk_1.tab m m) x.1
def slices_ContainsFunc_string_of_impl_TextOk_1.cons (m : Nat) : List (Nat × Contract) := [(86, ⟨slices_IndexFunc_string_of_impl_TextOk_1.sig, slices_IndexFunc_string_of_impl_TextOk_1 m⟩)]
def slices_ContainsFunc_string_of_impl_TextOk_1.cuts (m : Nat) : List (CutF (Den slices_ContainsFunc_string_of_impl_TextOk_1.sig.us)) := []
theorem slices_ContainsFunc_string_of_impl_TextOk_1.eq (m : Nat) (x : Den slices_ContainsFunc_string_of_impl_TextOk_1.sig.ts) : slices_ContainsFunc_string_of_impl_TextOk_1 m x = startF ⟨lookΓ Γl, lookC (slices_ContainsFunc_string_of_impl_TextOk_1.cons m), false⟩ Tryd.f58 slices_ContainsFunc_string_of_impl_TextOk_1.sig (slices_ContainsFunc_string_of_impl_TextOk_1.cuts m) m x := by kernel_rfl
theorem slices_ContainsFunc_string_of_impl_TextOk_1.ok (m : Nat) : Meets GL Tryd.prog 58 slices_ContainsFunc_string_of_impl_TextOk_1.sig (slices_ContainsFunc_string_of_impl_TextOk_1 m) :=
  fn_is (cx_is tyOk mixed (l := slices_ContainsFunc_string_of_impl_TextOk_1.cons m) ⟨slices_IndexFunc_string_of_impl_TextOk_1.ok m, trivial⟩) (fn := Tryd.f58) Tryd.func58 (by kernel_rfl) (cl := slices_ContainsFunc_string_of_impl_TextOk_1.cuts m) trivial (k := m) (slices_ContainsFunc_string_of_impl_TextOk_1.eq m)

/-! ### loop.example/stemma/impl.TextOk: function 38 -/
abbrev impl_TextOk.R : Type := Den [.bool]
def impl_TextOk.sig : Sig := ⟨1, ⟨[], [(0, .l (.dat (.list (.str))))]⟩, [.list (.str)], ⟨[], [(0, .l (.dat (.bool)))]⟩, [.bool]⟩
abbrev impl_TextOk.Tab : Type := Unit
def impl_TextOk.start (m : Nat) (t : impl_TextOk.Tab) (x0 : List ByteArray) : Option impl_TextOk.R :=
  cond (decide ((lLen x0) ≤ (10 : Int))) (Option.bind (slices_ContainsFunc_string_of_impl_TextOk_1 m (x0, ())) fun r1 => some ((!r1.1), ())) (some (false, ()))
def impl_TextOk.tab (m : Nat) : Nat → impl_TextOk.Tab
  | 0 => (())
  | k + 1 => (())
def impl_TextOk (m : Nat) (x : Den [.list (.str)]) : Option impl_TextOk.R := impl_TextOk.start m (impl_TextOk.tab m m) x.1
def impl_TextOk.cons (m : Nat) : List (Nat × Contract) := [(58, ⟨slices_ContainsFunc_string_of_impl_TextOk_1.sig, slices_ContainsFunc_string_of_impl_TextOk_1 m⟩)]
def impl_TextOk.cuts (m : Nat) : List (CutF (Den impl_TextOk.sig.us)) := []
theorem impl_TextOk.eq (m : Nat) (x : Den impl_TextOk.sig.ts) : impl_TextOk m x = startF ⟨lookΓ Γl, lookC (impl_TextOk.cons m), false⟩ Tryd.f38 impl_TextOk.sig (impl_TextOk.cuts m) m x := by kernel_rfl
theorem impl_TextOk.ok (m : Nat) : Meets GL Tryd.prog 38 impl_TextOk.sig (impl_TextOk m) :=
  fn_is (cx_is tyOk mixed (l := impl_TextOk.cons m) ⟨slices_ContainsFunc_string_of_impl_TextOk_1.ok m, trivial⟩) (fn := Tryd.f38) Tryd.func38 (by kernel_rfl) (cl := impl_TextOk.cuts m) trivial (k := m) (impl_TextOk.eq m)

/-! ### internal/stringslite.HasPrefix: function 76 -/
abbrev internal_stringslite_HasPrefix.R : Type := Den [.bool]
def internal_stringslite_HasPrefix.sig : Sig := ⟨2, ⟨[], [(0, .l (.dat (.str))), (1, .l (.dat (.str)))]⟩, [.str, .str], ⟨[], [(0, .l (.dat (.bool)))]⟩, [.bool]⟩
abbrev internal_stringslite_HasPrefix.Tab : Type := Unit
def internal_stringslite_HasPrefix.start (m : Nat) (t : internal_stringslite_HasPrefix.Tab) (x0 : ByteArray) (x1 : ByteArray) : Option internal_stringslite_HasPrefix.R :=
  cond (decide ((sLen x0) ≥ (sLen x1))) (cond (decide ((0 : Int) ≤ (sLen x1))) (cond (decide ((sLen x1) ≤ (ByteArray.size x0 : Int))) (lett ((sEq (cutS x0 0 (Int.toNat (sLen x1))) x1) : Bool) fun v1 => some (v1, ())) none) none) (some (false, ()))
def internal_stringslite_HasPrefix.tab (m : Nat) : Nat → internal_stringslite_HasPrefix.Tab
  | 0 => (())
  | k + 1 => (())
def internal_stringslite_HasPrefix (m : Nat) (x : Den [.str, .str]) : Option internal_stringslite_HasPrefix.R := internal_stringslite_HasPrefix.start m (internal_stringslite_HasPrefix.tab m m) x.1 x.2.1
def internal_stringslite_HasPrefix.cons (m : Nat) : List (Nat × Contract) := []
def internal_stringslite_HasPrefix.cuts (m : Nat) : List (CutF (Den internal_stringslite_HasPrefix.sig.us)) := []
theorem internal_stringslite_HasPrefix.eq (m : Nat) (x : Den internal_stringslite_HasPrefix.sig.ts) : internal_stringslite_HasPrefix m x = startF ⟨lookΓ Γl, lookC (internal_stringslite_HasPrefix.cons m), false⟩ Tryd.f76 internal_stringslite_HasPrefix.sig (internal_stringslite_HasPrefix.cuts m) m x := by kernel_rfl
theorem internal_stringslite_HasPrefix.ok (m : Nat) : Meets GL Tryd.prog 76 internal_stringslite_HasPrefix.sig (internal_stringslite_HasPrefix m) :=
  fn_is (cx_is tyOk mixed (l := internal_stringslite_HasPrefix.cons m) trivial) (fn := Tryd.f76) Tryd.func76 (by kernel_rfl) (cl := internal_stringslite_HasPrefix.cuts m) trivial (k := m) (internal_stringslite_HasPrefix.eq m)

/-! ### strings.HasPrefix: function 42 -/
abbrev strings_HasPrefix.R : Type := Den [.bool]
def strings_HasPrefix.sig : Sig := ⟨2, ⟨[], [(0, .l (.dat (.str))), (1, .l (.dat (.str)))]⟩, [.str, .str], ⟨[], [(0, .l (.dat (.bool)))]⟩, [.bool]⟩
abbrev strings_HasPrefix.Tab : Type := Unit
def strings_HasPrefix.start (m : Nat) (t : strings_HasPrefix.Tab) (x0 : ByteArray) (x1 : ByteArray) : Option strings_HasPrefix.R :=
  Option.bind (internal_stringslite_HasPrefix m (x0, x1, ())) fun r1 => some (r1.1, ())
def strings_HasPrefix.tab (m : Nat) : Nat → strings_HasPrefix.Tab
  | 0 => (())
  | k + 1 => (())
def strings_HasPrefix (m : Nat) (x : Den [.str, .str]) : Option strings_HasPrefix.R := strings_HasPrefix.start m (strings_HasPrefix.tab m m) x.1 x.2.1
def strings_HasPrefix.cons (m : Nat) : List (Nat × Contract) := [(76, ⟨internal_stringslite_HasPrefix.sig, internal_stringslite_HasPrefix m⟩)]
def strings_HasPrefix.cuts (m : Nat) : List (CutF (Den strings_HasPrefix.sig.us)) := []
theorem strings_HasPrefix.eq (m : Nat) (x : Den strings_HasPrefix.sig.ts) : strings_HasPrefix m x = startF ⟨lookΓ Γl, lookC (strings_HasPrefix.cons m), false⟩ Tryd.f42 strings_HasPrefix.sig (strings_HasPrefix.cuts m) m x := by kernel_rfl
theorem strings_HasPrefix.ok (m : Nat) : Meets GL Tryd.prog 42 strings_HasPrefix.sig (strings_HasPrefix m) :=
  fn_is (cx_is tyOk mixed (l := strings_HasPrefix.cons m) ⟨internal_stringslite_HasPrefix.ok m, trivial⟩) (fn := Tryd.f42) Tryd.func42 (by kernel_rfl) (cl := strings_HasPrefix.cuts m) trivial (k := m) (strings_HasPrefix.eq m)

/-! ### loop.example/stemma/impl.PathIn: function 11 -/
abbrev impl_PathIn.R : Type := Den [.bool]
def impl_PathIn.sig : Sig := ⟨2, ⟨[], [(0, .l (.dat (.str))), (1, .l (.dat (.str)))]⟩, [.str, .str], ⟨[], [(0, .l (.dat (.bool)))]⟩, [.bool]⟩
abbrev impl_PathIn.Tab : Type := Unit
def impl_PathIn.start (m : Nat) (t : impl_PathIn.Tab) (x0 : ByteArray) (x1 : ByteArray) : Option impl_PathIn.R :=
  Option.bind (impl_PathOk m (x0, ())) fun r1 => cond r1.1 (Option.bind (impl_PathOk m (x1, ())) fun r2 => cond r2.1 (cond (decide (ByteArray.size x0 + ByteArray.size s_2f ≤ cap)) (Option.bind (strings_HasPrefix m (x1, (ByteArray.append x0 s_2f), ())) fun r3 => some (r3.1, ())) none) (some (false, ()))) (some (false, ()))
def impl_PathIn.tab (m : Nat) : Nat → impl_PathIn.Tab
  | 0 => (())
  | k + 1 => (())
def impl_PathIn (m : Nat) (x : Den [.str, .str]) : Option impl_PathIn.R := impl_PathIn.start m (impl_PathIn.tab m m) x.1 x.2.1
def impl_PathIn.cons (m : Nat) : List (Nat × Contract) := [(37, ⟨impl_PathOk.sig, impl_PathOk m⟩), (42, ⟨strings_HasPrefix.sig, strings_HasPrefix m⟩)]
def impl_PathIn.cuts (m : Nat) : List (CutF (Den impl_PathIn.sig.us)) := []
theorem impl_PathIn.eq (m : Nat) (x : Den impl_PathIn.sig.ts) : impl_PathIn m x = startF ⟨lookΓ Γl, lookC (impl_PathIn.cons m), false⟩ Tryd.f11 impl_PathIn.sig (impl_PathIn.cuts m) m x := by kernel_rfl
theorem impl_PathIn.ok (m : Nat) : Meets GL Tryd.prog 11 impl_PathIn.sig (impl_PathIn m) :=
  fn_is (cx_is tyOk mixed (l := impl_PathIn.cons m) ⟨impl_PathOk.ok m, strings_HasPrefix.ok m, trivial⟩) (fn := Tryd.f11) Tryd.func11 (by kernel_rfl) (cl := impl_PathIn.cuts m) trivial (k := m) (impl_PathIn.eq m)

/-! ### loop.example/stemma/impl.TreeOk$1: function 39 -/
abbrev impl_TreeOk_1_v0.R : Type := Den [.str, .list (.str), .bool]
def impl_TreeOk_1_v0.sig : Sig := ⟨2, ⟨[.box [.dat (.str), .dat (.list (.str))]], [(0, .agg [.dat (.str), .dat (.list (.str))]), (1, .l (.ptr 0 0))]⟩, [.str, .list (.str), .str, .list (.str)], ⟨[.box [.dat (.str), .dat (.list (.str))]], [(0, .l (.dat (.bool)))]⟩, [.str, .list (.str), .bool]⟩
abbrev impl_TreeOk_1_v0.Tab : Type := Unit
def impl_TreeOk_1_v0.start (m : Nat) (t : impl_TreeOk_1_v0.Tab) (x0 : ByteArray) (x1 : List ByteArray) (x2 : ByteArray) (x3 : List ByteArray) : Option impl_TreeOk_1_v0.R :=
  Option.bind (impl_PathIn m (x2, x0, ())) fun r1 => some (x0, x1, r1.1, ())
def impl_TreeOk_1_v0.tab (m : Nat) : Nat → impl_TreeOk_1_v0.Tab
  | 0 => (())
  | k + 1 => (())
def impl_TreeOk_1_v0 (m : Nat) (x : Den [.str, .list (.str), .str, .list (.str)]) : Option impl_TreeOk_1_v0.R := impl_TreeOk_1_v0.start m (impl_TreeOk_1_v0.tab m m) x.1 x.2.1 x.2.2.1 x.2.2.2.1
def impl_TreeOk_1_v0.cons (m : Nat) : List (Nat × Contract) := [(11, ⟨impl_PathIn.sig, impl_PathIn m⟩)]
def impl_TreeOk_1_v0.cuts (m : Nat) : List (CutF (Den impl_TreeOk_1_v0.sig.us)) := []
theorem impl_TreeOk_1_v0.eq (m : Nat) (x : Den impl_TreeOk_1_v0.sig.ts) : impl_TreeOk_1_v0 m x = startF ⟨lookΓ Γl, lookC (impl_TreeOk_1_v0.cons m), false⟩ Tryd.f39 impl_TreeOk_1_v0.sig (impl_TreeOk_1_v0.cuts m) m x := by kernel_rfl
theorem impl_TreeOk_1_v0.ok (m : Nat) : Meets GL Tryd.prog 39 impl_TreeOk_1_v0.sig (impl_TreeOk_1_v0 m) :=
  fn_is (cx_is tyOk mixed (l := impl_TreeOk_1_v0.cons m) ⟨impl_PathIn.ok m, trivial⟩) (fn := Tryd.f39) Tryd.func39 (by kernel_rfl) (cl := impl_TreeOk_1_v0.cuts m) trivial (k := m) (impl_TreeOk_1_v0.eq m)

/-! ### slices.IndexFunc[[]loop.example/stemma/impl.File,loop.example/stemma/impl.File]: function 60 -/
abbrev slices_IndexFunc_File_of_impl_TreeOk_1.R : Type := Den [.str, .list (.str), .int .i64]
def slices_IndexFunc_File_of_impl_TreeOk_1.sig : Sig := ⟨2, ⟨[.box [.dat (.str), .dat (.list (.str))]], [(0, .l (.dat (.list (.pair (.str) (.list (.str)))))), (1, .l (.fn 39 [0]))]⟩, [.str, .list (.str), .list (.pair (.str) (.list (.str)))], ⟨[.box [.dat (.str), .dat (.list (.str))]], [(0, .l (.dat (.int .i64)))]⟩, [.str, .list (.str), .int .i64]⟩
abbrev slices_IndexFunc_File_of_impl_TreeOk_1.Tab : Type := (Den [.str, .list (.str), .list (.pair (.str) (.list (.str))), .int .i64, .int .i64] → Option slices_IndexFunc_File_of_impl_TreeOk_1.R) × Unit
def slices_IndexFunc_File_of_impl_TreeOk_1.start (m : Nat) (t : slices_IndexFunc_File_of_impl_TreeOk_1.Tab) (x0 : ByteArray) (x1 : List ByteArray) (x2 : List (ByteArray × List ByteArray)) : Option slices_IndexFunc_File_of_impl_TreeOk_1.R :=
  t.1 (x0, x1, x2, (lLen x2), (0 : Int), ())
def slices_IndexFunc_File_of_impl_TreeOk_1.b0 (m : Nat) (t : slices_IndexFunc_File_of_impl_TreeOk_1.Tab) (a0 : ByteArray) (a1 : List ByteArray) (a2 : List (ByteArray × List ByteArray)) (a3 : Int) (a4 : Int) : Option slices_IndexFunc_File_of_impl_TreeOk_1.R :=
  cond (decide (a4 < a3)) (cond (decide ((0 : Int) ≤ a4)) (cond (decide (a4 < lLen a2)) (lett ((getL a2 a4 (ByteArray.empty, ([] : List ByteArray))) : ByteArray × List ByteArray) fun v1 => Option.bind (impl_TreeOk_1_v0 m (a0, a1, v1.1, v1.2, ())) fun r2 => cond r2.2.2.1 (some (r2.1, r2.2.1, a4, ())) (t.1 (r2.1, r2.2.1, a2, a3, (w64 (a4 + (1 : Int))), ()))) none) none) (some (a0, a1, (-1 : Int), ()))
def slices_IndexFunc_File_of_impl_TreeOk_1.tab (m : Nat) : Nat → slices_IndexFunc_File_of_impl_TreeOk_1.Tab
  | 0 => (fun _ => none, ())
  | k + 1 => (fun x => slices_IndexFunc_File_of_impl_TreeOk_1.b0 m (slices_IndexFunc_File_of_impl_TreeOk_1.tab m k) x.1 x.2.1 x.2.2.1 x.2.2.2.1 x.2.2.2.2.1, ())
def slices_IndexFunc_File_of_impl_TreeOk_1 (m : Nat) (x : Den [.str, .list (.str), .list (.pair (.str) (.list (.str)))]) : Option slices_IndexFunc_File_of_impl_TreeOk_1.R := slices_IndexFunc_File_of_impl_TreeOk_1.start m (slices_IndexFunc_File_of_impl_TreeOk_1.tab m m) x.1 x.2.1 x.2.2.1
def slices_IndexFunc_File_of_impl_TreeOk_1.cons (m : Nat) : List (Nat × Contract) := [(39, ⟨impl_TreeOk_1_v0.sig, impl_TreeOk_1_v0 m⟩)]
def slices_IndexFunc_File_of_impl_TreeOk_1.cuts (m : Nat) : List (CutF (Den slices_IndexFunc_File_of_impl_TreeOk_1.sig.us)) := [⟨[false, true, false, true], 26, ⟨[.box [.dat (.str), .dat (.list (.str))]], [(0, .l (.dat (.list (.pair (.str) (.list (.str)))))), (1, .l (.fn 39 [0])), (7, .l (.dat (.int .i64))), (8, .l (.dat (.int .i64)))]⟩, [.str, .list (.str), .list (.pair (.str) (.list (.str))), .int .i64, .int .i64], fun k => (slices_IndexFunc_File_of_impl_TreeOk_1.tab m k).1⟩]
theorem slices_IndexFunc_File_of_impl_TreeOk_1.eq0 (m k : Nat) (x : Den [.str, .list (.str), .list (.pair (.str) (.list (.str))), .int .i64, .int .i64]) : (slices_IndexFunc_File_of_impl_TreeOk_1.tab m (k + 1)).1 x = runF ⟨lookΓ Γl, lookC (slices_IndexFunc_File_of_impl_TreeOk_1.cons m), false⟩ Tryd.f60 slices_IndexFunc_File_of_impl_TreeOk_1.sig (slices_IndexFunc_File_of_impl_TreeOk_1.cuts m) k [false, true, false, true] ⟨[.box [.dat (.str), .dat (.list (.str))]], [(0, .l (.dat (.list (.pair (.str) (.list (.str)))))), (1, .l (.fn 39 [0])), (7, .l (.dat (.int .i64))), (8, .l (.dat (.int .i64)))]⟩ [.str, .list (.str), .list (.pair (.str) (.list (.str))), .int .i64, .int .i64] x := by kernel_rfl
theorem slices_IndexFunc_File_of_impl_TreeOk_1.eq (m : Nat) (x : Den slices_IndexFunc_File_of_impl_TreeOk_1.sig.ts) : slices_IndexFunc_File_of_impl_TreeOk_1 m x = startF ⟨lookΓ Γl, lookC (slices_IndexFunc_File_of_impl_TreeOk_1.cons m), false⟩ Tryd.f60 slices_IndexFunc_File_of_impl_TreeOk_1.sig (slices_IndexFunc_File_of_impl_TreeOk_1.cuts m) m x := by kernel_rfl
theorem slices_IndexFunc_File_of_impl_TreeOk_1.ok (m : Nat) : Meets GL Tryd.prog 60 slices_IndexFunc_File_of_impl_TreeOk_1.sig (slices_IndexFunc_File_of_impl_TreeOk_1 m) :=
  fn_is (cx_is tyOk mixed (l := slices_IndexFunc_File_of_impl_TreeOk_1.cons m) ⟨impl_TreeOk_1_v0.ok m, trivial⟩) (fn := Tryd.f60) Tryd.func60 (by kernel_rfl) (cl := slices_IndexFunc_File_of_impl_TreeOk_1.cuts m) ⟨⟨by kernel_rfl, fun _ => rfl, fun k x => slices_IndexFunc_File_of_impl_TreeOk_1.eq0 m k x⟩, trivial⟩ (k := m) (slices_IndexFunc_File_of_impl_TreeOk_1.eq m)

/-! ### slices.ContainsFunc[[]loop.example/stemma/impl.File,loop.example/stemma/impl.File]: function 25 -/
abbrev slices_ContainsFunc_File_of_impl_TreeOk_1.R : Type := Den [.str, .list (.str), .bool]
def slices_ContainsFunc_File_of_impl_TreeOk_1.sig : Sig := ⟨2, ⟨[.box [.dat (.str), .dat (.list (.str))]], [(0, .l (.dat (.list (.pair (.str) (.list (.str)))))), (1, .l (.fn 39 [0]))]⟩, [.str, .list (.str), .list (.pair (.str) (.list (.str)))], ⟨[.box [.dat (.str), .dat (.list (.str))]], [(0, .l (.dat (.bool)))]⟩, [.str, .list (.str), .bool]⟩
abbrev slices_ContainsFunc_File_of_impl_TreeOk_1.Tab : Type := Unit
def slices_ContainsFunc_File_of_impl_TreeOk_1.start (m : Nat) (t : slices_ContainsFunc_File_of_impl_TreeOk_1.Tab) (x0 : ByteArray) (x1 : List ByteArray) (x2 : List (ByteArray × List ByteArray)) : Option slices_ContainsFunc_File_of_impl_TreeOk_1.R :=
  Option.bind (slices_IndexFunc_File_of_impl_TreeOk_1 m (x0, x1, x2, ())) fun r1 => some (r1.1, r1.2.1, (decide (r1.2.2.1 ≥ (0 : Int))), ())
def slices_ContainsFunc_File_of_impl_TreeOk_1.tab (m : Nat) : Nat → slices_ContainsFunc_File_of_impl_TreeOk_1.Tab
  | 0 => (())
  | k + 1 => (())
def slices_ContainsFunc_File_of_impl_TreeOk_1 (m : Nat) (x : Den [.str, .list (.str), .list (.pair (.str) (.list (.str)))]) : Option slices_ContainsFunc_File_of_impl_TreeOk_1.R := slices_ContainsFunc_File_of_impl_TreeOk_1.start m (slices_ContainsFunc_File_of_impl_TreeOk_1.tab m m) x.1 x.2.1 x.2.2.1
def slices_ContainsFunc_File_of_impl_TreeOk_1.cons (m : Nat) : List (Nat × Contract) := [(60, ⟨slices_IndexFunc_File_of_impl_TreeOk_1.sig, slices_IndexFunc_File_of_impl_TreeOk_1 m⟩)]
def slices_ContainsFunc_File_of_impl_TreeOk_1.cuts (m : Nat) : List (CutF (Den slices_ContainsFunc_File_of_impl_TreeOk_1.sig.us)) := []
theorem slices_ContainsFunc_File_of_impl_TreeOk_1.eq (m : Nat) (x : Den slices_ContainsFunc_File_of_impl_TreeOk_1.sig.ts) : slices_ContainsFunc_File_of_impl_TreeOk_1 m x = startF ⟨lookΓ Γl, lookC (slices_ContainsFunc_File_of_impl_TreeOk_1.cons m), false⟩ Tryd.f25 slices_ContainsFunc_File_of_impl_TreeOk_1.sig (slices_ContainsFunc_File_of_impl_TreeOk_1.cuts m) m x := by kernel_rfl
theorem slices_ContainsFunc_File_of_impl_TreeOk_1.ok (m : Nat) : Meets GL Tryd.prog 25 slices_ContainsFunc_File_of_impl_TreeOk_1.sig (slices_ContainsFunc_File_of_impl_TreeOk_1 m) :=
  fn_is (cx_is tyOk mixed (l := slices_ContainsFunc_File_of_impl_TreeOk_1.cons m) ⟨slices_IndexFunc_File_of_impl_TreeOk_1.ok m, trivial⟩) (fn := Tryd.f25) Tryd.func25 (by kernel_rfl) (cl := slices_ContainsFunc_File_of_impl_TreeOk_1.cuts m) trivial (k := m) (slices_ContainsFunc_File_of_impl_TreeOk_1.eq m)

/-! ### loop.example/stemma/impl.TreeOk: function 9 -/
abbrev impl_TreeOk.R : Type := Den [.bool]
def impl_TreeOk.sig : Sig := ⟨1, ⟨[], [(0, .l (.dat (.list (.pair (.str) (.list (.str))))))]⟩, [.list (.pair (.str) (.list (.str)))], ⟨[], [(0, .l (.dat (.bool)))]⟩, [.bool]⟩
abbrev impl_TreeOk.Tab : Type := (Den [.list (.pair (.str) (.list (.str))), .list (.pair (.str) (.list (.str))), .int .i64, .int .i64] → Option impl_TreeOk.R) × (Den [.str, .list (.str), .list (.pair (.str) (.list (.str))), .int .i64, .list (.pair (.str) (.list (.str))), .int .i64, .int .i64, .bool] → Option impl_TreeOk.R) × Unit
def impl_TreeOk.start (m : Nat) (t : impl_TreeOk.Tab) (x0 : List (ByteArray × List ByteArray)) : Option impl_TreeOk.R :=
  t.1 (x0, x0, (lLen x0), (0 : Int), ())
def impl_TreeOk.b0 (m : Nat) (t : impl_TreeOk.Tab) (a0 : List (ByteArray × List ByteArray)) (a1 : List (ByteArray × List ByteArray)) (a2 : Int) (a3 : Int) : Option impl_TreeOk.R :=
  cond (decide (a3 < a2)) (cond (decide ((0 : Int) ≤ a3)) (cond (decide (a3 < lLen a1)) (lett ((getL a1 a3 (ByteArray.empty, ([] : List ByteArray))) : ByteArray × List ByteArray) fun v1 => Option.bind (impl_PathOk m (v1.1, ())) fun r2 => cond (!r2.1) (t.2.1 (v1.1, v1.2, a0, a3, a1, a2, a3, true, ())) (Option.bind (impl_TextOk m (v1.2, ())) fun r3 => cond (!r3.1) (t.2.1 (v1.1, v1.2, a0, a3, a1, a2, a3, true, ())) (cond (decide (a3 > (0 : Int))) (cond (decide ((0 : Int) ≤ (w64 (a3 - (1 : Int))))) (cond (decide ((w64 (a3 - (1 : Int))) < lLen a0)) (lett ((getL a0 (w64 (a3 - (1 : Int))) (ByteArray.empty, ([] : List ByteArray))) : ByteArray × List ByteArray) fun v4 => t.2.1 (v1.1, v1.2, a0, a3, a1, a2, a3, (!sLt v4.1 v1.1), ())) none) none) (t.2.1 (v1.1, v1.2, a0, a3, a1, a2, a3, false, ()))))) none) none) (some ((decide ((lLen a0) ≤ (8 : Int))), ()))
def impl_TreeOk.b1 (m : Nat) (t : impl_TreeOk.Tab) (a0 : ByteArray) (a1 : List ByteArray) (a2 : List (ByteArray × List ByteArray)) (a3 : Int) (a4 : List (ByteArray × List ByteArray)) (a5 : Int) (a6 : Int) (a7 : Bool) : Option impl_TreeOk.R :=
  cond a7 (some (false, ())) (cond (decide ((0 : Int) ≤ a3)) (cond (decide (a3 ≤ (List.length a2 : Int))) (Option.bind (slices_ContainsFunc_File_of_impl_TreeOk_1 m (a0, a1, (cutL a2 0 (Int.toNat a3)), ())) fun r1 => cond r1.2.2.1 (some (false, ())) (t.1 (a2, a4, a5, (w64 (a6 + (1 : Int))), ()))) none) none)
def impl_TreeOk.tab (m : Nat) : Nat → impl_TreeOk.Tab
  | 0 => (fun _ => none, fun _ => none, ())
  | k + 1 => (fun x => impl_TreeOk.b0 m (impl_TreeOk.tab m k) x.1 x.2.1 x.2.2.1 x.2.2.2.1, fun x => impl_TreeOk.b1 m (impl_TreeOk.tab m k) x.1 x.2.1 x.2.2.1 x.2.2.2.1 x.2.2.2.2.1 x.2.2.2.2.2.1 x.2.2.2.2.2.2.1 x.2.2.2.2.2.2.2.1, ())
def impl_TreeOk (m : Nat) (x : Den [.list (.pair (.str) (.list (.str)))]) : Option impl_TreeOk.R := impl_TreeOk.start m (impl_TreeOk.tab m m) x.1
def impl_TreeOk.cons (m : Nat) : List (Nat × Contract) := [(37, ⟨impl_PathOk.sig, impl_PathOk m⟩), (38, ⟨impl_TextOk.sig, impl_TextOk m⟩), (25, ⟨slices_ContainsFunc_File_of_impl_TreeOk_1.sig, slices_ContainsFunc_File_of_impl_TreeOk_1 m⟩)]
def impl_TreeOk.cuts (m : Nat) : List (CutF (Den impl_TreeOk.sig.us)) := [⟨[false, true, false, true], 26, ⟨[], [(0, .l (.dat (.list (.pair (.str) (.list (.str)))))), (5, .l (.dat (.list (.pair (.str) (.list (.str)))))), (6, .l (.dat (.int .i64))), (7, .l (.dat (.int .i64)))]⟩, [.list (.pair (.str) (.list (.str))), .list (.pair (.str) (.list (.str))), .int .i64, .int .i64], fun k => (impl_TreeOk.tab m k).1⟩,
  ⟨[true, false, true, false, false, true, true, false, false, true, false, true], 6757, ⟨[.box [.dat (.str), .dat (.list (.str))]], [(0, .l (.dat (.list (.pair (.str) (.list (.str)))))), (3, .l (.dat (.int .i64))), (4, .l (.ptr 0 0)), (5, .l (.dat (.list (.pair (.str) (.list (.str)))))), (6, .l (.dat (.int .i64))), (7, .l (.dat (.int .i64))), (36, .l (.dat (.bool)))]⟩, [.str, .list (.str), .list (.pair (.str) (.list (.str))), .int .i64, .list (.pair (.str) (.list (.str))), .int .i64, .int .i64, .bool], fun k => (impl_TreeOk.tab m k).2.1⟩]
theorem impl_TreeOk.eq0 (m k : Nat) (x : Den [.list (.pair (.str) (.list (.str))), .list (.pair (.str) (.list (.str))), .int .i64, .int .i64]) : (impl_TreeOk.tab m (k + 1)).1 x = runF ⟨lookΓ Γl, lookC (impl_TreeOk.cons m), false⟩ Tryd.f9 impl_TreeOk.sig (impl_TreeOk.cuts m) k [false, true, false, true] ⟨[], [(0, .l (.dat (.list (.pair (.str) (.list (.str)))))), (5, .l (.dat (.list (.pair (.str) (.list (.str)))))), (6, .l (.dat (.int .i64))), (7, .l (.dat (.int .i64)))]⟩ [.list (.pair (.str) (.list (.str))), .list (.pair (.str) (.list (.str))), .int .i64, .int .i64] x := by kernel_rfl
theorem impl_TreeOk.eq1 (m k : Nat) (x : Den [.str, .list (.str), .list (.pair (.str) (.list (.str))), .int .i64, .list (.pair (.str) (.list (.str))), .int .i64, .int .i64, .bool]) : (impl_TreeOk.tab m (k + 1)).2.1 x = runF ⟨lookΓ Γl, lookC (impl_TreeOk.cons m), false⟩ Tryd.f9 impl_TreeOk.sig (impl_TreeOk.cuts m) k [true, false, true, false, false, true, true, false, false, true, false, true] ⟨[.box [.dat (.str), .dat (.list (.str))]], [(0, .l (.dat (.list (.pair (.str) (.list (.str)))))), (3, .l (.dat (.int .i64))), (4, .l (.ptr 0 0)), (5, .l (.dat (.list (.pair (.str) (.list (.str)))))), (6, .l (.dat (.int .i64))), (7, .l (.dat (.int .i64))), (36, .l (.dat (.bool)))]⟩ [.str, .list (.str), .list (.pair (.str) (.list (.str))), .int .i64, .list (.pair (.str) (.list (.str))), .int .i64, .int .i64, .bool] x := by kernel_rfl
theorem impl_TreeOk.eq (m : Nat) (x : Den impl_TreeOk.sig.ts) : impl_TreeOk m x = startF ⟨lookΓ Γl, lookC (impl_TreeOk.cons m), false⟩ Tryd.f9 impl_TreeOk.sig (impl_TreeOk.cuts m) m x := by kernel_rfl
theorem impl_TreeOk.ok (m : Nat) : Meets GL Tryd.prog 9 impl_TreeOk.sig (impl_TreeOk m) :=
  fn_is (cx_is tyOk mixed (l := impl_TreeOk.cons m) ⟨impl_PathOk.ok m, impl_TextOk.ok m, slices_ContainsFunc_File_of_impl_TreeOk_1.ok m, trivial⟩) (fn := Tryd.f9) Tryd.func9 (by kernel_rfl) (cl := impl_TreeOk.cuts m) ⟨⟨by kernel_rfl, fun _ => rfl, fun k x => impl_TreeOk.eq0 m k x⟩, ⟨by kernel_rfl, fun _ => rfl, fun k x => impl_TreeOk.eq1 m k x⟩, trivial⟩ (k := m) (impl_TreeOk.eq m)

/-! ### internal/strconv.small: function 109 -/
abbrev internal_strconv_small.R : Type := Den [.str]
def internal_strconv_small.sig : Sig := ⟨1, ⟨[], [(0, .l (.dat (.int .i64)))]⟩, [.int .i64], ⟨[], [(0, .l (.dat (.str)))]⟩, [.str]⟩
abbrev internal_strconv_small.Tab : Type := Unit
def internal_strconv_small.start (m : Nat) (t : internal_strconv_small.Tab) (x0 : Int) : Option internal_strconv_small.R :=
  cond (decide (x0 < (10 : Int))) (cond (decide ((0 : Int) ≤ (w64 (x0 + (1 : Int))))) (cond (decide ((w64 (x0 + (1 : Int))) ≤ (ByteArray.size s_30313233343536373839616263646566_36 : Int))) (cond (decide ((0 : Int) ≤ x0)) (cond (decide (x0 ≤ (w64 (x0 + (1 : Int))))) (lett ((cutS s_30313233343536373839616263646566_36 (Int.toNat x0) (Int.toNat (w64 (x0 + (1 : Int))))) : ByteArray) fun v1 => some (v1, ())) none) none) none) none) (lett ((w64 ((w64 (x0 * (2 : Int))) + (2 : Int))) : Int) fun v2 => cond (decide ((0 : Int) ≤ v2)) (cond (decide (v2 ≤ (ByteArray.size s_30303031303230333034303530363037_200 : Int))) (cond (decide ((0 : Int) ≤ (w64 (x0 * (2 : Int))))) (cond (decide ((w64 (x0 * (2 : Int))) ≤ v2)) (lett ((cutS s_30303031303230333034303530363037_200 (Int.toNat (w64 (x0 * (2 : Int)))) (Int.toNat v2)) : ByteArray) fun v3 => some (v3, ())) none) none) none) none)
def internal_strconv_small.tab (m : Nat) : Nat → internal_strconv_small.Tab
  | 0 => (())
  | k + 1 => (())
def internal_strconv_small (m : Nat) (x : Den [.int .i64]) : Option internal_strconv_small.R := internal_strconv_small.start m (internal_strconv_small.tab m m) x.1
def internal_strconv_small.cons (m : Nat) : List (Nat × Contract) := []
def internal_strconv_small.cuts (m : Nat) : List (CutF (Den internal_strconv_small.sig.us)) := []
theorem internal_strconv_small.eq (m : Nat) (x : Den internal_strconv_small.sig.ts) : internal_strconv_small m x = startF ⟨lookΓ Γl, lookC (internal_strconv_small.cons m), false⟩ Tryd.f109 internal_strconv_small.sig (internal_strconv_small.cuts m) m x := by kernel_rfl
theorem internal_strconv_small.ok (m : Nat) : Meets GL Tryd.prog 109 internal_strconv_small.sig (internal_strconv_small m) :=
  fn_is (cx_is tyOk mixed (l := internal_strconv_small.cons m) trivial) (fn := Tryd.f109) Tryd.func109 (by kernel_rfl) (cl := internal_strconv_small.cuts m) trivial (k := m) (internal_strconv_small.eq m)

/-! ### internal/strconv.FormatInt: function 97 -/
abbrev internal_strconv_FormatInt.R : Type := Den [.str]
def internal_strconv_FormatInt.sig : Sig := ⟨2, ⟨[], [(0, .l (.dat (.int .i64))), (1, .l (.dat (.int .i64)))]⟩, [.int .i64, .int .i64], ⟨[], [(0, .l (.dat (.str)))]⟩, [.str]⟩
abbrev internal_strconv_FormatInt.Tab : Type := (Den [.int .i64] → Option internal_strconv_FormatInt.R) × Unit
def internal_strconv_FormatInt.start (m : Nat) (t : internal_strconv_FormatInt.Tab) (x0 : Int) (x1 : Int) : Option internal_strconv_FormatInt.R :=
  cond (x1 == (10 : Int)) (cond (decide ((0 : Int) ≤ x0)) (cond (decide (x0 < (100 : Int))) (Option.bind (internal_strconv_small m (x0, ())) fun r1 => some (r1.1, ())) (t.1 (x0, ()))) (t.1 (x0, ()))) (none)
def internal_strconv_FormatInt.b0 (m : Nat) (t : internal_strconv_FormatInt.Tab) (a0 : Int) : Option internal_strconv_FormatInt.R :=
  none
def internal_strconv_FormatInt.tab (m : Nat) : Nat → internal_strconv_FormatInt.Tab
  | 0 => (fun _ => none, ())
  | k + 1 => (fun x => internal_strconv_FormatInt.b0 m (internal_strconv_FormatInt.tab m k) x.1, ())
def internal_strconv_FormatInt (m : Nat) (x : Den [.int .i64, .int .i64]) : Option internal_strconv_FormatInt.R := internal_strconv_FormatInt.start m (internal_strconv_FormatInt.tab m m) x.1 x.2.1
def internal_strconv_FormatInt.cons (m : Nat) : List (Nat × Contract) := [(109, ⟨internal_strconv_small.sig, internal_strconv_small m⟩)]
def internal_strconv_FormatInt.cuts (m : Nat) : List (CutF (Den internal_strconv_FormatInt.sig.us)) := [⟨[true, false, true, false, true], 53, ⟨[], [(0, .l (.dat (.int .i64)))]⟩, [.int .i64], fun k => (internal_strconv_FormatInt.tab m k).1⟩]
theorem internal_strconv_FormatInt.eq0 (m k : Nat) (x : Den [.int .i64]) : (internal_strconv_FormatInt.tab m (k + 1)).1 x = runF ⟨lookΓ Γl, lookC (internal_strconv_FormatInt.cons m), false⟩ Tryd.f97 internal_strconv_FormatInt.sig (internal_strconv_FormatInt.cuts m) k [true, false, true, false, true] ⟨[], [(0, .l (.dat (.int .i64)))]⟩ [.int .i64] x := by kernel_rfl
theorem internal_strconv_FormatInt.eq (m : Nat) (x : Den internal_strconv_FormatInt.sig.ts) : internal_strconv_FormatInt m x = startF ⟨lookΓ Γl, lookC (internal_strconv_FormatInt.cons m), false⟩ Tryd.f97 internal_strconv_FormatInt.sig (internal_strconv_FormatInt.cuts m) m x := by kernel_rfl
theorem internal_strconv_FormatInt.ok (m : Nat) : Meets GL Tryd.prog 97 internal_strconv_FormatInt.sig (internal_strconv_FormatInt m) :=
  fn_is (cx_is tyOk mixed (l := internal_strconv_FormatInt.cons m) ⟨internal_strconv_small.ok m, trivial⟩) (fn := Tryd.f97) Tryd.func97 (by kernel_rfl) (cl := internal_strconv_FormatInt.cuts m) ⟨⟨by kernel_rfl, fun _ => rfl, fun k x => internal_strconv_FormatInt.eq0 m k x⟩, trivial⟩ (k := m) (internal_strconv_FormatInt.eq m)

/-! ### internal/strconv.Itoa: function 83 -/
abbrev internal_strconv_Itoa.R : Type := Den [.str]
def internal_strconv_Itoa.sig : Sig := ⟨1, ⟨[], [(0, .l (.dat (.int .i64)))]⟩, [.int .i64], ⟨[], [(0, .l (.dat (.str)))]⟩, [.str]⟩
abbrev internal_strconv_Itoa.Tab : Type := Unit
def internal_strconv_Itoa.start (m : Nat) (t : internal_strconv_Itoa.Tab) (x0 : Int) : Option internal_strconv_Itoa.R :=
  Option.bind (internal_strconv_FormatInt m (x0, (10 : Int), ())) fun r1 => some (r1.1, ())
def internal_strconv_Itoa.tab (m : Nat) : Nat → internal_strconv_Itoa.Tab
  | 0 => (())
  | k + 1 => (())
def internal_strconv_Itoa (m : Nat) (x : Den [.int .i64]) : Option internal_strconv_Itoa.R := internal_strconv_Itoa.start m (internal_strconv_Itoa.tab m m) x.1
def internal_strconv_Itoa.cons (m : Nat) : List (Nat × Contract) := [(97, ⟨internal_strconv_FormatInt.sig, internal_strconv_FormatInt m⟩)]
def internal_strconv_Itoa.cuts (m : Nat) : List (CutF (Den internal_strconv_Itoa.sig.us)) := []
theorem internal_strconv_Itoa.eq (m : Nat) (x : Den internal_strconv_Itoa.sig.ts) : internal_strconv_Itoa m x = startF ⟨lookΓ Γl, lookC (internal_strconv_Itoa.cons m), false⟩ Tryd.f83 internal_strconv_Itoa.sig (internal_strconv_Itoa.cuts m) m x := by kernel_rfl
theorem internal_strconv_Itoa.ok (m : Nat) : Meets GL Tryd.prog 83 internal_strconv_Itoa.sig (internal_strconv_Itoa m) :=
  fn_is (cx_is tyOk mixed (l := internal_strconv_Itoa.cons m) ⟨internal_strconv_FormatInt.ok m, trivial⟩) (fn := Tryd.f83) Tryd.func83 (by kernel_rfl) (cl := internal_strconv_Itoa.cuts m) trivial (k := m) (internal_strconv_Itoa.eq m)

/-! ### strconv.Itoa: function 51 -/
abbrev strconv_Itoa.R : Type := Den [.str]
def strconv_Itoa.sig : Sig := ⟨1, ⟨[], [(0, .l (.dat (.int .i64)))]⟩, [.int .i64], ⟨[], [(0, .l (.dat (.str)))]⟩, [.str]⟩
abbrev strconv_Itoa.Tab : Type := Unit
def strconv_Itoa.start (m : Nat) (t : strconv_Itoa.Tab) (x0 : Int) : Option strconv_Itoa.R :=
  Option.bind (internal_strconv_Itoa m (x0, ())) fun r1 => some (r1.1, ())
def strconv_Itoa.tab (m : Nat) : Nat → strconv_Itoa.Tab
  | 0 => (())
  | k + 1 => (())
def strconv_Itoa (m : Nat) (x : Den [.int .i64]) : Option strconv_Itoa.R := strconv_Itoa.start m (strconv_Itoa.tab m m) x.1
def strconv_Itoa.cons (m : Nat) : List (Nat × Contract) := [(83, ⟨internal_strconv_Itoa.sig, internal_strconv_Itoa m⟩)]
def strconv_Itoa.cuts (m : Nat) : List (CutF (Den strconv_Itoa.sig.us)) := []
theorem strconv_Itoa.eq (m : Nat) (x : Den strconv_Itoa.sig.ts) : strconv_Itoa m x = startF ⟨lookΓ Γl, lookC (strconv_Itoa.cons m), false⟩ Tryd.f51 strconv_Itoa.sig (strconv_Itoa.cuts m) m x := by kernel_rfl
theorem strconv_Itoa.ok (m : Nat) : Meets GL Tryd.prog 51 strconv_Itoa.sig (strconv_Itoa m) :=
  fn_is (cx_is tyOk mixed (l := strconv_Itoa.cons m) ⟨internal_strconv_Itoa.ok m, trivial⟩) (fn := Tryd.f51) Tryd.func51 (by kernel_rfl) (cl := strconv_Itoa.cuts m) trivial (k := m) (strconv_Itoa.eq m)

/-! ### loop.example/stemma/impl.TreePut: function 17 -/
abbrev impl_TreePut.R : Type := Den [.str]
def impl_TreePut.sig : Sig := ⟨1, ⟨[], [(0, .l (.dat (.list (.pair (.str) (.list (.str))))))]⟩, [.list (.pair (.str) (.list (.str)))], ⟨[], [(0, .l (.dat (.str)))]⟩, [.str]⟩
abbrev impl_TreePut.Tab : Type := (Den [.str, .list (.pair (.str) (.list (.str))), .int .i64, .int .i64] → Option impl_TreePut.R) × (Den [.str, .list (.pair (.str) (.list (.str))), .int .i64, .int .i64, .list (.str), .int .i64, .int .i64] → Option impl_TreePut.R) × Unit
def impl_TreePut.start (m : Nat) (t : impl_TreePut.Tab) (x0 : List (ByteArray × List ByteArray)) : Option impl_TreePut.R :=
  Option.bind (impl_TreeOk m (x0, ())) fun r1 => cond (!r1.1) (some (ByteArray.empty, ())) (t.1 (ByteArray.empty, x0, (lLen x0), (0 : Int), ()))
def impl_TreePut.b0 (m : Nat) (t : impl_TreePut.Tab) (a0 : ByteArray) (a1 : List (ByteArray × List ByteArray)) (a2 : Int) (a3 : Int) : Option impl_TreePut.R :=
  cond (decide (a3 < a2)) (cond (decide ((0 : Int) ≤ a3)) (cond (decide (a3 < lLen a1)) (lett ((getL a1 a3 (ByteArray.empty, ([] : List ByteArray))) : ByteArray × List ByteArray) fun v1 => cond (decide (ByteArray.size s_66696c6520 + ByteArray.size v1.1 ≤ cap)) (cond (decide (ByteArray.size (ByteArray.append s_66696c6520 v1.1) + ByteArray.size s_20 ≤ cap)) (lett ((ByteArray.append (ByteArray.append s_66696c6520 v1.1) s_20) : ByteArray) fun v2 => Option.bind (strconv_Itoa m ((lLen v1.2), ())) fun r3 => cond (decide (ByteArray.size v2 + ByteArray.size r3.1 ≤ cap)) (cond (decide (ByteArray.size (ByteArray.append v2 r3.1) + ByteArray.size s_0a ≤ cap)) (lett ((ByteArray.append (ByteArray.append v2 r3.1) s_0a) : ByteArray) fun v4 => cond (decide (ByteArray.size a0 + ByteArray.size v4 ≤ cap)) (t.2.1 ((ByteArray.append a0 v4), a1, a2, a3, v1.2, (lLen v1.2), (0 : Int), ())) none) none) none) none) none) none) none) (some (a0, ()))
def impl_TreePut.b1 (m : Nat) (t : impl_TreePut.Tab) (a0 : ByteArray) (a1 : List (ByteArray × List ByteArray)) (a2 : Int) (a3 : Int) (a4 : List ByteArray) (a5 : Int) (a6 : Int) : Option impl_TreePut.R :=
  cond (decide (a6 < a5)) (cond (decide ((0 : Int) ≤ a6)) (cond (decide (a6 < lLen a4)) (cond (decide (ByteArray.size (getL a4 a6 ByteArray.empty) + ByteArray.size s_0a ≤ cap)) (lett ((ByteArray.append (getL a4 a6 ByteArray.empty) s_0a) : ByteArray) fun v1 => cond (decide (ByteArray.size a0 + ByteArray.size v1 ≤ cap)) (t.2.1 ((ByteArray.append a0 v1), a1, a2, a3, a4, a5, (w64 (a6 + (1 : Int))), ())) none) none) none) none) (t.1 (a0, a1, a2, (w64 (a3 + (1 : Int))), ()))
def impl_TreePut.tab (m : Nat) : Nat → impl_TreePut.Tab
  | 0 => (fun _ => none, fun _ => none, ())
  | k + 1 => (fun x => impl_TreePut.b0 m (impl_TreePut.tab m k) x.1 x.2.1 x.2.2.1 x.2.2.2.1, fun x => impl_TreePut.b1 m (impl_TreePut.tab m k) x.1 x.2.1 x.2.2.1 x.2.2.2.1 x.2.2.2.2.1 x.2.2.2.2.2.1 x.2.2.2.2.2.2.1, ())
def impl_TreePut (m : Nat) (x : Den [.list (.pair (.str) (.list (.str)))]) : Option impl_TreePut.R := impl_TreePut.start m (impl_TreePut.tab m m) x.1
def impl_TreePut.cons (m : Nat) : List (Nat × Contract) := [(9, ⟨impl_TreeOk.sig, impl_TreeOk m⟩), (51, ⟨strconv_Itoa.sig, strconv_Itoa m⟩)]
def impl_TreePut.cuts (m : Nat) : List (CutF (Den impl_TreePut.sig.us)) := [⟨[false, true, false, true, true, true], 122, ⟨[], [(3, .l (.dat (.str))), (11, .l (.dat (.list (.pair (.str) (.list (.str)))))), (12, .l (.dat (.int .i64))), (13, .l (.dat (.int .i64)))]⟩, [.str, .list (.pair (.str) (.list (.str))), .int .i64, .int .i64], fun k => (impl_TreePut.tab m k).1⟩,
  ⟨[false, true, true, true, false, false, true, true, false, false, true, false, true, true, true], 62670, ⟨[], [(3, .l (.dat (.str))), (11, .l (.dat (.list (.pair (.str) (.list (.str)))))), (12, .l (.dat (.int .i64))), (13, .l (.dat (.int .i64))), (30, .l (.dat (.list (.str)))), (31, .l (.dat (.int .i64))), (32, .l (.dat (.int .i64)))]⟩, [.str, .list (.pair (.str) (.list (.str))), .int .i64, .int .i64, .list (.str), .int .i64, .int .i64], fun k => (impl_TreePut.tab m k).2.1⟩]
theorem impl_TreePut.eq0 (m k : Nat) (x : Den [.str, .list (.pair (.str) (.list (.str))), .int .i64, .int .i64]) : (impl_TreePut.tab m (k + 1)).1 x = runF ⟨lookΓ Γl, lookC (impl_TreePut.cons m), false⟩ Tryd.f17 impl_TreePut.sig (impl_TreePut.cuts m) k [false, true, false, true, true, true] ⟨[], [(3, .l (.dat (.str))), (11, .l (.dat (.list (.pair (.str) (.list (.str)))))), (12, .l (.dat (.int .i64))), (13, .l (.dat (.int .i64)))]⟩ [.str, .list (.pair (.str) (.list (.str))), .int .i64, .int .i64] x := by kernel_rfl
theorem impl_TreePut.eq1 (m k : Nat) (x : Den [.str, .list (.pair (.str) (.list (.str))), .int .i64, .int .i64, .list (.str), .int .i64, .int .i64]) : (impl_TreePut.tab m (k + 1)).2.1 x = runF ⟨lookΓ Γl, lookC (impl_TreePut.cons m), false⟩ Tryd.f17 impl_TreePut.sig (impl_TreePut.cuts m) k [false, true, true, true, false, false, true, true, false, false, true, false, true, true, true] ⟨[], [(3, .l (.dat (.str))), (11, .l (.dat (.list (.pair (.str) (.list (.str)))))), (12, .l (.dat (.int .i64))), (13, .l (.dat (.int .i64))), (30, .l (.dat (.list (.str)))), (31, .l (.dat (.int .i64))), (32, .l (.dat (.int .i64)))]⟩ [.str, .list (.pair (.str) (.list (.str))), .int .i64, .int .i64, .list (.str), .int .i64, .int .i64] x := by kernel_rfl
theorem impl_TreePut.eq (m : Nat) (x : Den impl_TreePut.sig.ts) : impl_TreePut m x = startF ⟨lookΓ Γl, lookC (impl_TreePut.cons m), false⟩ Tryd.f17 impl_TreePut.sig (impl_TreePut.cuts m) m x := by kernel_rfl
theorem impl_TreePut.ok (m : Nat) : Meets GL Tryd.prog 17 impl_TreePut.sig (impl_TreePut m) :=
  fn_is (cx_is tyOk mixed (l := impl_TreePut.cons m) ⟨impl_TreeOk.ok m, strconv_Itoa.ok m, trivial⟩) (fn := Tryd.f17) Tryd.func17 (by kernel_rfl) (cl := impl_TreePut.cuts m) ⟨⟨by kernel_rfl, fun _ => rfl, fun k x => impl_TreePut.eq0 m k x⟩, ⟨by kernel_rfl, fun _ => rfl, fun k x => impl_TreePut.eq1 m k x⟩, trivial⟩ (k := m) (impl_TreePut.eq m)

/-! ### loop.example/stemma/impl.TreeRead: function 15 -/
abbrev impl_TreeRead.R : Type := Den [.list (.pair (.str) (.list (.str))), .bool]
def impl_TreeRead.sig : Sig := ⟨1, ⟨[], [(0, .l (.dat (.str)))]⟩, [.str], ⟨[], [(0, .l (.dat (.list (.pair (.str) (.list (.str)))))), (1, .l (.dat (.bool)))]⟩, [.list (.pair (.str) (.list (.str))), .bool]⟩
abbrev impl_TreeRead.Tab : Type := Unit
def impl_TreeRead.start (m : Nat) (t : impl_TreeRead.Tab) (x0 : ByteArray) : Option impl_TreeRead.R :=
  Option.bind (impl_linesOf m (x0, ())) fun r1 => Option.bind (impl_readFiles m (r1.1, ())) fun r2 => Option.bind (impl_TreeOk m (r2.1, ())) fun r3 => cond (!r3.1) (some ([], false, ())) (Option.bind (impl_TreePut m (r2.1, ())) fun r4 => cond (!sEq r4.1 x0) (some ([], false, ())) (some (r2.1, true, ())))
def impl_TreeRead.tab (m : Nat) : Nat → impl_TreeRead.Tab
  | 0 => (())
  | k + 1 => (())
def impl_TreeRead (m : Nat) (x : Den [.str]) : Option impl_TreeRead.R := impl_TreeRead.start m (impl_TreeRead.tab m m) x.1
def impl_TreeRead.cons (m : Nat) : List (Nat × Contract) := [(47, ⟨impl_linesOf.sig, impl_linesOf m⟩), (46, ⟨impl_readFiles.sig, impl_readFiles m⟩), (9, ⟨impl_TreeOk.sig, impl_TreeOk m⟩), (17, ⟨impl_TreePut.sig, impl_TreePut m⟩)]
def impl_TreeRead.cuts (m : Nat) : List (CutF (Den impl_TreeRead.sig.us)) := []
theorem impl_TreeRead.eq (m : Nat) (x : Den impl_TreeRead.sig.ts) : impl_TreeRead m x = startF ⟨lookΓ Γl, lookC (impl_TreeRead.cons m), false⟩ Tryd.f15 impl_TreeRead.sig (impl_TreeRead.cuts m) m x := by kernel_rfl
theorem impl_TreeRead.ok (m : Nat) : Meets GL Tryd.prog 15 impl_TreeRead.sig (impl_TreeRead m) :=
  fn_is (cx_is tyOk mixed (l := impl_TreeRead.cons m) ⟨impl_linesOf.ok m, impl_readFiles.ok m, impl_TreeOk.ok m, impl_TreePut.ok m, trivial⟩) (fn := Tryd.f15) Tryd.func15 (by kernel_rfl) (cl := impl_TreeRead.cuts m) trivial (k := m) (impl_TreeRead.eq m)

/-! ### (*loop.example/stemma/spec.l24Rd).more: function 79 -/
abbrev spec_l24Rd_more.R : Type := Den [.list (.str), .int .i64, .bool, .bool]
def spec_l24Rd_more.sig : Sig := ⟨2, ⟨[.box [.dat (.list (.str)), .dat (.int .i64), .dat (.bool)]], [(0, .l (.ptr 0 0)), (1, .l (.dat (.str)))]⟩, [.list (.str), .int .i64, .bool, .str], ⟨[.box [.dat (.list (.str)), .dat (.int .i64), .dat (.bool)]], [(0, .l (.dat (.bool)))]⟩, [.list (.str), .int .i64, .bool, .bool]⟩
abbrev spec_l24Rd_more.Tab : Type := Unit
def spec_l24Rd_more.start (m : Nat) (t : spec_l24Rd_more.Tab) (x0 : List ByteArray) (x1 : Int) (x2 : Bool) (x3 : ByteArray) : Option spec_l24Rd_more.R :=
  cond x2 (some (x0, x1, x2, false, ())) (lett ((decide ((w64 (x1 + (1 : Int))) ≥ (lLen x0))) : Bool) fun v1 => cond v1 (some (x0, x1, x2, false, ())) (cond (decide ((0 : Int) ≤ x1)) (cond (decide (x1 < lLen x0)) (lett ((decide ((sLen (getL x0 x1 ByteArray.empty)) ≥ (sLen x3))) : Bool) fun v2 => cond v2 (cond (decide ((0 : Int) ≤ (sLen x3))) (cond (decide ((sLen x3) ≤ (ByteArray.size (getL x0 x1 ByteArray.empty) : Int))) (lett ((cutS (getL x0 x1 ByteArray.empty) 0 (Int.toNat (sLen x3))) : ByteArray) fun v3 => some (x0, x1, x2, (sEq v3 x3), ())) none) none) (some (x0, x1, x2, false, ()))) none) none))
def spec_l24Rd_more.tab (m : Nat) : Nat → spec_l24Rd_more.Tab
  | 0 => (())
  | k + 1 => (())
def spec_l24Rd_more (m : Nat) (x : Den [.list (.str), .int .i64, .bool, .str]) : Option spec_l24Rd_more.R := spec_l24Rd_more.start m (spec_l24Rd_more.tab m m) x.1 x.2.1 x.2.2.1 x.2.2.2.1
def spec_l24Rd_more.cons (m : Nat) : List (Nat × Contract) := []
def spec_l24Rd_more.cuts (m : Nat) : List (CutF (Den spec_l24Rd_more.sig.us)) := []
theorem spec_l24Rd_more.eq (m : Nat) (x : Den spec_l24Rd_more.sig.ts) : spec_l24Rd_more m x = startF ⟨lookΓ Γl, lookC (spec_l24Rd_more.cons m), false⟩ Tryd.f79 spec_l24Rd_more.sig (spec_l24Rd_more.cuts m) m x := by kernel_rfl
theorem spec_l24Rd_more.ok (m : Nat) : Meets GL Tryd.prog 79 spec_l24Rd_more.sig (spec_l24Rd_more m) :=
  fn_is (cx_is tyOk mixed (l := spec_l24Rd_more.cons m) trivial) (fn := Tryd.f79) Tryd.func79 (by kernel_rfl) (cl := spec_l24Rd_more.cuts m) trivial (k := m) (spec_l24Rd_more.eq m)

/-! ### (*loop.example/stemma/spec.l24Rd).line: function 80 -/
abbrev spec_l24Rd_line.R : Type := Den [.list (.str), .int .i64, .bool, .str]
def spec_l24Rd_line.sig : Sig := ⟨1, ⟨[.box [.dat (.list (.str)), .dat (.int .i64), .dat (.bool)]], [(0, .l (.ptr 0 0))]⟩, [.list (.str), .int .i64, .bool], ⟨[.box [.dat (.list (.str)), .dat (.int .i64), .dat (.bool)]], [(0, .l (.dat (.str)))]⟩, [.list (.str), .int .i64, .bool, .str]⟩
abbrev spec_l24Rd_line.Tab : Type := Unit
def spec_l24Rd_line.start (m : Nat) (t : spec_l24Rd_line.Tab) (x0 : List ByteArray) (x1 : Int) (x2 : Bool) : Option spec_l24Rd_line.R :=
  lett ((decide ((w64 (x1 + (1 : Int))) ≥ (lLen x0))) : Bool) fun v1 => cond v1 (some (x0, x1, true, ByteArray.empty, ())) (lett ((w64 ((w64 (x1 + (1 : Int))) - (1 : Int))) : Int) fun v2 => cond (decide ((0 : Int) ≤ v2)) (cond (decide (v2 < lLen x0)) (some (x0, (w64 (x1 + (1 : Int))), x2, (getL x0 v2 ByteArray.empty), ())) none) none)
def spec_l24Rd_line.tab (m : Nat) : Nat → spec_l24Rd_line.Tab
  | 0 => (())
  | k + 1 => (())
def spec_l24Rd_line (m : Nat) (x : Den [.list (.str), .int .i64, .bool]) : Option spec_l24Rd_line.R := spec_l24Rd_line.start m (spec_l24Rd_line.tab m m) x.1 x.2.1 x.2.2.1
def spec_l24Rd_line.cons (m : Nat) : List (Nat × Contract) := []
def spec_l24Rd_line.cuts (m : Nat) : List (CutF (Den spec_l24Rd_line.sig.us)) := []
theorem spec_l24Rd_line.eq (m : Nat) (x : Den spec_l24Rd_line.sig.ts) : spec_l24Rd_line m x = startF ⟨lookΓ Γl, lookC (spec_l24Rd_line.cons m), false⟩ Tryd.f80 spec_l24Rd_line.sig (spec_l24Rd_line.cuts m) m x := by kernel_rfl
theorem spec_l24Rd_line.ok (m : Nat) : Meets GL Tryd.prog 80 spec_l24Rd_line.sig (spec_l24Rd_line m) :=
  fn_is (cx_is tyOk mixed (l := spec_l24Rd_line.cons m) trivial) (fn := Tryd.f80) Tryd.func80 (by kernel_rfl) (cl := spec_l24Rd_line.cuts m) trivial (k := m) (spec_l24Rd_line.eq m)

/-! ### loop.example/stemma/spec.l1Num: function 81 -/
abbrev spec_l1Num.R : Type := Den [.int .i64]
def spec_l1Num.sig : Sig := ⟨1, ⟨[], [(0, .l (.dat (.str)))]⟩, [.str], ⟨[], [(0, .l (.dat (.int .i64)))]⟩, [.int .i64]⟩
abbrev spec_l1Num.Tab : Type := (Den [.str, .int .i64, .int .i64] → Option spec_l1Num.R) × Unit
def spec_l1Num.start (m : Nat) (t : spec_l1Num.Tab) (x0 : ByteArray) : Option spec_l1Num.R :=
  t.1 (x0, (0 : Int), (0 : Int), ())
def spec_l1Num.b0 (m : Nat) (t : spec_l1Num.Tab) (a0 : ByteArray) (a1 : Int) (a2 : Int) : Option spec_l1Num.R :=
  cond (decide (a2 < (sLen a0))) (cond (decide ((0 : Int) ≤ a2)) (cond (decide (a2 < sLen a0)) (cond (decide ((byteAt a0 a2) < (48 : Int))) (some ((-1 : Int), ())) (cond (decide ((0 : Int) ≤ a2)) (cond (decide (a2 < sLen a0)) (cond (decide ((byteAt a0 a2) > (57 : Int))) (some ((-1 : Int), ())) (cond (decide (a2 ≥ (6 : Int))) (some ((-1 : Int), ())) (cond (decide ((0 : Int) ≤ a2)) (cond (decide (a2 < sLen a0)) (lett ((wr .i64 (wr .u8 ((byteAt a0 a2) - (48 : Int)))) : Int) fun v1 => t.1 (a0, (w64 ((w64 (a1 * (10 : Int))) + v1)), (w64 (a2 + (1 : Int))), ())) none) none))) none) none)) none) none) (cond ((sLen a0) == (0 : Int)) (some ((-1 : Int), ())) (cond (decide ((sLen a0) > (1 : Int))) (cond (decide ((0 : Int) ≤ (0 : Int))) (cond (decide ((0 : Int) < sLen a0)) (cond ((byteAt a0 (0 : Int)) == (48 : Int)) (some ((-1 : Int), ())) (some (a1, ()))) none) none) (some (a1, ()))))
def spec_l1Num.tab (m : Nat) : Nat → spec_l1Num.Tab
  | 0 => (fun _ => none, ())
  | k + 1 => (fun x => spec_l1Num.b0 m (spec_l1Num.tab m k) x.1 x.2.1 x.2.2.1, ())
def spec_l1Num (m : Nat) (x : Den [.str]) : Option spec_l1Num.R := spec_l1Num.start m (spec_l1Num.tab m m) x.1
def spec_l1Num.cons (m : Nat) : List (Nat × Contract) := []
def spec_l1Num.cuts (m : Nat) : List (CutF (Den spec_l1Num.sig.us)) := [⟨[false, true, false, true, true], 58, ⟨[], [(0, .l (.dat (.str))), (3, .l (.dat (.int .i64))), (4, .l (.dat (.int .i64)))]⟩, [.str, .int .i64, .int .i64], fun k => (spec_l1Num.tab m k).1⟩]
theorem spec_l1Num.eq0 (m k : Nat) (x : Den [.str, .int .i64, .int .i64]) : (spec_l1Num.tab m (k + 1)).1 x = runF ⟨lookΓ Γl, lookC (spec_l1Num.cons m), false⟩ Tryd.f81 spec_l1Num.sig (spec_l1Num.cuts m) k [false, true, false, true, true] ⟨[], [(0, .l (.dat (.str))), (3, .l (.dat (.int .i64))), (4, .l (.dat (.int .i64)))]⟩ [.str, .int .i64, .int .i64] x := by kernel_rfl
theorem spec_l1Num.eq (m : Nat) (x : Den spec_l1Num.sig.ts) : spec_l1Num m x = startF ⟨lookΓ Γl, lookC (spec_l1Num.cons m), false⟩ Tryd.f81 spec_l1Num.sig (spec_l1Num.cuts m) m x := by kernel_rfl
theorem spec_l1Num.ok (m : Nat) : Meets GL Tryd.prog 81 spec_l1Num.sig (spec_l1Num m) :=
  fn_is (cx_is tyOk mixed (l := spec_l1Num.cons m) trivial) (fn := Tryd.f81) Tryd.func81 (by kernel_rfl) (cl := spec_l1Num.cuts m) ⟨⟨by kernel_rfl, fun _ => rfl, fun k x => spec_l1Num.eq0 m k x⟩, trivial⟩ (k := m) (spec_l1Num.eq m)

/-! ### (*loop.example/stemma/spec.l24Rd).tree: function 49 -/
abbrev spec_l24Rd_tree.R : Type := Den [.list (.str), .int .i64, .bool, .list (.pair (.str) (.list (.str)))]
def spec_l24Rd_tree.sig : Sig := ⟨1, ⟨[.box [.dat (.list (.str)), .dat (.int .i64), .dat (.bool)]], [(0, .l (.ptr 0 0))]⟩, [.list (.str), .int .i64, .bool], ⟨[.box [.dat (.list (.str)), .dat (.int .i64), .dat (.bool)]], [(0, .l (.dat (.list (.pair (.str) (.list (.str))))))]⟩, [.list (.str), .int .i64, .bool, .list (.pair (.str) (.list (.str)))]⟩
abbrev spec_l24Rd_tree.Tab : Type := (Den [.list (.str), .int .i64, .bool, .list (.pair (.str) (.list (.str)))] → Option spec_l24Rd_tree.R) × (Den [.list (.str), .int .i64, .bool, .list (.pair (.str) (.list (.str))), .str, .list (.str), .list (.str), .int .i64] → Option spec_l24Rd_tree.R) × Unit
def spec_l24Rd_tree.start (m : Nat) (t : spec_l24Rd_tree.Tab) (x0 : List ByteArray) (x1 : Int) (x2 : Bool) : Option spec_l24Rd_tree.R :=
  t.1 (x0, x1, x2, [], ())
def spec_l24Rd_tree.b0 (m : Nat) (t : spec_l24Rd_tree.Tab) (a0 : List ByteArray) (a1 : Int) (a2 : Bool) (a3 : List (ByteArray × List ByteArray)) : Option spec_l24Rd_tree.R :=
  Option.bind (spec_l24Rd_more m (a0, a1, a2, s_66696c6520, ())) fun r1 => cond r1.2.2.2.1 (cond (decide ((lLen a3) < (8 : Int))) (Option.bind (spec_l24Rd_line m (r1.1, r1.2.1, r1.2.2.1, ())) fun r2 => Option.bind (spec_l1Cut m (r2.2.2.2.1, (32 : Int), (3 : Int), ())) fun r3 => cond ((lLen r3.1) != (3 : Int)) (some (r2.1, r2.2.1, true, [], ())) (cond (decide ((0 : Int) ≤ (2 : Int))) (cond (decide ((2 : Int) < lLen r3.1)) (Option.bind (spec_l1Num m ((getL r3.1 (2 : Int) ByteArray.empty), ())) fun r4 => cond (decide (r4.1 > (10 : Int))) (some (r2.1, r2.2.1, true, [], ())) (cond (decide ((0 : Int) ≤ (1 : Int))) (cond (decide ((1 : Int) < lLen r3.1)) (t.2.1 (r2.1, r2.2.1, r2.2.2.1, a3, (getL r3.1 (1 : Int) ByteArray.empty), [], r3.1, (0 : Int), ())) none) none)) none) none)) (some (r1.1, r1.2.1, r1.2.2.1, a3, ()))) (some (r1.1, r1.2.1, r1.2.2.1, a3, ()))
def spec_l24Rd_tree.b1 (m : Nat) (t : spec_l24Rd_tree.Tab) (a0 : List ByteArray) (a1 : Int) (a2 : Bool) (a3 : List (ByteArray × List ByteArray)) (a4 : ByteArray) (a5 : List ByteArray) (a6 : List ByteArray) (a7 : Int) : Option spec_l24Rd_tree.R :=
  cond (decide ((0 : Int) ≤ (2 : Int))) (cond (decide ((2 : Int) < lLen a6)) (Option.bind (spec_l1Num m ((getL a6 (2 : Int) ByteArray.empty), ())) fun r1 => cond (decide (a7 < r1.1)) (Option.bind (spec_l24Rd_line m (a0, a1, a2, ())) fun r2 => cond (decide (List.length a5 + List.length ([r2.2.2.2.1] : List ByteArray) ≤ apCap)) (t.2.1 (r2.1, r2.2.1, r2.2.2.1, a3, a4, (List.append a5 ([r2.2.2.2.1] : List ByteArray)), a6, (w64 (a7 + (1 : Int))), ())) none) (cond (decide (List.length a3 + List.length ([(a4, a5)] : List (ByteArray × List ByteArray)) ≤ apCap)) (lett ((List.append a3 ([(a4, a5)] : List (ByteArray × List ByteArray))) : List (ByteArray × List ByteArray)) fun v3 => t.1 (a0, a1, a2, v3, ())) none)) none) none
def spec_l24Rd_tree.tab (m : Nat) : Nat → spec_l24Rd_tree.Tab
  | 0 => (fun _ => none, fun _ => none, ())
  | k + 1 => (fun x => spec_l24Rd_tree.b0 m (spec_l24Rd_tree.tab m k) x.1 x.2.1 x.2.2.1 x.2.2.2.1, fun x => spec_l24Rd_tree.b1 m (spec_l24Rd_tree.tab m k) x.1 x.2.1 x.2.2.1 x.2.2.2.1 x.2.2.2.2.1 x.2.2.2.2.2.1 x.2.2.2.2.2.2.1 x.2.2.2.2.2.2.2.1, ())
def spec_l24Rd_tree (m : Nat) (x : Den [.list (.str), .int .i64, .bool]) : Option spec_l24Rd_tree.R := spec_l24Rd_tree.start m (spec_l24Rd_tree.tab m m) x.1 x.2.1 x.2.2.1
def spec_l24Rd_tree.cons (m : Nat) : List (Nat × Contract) := [(79, ⟨spec_l24Rd_more.sig, spec_l24Rd_more m⟩), (80, ⟨spec_l24Rd_line.sig, spec_l24Rd_line m⟩), (48, ⟨spec_l1Cut.sig, spec_l1Cut m⟩), (81, ⟨spec_l1Num.sig, spec_l1Num m⟩)]
def spec_l24Rd_tree.cuts (m : Nat) : List (CutF (Den spec_l24Rd_tree.sig.us)) := [⟨[false, false, true, true], 28, ⟨[.box [.dat (.list (.str)), .dat (.int .i64), .dat (.bool)], .row true (.pair (.str) (.list (.str)))], [(0, .l (.ptr 0 0)), (3, .l (.sl 1))]⟩, [.list (.str), .int .i64, .bool, .list (.pair (.str) (.list (.str)))], fun k => (spec_l24Rd_tree.tab m k).1⟩,
  ⟨[false, true, false, true, true, true, false, true, false, false, false, true, true], 14522, ⟨[.box [.dat (.list (.str)), .dat (.int .i64), .dat (.bool)], .row true (.pair (.str) (.list (.str))), .box [.dat (.str), .sl 3], .row true (.str)], [(0, .l (.ptr 0 0)), (3, .l (.sl 1)), (4, .l (.dat (.list (.str)))), (5, .l (.ptr 2 0)), (6, .l (.dat (.int .i64)))]⟩, [.list (.str), .int .i64, .bool, .list (.pair (.str) (.list (.str))), .str, .list (.str), .list (.str), .int .i64], fun k => (spec_l24Rd_tree.tab m k).2.1⟩]
theorem spec_l24Rd_tree.eq0 (m k : Nat) (x : Den [.list (.str), .int .i64, .bool, .list (.pair (.str) (.list (.str)))]) : (spec_l24Rd_tree.tab m (k + 1)).1 x = runF ⟨lookΓ Γl, lookC (spec_l24Rd_tree.cons m), false⟩ Tryd.f49 spec_l24Rd_tree.sig (spec_l24Rd_tree.cuts m) k [false, false, true, true] ⟨[.box [.dat (.list (.str)), .dat (.int .i64), .dat (.bool)], .row true (.pair (.str) (.list (.str)))], [(0, .l (.ptr 0 0)), (3, .l (.sl 1))]⟩ [.list (.str), .int .i64, .bool, .list (.pair (.str) (.list (.str)))] x := by kernel_rfl
theorem spec_l24Rd_tree.eq1 (m k : Nat) (x : Den [.list (.str), .int .i64, .bool, .list (.pair (.str) (.list (.str))), .str, .list (.str), .list (.str), .int .i64]) : (spec_l24Rd_tree.tab m (k + 1)).2.1 x = runF ⟨lookΓ Γl, lookC (spec_l24Rd_tree.cons m), false⟩ Tryd.f49 spec_l24Rd_tree.sig (spec_l24Rd_tree.cuts m) k [false, true, false, true, true, true, false, true, false, false, false, true, true] ⟨[.box [.dat (.list (.str)), .dat (.int .i64), .dat (.bool)], .row true (.pair (.str) (.list (.str))), .box [.dat (.str), .sl 3], .row true (.str)], [(0, .l (.ptr 0 0)), (3, .l (.sl 1)), (4, .l (.dat (.list (.str)))), (5, .l (.ptr 2 0)), (6, .l (.dat (.int .i64)))]⟩ [.list (.str), .int .i64, .bool, .list (.pair (.str) (.list (.str))), .str, .list (.str), .list (.str), .int .i64] x := by kernel_rfl
theorem spec_l24Rd_tree.eq (m : Nat) (x : Den spec_l24Rd_tree.sig.ts) : spec_l24Rd_tree m x = startF ⟨lookΓ Γl, lookC (spec_l24Rd_tree.cons m), false⟩ Tryd.f49 spec_l24Rd_tree.sig (spec_l24Rd_tree.cuts m) m x := by kernel_rfl
theorem spec_l24Rd_tree.ok (m : Nat) : Meets GL Tryd.prog 49 spec_l24Rd_tree.sig (spec_l24Rd_tree m) :=
  fn_is (cx_is tyOk mixed (l := spec_l24Rd_tree.cons m) ⟨spec_l24Rd_more.ok m, spec_l24Rd_line.ok m, spec_l1Cut.ok m, spec_l1Num.ok m, trivial⟩) (fn := Tryd.f49) Tryd.func49 (by kernel_rfl) (cl := spec_l24Rd_tree.cuts m) ⟨⟨by kernel_rfl, fun _ => rfl, fun k x => spec_l24Rd_tree.eq0 m k x⟩, ⟨by kernel_rfl, fun _ => rfl, fun k x => spec_l24Rd_tree.eq1 m k x⟩, trivial⟩ (k := m) (spec_l24Rd_tree.eq m)

/-! ### loop.example/stemma/spec.TreeRead: function 16 -/
abbrev spec_TreeRead.R : Type := Den [.list (.pair (.str) (.list (.str))), .bool]
def spec_TreeRead.sig : Sig := ⟨1, ⟨[], [(0, .l (.dat (.str)))]⟩, [.str], ⟨[], [(0, .l (.dat (.list (.pair (.str) (.list (.str)))))), (1, .l (.dat (.bool)))]⟩, [.list (.pair (.str) (.list (.str))), .bool]⟩
abbrev spec_TreeRead.Tab : Type := (Den [.list (.pair (.str) (.list (.str))), .bool] → Option spec_TreeRead.R) × Unit
def spec_TreeRead.start (m : Nat) (t : spec_TreeRead.Tab) (x0 : ByteArray) : Option spec_TreeRead.R :=
  Option.bind (spec_l1Cut m (x0, (10 : Int), (89 : Int), ())) fun r1 => Option.bind (spec_l24Rd_tree m (r1.1, (0 : Int), false, ())) fun r2 => cond r2.2.2.1 (t.1 (r2.2.2.2.1, true, ())) (lett (((w64 (r2.2.1 + (1 : Int))) != (lLen r2.1)) : Bool) fun v3 => cond v3 (t.1 (r2.2.2.2.1, true, ())) (Option.bind (spec_l4Ok m (r2.2.2.2.1, ())) fun r4 => cond (!r4.1) (t.1 (r2.2.2.2.1, true, ())) (Option.bind (spec_l24Tree m (r2.2.2.2.1, ())) fun r5 => t.1 (r2.2.2.2.1, (!sEq r5.1 x0), ()))))
def spec_TreeRead.b0 (m : Nat) (t : spec_TreeRead.Tab) (a0 : List (ByteArray × List ByteArray)) (a1 : Bool) : Option spec_TreeRead.R :=
  cond a1 (some ([], false, ())) (some (a0, true, ()))
def spec_TreeRead.tab (m : Nat) : Nat → spec_TreeRead.Tab
  | 0 => (fun _ => none, ())
  | k + 1 => (fun x => spec_TreeRead.b0 m (spec_TreeRead.tab m k) x.1 x.2.1, ())
def spec_TreeRead (m : Nat) (x : Den [.str]) : Option spec_TreeRead.R := spec_TreeRead.start m (spec_TreeRead.tab m m) x.1
def spec_TreeRead.cons (m : Nat) : List (Nat × Contract) := [(48, ⟨spec_l1Cut.sig, spec_l1Cut m⟩), (49, ⟨spec_l24Rd_tree.sig, spec_l24Rd_tree m⟩), (32, ⟨spec_l4Ok.sig, spec_l4Ok m⟩), (50, ⟨spec_l24Tree.sig, spec_l24Tree m⟩)]
def spec_TreeRead.cuts (m : Nat) : List (CutF (Den spec_TreeRead.sig.us)) := [⟨[true, false, true, true, true], 61, ⟨[], [(5, .l (.dat (.list (.pair (.str) (.list (.str)))))), (39, .l (.dat (.bool)))]⟩, [.list (.pair (.str) (.list (.str))), .bool], fun k => (spec_TreeRead.tab m k).1⟩]
theorem spec_TreeRead.eq0 (m k : Nat) (x : Den [.list (.pair (.str) (.list (.str))), .bool]) : (spec_TreeRead.tab m (k + 1)).1 x = runF ⟨lookΓ Γl, lookC (spec_TreeRead.cons m), false⟩ Tryd.f16 spec_TreeRead.sig (spec_TreeRead.cuts m) k [true, false, true, true, true] ⟨[], [(5, .l (.dat (.list (.pair (.str) (.list (.str)))))), (39, .l (.dat (.bool)))]⟩ [.list (.pair (.str) (.list (.str))), .bool] x := by kernel_rfl
theorem spec_TreeRead.eq (m : Nat) (x : Den spec_TreeRead.sig.ts) : spec_TreeRead m x = startF ⟨lookΓ Γl, lookC (spec_TreeRead.cons m), false⟩ Tryd.f16 spec_TreeRead.sig (spec_TreeRead.cuts m) m x := by kernel_rfl
theorem spec_TreeRead.ok (m : Nat) : Meets GL Tryd.prog 16 spec_TreeRead.sig (spec_TreeRead m) :=
  fn_is (cx_is tyOk mixed (l := spec_TreeRead.cons m) ⟨spec_l1Cut.ok m, spec_l24Rd_tree.ok m, spec_l4Ok.ok m, spec_l24Tree.ok m, trivial⟩) (fn := Tryd.f16) Tryd.func16 (by kernel_rfl) (cl := spec_TreeRead.cuts m) ⟨⟨by kernel_rfl, fun _ => rfl, fun k x => spec_TreeRead.eq0 m k x⟩, trivial⟩ (k := m) (spec_TreeRead.eq m)

/-! ### loop.example/stemma/laws.smTexts: function 12 -/
abbrev laws_smTexts.R : Type := Den [.bool]
def laws_smTexts.sig : Sig := ⟨2, ⟨[], [(0, .l (.dat (.sp (.str)))), (1, .l (.dat (.sp (.str))))]⟩, [.sp (.str), .sp (.str)], ⟨[], [(0, .l (.dat (.bool)))]⟩, [.bool]⟩
abbrev laws_smTexts.Tab : Type := (Den [.sp (.str), .sp (.str), .int .i64] → Option laws_smTexts.R) × Unit
def laws_smTexts.start (m : Nat) (t : laws_smTexts.Tab) (x0 : List ByteArray × Nat) (x1 : List ByteArray × Nat) : Option laws_smTexts.R :=
  cond ((x0.2 : Int) != (x1.2 : Int)) (some (false, ())) (t.1 (x0, x1, (0 : Int), ()))
def laws_smTexts.b0 (m : Nat) (t : laws_smTexts.Tab) (a0 : List ByteArray × Nat) (a1 : List ByteArray × Nat) (a2 : Int) : Option laws_smTexts.R :=
  cond (decide (a2 < (a0.2 : Int))) (cond (decide ((0 : Int) ≤ a2)) (cond (decide (a2 < (a0.2 : Int))) (cond (decide ((0 : Int) ≤ a2)) (cond (decide (a2 < (a1.2 : Int))) (lett ((!sEq (getL a0.1 a2 ByteArray.empty) (getL a1.1 a2 ByteArray.empty)) : Bool) fun v1 => cond v1 (some (false, ())) (t.1 (a0, a1, (w64 (a2 + (1 : Int))), ()))) none) none) none) none) (some (true, ()))
def laws_smTexts.tab (m : Nat) : Nat → laws_smTexts.Tab
  | 0 => (fun _ => none, ())
  | k + 1 => (fun x => laws_smTexts.b0 m (laws_smTexts.tab m k) x.1 x.2.1 x.2.2.1, ())
def laws_smTexts (m : Nat) (x : Den [.sp (.str), .sp (.str)]) : Option laws_smTexts.R := laws_smTexts.start m (laws_smTexts.tab m m) x.1 x.2.1
def laws_smTexts.cons (m : Nat) : List (Nat × Contract) := []
def laws_smTexts.cuts (m : Nat) : List (CutF (Den laws_smTexts.sig.us)) := [⟨[false, true, false, true, true], 58, ⟨[], [(0, .l (.dat (.sp (.str)))), (1, .l (.dat (.sp (.str)))), (5, .l (.dat (.int .i64)))]⟩, [.sp (.str), .sp (.str), .int .i64], fun k => (laws_smTexts.tab m k).1⟩]
theorem laws_smTexts.eq0 (m k : Nat) (x : Den [.sp (.str), .sp (.str), .int .i64]) : (laws_smTexts.tab m (k + 1)).1 x = runF ⟨lookΓ Γs, lookC (laws_smTexts.cons m), false⟩ Tryd.f12 laws_smTexts.sig (laws_smTexts.cuts m) k [false, true, false, true, true] ⟨[], [(0, .l (.dat (.sp (.str)))), (1, .l (.dat (.sp (.str)))), (5, .l (.dat (.int .i64)))]⟩ [.sp (.str), .sp (.str), .int .i64] x := by kernel_rfl
theorem laws_smTexts.eq (m : Nat) (x : Den laws_smTexts.sig.ts) : laws_smTexts m x = startF ⟨lookΓ Γs, lookC (laws_smTexts.cons m), false⟩ Tryd.f12 laws_smTexts.sig (laws_smTexts.cuts m) m x := by kernel_rfl
theorem laws_smTexts.ok (m : Nat) : Meets GL Tryd.prog 12 laws_smTexts.sig (laws_smTexts m) :=
  fn_is (cx_is tyOks mixed (l := laws_smTexts.cons m) trivial) (fn := Tryd.f12) Tryd.func12 (by kernel_rfl) (cl := laws_smTexts.cuts m) ⟨⟨by kernel_rfl, fun _ => rfl, fun k x => laws_smTexts.eq0 m k x⟩, trivial⟩ (k := m) (laws_smTexts.eq m)

/-! ### loop.example/stemma/laws.smTree: function 8 -/
abbrev laws_smTree.R : Type := Den [.bool]
def laws_smTree.sig : Sig := ⟨2, ⟨[], [(0, .l (.dat (.sp (.pair (.str) (.sp (.str)))))), (1, .l (.dat (.sp (.pair (.str) (.sp (.str))))))]⟩, [.sp (.pair (.str) (.sp (.str))), .sp (.pair (.str) (.sp (.str)))], ⟨[], [(0, .l (.dat (.bool)))]⟩, [.bool]⟩
abbrev laws_smTree.Tab : Type := (Den [.sp (.pair (.str) (.sp (.str))), .sp (.pair (.str) (.sp (.str))), .int .i64] → Option laws_smTree.R) × Unit
def laws_smTree.start (m : Nat) (t : laws_smTree.Tab) (x0 : List (ByteArray × (List ByteArray × Nat)) × Nat) (x1 : List (ByteArray × (List ByteArray × Nat)) × Nat) : Option laws_smTree.R :=
  cond ((x0.2 : Int) != (x1.2 : Int)) (some (false, ())) (t.1 (x0, x1, (0 : Int), ()))
def laws_smTree.b0 (m : Nat) (t : laws_smTree.Tab) (a0 : List (ByteArray × (List ByteArray × Nat)) × Nat) (a1 : List (ByteArray × (List ByteArray × Nat)) × Nat) (a2 : Int) : Option laws_smTree.R :=
  cond (decide (a2 < (a0.2 : Int))) (cond (decide ((0 : Int) ≤ a2)) (cond (decide (a2 < (a0.2 : Int))) (lett ((getL a0.1 a2 (ByteArray.empty, ([] : List ByteArray), (0 : Nat))) : ByteArray × (List ByteArray × Nat)) fun v1 => cond (decide ((0 : Int) ≤ a2)) (cond (decide (a2 < (a1.2 : Int))) (lett ((getL a1.1 a2 (ByteArray.empty, ([] : List ByteArray), (0 : Nat))) : ByteArray × (List ByteArray × Nat)) fun v2 => cond (!sEq v1.1 v2.1) (some (false, ())) (cond (decide ((0 : Int) ≤ a2)) (cond (decide (a2 < (a0.2 : Int))) (lett ((getL a0.1 a2 (ByteArray.empty, ([] : List ByteArray), (0 : Nat))) : ByteArray × (List ByteArray × Nat)) fun v3 => cond (decide ((0 : Int) ≤ a2)) (cond (decide (a2 < (a1.2 : Int))) (lett ((getL a1.1 a2 (ByteArray.empty, ([] : List ByteArray), (0 : Nat))) : ByteArray × (List ByteArray × Nat)) fun v4 => Option.bind (laws_smTexts m (v3.2, v4.2, ())) fun r5 => cond (!r5.1) (some (false, ())) (t.1 (a0, a1, (w64 (a2 + (1 : Int))), ()))) none) none) none) none)) none) none) none) none) (some (true, ()))
def laws_smTree.tab (m : Nat) : Nat → laws_smTree.Tab
  | 0 => (fun _ => none, ())
  | k + 1 => (fun x => laws_smTree.b0 m (laws_smTree.tab m k) x.1 x.2.1 x.2.2.1, ())
def laws_smTree (m : Nat) (x : Den [.sp (.pair (.str) (.sp (.str))), .sp (.pair (.str) (.sp (.str)))]) : Option laws_smTree.R := laws_smTree.start m (laws_smTree.tab m m) x.1 x.2.1
def laws_smTree.cons (m : Nat) : List (Nat × Contract) := [(12, ⟨laws_smTexts.sig, laws_smTexts m⟩)]
def laws_smTree.cuts (m : Nat) : List (CutF (Den laws_smTree.sig.us)) := [⟨[false, true, false, true, true], 58, ⟨[], [(0, .l (.dat (.sp (.pair (.str) (.sp (.str)))))), (1, .l (.dat (.sp (.pair (.str) (.sp (.str)))))), (5, .l (.dat (.int .i64)))]⟩, [.sp (.pair (.str) (.sp (.str))), .sp (.pair (.str) (.sp (.str))), .int .i64], fun k => (laws_smTree.tab m k).1⟩]
theorem laws_smTree.eq0 (m k : Nat) (x : Den [.sp (.pair (.str) (.sp (.str))), .sp (.pair (.str) (.sp (.str))), .int .i64]) : (laws_smTree.tab m (k + 1)).1 x = runF ⟨lookΓ Γs, lookC (laws_smTree.cons m), false⟩ Tryd.f8 laws_smTree.sig (laws_smTree.cuts m) k [false, true, false, true, true] ⟨[], [(0, .l (.dat (.sp (.pair (.str) (.sp (.str)))))), (1, .l (.dat (.sp (.pair (.str) (.sp (.str)))))), (5, .l (.dat (.int .i64)))]⟩ [.sp (.pair (.str) (.sp (.str))), .sp (.pair (.str) (.sp (.str))), .int .i64] x := by kernel_rfl
theorem laws_smTree.eq (m : Nat) (x : Den laws_smTree.sig.ts) : laws_smTree m x = startF ⟨lookΓ Γs, lookC (laws_smTree.cons m), false⟩ Tryd.f8 laws_smTree.sig (laws_smTree.cuts m) m x := by kernel_rfl
theorem laws_smTree.ok (m : Nat) : Meets GL Tryd.prog 8 laws_smTree.sig (laws_smTree m) :=
  fn_is (cx_is tyOks mixed (l := laws_smTree.cons m) ⟨laws_smTexts.ok m, trivial⟩) (fn := Tryd.f8) Tryd.func8 (by kernel_rfl) (cl := laws_smTree.cuts m) ⟨⟨by kernel_rfl, fun _ => rfl, fun k x => laws_smTree.eq0 m k x⟩, trivial⟩ (k := m) (laws_smTree.eq m)

/-! ### loop.example/stemma/laws.FnTreeRead: function 4 -/
abbrev laws_FnTreeRead.R : Type := Den [.bool]
def laws_FnTreeRead.sig : Sig := ⟨1, ⟨[], [(0, .l (.dat (.list (.int .u8))))]⟩, [.list (.int .u8)], ⟨[], [(0, .l (.dat (.bool)))]⟩, [.bool]⟩
abbrev laws_FnTreeRead.Tab : Type := (Den [.str, .list (.pair (.str) (.list (.str))), .bool, .list (.pair (.str) (.list (.str))), .bool, .bool] → Option laws_FnTreeRead.R) × Unit
def laws_FnTreeRead.start (m : Nat) (t : laws_FnTreeRead.Tab) (x0 : List Int) : Option laws_FnTreeRead.R :=
  cond (decide ((lLen x0) > (1048576 : Int))) (some (true, ())) (Option.bind (spec_DrawTreeRead m (x0, ())) fun r1 => Option.bind (impl_TreeRead m (r1.1, ())) fun r2 => Option.bind (spec_TreeRead m (r1.1, ())) fun r3 => cond (!(r2.2.1 == r3.2.1)) (t.1 (r1.1, r2.1, r2.2.1, r3.1, r3.2.1, true, ())) (Option.bind (laws_smTree m (((List.map (fun z21 => (z21.1, z21.2, (List.length z21.2))) r2.1), (List.length r2.1)), ((List.map (fun z22 => (z22.1, z22.2, (List.length z22.2))) r3.1), (List.length r3.1)), ())) fun r4 => cond (!r4.1) (t.1 (r1.1, r2.1, r2.2.1, r3.1, r3.2.1, true, ())) (t.1 (r1.1, r2.1, r2.2.1, r3.1, r3.2.1, (!r2.2.1), ()))))
def laws_FnTreeRead.b0 (m : Nat) (t : laws_FnTreeRead.Tab) (a0 : ByteArray) (a1 : List (ByteArray × List ByteArray)) (a2 : Bool) (a3 : List (ByteArray × List ByteArray)) (a4 : Bool) (a5 : Bool) : Option laws_FnTreeRead.R :=
  cond a5 (cond (a2 == a4) (Option.bind (laws_smTree m (((List.map (fun z23 => (z23.1, z23.2, (List.length z23.2))) a1), (List.length a1)), ((List.map (fun z24 => (z24.1, z24.2, (List.length z24.2))) a3), (List.length a3)), ())) fun r1 => some (r1.1, ())) (some (false, ()))) (Option.bind (impl_TreePut m (a1, ())) fun r2 => cond (sEq r2.1 a0) (Option.bind (impl_TreeOk m (a1, ())) fun r3 => some (r3.1, ())) (some (false, ())))
def laws_FnTreeRead.tab (m : Nat) : Nat → laws_FnTreeRead.Tab
  | 0 => (fun _ => none, ())
  | k + 1 => (fun x => laws_FnTreeRead.b0 m (laws_FnTreeRead.tab m k) x.1 x.2.1 x.2.2.1 x.2.2.2.1 x.2.2.2.2.1 x.2.2.2.2.2.1, ())
def laws_FnTreeRead (m : Nat) (x : Den [.list (.int .u8)]) : Option laws_FnTreeRead.R := laws_FnTreeRead.start m (laws_FnTreeRead.tab m m) x.1
def laws_FnTreeRead.cons (m : Nat) : List (Nat × Contract) := [(14, ⟨spec_DrawTreeRead.sig, spec_DrawTreeRead m⟩), (15, ⟨impl_TreeRead.sig, impl_TreeRead m⟩), (16, ⟨spec_TreeRead.sig, spec_TreeRead m⟩), (8, ⟨laws_smTree.sig, laws_smTree m⟩), (17, ⟨impl_TreePut.sig, impl_TreePut m⟩), (9, ⟨impl_TreeOk.sig, impl_TreeOk m⟩)]
def laws_FnTreeRead.cuts (m : Nat) : List (CutF (Den laws_FnTreeRead.sig.us)) := [⟨[true, false, true, true, true, true, true], 253, ⟨[], [(3, .l (.dat (.str))), (4, .l (.dat (.list (.pair (.str) (.list (.str)))))), (5, .l (.dat (.bool))), (6, .l (.dat (.list (.pair (.str) (.list (.str)))))), (7, .l (.dat (.bool))), (35, .l (.dat (.bool)))]⟩, [.str, .list (.pair (.str) (.list (.str))), .bool, .list (.pair (.str) (.list (.str))), .bool, .bool], fun k => (laws_FnTreeRead.tab m k).1⟩]
theorem laws_FnTreeRead.eq0 (m k : Nat) (x : Den [.str, .list (.pair (.str) (.list (.str))), .bool, .list (.pair (.str) (.list (.str))), .bool, .bool]) : (laws_FnTreeRead.tab m (k + 1)).1 x = runF ⟨lookΓ Γs, lookC (laws_FnTreeRead.cons m), false⟩ Tryd.f4 laws_FnTreeRead.sig (laws_FnTreeRead.cuts m) k [true, false, true, true, true, true, true] ⟨[], [(3, .l (.dat (.str))), (4, .l (.dat (.list (.pair (.str) (.list (.str)))))), (5, .l (.dat (.bool))), (6, .l (.dat (.list (.pair (.str) (.list (.str)))))), (7, .l (.dat (.bool))), (35, .l (.dat (.bool)))]⟩ [.str, .list (.pair (.str) (.list (.str))), .bool, .list (.pair (.str) (.list (.str))), .bool, .bool] x := by kernel_rfl
theorem laws_FnTreeRead.eq (m : Nat) (x : Den laws_FnTreeRead.sig.ts) : laws_FnTreeRead m x = startF ⟨lookΓ Γs, lookC (laws_FnTreeRead.cons m), false⟩ Tryd.f4 laws_FnTreeRead.sig (laws_FnTreeRead.cuts m) m x := by kernel_rfl
theorem laws_FnTreeRead.ok (m : Nat) : Meets GL Tryd.prog 4 laws_FnTreeRead.sig (laws_FnTreeRead m) :=
  fn_is (cx_is tyOks mixed (l := laws_FnTreeRead.cons m) ⟨spec_DrawTreeRead.ok m, impl_TreeRead.ok m, spec_TreeRead.ok m, laws_smTree.ok m, impl_TreePut.ok m, impl_TreeOk.ok m, trivial⟩) (fn := Tryd.f4) Tryd.func4 (by kernel_rfl) (cl := laws_FnTreeRead.cuts m) ⟨⟨by kernel_rfl, fun _ => rfl, fun k x => laws_FnTreeRead.eq0 m k x⟩, trivial⟩ (k := m) (laws_FnTreeRead.eq m)

end
end Go.Sx.Tryd
