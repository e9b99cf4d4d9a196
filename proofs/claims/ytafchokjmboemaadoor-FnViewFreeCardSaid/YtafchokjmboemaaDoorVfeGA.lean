/- The functions that FnViewFree reaches, as plain Lean functions, and that the program's functions do what these say: no condition. Printed by wip/gen/sx.py. -/
import Derived.Test.YtafchokjmboemaaDoorSxD
import Derived.Test.YtafchokjmboemaaDoorChecked
namespace Go.Sx.Tryd
open Go Go.Proofs Go.Sx
set_option linter.unusedVariables false
noncomputable section
def Γl : List (Nat × TI) := [(3, ⟨1, 8, false, .int .i64, some (.int .i64)⟩),
  (5, ⟨1, 1, false, .int .u8, some (.int .u8)⟩),
  (9, ⟨1, 16, false, .str, some (.str)⟩),
  (24, ⟨1, 24, false, .slice 9, some (.list (.str))⟩),
  (26, ⟨1, 24, false, .slice 55, some (.list (.pair (.str) (.list (.str))))⟩),
  (39, ⟨1, 24, false, .slice 5, some (.list (.int .u8))⟩),
  (43, ⟨1, 8, false, .other, none⟩),
  (55, ⟨2, 40, true, .struct [(9, 0), (24, 1)], some (.pair (.str) (.list (.str)))⟩),
  (64, ⟨1, 8, false, .other, none⟩),
  (67, ⟨1, 8, false, .other, none⟩),
  (87, ⟨1, 8, false, .other, none⟩),
  (89, ⟨2, 32, true, .struct [(39, 0), (3, 1)], some (.pair (.list (.int .u8)) (.int .i64))⟩),
  (109, ⟨1, 24, false, .slice 3, some (.list (.int .i64))⟩),
  (125, ⟨1, 8, false, .int .u64, some (.int .u64)⟩)]
theorem tyOk : TyOk Tryd.prog (lookΓ Γl) := tyOk_of (by kernel_rfl)
def Γs : List (Nat × TI) := [(4, ⟨1, 1, false, .bool, some (.bool)⟩),
  (5, ⟨1, 1, false, .int .u8, some (.int .u8)⟩),
  (9, ⟨1, 16, false, .str, some (.str)⟩),
  (24, ⟨1, 24, false, .slice 9, some (.sp (.str))⟩),
  (26, ⟨1, 24, false, .slice 55, some (.sp (.pair (.str) (.sp (.str))))⟩),
  (39, ⟨1, 24, false, .slice 5, some (.sp (.int .u8))⟩),
  (55, ⟨2, 40, true, .struct [(9, 0), (24, 1)], some (.pair (.str) (.sp (.str)))⟩)]
theorem tyOks : TyOk Tryd.prog (lookΓ Γs) := tyOk_of (by kernel_rfl)
theorem mixed : Tryd.prog.follows .mixedOrders = true := by kernel_rfl
def s_61 : ByteArray := ⟨#[97]⟩
def s_62 : ByteArray := ⟨#[98]⟩
def s_642f65 : ByteArray := ⟨#[100, 47, 101]⟩
def s_642f66 : ByteArray := ⟨#[100, 47, 102]⟩
def s_672f682f69 : ByteArray := ⟨#[103, 47, 104, 47, 105]⟩
def s_672f6b : ByteArray := ⟨#[103, 47, 107]⟩
def s_7a : ByteArray := ⟨#[122]⟩
def s_63 : ByteArray := ⟨#[99]⟩
def s_64 : ByteArray := ⟨#[100]⟩
def s_782079 : ByteArray := ⟨#[120, 32, 121]⟩
def s_7365652061 : ByteArray := ⟨#[115, 101, 101, 32, 97]⟩
def s_73656520642f65 : ByteArray := ⟨#[115, 101, 101, 32, 100, 47, 101]⟩
def s_656e64 : ByteArray := ⟨#[101, 110, 100]⟩
def s_67 : ByteArray := ⟨#[103]⟩
def s_41 : ByteArray := ⟨#[65]⟩
def s_612f : ByteArray := ⟨#[97, 47]⟩
def s_612f622f632f64 : ByteArray := ⟨#[97, 47, 98, 47, 99, 47, 100]⟩
def s_746f6f6c6f6e67 : ByteArray := ⟨#[116, 111, 111, 108, 111, 110, 103]⟩
def s_672f68 : ByteArray := ⟨#[103, 47, 104]⟩
def s_642f652f66 : ByteArray := ⟨#[100, 47, 101, 47, 102]⟩
def s_61206c696e6520746f6f206c6f6e67 : ByteArray := ⟨#[97, 32, 108, 105, 110, 101, 32, 116, 111, 111, 32, 108, 111, 110, 103]⟩
def s_780a79 : ByteArray := ⟨#[120, 10, 121]⟩
def s_ff : ByteArray := ⟨#[255]⟩
def s_31 : ByteArray := ⟨#[49]⟩
def s_32 : ByteArray := ⟨#[50]⟩
def s_33 : ByteArray := ⟨#[51]⟩
def s_34 : ByteArray := ⟨#[52]⟩
def s_35 : ByteArray := ⟨#[53]⟩
def s_36 : ByteArray := ⟨#[54]⟩
def s_37 : ByteArray := ⟨#[55]⟩
def s_38 : ByteArray := ⟨#[56]⟩
def s_39 : ByteArray := ⟨#[57]⟩
def s_3130 : ByteArray := ⟨#[49, 48]⟩
def s_2f : ByteArray := ⟨#[47]⟩
/-! ### loop.example/stemma/spec.l30Open: function 65 -/
abbrev spec_l30Open.R : Type := Den [.list (.int .u8), .int .i64]
def spec_l30Open.sig : Sig := ⟨1, ⟨[], [(0, .l (.dat (.list (.int .u8))))]⟩, [.list (.int .u8)], ⟨[.box [.dat (.list (.int .u8)), .dat (.int .i64)]], [(0, .l (.ptr 0 0))]⟩, [.list (.int .u8), .int .i64]⟩
abbrev spec_l30Open.Tab : Type := Unit
def spec_l30Open.start (m : Nat) (t : spec_l30Open.Tab) (x0 : List Int) : Option spec_l30Open.R :=
  cond (decide ((lLen x0) > (2000 : Int))) (cond (decide ((0 : Int) ≤ (2000 : Int))) (cond (decide ((2000 : Int) ≤ (List.length x0 : Int))) (some ((cutL x0 0 (Int.toNat (2000 : Int))), (0 : Int), ())) none) none) (some (x0, (0 : Int), ()))
def spec_l30Open.tab (m : Nat) : Nat → spec_l30Open.Tab
  | 0 => (())
  | k + 1 => (())
def spec_l30Open (m : Nat) (x : Den [.list (.int .u8)]) : Option spec_l30Open.R := spec_l30Open.start m (spec_l30Open.tab m m) x.1
def spec_l30Open.cons (m : Nat) : List (Nat × Contract) := []
def spec_l30Open.cuts (m : Nat) : List (CutF (Den spec_l30Open.sig.us)) := []
theorem spec_l30Open.eq (m : Nat) (x : Den spec_l30Open.sig.ts) : spec_l30Open m x = startF ⟨lookΓ Γl, lookC (spec_l30Open.cons m), false⟩ Tryd.f65 spec_l30Open.sig (spec_l30Open.cuts m) m x := by kernel_rfl
theorem spec_l30Open.ok (m : Nat) : Meets Tryd.prog 65 spec_l30Open.sig (spec_l30Open m) :=
  fn_is (cx_is tyOk mixed (l := spec_l30Open.cons m) trivial) (fn := Tryd.f65) Tryd.func65 (by kernel_rfl) (cl := spec_l30Open.cuts m) trivial (k := m) (spec_l30Open.eq m)

/-! ### (*loop.example/stemma/spec.l30Rd).pick: function 100 -/
abbrev spec_l30Rd_pick.R : Type := Den [.list (.int .u8), .int .i64, .int .i64]
def spec_l30Rd_pick.sig : Sig := ⟨2, ⟨[.box [.dat (.list (.int .u8)), .dat (.int .i64)]], [(0, .l (.ptr 0 0)), (1, .l (.dat (.int .i64)))]⟩, [.list (.int .u8), .int .i64, .int .i64], ⟨[.box [.dat (.list (.int .u8)), .dat (.int .i64)]], [(0, .l (.dat (.int .i64)))]⟩, [.list (.int .u8), .int .i64, .int .i64]⟩
abbrev spec_l30Rd_pick.Tab : Type := Unit
def spec_l30Rd_pick.start (m : Nat) (t : spec_l30Rd_pick.Tab) (x0 : List Int) (x1 : Int) (x2 : Int) : Option spec_l30Rd_pick.R :=
  cond (decide (x2 < (1 : Int))) (some (x0, (w64 (x1 + (1 : Int))), (0 : Int), ())) (cond ((lLen x0) == (0 : Int)) (some (x0, (w64 (x1 + (1 : Int))), (0 : Int), ())) (lett ((w64 ((w64 (x1 + (1 : Int))) - (1 : Int))) : Int) fun v1 => cond (decide (v1 < (lLen x0))) (cond (decide ((0 : Int) ≤ v1)) (cond (decide (v1 < lLen x0)) (cond (x2 == 0) none (lett ((Int.tmod (wr .i64 (getL x0 v1 (0 : Int))) x2) : Int) fun v2 => some (x0, (w64 (x1 + (1 : Int))), v2, ()))) none) none) (cond ((lLen x0) == 0) none (cond (decide ((0 : Int) ≤ (Int.tmod v1 (lLen x0)))) (cond (decide ((Int.tmod v1 (lLen x0)) < lLen x0)) (lett ((getL x0 (Int.tmod v1 (lLen x0)) (0 : Int)) : Int) fun v3 => lett ((w64 ((w64 (v1 * (7 : Int))) + (3 : Int))) : Int) fun v4 => cond ((lLen x0) == 0) none (cond (decide ((0 : Int) ≤ (Int.tmod v4 (lLen x0)))) (cond (decide ((Int.tmod v4 (lLen x0)) < lLen x0)) (lett ((getL x0 (Int.tmod v4 (lLen x0)) (0 : Int)) : Int) fun v5 => lett ((w64 ((w64 ((wr .i64 v3) * (131 : Int))) + (w64 ((wr .i64 v5) * (1117 : Int))))) : Int) fun v6 => cond ((lLen x0) == 0) none (lett ((w64 ((w64 (Int.tdiv v1 (lLen x0))) * (53 : Int))) : Int) fun v7 => lett ((w64 ((w64 (v6 + (w64 (v1 * (29 : Int))))) + v7)) : Int) fun v8 => cond ((64 : Int) == 0) none (lett ((xorI .i64 v8 (w64 (Int.tdiv v8 (64 : Int)))) : Int) fun v9 => cond (x2 == 0) none (some (x0, (w64 (x1 + (1 : Int))), (Int.tmod v9 x2), ()))))) none) none)) none) none))))
def spec_l30Rd_pick.tab (m : Nat) : Nat → spec_l30Rd_pick.Tab
  | 0 => (())
  | k + 1 => (())
def spec_l30Rd_pick (m : Nat) (x : Den [.list (.int .u8), .int .i64, .int .i64]) : Option spec_l30Rd_pick.R := spec_l30Rd_pick.start m (spec_l30Rd_pick.tab m m) x.1 x.2.1 x.2.2.1
def spec_l30Rd_pick.cons (m : Nat) : List (Nat × Contract) := []
def spec_l30Rd_pick.cuts (m : Nat) : List (CutF (Den spec_l30Rd_pick.sig.us)) := []
theorem spec_l30Rd_pick.eq (m : Nat) (x : Den spec_l30Rd_pick.sig.ts) : spec_l30Rd_pick m x = startF ⟨lookΓ Γl, lookC (spec_l30Rd_pick.cons m), false⟩ Tryd.f100 spec_l30Rd_pick.sig (spec_l30Rd_pick.cuts m) m x := by kernel_rfl
theorem spec_l30Rd_pick.ok (m : Nat) : Meets Tryd.prog 100 spec_l30Rd_pick.sig (spec_l30Rd_pick m) :=
  fn_is (cx_is tyOk mixed (l := spec_l30Rd_pick.cons m) trivial) (fn := Tryd.f100) Tryd.func100 (by kernel_rfl) (cl := spec_l30Rd_pick.cuts m) trivial (k := m) (spec_l30Rd_pick.eq m)

/-! ### (*loop.example/stemma/spec.l30Rd).of: function 103 -/
abbrev spec_l30Rd_of.R : Type := Den [.list (.int .u8), .int .i64, .str]
def spec_l30Rd_of.sig : Sig := ⟨2, ⟨[.box [.dat (.list (.int .u8)), .dat (.int .i64)]], [(0, .l (.ptr 0 0)), (1, .l (.dat (.list (.str))))]⟩, [.list (.int .u8), .int .i64, .list (.str)], ⟨[.box [.dat (.list (.int .u8)), .dat (.int .i64)]], [(0, .l (.dat (.str)))]⟩, [.list (.int .u8), .int .i64, .str]⟩
abbrev spec_l30Rd_of.Tab : Type := Unit
def spec_l30Rd_of.start (m : Nat) (t : spec_l30Rd_of.Tab) (x0 : List Int) (x1 : Int) (x2 : List ByteArray) : Option spec_l30Rd_of.R :=
  Option.bind (spec_l30Rd_pick m (x0, x1, (lLen x2), ())) fun r1 => cond (decide ((0 : Int) ≤ r1.2.2.1)) (cond (decide (r1.2.2.1 < lLen x2)) (some (r1.1, r1.2.1, (getL x2 r1.2.2.1 ByteArray.empty), ())) none) none
def spec_l30Rd_of.tab (m : Nat) : Nat → spec_l30Rd_of.Tab
  | 0 => (())
  | k + 1 => (())
def spec_l30Rd_of (m : Nat) (x : Den [.list (.int .u8), .int .i64, .list (.str)]) : Option spec_l30Rd_of.R := spec_l30Rd_of.start m (spec_l30Rd_of.tab m m) x.1 x.2.1 x.2.2.1
def spec_l30Rd_of.cons (m : Nat) : List (Nat × Contract) := [(100, ⟨spec_l30Rd_pick.sig, spec_l30Rd_pick m⟩)]
def spec_l30Rd_of.cuts (m : Nat) : List (CutF (Den spec_l30Rd_of.sig.us)) := []
theorem spec_l30Rd_of.eq (m : Nat) (x : Den spec_l30Rd_of.sig.ts) : spec_l30Rd_of m x = startF ⟨lookΓ Γl, lookC (spec_l30Rd_of.cons m), false⟩ Tryd.f103 spec_l30Rd_of.sig (spec_l30Rd_of.cuts m) m x := by kernel_rfl
theorem spec_l30Rd_of.ok (m : Nat) : Meets Tryd.prog 103 spec_l30Rd_of.sig (spec_l30Rd_of m) :=
  fn_is (cx_is tyOk mixed (l := spec_l30Rd_of.cons m) ⟨spec_l30Rd_pick.ok m, trivial⟩) (fn := Tryd.f103) Tryd.func103 (by kernel_rfl) (cl := spec_l30Rd_of.cuts m) trivial (k := m) (spec_l30Rd_of.eq m)

/-! ### loop.example/stemma/spec.l30Path: function 120 -/
abbrev spec_l30Path.R : Type := Den [.list (.int .u8), .int .i64, .str]
def spec_l30Path.sig : Sig := ⟨1, ⟨[.box [.dat (.list (.int .u8)), .dat (.int .i64)]], [(0, .l (.ptr 0 0))]⟩, [.list (.int .u8), .int .i64], ⟨[.box [.dat (.list (.int .u8)), .dat (.int .i64)]], [(0, .l (.dat (.str)))]⟩, [.list (.int .u8), .int .i64, .str]⟩
abbrev spec_l30Path.Tab : Type := Unit
def spec_l30Path.start (m : Nat) (t : spec_l30Path.Tab) (x0 : List Int) (x1 : Int) : Option spec_l30Path.R :=
  lett ([s_61, s_62, s_642f65, s_642f66, s_672f682f69, s_672f6b, s_7a] : List ByteArray) fun v1 => Option.bind (spec_l30Rd_of m (x0, x1, v1, ())) fun r2 => some (r2.1, r2.2.1, r2.2.2.1, ())
def spec_l30Path.tab (m : Nat) : Nat → spec_l30Path.Tab
  | 0 => (())
  | k + 1 => (())
def spec_l30Path (m : Nat) (x : Den [.list (.int .u8), .int .i64]) : Option spec_l30Path.R := spec_l30Path.start m (spec_l30Path.tab m m) x.1 x.2.1
def spec_l30Path.cons (m : Nat) : List (Nat × Contract) := [(103, ⟨spec_l30Rd_of.sig, spec_l30Rd_of m⟩)]
def spec_l30Path.cuts (m : Nat) : List (CutF (Den spec_l30Path.sig.us)) := []
theorem spec_l30Path.eq (m : Nat) (x : Den spec_l30Path.sig.ts) : spec_l30Path m x = startF ⟨lookΓ Γl, lookC (spec_l30Path.cons m), false⟩ Tryd.f120 spec_l30Path.sig (spec_l30Path.cuts m) m x := by kernel_rfl
theorem spec_l30Path.ok (m : Nat) : Meets Tryd.prog 120 spec_l30Path.sig (spec_l30Path m) :=
  fn_is (cx_is tyOk mixed (l := spec_l30Path.cons m) ⟨spec_l30Rd_of.ok m, trivial⟩) (fn := Tryd.f120) Tryd.func120 (by kernel_rfl) (cl := spec_l30Path.cuts m) trivial (k := m) (spec_l30Path.eq m)

/-! ### (*loop.example/stemma/spec.l30Rd).one: function 131 -/
abbrev spec_l30Rd_one.R : Type := Den [.list (.int .u8), .int .i64, .int .i64]
def spec_l30Rd_one.sig : Sig := ⟨2, ⟨[.box [.dat (.list (.int .u8)), .dat (.int .i64)]], [(0, .l (.ptr 0 0)), (1, .l (.dat (.list (.int .i64))))]⟩, [.list (.int .u8), .int .i64, .list (.int .i64)], ⟨[.box [.dat (.list (.int .u8)), .dat (.int .i64)]], [(0, .l (.dat (.int .i64)))]⟩, [.list (.int .u8), .int .i64, .int .i64]⟩
abbrev spec_l30Rd_one.Tab : Type := Unit
def spec_l30Rd_one.start (m : Nat) (t : spec_l30Rd_one.Tab) (x0 : List Int) (x1 : Int) (x2 : List Int) : Option spec_l30Rd_one.R :=
  Option.bind (spec_l30Rd_pick m (x0, x1, (lLen x2), ())) fun r1 => cond (decide ((0 : Int) ≤ r1.2.2.1)) (cond (decide (r1.2.2.1 < lLen x2)) (some (r1.1, r1.2.1, (getL x2 r1.2.2.1 (0 : Int)), ())) none) none
def spec_l30Rd_one.tab (m : Nat) : Nat → spec_l30Rd_one.Tab
  | 0 => (())
  | k + 1 => (())
def spec_l30Rd_one (m : Nat) (x : Den [.list (.int .u8), .int .i64, .list (.int .i64)]) : Option spec_l30Rd_one.R := spec_l30Rd_one.start m (spec_l30Rd_one.tab m m) x.1 x.2.1 x.2.2.1
def spec_l30Rd_one.cons (m : Nat) : List (Nat × Contract) := [(100, ⟨spec_l30Rd_pick.sig, spec_l30Rd_pick m⟩)]
def spec_l30Rd_one.cuts (m : Nat) : List (CutF (Den spec_l30Rd_one.sig.us)) := []
theorem spec_l30Rd_one.eq (m : Nat) (x : Den spec_l30Rd_one.sig.ts) : spec_l30Rd_one m x = startF ⟨lookΓ Γl, lookC (spec_l30Rd_one.cons m), false⟩ Tryd.f131 spec_l30Rd_one.sig (spec_l30Rd_one.cuts m) m x := by kernel_rfl
theorem spec_l30Rd_one.ok (m : Nat) : Meets Tryd.prog 131 spec_l30Rd_one.sig (spec_l30Rd_one m) :=
  fn_is (cx_is tyOk mixed (l := spec_l30Rd_one.cons m) ⟨spec_l30Rd_pick.ok m, trivial⟩) (fn := Tryd.f131) Tryd.func131 (by kernel_rfl) (cl := spec_l30Rd_one.cuts m) trivial (k := m) (spec_l30Rd_one.eq m)

/-! ### loop.example/stemma/spec.l30Line: function 132 -/
abbrev spec_l30Line.R : Type := Den [.list (.int .u8), .int .i64, .str]
def spec_l30Line.sig : Sig := ⟨1, ⟨[.box [.dat (.list (.int .u8)), .dat (.int .i64)]], [(0, .l (.ptr 0 0))]⟩, [.list (.int .u8), .int .i64], ⟨[.box [.dat (.list (.int .u8)), .dat (.int .i64)]], [(0, .l (.dat (.str)))]⟩, [.list (.int .u8), .int .i64, .str]⟩
abbrev spec_l30Line.Tab : Type := Unit
def spec_l30Line.start (m : Nat) (t : spec_l30Line.Tab) (x0 : List Int) (x1 : Int) : Option spec_l30Line.R :=
  lett ([s_61, s_62, s_63, s_64, ByteArray.empty, s_782079, s_7365652061, s_73656520642f65, s_656e64] : List ByteArray) fun v1 => Option.bind (spec_l30Rd_of m (x0, x1, v1, ())) fun r2 => some (r2.1, r2.2.1, r2.2.2.1, ())
def spec_l30Line.tab (m : Nat) : Nat → spec_l30Line.Tab
  | 0 => (())
  | k + 1 => (())
def spec_l30Line (m : Nat) (x : Den [.list (.int .u8), .int .i64]) : Option spec_l30Line.R := spec_l30Line.start m (spec_l30Line.tab m m) x.1 x.2.1
def spec_l30Line.cons (m : Nat) : List (Nat × Contract) := [(103, ⟨spec_l30Rd_of.sig, spec_l30Rd_of m⟩)]
def spec_l30Line.cuts (m : Nat) : List (CutF (Den spec_l30Line.sig.us)) := []
theorem spec_l30Line.eq (m : Nat) (x : Den spec_l30Line.sig.ts) : spec_l30Line m x = startF ⟨lookΓ Γl, lookC (spec_l30Line.cons m), false⟩ Tryd.f132 spec_l30Line.sig (spec_l30Line.cuts m) m x := by kernel_rfl
theorem spec_l30Line.ok (m : Nat) : Meets Tryd.prog 132 spec_l30Line.sig (spec_l30Line m) :=
  fn_is (cx_is tyOk mixed (l := spec_l30Line.cons m) ⟨spec_l30Rd_of.ok m, trivial⟩) (fn := Tryd.f132) Tryd.func132 (by kernel_rfl) (cl := spec_l30Line.cuts m) trivial (k := m) (spec_l30Line.eq m)

/-! ### loop.example/stemma/spec.l30Text: function 121 -/
abbrev spec_l30Text.R : Type := Den [.list (.int .u8), .int .i64, .list (.str)]
def spec_l30Text.sig : Sig := ⟨1, ⟨[.box [.dat (.list (.int .u8)), .dat (.int .i64)]], [(0, .l (.ptr 0 0))]⟩, [.list (.int .u8), .int .i64], ⟨[.box [.dat (.list (.int .u8)), .dat (.int .i64)], .row true (.str)], [(0, .l (.sl 1))]⟩, [.list (.int .u8), .int .i64, .list (.str)]⟩
abbrev spec_l30Text.Tab : Type := (Den [.list (.int .u8), .int .i64, .list (.str), .int .i64] → Option spec_l30Text.R) × Unit
def spec_l30Text.start (m : Nat) (t : spec_l30Text.Tab) (x0 : List Int) (x1 : Int) : Option spec_l30Text.R :=
  Option.bind (spec_l30Rd_one m (x0, x1, [(0 : Int), (1 : Int), (3 : Int), (5 : Int), (8 : Int)], ())) fun r1 => t.1 (r1.1, r1.2.1, [], r1.2.2.1, ())
def spec_l30Text.b0 (m : Nat) (t : spec_l30Text.Tab) (a0 : List Int) (a1 : Int) (a2 : List ByteArray) (a3 : Int) : Option spec_l30Text.R :=
  cond (decide (a3 > (0 : Int))) (Option.bind (spec_l30Line m (a0, a1, ())) fun r1 => cond (decide (List.length a2 + List.length ([r1.2.2.1] : List ByteArray) ≤ apCap)) (t.1 (r1.1, r1.2.1, (List.append a2 ([r1.2.2.1] : List ByteArray)), (w64 (a3 - (1 : Int))), ())) none) (some (a0, a1, a2, ()))
def spec_l30Text.tab (m : Nat) : Nat → spec_l30Text.Tab
  | 0 => (fun _ => none, ())
  | k + 1 => (fun x => spec_l30Text.b0 m (spec_l30Text.tab m k) x.1 x.2.1 x.2.2.1 x.2.2.2.1, ())
def spec_l30Text (m : Nat) (x : Den [.list (.int .u8), .int .i64]) : Option spec_l30Text.R := spec_l30Text.start m (spec_l30Text.tab m m) x.1 x.2.1
def spec_l30Text.cons (m : Nat) : List (Nat × Contract) := [(131, ⟨spec_l30Rd_one.sig, spec_l30Rd_one m⟩), (132, ⟨spec_l30Line.sig, spec_l30Line m⟩)]
def spec_l30Text.cuts (m : Nat) : List (CutF (Den spec_l30Text.sig.us)) := [⟨[false, true, false, true, true], 58, ⟨[.box [.dat (.list (.int .u8)), .dat (.int .i64)], .row true (.str)], [(0, .l (.ptr 0 0)), (3, .l (.sl 1)), (4, .l (.dat (.int .i64)))]⟩, [.list (.int .u8), .int .i64, .list (.str), .int .i64], fun k => (spec_l30Text.tab m k).1⟩]
theorem spec_l30Text.eq0 (m k : Nat) (x : Den [.list (.int .u8), .int .i64, .list (.str), .int .i64]) : (spec_l30Text.tab m (k + 1)).1 x = runF ⟨lookΓ Γl, lookC (spec_l30Text.cons m), false⟩ Tryd.f121 spec_l30Text.sig (spec_l30Text.cuts m) k [false, true, false, true, true] ⟨[.box [.dat (.list (.int .u8)), .dat (.int .i64)], .row true (.str)], [(0, .l (.ptr 0 0)), (3, .l (.sl 1)), (4, .l (.dat (.int .i64)))]⟩ [.list (.int .u8), .int .i64, .list (.str), .int .i64] x := by kernel_rfl
theorem spec_l30Text.eq (m : Nat) (x : Den spec_l30Text.sig.ts) : spec_l30Text m x = startF ⟨lookΓ Γl, lookC (spec_l30Text.cons m), false⟩ Tryd.f121 spec_l30Text.sig (spec_l30Text.cuts m) m x := by kernel_rfl
theorem spec_l30Text.ok (m : Nat) : Meets Tryd.prog 121 spec_l30Text.sig (spec_l30Text m) :=
  fn_is (cx_is tyOk mixed (l := spec_l30Text.cons m) ⟨spec_l30Rd_one.ok m, spec_l30Line.ok m, trivial⟩) (fn := Tryd.f121) Tryd.func121 (by kernel_rfl) (cl := spec_l30Text.cuts m) ⟨⟨by kernel_rfl, fun _ => rfl, fun k x => spec_l30Text.eq0 m k x⟩, trivial⟩ (k := m) (spec_l30Text.eq m)

/-! ### loop.example/stemma/spec.l1Cut: function 76 -/
abbrev spec_l1Cut.R : Type := Den [.list (.str)]
def spec_l1Cut.sig : Sig := ⟨3, ⟨[], [(0, .l (.dat (.str))), (1, .l (.dat (.int .u8))), (2, .l (.dat (.int .i64)))]⟩, [.str, .int .u8, .int .i64], ⟨[], [(0, .l (.dat (.list (.str))))]⟩, [.list (.str)]⟩
abbrev spec_l1Cut.Tab : Type := (Den [.list (.str), .str, .int .u8, .int .i64, .int .i64, .int .i64] → Option spec_l1Cut.R) × Unit
def spec_l1Cut.start (m : Nat) (t : spec_l1Cut.Tab) (x0 : ByteArray) (x1 : Int) (x2 : Int) : Option spec_l1Cut.R :=
  t.1 ([], x0, x1, x2, (0 : Int), (0 : Int), ())
def spec_l1Cut.b0 (m : Nat) (t : spec_l1Cut.Tab) (a0 : List ByteArray) (a1 : ByteArray) (a2 : Int) (a3 : Int) (a4 : Int) (a5 : Int) : Option spec_l1Cut.R :=
  cond (decide (a5 < (sLen a1))) (cond (decide ((lLen a0) < a3)) (cond (decide ((0 : Int) ≤ a5)) (cond (decide (a5 < sLen a1)) (cond ((byteAt a1 a5) == a2) (cond (decide ((0 : Int) ≤ a5)) (cond (decide (a5 ≤ (ByteArray.size a1 : Int))) (cond (decide ((0 : Int) ≤ a4)) (cond (decide (a4 ≤ a5)) (cond (decide (List.length a0 + List.length ([(cutS a1 (Int.toNat a4) (Int.toNat a5))] : List ByteArray) ≤ apCap)) (lett ((List.append a0 ([(cutS a1 (Int.toNat a4) (Int.toNat a5))] : List ByteArray)) : List ByteArray) fun v1 => t.1 (v1, a1, a2, a3, (w64 (a5 + (1 : Int))), (w64 (a5 + (1 : Int))), ())) none) none) none) none) none) (t.1 (a0, a1, a2, a3, a4, (w64 (a5 + (1 : Int))), ()))) none) none) (cond (decide ((0 : Int) ≤ a4)) (cond (decide (a4 ≤ (ByteArray.size a1 : Int))) (lett ((cutS a1 (Int.toNat a4) (ByteArray.size a1)) : ByteArray) fun v2 => cond (decide (List.length a0 + List.length ([v2] : List ByteArray) ≤ apCap)) (some ((List.append a0 ([v2] : List ByteArray)), ())) none) none) none)) (cond (decide ((0 : Int) ≤ a4)) (cond (decide (a4 ≤ (ByteArray.size a1 : Int))) (lett ((cutS a1 (Int.toNat a4) (ByteArray.size a1)) : ByteArray) fun v3 => cond (decide (List.length a0 + List.length ([v3] : List ByteArray) ≤ apCap)) (some ((List.append a0 ([v3] : List ByteArray)), ())) none) none) none)
def spec_l1Cut.tab (m : Nat) : Nat → spec_l1Cut.Tab
  | 0 => (fun _ => none, ())
  | k + 1 => (fun x => spec_l1Cut.b0 m (spec_l1Cut.tab m k) x.1 x.2.1 x.2.2.1 x.2.2.2.1 x.2.2.2.2.1 x.2.2.2.2.2.1, ())
def spec_l1Cut (m : Nat) (x : Den [.str, .int .u8, .int .i64]) : Option spec_l1Cut.R := spec_l1Cut.start m (spec_l1Cut.tab m m) x.1 x.2.1 x.2.2.1
def spec_l1Cut.cons (m : Nat) : List (Nat × Contract) := []
def spec_l1Cut.cuts (m : Nat) : List (CutF (Den spec_l1Cut.sig.us)) := [⟨[false, true, false, true, true, true], 122, ⟨[.row true (.str)], [(0, .l (.dat (.str))), (1, .l (.dat (.int .u8))), (2, .l (.dat (.int .i64))), (7, .l (.sl 0)), (8, .l (.dat (.int .i64))), (9, .l (.dat (.int .i64)))]⟩, [.list (.str), .str, .int .u8, .int .i64, .int .i64, .int .i64], fun k => (spec_l1Cut.tab m k).1⟩]
theorem spec_l1Cut.eq0 (m k : Nat) (x : Den [.list (.str), .str, .int .u8, .int .i64, .int .i64, .int .i64]) : (spec_l1Cut.tab m (k + 1)).1 x = runF ⟨lookΓ Γl, lookC (spec_l1Cut.cons m), false⟩ Tryd.f76 spec_l1Cut.sig (spec_l1Cut.cuts m) k [false, true, false, true, true, true] ⟨[.row true (.str)], [(0, .l (.dat (.str))), (1, .l (.dat (.int .u8))), (2, .l (.dat (.int .i64))), (7, .l (.sl 0)), (8, .l (.dat (.int .i64))), (9, .l (.dat (.int .i64)))]⟩ [.list (.str), .str, .int .u8, .int .i64, .int .i64, .int .i64] x := by kernel_rfl
theorem spec_l1Cut.eq (m : Nat) (x : Den spec_l1Cut.sig.ts) : spec_l1Cut m x = startF ⟨lookΓ Γl, lookC (spec_l1Cut.cons m), false⟩ Tryd.f76 spec_l1Cut.sig (spec_l1Cut.cuts m) m x := by kernel_rfl
theorem spec_l1Cut.ok (m : Nat) : Meets Tryd.prog 76 spec_l1Cut.sig (spec_l1Cut m) :=
  fn_is (cx_is tyOk mixed (l := spec_l1Cut.cons m) trivial) (fn := Tryd.f76) Tryd.func76 (by kernel_rfl) (cl := spec_l1Cut.cuts m) ⟨⟨by kernel_rfl, fun _ => rfl, fun k x => spec_l1Cut.eq0 m k x⟩, trivial⟩ (k := m) (spec_l1Cut.eq m)

/-! ### loop.example/stemma/spec.l1In: function 85 -/
abbrev spec_l1In.R : Type := Den [.bool]
def spec_l1In.sig : Sig := ⟨3, ⟨[], [(0, .l (.dat (.int .i64))), (1, .l (.dat (.int .i64))), (2, .l (.dat (.int .i64)))]⟩, [.int .i64, .int .i64, .int .i64], ⟨[], [(0, .l (.dat (.bool)))]⟩, [.bool]⟩
abbrev spec_l1In.Tab : Type := Unit
def spec_l1In.start (m : Nat) (t : spec_l1In.Tab) (x0 : Int) (x1 : Int) (x2 : Int) : Option spec_l1In.R :=
  cond (decide (x0 ≥ x1)) (some ((decide (x0 ≤ x2)), ())) (some (false, ()))
def spec_l1In.tab (m : Nat) : Nat → spec_l1In.Tab
  | 0 => (())
  | k + 1 => (())
def spec_l1In (m : Nat) (x : Den [.int .i64, .int .i64, .int .i64]) : Option spec_l1In.R := spec_l1In.start m (spec_l1In.tab m m) x.1 x.2.1 x.2.2.1
def spec_l1In.cons (m : Nat) : List (Nat × Contract) := []
def spec_l1In.cuts (m : Nat) : List (CutF (Den spec_l1In.sig.us)) := []
theorem spec_l1In.eq (m : Nat) (x : Den spec_l1In.sig.ts) : spec_l1In m x = startF ⟨lookΓ Γl, lookC (spec_l1In.cons m), false⟩ Tryd.f85 spec_l1In.sig (spec_l1In.cuts m) m x := by kernel_rfl
theorem spec_l1In.ok (m : Nat) : Meets Tryd.prog 85 spec_l1In.sig (spec_l1In m) :=
  fn_is (cx_is tyOk mixed (l := spec_l1In.cons m) trivial) (fn := Tryd.f85) Tryd.func85 (by kernel_rfl) (cl := spec_l1In.cuts m) trivial (k := m) (spec_l1In.eq m)

/-! ### loop.example/stemma/spec.l4Name: function 42 -/
abbrev spec_l4Name.R : Type := Den [.bool]
def spec_l4Name.sig : Sig := ⟨1, ⟨[], [(0, .l (.dat (.str)))]⟩, [.str], ⟨[], [(0, .l (.dat (.bool)))]⟩, [.bool]⟩
abbrev spec_l4Name.Tab : Type := (Den [.str, .int .i64] → Option spec_l4Name.R) × (Den [.str, .int .i64, .bool] → Option spec_l4Name.R) × Unit
def spec_l4Name.start (m : Nat) (t : spec_l4Name.Tab) (x0 : ByteArray) : Option spec_l4Name.R :=
  t.1 (x0, (0 : Int), ())
def spec_l4Name.b0 (m : Nat) (t : spec_l4Name.Tab) (a0 : ByteArray) (a1 : Int) : Option spec_l4Name.R :=
  cond (decide (a1 < (sLen a0))) (cond (decide ((0 : Int) ≤ a1)) (cond (decide (a1 < sLen a0)) (cond (decide ((byteAt a0 a1) < (97 : Int))) (cond (decide ((0 : Int) ≤ a1)) (cond (decide (a1 < sLen a0)) (cond (decide ((byteAt a0 a1) < (48 : Int))) (t.2.1 (a0, a1, true, ())) (cond (decide ((0 : Int) ≤ a1)) (cond (decide (a1 < sLen a0)) (t.2.1 (a0, a1, (decide ((byteAt a0 a1) > (57 : Int))), ())) none) none)) none) none) (cond (decide ((0 : Int) ≤ a1)) (cond (decide (a1 < sLen a0)) (cond (decide ((byteAt a0 a1) > (122 : Int))) (cond (decide ((0 : Int) ≤ a1)) (cond (decide (a1 < sLen a0)) (cond (decide ((byteAt a0 a1) < (48 : Int))) (t.2.1 (a0, a1, true, ())) (cond (decide ((0 : Int) ≤ a1)) (cond (decide (a1 < sLen a0)) (t.2.1 (a0, a1, (decide ((byteAt a0 a1) > (57 : Int))), ())) none) none)) none) none) (t.2.1 (a0, a1, false, ()))) none) none)) none) none) (Option.bind (spec_l1In m ((sLen a0), (1 : Int), (6 : Int), ())) fun r1 => some (r1.1, ()))
def spec_l4Name.b1 (m : Nat) (t : spec_l4Name.Tab) (a0 : ByteArray) (a1 : Int) (a2 : Bool) : Option spec_l4Name.R :=
  cond a2 (some (false, ())) (t.1 (a0, (w64 (a1 + (1 : Int))), ()))
def spec_l4Name.tab (m : Nat) : Nat → spec_l4Name.Tab
  | 0 => (fun _ => none, fun _ => none, ())
  | k + 1 => (fun x => spec_l4Name.b0 m (spec_l4Name.tab m k) x.1 x.2.1, fun x => spec_l4Name.b1 m (spec_l4Name.tab m k) x.1 x.2.1 x.2.2.1, ())
def spec_l4Name (m : Nat) (x : Den [.str]) : Option spec_l4Name.R := spec_l4Name.start m (spec_l4Name.tab m m) x.1
def spec_l4Name.cons (m : Nat) : List (Nat × Contract) := [(85, ⟨spec_l1In.sig, spec_l1In m⟩)]
def spec_l4Name.cuts (m : Nat) : List (CutF (Den spec_l4Name.sig.us)) := [⟨[false, true, false, true], 26, ⟨[], [(0, .l (.dat (.str))), (3, .l (.dat (.int .i64)))]⟩, [.str, .int .i64], fun k => (spec_l4Name.tab m k).1⟩,
  ⟨[true, false, false, true, false, false, true, false, true], 841, ⟨[], [(0, .l (.dat (.str))), (3, .l (.dat (.int .i64))), (31, .l (.dat (.bool)))]⟩, [.str, .int .i64, .bool], fun k => (spec_l4Name.tab m k).2.1⟩]
theorem spec_l4Name.eq0 (m k : Nat) (x : Den [.str, .int .i64]) : (spec_l4Name.tab m (k + 1)).1 x = runF ⟨lookΓ Γl, lookC (spec_l4Name.cons m), false⟩ Tryd.f42 spec_l4Name.sig (spec_l4Name.cuts m) k [false, true, false, true] ⟨[], [(0, .l (.dat (.str))), (3, .l (.dat (.int .i64)))]⟩ [.str, .int .i64] x := by kernel_rfl
theorem spec_l4Name.eq1 (m k : Nat) (x : Den [.str, .int .i64, .bool]) : (spec_l4Name.tab m (k + 1)).2.1 x = runF ⟨lookΓ Γl, lookC (spec_l4Name.cons m), false⟩ Tryd.f42 spec_l4Name.sig (spec_l4Name.cuts m) k [true, false, false, true, false, false, true, false, true] ⟨[], [(0, .l (.dat (.str))), (3, .l (.dat (.int .i64))), (31, .l (.dat (.bool)))]⟩ [.str, .int .i64, .bool] x := by kernel_rfl
theorem spec_l4Name.eq (m : Nat) (x : Den spec_l4Name.sig.ts) : spec_l4Name m x = startF ⟨lookΓ Γl, lookC (spec_l4Name.cons m), false⟩ Tryd.f42 spec_l4Name.sig (spec_l4Name.cuts m) m x := by kernel_rfl
theorem spec_l4Name.ok (m : Nat) : Meets Tryd.prog 42 spec_l4Name.sig (spec_l4Name m) :=
  fn_is (cx_is tyOk mixed (l := spec_l4Name.cons m) ⟨spec_l1In.ok m, trivial⟩) (fn := Tryd.f42) Tryd.func42 (by kernel_rfl) (cl := spec_l4Name.cuts m) ⟨⟨by kernel_rfl, fun _ => rfl, fun k x => spec_l4Name.eq0 m k x⟩, ⟨by kernel_rfl, fun _ => rfl, fun k x => spec_l4Name.eq1 m k x⟩, trivial⟩ (k := m) (spec_l4Name.eq m)

/-! ### loop.example/stemma/spec.l4Path: function 82 -/
abbrev spec_l4Path.R : Type := Den [.bool]
def spec_l4Path.sig : Sig := ⟨1, ⟨[], [(0, .l (.dat (.str)))]⟩, [.str], ⟨[], [(0, .l (.dat (.bool)))]⟩, [.bool]⟩
abbrev spec_l4Path.Tab : Type := (Den [.list (.str), .int .i64] → Option spec_l4Path.R) × Unit
def spec_l4Path.start (m : Nat) (t : spec_l4Path.Tab) (x0 : ByteArray) : Option spec_l4Path.R :=
  Option.bind (spec_l1Cut m (x0, (47 : Int), (3 : Int), ())) fun r1 => t.1 (r1.1, (0 : Int), ())
def spec_l4Path.b0 (m : Nat) (t : spec_l4Path.Tab) (a0 : List ByteArray) (a1 : Int) : Option spec_l4Path.R :=
  cond (decide (a1 < (lLen a0))) (cond (decide ((0 : Int) ≤ a1)) (cond (decide (a1 < lLen a0)) (Option.bind (spec_l4Name m ((getL a0 a1 ByteArray.empty), ())) fun r1 => cond (!r1.1) (some (false, ())) (t.1 (a0, (w64 (a1 + (1 : Int))), ()))) none) none) (some ((decide ((lLen a0) ≤ (3 : Int))), ()))
def spec_l4Path.tab (m : Nat) : Nat → spec_l4Path.Tab
  | 0 => (fun _ => none, ())
  | k + 1 => (fun x => spec_l4Path.b0 m (spec_l4Path.tab m k) x.1 x.2.1, ())
def spec_l4Path (m : Nat) (x : Den [.str]) : Option spec_l4Path.R := spec_l4Path.start m (spec_l4Path.tab m m) x.1
def spec_l4Path.cons (m : Nat) : List (Nat × Contract) := [(76, ⟨spec_l1Cut.sig, spec_l1Cut m⟩), (42, ⟨spec_l4Name.sig, spec_l4Name m⟩)]
def spec_l4Path.cuts (m : Nat) : List (CutF (Den spec_l4Path.sig.us)) := [⟨[false, true, false, true, true], 58, ⟨[], [(3, .l (.dat (.list (.str)))), (4, .l (.dat (.int .i64)))]⟩, [.list (.str), .int .i64], fun k => (spec_l4Path.tab m k).1⟩]
theorem spec_l4Path.eq0 (m k : Nat) (x : Den [.list (.str), .int .i64]) : (spec_l4Path.tab m (k + 1)).1 x = runF ⟨lookΓ Γl, lookC (spec_l4Path.cons m), false⟩ Tryd.f82 spec_l4Path.sig (spec_l4Path.cuts m) k [false, true, false, true, true] ⟨[], [(3, .l (.dat (.list (.str)))), (4, .l (.dat (.int .i64)))]⟩ [.list (.str), .int .i64] x := by kernel_rfl
theorem spec_l4Path.eq (m : Nat) (x : Den spec_l4Path.sig.ts) : spec_l4Path m x = startF ⟨lookΓ Γl, lookC (spec_l4Path.cons m), false⟩ Tryd.f82 spec_l4Path.sig (spec_l4Path.cuts m) m x := by kernel_rfl
theorem spec_l4Path.ok (m : Nat) : Meets Tryd.prog 82 spec_l4Path.sig (spec_l4Path m) :=
  fn_is (cx_is tyOk mixed (l := spec_l4Path.cons m) ⟨spec_l1Cut.ok m, spec_l4Name.ok m, trivial⟩) (fn := Tryd.f82) Tryd.func82 (by kernel_rfl) (cl := spec_l4Path.cuts m) ⟨⟨by kernel_rfl, fun _ => rfl, fun k x => spec_l4Path.eq0 m k x⟩, trivial⟩ (k := m) (spec_l4Path.eq m)

/-! ### loop.example/stemma/spec.l1Line: function 115 -/
abbrev spec_l1Line.R : Type := Den [.bool]
def spec_l1Line.sig : Sig := ⟨1, ⟨[], [(0, .l (.dat (.str)))]⟩, [.str], ⟨[], [(0, .l (.dat (.bool)))]⟩, [.bool]⟩
abbrev spec_l1Line.Tab : Type := (Den [.str, .int .i64] → Option spec_l1Line.R) × Unit
def spec_l1Line.start (m : Nat) (t : spec_l1Line.Tab) (x0 : ByteArray) : Option spec_l1Line.R :=
  t.1 (x0, (0 : Int), ())
def spec_l1Line.b0 (m : Nat) (t : spec_l1Line.Tab) (a0 : ByteArray) (a1 : Int) : Option spec_l1Line.R :=
  cond (decide (a1 < (sLen a0))) (cond (decide ((0 : Int) ≤ a1)) (cond (decide (a1 < sLen a0)) (cond (decide ((byteAt a0 a1) < (32 : Int))) (some (false, ())) (cond (decide ((0 : Int) ≤ a1)) (cond (decide (a1 < sLen a0)) (cond (decide ((byteAt a0 a1) > (126 : Int))) (some (false, ())) (t.1 (a0, (w64 (a1 + (1 : Int))), ()))) none) none)) none) none) (some ((decide ((sLen a0) ≤ (12 : Int))), ()))
def spec_l1Line.tab (m : Nat) : Nat → spec_l1Line.Tab
  | 0 => (fun _ => none, ())
  | k + 1 => (fun x => spec_l1Line.b0 m (spec_l1Line.tab m k) x.1 x.2.1, ())
def spec_l1Line (m : Nat) (x : Den [.str]) : Option spec_l1Line.R := spec_l1Line.start m (spec_l1Line.tab m m) x.1
def spec_l1Line.cons (m : Nat) : List (Nat × Contract) := []
def spec_l1Line.cuts (m : Nat) : List (CutF (Den spec_l1Line.sig.us)) := [⟨[false, true, false, true], 26, ⟨[], [(0, .l (.dat (.str))), (3, .l (.dat (.int .i64)))]⟩, [.str, .int .i64], fun k => (spec_l1Line.tab m k).1⟩]
theorem spec_l1Line.eq0 (m k : Nat) (x : Den [.str, .int .i64]) : (spec_l1Line.tab m (k + 1)).1 x = runF ⟨lookΓ Γl, lookC (spec_l1Line.cons m), false⟩ Tryd.f115 spec_l1Line.sig (spec_l1Line.cuts m) k [false, true, false, true] ⟨[], [(0, .l (.dat (.str))), (3, .l (.dat (.int .i64)))]⟩ [.str, .int .i64] x := by kernel_rfl
theorem spec_l1Line.eq (m : Nat) (x : Den spec_l1Line.sig.ts) : spec_l1Line m x = startF ⟨lookΓ Γl, lookC (spec_l1Line.cons m), false⟩ Tryd.f115 spec_l1Line.sig (spec_l1Line.cuts m) m x := by kernel_rfl
theorem spec_l1Line.ok (m : Nat) : Meets Tryd.prog 115 spec_l1Line.sig (spec_l1Line m) :=
  fn_is (cx_is tyOk mixed (l := spec_l1Line.cons m) trivial) (fn := Tryd.f115) Tryd.func115 (by kernel_rfl) (cl := spec_l1Line.cuts m) ⟨⟨by kernel_rfl, fun _ => rfl, fun k x => spec_l1Line.eq0 m k x⟩, trivial⟩ (k := m) (spec_l1Line.eq m)

/-! ### loop.example/stemma/spec.l1Ok: function 83 -/
abbrev spec_l1Ok.R : Type := Den [.bool]
def spec_l1Ok.sig : Sig := ⟨1, ⟨[], [(0, .l (.dat (.list (.str))))]⟩, [.list (.str)], ⟨[], [(0, .l (.dat (.bool)))]⟩, [.bool]⟩
abbrev spec_l1Ok.Tab : Type := (Den [.list (.str), .int .i64] → Option spec_l1Ok.R) × Unit
def spec_l1Ok.start (m : Nat) (t : spec_l1Ok.Tab) (x0 : List ByteArray) : Option spec_l1Ok.R :=
  t.1 (x0, (0 : Int), ())
def spec_l1Ok.b0 (m : Nat) (t : spec_l1Ok.Tab) (a0 : List ByteArray) (a1 : Int) : Option spec_l1Ok.R :=
  cond (decide (a1 < (lLen a0))) (cond (decide ((0 : Int) ≤ a1)) (cond (decide (a1 < lLen a0)) (Option.bind (spec_l1Line m ((getL a0 a1 ByteArray.empty), ())) fun r1 => cond (!r1.1) (some (false, ())) (t.1 (a0, (w64 (a1 + (1 : Int))), ()))) none) none) (some ((decide ((lLen a0) ≤ (10 : Int))), ()))
def spec_l1Ok.tab (m : Nat) : Nat → spec_l1Ok.Tab
  | 0 => (fun _ => none, ())
  | k + 1 => (fun x => spec_l1Ok.b0 m (spec_l1Ok.tab m k) x.1 x.2.1, ())
def spec_l1Ok (m : Nat) (x : Den [.list (.str)]) : Option spec_l1Ok.R := spec_l1Ok.start m (spec_l1Ok.tab m m) x.1
def spec_l1Ok.cons (m : Nat) : List (Nat × Contract) := [(115, ⟨spec_l1Line.sig, spec_l1Line m⟩)]
def spec_l1Ok.cuts (m : Nat) : List (CutF (Den spec_l1Ok.sig.us)) := [⟨[false, true, false, true], 26, ⟨[], [(0, .l (.dat (.list (.str)))), (3, .l (.dat (.int .i64)))]⟩, [.list (.str), .int .i64], fun k => (spec_l1Ok.tab m k).1⟩]
theorem spec_l1Ok.eq0 (m k : Nat) (x : Den [.list (.str), .int .i64]) : (spec_l1Ok.tab m (k + 1)).1 x = runF ⟨lookΓ Γl, lookC (spec_l1Ok.cons m), false⟩ Tryd.f83 spec_l1Ok.sig (spec_l1Ok.cuts m) k [false, true, false, true] ⟨[], [(0, .l (.dat (.list (.str)))), (3, .l (.dat (.int .i64)))]⟩ [.list (.str), .int .i64] x := by kernel_rfl
theorem spec_l1Ok.eq (m : Nat) (x : Den spec_l1Ok.sig.ts) : spec_l1Ok m x = startF ⟨lookΓ Γl, lookC (spec_l1Ok.cons m), false⟩ Tryd.f83 spec_l1Ok.sig (spec_l1Ok.cuts m) m x := by kernel_rfl
theorem spec_l1Ok.ok (m : Nat) : Meets Tryd.prog 83 spec_l1Ok.sig (spec_l1Ok m) :=
  fn_is (cx_is tyOk mixed (l := spec_l1Ok.cons m) ⟨spec_l1Line.ok m, trivial⟩) (fn := Tryd.f83) Tryd.func83 (by kernel_rfl) (cl := spec_l1Ok.cuts m) ⟨⟨by kernel_rfl, fun _ => rfl, fun k x => spec_l1Ok.eq0 m k x⟩, trivial⟩ (k := m) (spec_l1Ok.eq m)

/-! ### loop.example/stemma/spec.l4In: function 84 -/
abbrev spec_l4In.R : Type := Den [.bool]
def spec_l4In.sig : Sig := ⟨2, ⟨[], [(0, .l (.dat (.str))), (1, .l (.dat (.str)))]⟩, [.str, .str], ⟨[], [(0, .l (.dat (.bool)))]⟩, [.bool]⟩
abbrev spec_l4In.Tab : Type := Unit
def spec_l4In.start (m : Nat) (t : spec_l4In.Tab) (x0 : ByteArray) (x1 : ByteArray) : Option spec_l4In.R :=
  cond (decide ((sLen x1) > (sLen x0))) (cond (decide ((0 : Int) ≤ (sLen x0))) (cond (decide ((sLen x0) ≤ (ByteArray.size x1 : Int))) (lett ((sEq (cutS x1 0 (Int.toNat (sLen x0))) x0) : Bool) fun v1 => cond v1 (cond (decide ((0 : Int) ≤ (sLen x0))) (cond (decide ((sLen x0) < sLen x1)) (some (((byteAt x1 (sLen x0)) == (47 : Int)), ())) none) none) (some (false, ()))) none) none) (some (false, ()))
def spec_l4In.tab (m : Nat) : Nat → spec_l4In.Tab
  | 0 => (())
  | k + 1 => (())
def spec_l4In (m : Nat) (x : Den [.str, .str]) : Option spec_l4In.R := spec_l4In.start m (spec_l4In.tab m m) x.1 x.2.1
def spec_l4In.cons (m : Nat) : List (Nat × Contract) := []
def spec_l4In.cuts (m : Nat) : List (CutF (Den spec_l4In.sig.us)) := []
theorem spec_l4In.eq (m : Nat) (x : Den spec_l4In.sig.ts) : spec_l4In m x = startF ⟨lookΓ Γl, lookC (spec_l4In.cons m), false⟩ Tryd.f84 spec_l4In.sig (spec_l4In.cuts m) m x := by kernel_rfl
theorem spec_l4In.ok (m : Nat) : Meets Tryd.prog 84 spec_l4In.sig (spec_l4In m) :=
  fn_is (cx_is tyOk mixed (l := spec_l4In.cons m) trivial) (fn := Tryd.f84) Tryd.func84 (by kernel_rfl) (cl := spec_l4In.cuts m) trivial (k := m) (spec_l4In.eq m)

/-! ### loop.example/stemma/spec.l4Ok: function 41 -/
abbrev spec_l4Ok.R : Type := Den [.bool]
def spec_l4Ok.sig : Sig := ⟨1, ⟨[], [(0, .l (.dat (.list (.pair (.str) (.list (.str))))))]⟩, [.list (.pair (.str) (.list (.str)))], ⟨[], [(0, .l (.dat (.bool)))]⟩, [.bool]⟩
abbrev spec_l4Ok.Tab : Type := (Den [.list (.pair (.str) (.list (.str))), .int .i64] → Option spec_l4Ok.R) × (Den [.list (.pair (.str) (.list (.str))), .int .i64, .int .i64] → Option spec_l4Ok.R) × (Den [.list (.pair (.str) (.list (.str))), .int .i64, .bool] → Option spec_l4Ok.R) × (Den [.list (.pair (.str) (.list (.str))), .int .i64] → Option spec_l4Ok.R) × Unit
def spec_l4Ok.start (m : Nat) (t : spec_l4Ok.Tab) (x0 : List (ByteArray × List ByteArray)) : Option spec_l4Ok.R :=
  t.1 (x0, (0 : Int), ())
def spec_l4Ok.b0 (m : Nat) (t : spec_l4Ok.Tab) (a0 : List (ByteArray × List ByteArray)) (a1 : Int) : Option spec_l4Ok.R :=
  cond (decide (a1 < (lLen a0))) (cond (decide ((0 : Int) ≤ a1)) (cond (decide (a1 < lLen a0)) (lett ((getL a0 a1 (ByteArray.empty, ([] : List ByteArray))) : ByteArray × List ByteArray) fun v1 => Option.bind (spec_l4Path m (v1.1, ())) fun r2 => cond (!r2.1) (t.2.2.1 (a0, a1, true, ())) (cond (decide ((0 : Int) ≤ a1)) (cond (decide (a1 < lLen a0)) (lett ((getL a0 a1 (ByteArray.empty, ([] : List ByteArray))) : ByteArray × List ByteArray) fun v3 => Option.bind (spec_l1Ok m (v3.2, ())) fun r4 => cond (!r4.1) (t.2.2.1 (a0, a1, true, ())) (cond (decide (a1 > (0 : Int))) (cond (decide ((0 : Int) ≤ a1)) (cond (decide (a1 < lLen a0)) (lett ((getL a0 a1 (ByteArray.empty, ([] : List ByteArray))) : ByteArray × List ByteArray) fun v5 => cond (decide ((0 : Int) ≤ (w64 (a1 - (1 : Int))))) (cond (decide ((w64 (a1 - (1 : Int))) < lLen a0)) (lett ((getL a0 (w64 (a1 - (1 : Int))) (ByteArray.empty, ([] : List ByteArray))) : ByteArray × List ByteArray) fun v6 => t.2.2.1 (a0, a1, (sLt v5.1 v6.1 || sEq v5.1 v6.1), ())) none) none) none) none) (t.2.2.1 (a0, a1, false, ())))) none) none)) none) none) (some ((decide ((lLen a0) ≤ (8 : Int))), ()))
def spec_l4Ok.b1 (m : Nat) (t : spec_l4Ok.Tab) (a0 : List (ByteArray × List ByteArray)) (a1 : Int) (a2 : Int) : Option spec_l4Ok.R :=
  cond (decide (a2 < (lLen a0))) (cond (decide ((0 : Int) ≤ a1)) (cond (decide (a1 < lLen a0)) (lett ((getL a0 a1 (ByteArray.empty, ([] : List ByteArray))) : ByteArray × List ByteArray) fun v1 => cond (decide ((0 : Int) ≤ a2)) (cond (decide (a2 < lLen a0)) (lett ((getL a0 a2 (ByteArray.empty, ([] : List ByteArray))) : ByteArray × List ByteArray) fun v2 => Option.bind (spec_l4In m (v1.1, v2.1, ())) fun r3 => cond r3.1 (some (false, ())) (t.2.1 (a0, a1, (w64 (a2 + (1 : Int))), ()))) none) none) none) none) (t.1 (a0, (w64 (a1 + (1 : Int))), ()))
def spec_l4Ok.b2 (m : Nat) (t : spec_l4Ok.Tab) (a0 : List (ByteArray × List ByteArray)) (a1 : Int) (a2 : Bool) : Option spec_l4Ok.R :=
  cond a2 (some (false, ())) (t.2.2.2.1 (a0, a1, ()))
def spec_l4Ok.b3 (m : Nat) (t : spec_l4Ok.Tab) (a0 : List (ByteArray × List ByteArray)) (a1 : Int) : Option spec_l4Ok.R :=
  t.2.1 (a0, a1, (0 : Int), ())
def spec_l4Ok.tab (m : Nat) : Nat → spec_l4Ok.Tab
  | 0 => (fun _ => none, fun _ => none, fun _ => none, fun _ => none, ())
  | k + 1 => (fun x => spec_l4Ok.b0 m (spec_l4Ok.tab m k) x.1 x.2.1, fun x => spec_l4Ok.b1 m (spec_l4Ok.tab m k) x.1 x.2.1 x.2.2.1, fun x => spec_l4Ok.b2 m (spec_l4Ok.tab m k) x.1 x.2.1 x.2.2.1, fun x => spec_l4Ok.b3 m (spec_l4Ok.tab m k) x.1 x.2.1, ())
def spec_l4Ok (m : Nat) (x : Den [.list (.pair (.str) (.list (.str)))]) : Option spec_l4Ok.R := spec_l4Ok.start m (spec_l4Ok.tab m m) x.1
def spec_l4Ok.cons (m : Nat) : List (Nat × Contract) := [(82, ⟨spec_l4Path.sig, spec_l4Path m⟩), (83, ⟨spec_l1Ok.sig, spec_l1Ok m⟩), (84, ⟨spec_l4In.sig, spec_l4In m⟩)]
def spec_l4Ok.cuts (m : Nat) : List (CutF (Den spec_l4Ok.sig.us)) := [⟨[false, true, false, true], 26, ⟨[], [(0, .l (.dat (.list (.pair (.str) (.list (.str)))))), (3, .l (.dat (.int .i64)))]⟩, [.list (.pair (.str) (.list (.str))), .int .i64], fun k => (spec_l4Ok.tab m k).1⟩,
  ⟨[false, true, true, false, false, true, false, false, true, false, true], 3366, ⟨[], [(0, .l (.dat (.list (.pair (.str) (.list (.str)))))), (3, .l (.dat (.int .i64))), (4, .l (.dat (.int .i64)))]⟩, [.list (.pair (.str) (.list (.str))), .int .i64, .int .i64], fun k => (spec_l4Ok.tab m k).2.1⟩,
  ⟨[true, false, false, false, true, false, false, true, false, true], 1681, ⟨[], [(0, .l (.dat (.list (.pair (.str) (.list (.str)))))), (3, .l (.dat (.int .i64))), (44, .l (.dat (.bool)))]⟩, [.list (.pair (.str) (.list (.str))), .int .i64, .bool], fun k => (spec_l4Ok.tab m k).2.2.1⟩,
  ⟨[true, false, false, true, false, false, true, false, true], 841, ⟨[], [(0, .l (.dat (.list (.pair (.str) (.list (.str)))))), (3, .l (.dat (.int .i64)))]⟩, [.list (.pair (.str) (.list (.str))), .int .i64], fun k => (spec_l4Ok.tab m k).2.2.2.1⟩]
theorem spec_l4Ok.eq0 (m k : Nat) (x : Den [.list (.pair (.str) (.list (.str))), .int .i64]) : (spec_l4Ok.tab m (k + 1)).1 x = runF ⟨lookΓ Γl, lookC (spec_l4Ok.cons m), false⟩ Tryd.f41 spec_l4Ok.sig (spec_l4Ok.cuts m) k [false, true, false, true] ⟨[], [(0, .l (.dat (.list (.pair (.str) (.list (.str)))))), (3, .l (.dat (.int .i64)))]⟩ [.list (.pair (.str) (.list (.str))), .int .i64] x := by kernel_rfl
theorem spec_l4Ok.eq1 (m k : Nat) (x : Den [.list (.pair (.str) (.list (.str))), .int .i64, .int .i64]) : (spec_l4Ok.tab m (k + 1)).2.1 x = runF ⟨lookΓ Γl, lookC (spec_l4Ok.cons m), false⟩ Tryd.f41 spec_l4Ok.sig (spec_l4Ok.cuts m) k [false, true, true, false, false, true, false, false, true, false, true] ⟨[], [(0, .l (.dat (.list (.pair (.str) (.list (.str)))))), (3, .l (.dat (.int .i64))), (4, .l (.dat (.int .i64)))]⟩ [.list (.pair (.str) (.list (.str))), .int .i64, .int .i64] x := by kernel_rfl
theorem spec_l4Ok.eq2 (m k : Nat) (x : Den [.list (.pair (.str) (.list (.str))), .int .i64, .bool]) : (spec_l4Ok.tab m (k + 1)).2.2.1 x = runF ⟨lookΓ Γl, lookC (spec_l4Ok.cons m), false⟩ Tryd.f41 spec_l4Ok.sig (spec_l4Ok.cuts m) k [true, false, false, false, true, false, false, true, false, true] ⟨[], [(0, .l (.dat (.list (.pair (.str) (.list (.str)))))), (3, .l (.dat (.int .i64))), (44, .l (.dat (.bool)))]⟩ [.list (.pair (.str) (.list (.str))), .int .i64, .bool] x := by kernel_rfl
theorem spec_l4Ok.eq3 (m k : Nat) (x : Den [.list (.pair (.str) (.list (.str))), .int .i64]) : (spec_l4Ok.tab m (k + 1)).2.2.2.1 x = runF ⟨lookΓ Γl, lookC (spec_l4Ok.cons m), false⟩ Tryd.f41 spec_l4Ok.sig (spec_l4Ok.cuts m) k [true, false, false, true, false, false, true, false, true] ⟨[], [(0, .l (.dat (.list (.pair (.str) (.list (.str)))))), (3, .l (.dat (.int .i64)))]⟩ [.list (.pair (.str) (.list (.str))), .int .i64] x := by kernel_rfl
theorem spec_l4Ok.eq (m : Nat) (x : Den spec_l4Ok.sig.ts) : spec_l4Ok m x = startF ⟨lookΓ Γl, lookC (spec_l4Ok.cons m), false⟩ Tryd.f41 spec_l4Ok.sig (spec_l4Ok.cuts m) m x := by kernel_rfl
theorem spec_l4Ok.ok (m : Nat) : Meets Tryd.prog 41 spec_l4Ok.sig (spec_l4Ok m) :=
  fn_is (cx_is tyOk mixed (l := spec_l4Ok.cons m) ⟨spec_l4Path.ok m, spec_l1Ok.ok m, spec_l4In.ok m, trivial⟩) (fn := Tryd.f41) Tryd.func41 (by kernel_rfl) (cl := spec_l4Ok.cuts m) ⟨⟨by kernel_rfl, fun _ => rfl, fun k x => spec_l4Ok.eq0 m k x⟩, ⟨by kernel_rfl, fun _ => rfl, fun k x => spec_l4Ok.eq1 m k x⟩, ⟨by kernel_rfl, fun _ => rfl, fun k x => spec_l4Ok.eq2 m k x⟩, ⟨by kernel_rfl, fun _ => rfl, fun k x => spec_l4Ok.eq3 m k x⟩, trivial⟩ (k := m) (spec_l4Ok.eq m)

/-! ### loop.example/stemma/spec.l4Copy: function 52 -/
abbrev spec_l4Copy.R : Type := Den [.list (.pair (.str) (.list (.str)))]
def spec_l4Copy.sig : Sig := ⟨1, ⟨[], [(0, .l (.dat (.list (.pair (.str) (.list (.str))))))]⟩, [.list (.pair (.str) (.list (.str)))], ⟨[.row true (.pair (.str) (.list (.str)))], [(0, .l (.sl 0))]⟩, [.list (.pair (.str) (.list (.str)))]⟩
abbrev spec_l4Copy.Tab : Type := (Den [.list (.pair (.str) (.list (.str))), .list (.pair (.str) (.list (.str))), .int .i64] → Option spec_l4Copy.R) × Unit
def spec_l4Copy.start (m : Nat) (t : spec_l4Copy.Tab) (x0 : List (ByteArray × List ByteArray)) : Option spec_l4Copy.R :=
  t.1 ([], x0, (0 : Int), ())
def spec_l4Copy.b0 (m : Nat) (t : spec_l4Copy.Tab) (a0 : List (ByteArray × List ByteArray)) (a1 : List (ByteArray × List ByteArray)) (a2 : Int) : Option spec_l4Copy.R :=
  cond (decide (a2 < (lLen a1))) (cond (decide ((0 : Int) ≤ a2)) (cond (decide (a2 < lLen a1)) (lett ((getL a1 a2 (ByteArray.empty, ([] : List ByteArray))) : ByteArray × List ByteArray) fun v1 => cond (decide ((0 : Int) ≤ a2)) (cond (decide (a2 < lLen a1)) (lett ((getL a1 a2 (ByteArray.empty, ([] : List ByteArray))) : ByteArray × List ByteArray) fun v2 => cond (decide (List.length ([] : List ByteArray) + List.length v2.2 ≤ apCap)) (cond (decide (List.length a0 + List.length ([(v1.1, (List.append ([] : List ByteArray) v2.2))] : List (ByteArray × List ByteArray)) ≤ apCap)) (lett ((List.append a0 ([(v1.1, (List.append ([] : List ByteArray) v2.2))] : List (ByteArray × List ByteArray))) : List (ByteArray × List ByteArray)) fun v3 => t.1 (v3, a1, (w64 (a2 + (1 : Int))), ())) none) none) none) none) none) none) (some (a0, ()))
def spec_l4Copy.tab (m : Nat) : Nat → spec_l4Copy.Tab
  | 0 => (fun _ => none, ())
  | k + 1 => (fun x => spec_l4Copy.b0 m (spec_l4Copy.tab m k) x.1 x.2.1 x.2.2.1, ())
def spec_l4Copy (m : Nat) (x : Den [.list (.pair (.str) (.list (.str)))]) : Option spec_l4Copy.R := spec_l4Copy.start m (spec_l4Copy.tab m m) x.1
def spec_l4Copy.cons (m : Nat) : List (Nat × Contract) := []
def spec_l4Copy.cuts (m : Nat) : List (CutF (Den spec_l4Copy.sig.us)) := [⟨[false, true, false, true, true], 58, ⟨[.row true (.pair (.str) (.list (.str)))], [(0, .l (.dat (.list (.pair (.str) (.list (.str)))))), (3, .l (.sl 0)), (4, .l (.dat (.int .i64)))]⟩, [.list (.pair (.str) (.list (.str))), .list (.pair (.str) (.list (.str))), .int .i64], fun k => (spec_l4Copy.tab m k).1⟩]
theorem spec_l4Copy.eq0 (m k : Nat) (x : Den [.list (.pair (.str) (.list (.str))), .list (.pair (.str) (.list (.str))), .int .i64]) : (spec_l4Copy.tab m (k + 1)).1 x = runF ⟨lookΓ Γl, lookC (spec_l4Copy.cons m), false⟩ Tryd.f52 spec_l4Copy.sig (spec_l4Copy.cuts m) k [false, true, false, true, true] ⟨[.row true (.pair (.str) (.list (.str)))], [(0, .l (.dat (.list (.pair (.str) (.list (.str)))))), (3, .l (.sl 0)), (4, .l (.dat (.int .i64)))]⟩ [.list (.pair (.str) (.list (.str))), .list (.pair (.str) (.list (.str))), .int .i64] x := by kernel_rfl
theorem spec_l4Copy.eq (m : Nat) (x : Den spec_l4Copy.sig.ts) : spec_l4Copy m x = startF ⟨lookΓ Γl, lookC (spec_l4Copy.cons m), false⟩ Tryd.f52 spec_l4Copy.sig (spec_l4Copy.cuts m) m x := by kernel_rfl
theorem spec_l4Copy.ok (m : Nat) : Meets Tryd.prog 52 spec_l4Copy.sig (spec_l4Copy m) :=
  fn_is (cx_is tyOk mixed (l := spec_l4Copy.cons m) trivial) (fn := Tryd.f52) Tryd.func52 (by kernel_rfl) (cl := spec_l4Copy.cuts m) ⟨⟨by kernel_rfl, fun _ => rfl, fun k x => spec_l4Copy.eq0 m k x⟩, trivial⟩ (k := m) (spec_l4Copy.eq m)

/-! ### loop.example/stemma/spec.l4Set: function 60 -/
abbrev spec_l4Set.R : Type := Den [.list (.pair (.str) (.list (.str)))]
def spec_l4Set.sig : Sig := ⟨2, ⟨[], [(0, .l (.dat (.list (.pair (.str) (.list (.str)))))), (1, .agg [.dat (.str), .dat (.list (.str))])]⟩, [.list (.pair (.str) (.list (.str))), .str, .list (.str)], ⟨[], [(0, .l (.dat (.list (.pair (.str) (.list (.str))))))]⟩, [.list (.pair (.str) (.list (.str)))]⟩
abbrev spec_l4Set.Tab : Type := (Den [.str, .list (.str), .list (.pair (.str) (.list (.str))), .list (.pair (.str) (.list (.str))), .bool, .int .i64] → Option spec_l4Set.R) × (Den [.str, .list (.str), .list (.pair (.str) (.list (.str))), .list (.pair (.str) (.list (.str))), .bool, .int .i64, .bool] → Option spec_l4Set.R) × (Den [.str, .list (.str), .list (.pair (.str) (.list (.str))), .list (.pair (.str) (.list (.str))), .bool, .int .i64] → Option spec_l4Set.R) × Unit
def spec_l4Set.start (m : Nat) (t : spec_l4Set.Tab) (x0 : List (ByteArray × List ByteArray)) (x1 : ByteArray) (x2 : List ByteArray) : Option spec_l4Set.R :=
  t.1 (x1, x2, [], x0, false, (0 : Int), ())
def spec_l4Set.b0 (m : Nat) (t : spec_l4Set.Tab) (a0 : ByteArray) (a1 : List ByteArray) (a2 : List (ByteArray × List ByteArray)) (a3 : List (ByteArray × List ByteArray)) (a4 : Bool) (a5 : Int) : Option spec_l4Set.R :=
  cond (decide (a5 < (lLen a3))) (cond (!a4) (cond (decide ((0 : Int) ≤ a5)) (cond (decide (a5 < lLen a3)) (lett ((getL a3 a5 (ByteArray.empty, ([] : List ByteArray))) : ByteArray × List ByteArray) fun v1 => t.2.1 (a0, a1, a2, a3, a4, a5, (!sLt v1.1 a0), ())) none) none) (t.2.1 (a0, a1, a2, a3, a4, a5, false, ()))) (cond (!a4) (cond (decide (List.length ([] : List ByteArray) + List.length a1 ≤ apCap)) (cond (decide (List.length a2 + List.length ([(a0, (List.append ([] : List ByteArray) a1))] : List (ByteArray × List ByteArray)) ≤ apCap)) (lett ((List.append a2 ([(a0, (List.append ([] : List ByteArray) a1))] : List (ByteArray × List ByteArray))) : List (ByteArray × List ByteArray)) fun v2 => some (v2, ())) none) none) (some (a2, ())))
def spec_l4Set.b1 (m : Nat) (t : spec_l4Set.Tab) (a0 : ByteArray) (a1 : List ByteArray) (a2 : List (ByteArray × List ByteArray)) (a3 : List (ByteArray × List ByteArray)) (a4 : Bool) (a5 : Int) (a6 : Bool) : Option spec_l4Set.R :=
  cond a6 (cond (decide (List.length ([] : List ByteArray) + List.length a1 ≤ apCap)) (cond (decide (List.length a2 + List.length ([(a0, (List.append ([] : List ByteArray) a1))] : List (ByteArray × List ByteArray)) ≤ apCap)) (lett ((List.append a2 ([(a0, (List.append ([] : List ByteArray) a1))] : List (ByteArray × List ByteArray))) : List (ByteArray × List ByteArray)) fun v1 => t.2.2.1 (a0, a1, v1, a3, true, a5, ())) none) none) (t.2.2.1 (a0, a1, a2, a3, a4, a5, ()))
def spec_l4Set.b2 (m : Nat) (t : spec_l4Set.Tab) (a0 : ByteArray) (a1 : List ByteArray) (a2 : List (ByteArray × List ByteArray)) (a3 : List (ByteArray × List ByteArray)) (a4 : Bool) (a5 : Int) : Option spec_l4Set.R :=
  cond (decide ((0 : Int) ≤ a5)) (cond (decide (a5 < lLen a3)) (lett ((getL a3 a5 (ByteArray.empty, ([] : List ByteArray))) : ByteArray × List ByteArray) fun v1 => cond (!sEq v1.1 a0) (cond (decide ((0 : Int) ≤ a5)) (cond (decide (a5 < lLen a3)) (lett ((getL a3 a5 (ByteArray.empty, ([] : List ByteArray))) : ByteArray × List ByteArray) fun v2 => cond (decide (List.length a2 + List.length ([(v2.1, v2.2)] : List (ByteArray × List ByteArray)) ≤ apCap)) (lett ((List.append a2 ([(v2.1, v2.2)] : List (ByteArray × List ByteArray))) : List (ByteArray × List ByteArray)) fun v3 => t.1 (a0, a1, v3, a3, a4, (w64 (a5 + (1 : Int))), ())) none) none) none) (t.1 (a0, a1, a2, a3, a4, (w64 (a5 + (1 : Int))), ()))) none) none
def spec_l4Set.tab (m : Nat) : Nat → spec_l4Set.Tab
  | 0 => (fun _ => none, fun _ => none, fun _ => none, ())
  | k + 1 => (fun x => spec_l4Set.b0 m (spec_l4Set.tab m k) x.1 x.2.1 x.2.2.1 x.2.2.2.1 x.2.2.2.2.1 x.2.2.2.2.2.1, fun x => spec_l4Set.b1 m (spec_l4Set.tab m k) x.1 x.2.1 x.2.2.1 x.2.2.2.1 x.2.2.2.2.1 x.2.2.2.2.2.1 x.2.2.2.2.2.2.1, fun x => spec_l4Set.b2 m (spec_l4Set.tab m k) x.1 x.2.1 x.2.2.1 x.2.2.2.1 x.2.2.2.2.1 x.2.2.2.2.2.1, ())
def spec_l4Set (m : Nat) (x : Den [.list (.pair (.str) (.list (.str))), .str, .list (.str)]) : Option spec_l4Set.R := spec_l4Set.start m (spec_l4Set.tab m m) x.1 x.2.1 x.2.2.1
def spec_l4Set.cons (m : Nat) : List (Nat × Contract) := []
def spec_l4Set.cuts (m : Nat) : List (CutF (Den spec_l4Set.sig.us)) := [⟨[false, true, false, true, true, true], 122, ⟨[.box [.dat (.str), .dat (.list (.str))], .row false (.pair (.str) (.list (.str)))], [(0, .l (.dat (.list (.pair (.str) (.list (.str)))))), (3, .l (.ptr 0 0)), (5, .l (.sl 1)), (6, .l (.dat (.bool))), (7, .l (.dat (.int .i64)))]⟩, [.str, .list (.str), .list (.pair (.str) (.list (.str))), .list (.pair (.str) (.list (.str))), .bool, .int .i64], fun k => (spec_l4Set.tab m k).1⟩,
  ⟨[true, false, false, false, true, false, false, true, false, true, true, true], 7825, ⟨[.box [.dat (.str), .dat (.list (.str))], .row false (.pair (.str) (.list (.str)))], [(0, .l (.dat (.list (.pair (.str) (.list (.str)))))), (3, .l (.ptr 0 0)), (5, .l (.sl 1)), (6, .l (.dat (.bool))), (7, .l (.dat (.int .i64))), (26, .l (.dat (.bool)))]⟩, [.str, .list (.str), .list (.pair (.str) (.list (.str))), .list (.pair (.str) (.list (.str))), .bool, .int .i64, .bool], fun k => (spec_l4Set.tab m k).2.1⟩,
  ⟨[true, false, false, true, false, false, true, false, true, true, true], 3913, ⟨[.box [.dat (.str), .dat (.list (.str))], .row false (.pair (.str) (.list (.str)))], [(0, .l (.dat (.list (.pair (.str) (.list (.str)))))), (3, .l (.ptr 0 0)), (5, .l (.sl 1)), (6, .l (.dat (.bool))), (7, .l (.dat (.int .i64)))]⟩, [.str, .list (.str), .list (.pair (.str) (.list (.str))), .list (.pair (.str) (.list (.str))), .bool, .int .i64], fun k => (spec_l4Set.tab m k).2.2.1⟩]
theorem spec_l4Set.eq0 (m k : Nat) (x : Den [.str, .list (.str), .list (.pair (.str) (.list (.str))), .list (.pair (.str) (.list (.str))), .bool, .int .i64]) : (spec_l4Set.tab m (k + 1)).1 x = runF ⟨lookΓ Γl, lookC (spec_l4Set.cons m), false⟩ Tryd.f60 spec_l4Set.sig (spec_l4Set.cuts m) k [false, true, false, true, true, true] ⟨[.box [.dat (.str), .dat (.list (.str))], .row false (.pair (.str) (.list (.str)))], [(0, .l (.dat (.list (.pair (.str) (.list (.str)))))), (3, .l (.ptr 0 0)), (5, .l (.sl 1)), (6, .l (.dat (.bool))), (7, .l (.dat (.int .i64)))]⟩ [.str, .list (.str), .list (.pair (.str) (.list (.str))), .list (.pair (.str) (.list (.str))), .bool, .int .i64] x := by kernel_rfl
theorem spec_l4Set.eq1 (m k : Nat) (x : Den [.str, .list (.str), .list (.pair (.str) (.list (.str))), .list (.pair (.str) (.list (.str))), .bool, .int .i64, .bool]) : (spec_l4Set.tab m (k + 1)).2.1 x = runF ⟨lookΓ Γl, lookC (spec_l4Set.cons m), false⟩ Tryd.f60 spec_l4Set.sig (spec_l4Set.cuts m) k [true, false, false, false, true, false, false, true, false, true, true, true] ⟨[.box [.dat (.str), .dat (.list (.str))], .row false (.pair (.str) (.list (.str)))], [(0, .l (.dat (.list (.pair (.str) (.list (.str)))))), (3, .l (.ptr 0 0)), (5, .l (.sl 1)), (6, .l (.dat (.bool))), (7, .l (.dat (.int .i64))), (26, .l (.dat (.bool)))]⟩ [.str, .list (.str), .list (.pair (.str) (.list (.str))), .list (.pair (.str) (.list (.str))), .bool, .int .i64, .bool] x := by kernel_rfl
theorem spec_l4Set.eq2 (m k : Nat) (x : Den [.str, .list (.str), .list (.pair (.str) (.list (.str))), .list (.pair (.str) (.list (.str))), .bool, .int .i64]) : (spec_l4Set.tab m (k + 1)).2.2.1 x = runF ⟨lookΓ Γl, lookC (spec_l4Set.cons m), false⟩ Tryd.f60 spec_l4Set.sig (spec_l4Set.cuts m) k [true, false, false, true, false, false, true, false, true, true, true] ⟨[.box [.dat (.str), .dat (.list (.str))], .row false (.pair (.str) (.list (.str)))], [(0, .l (.dat (.list (.pair (.str) (.list (.str)))))), (3, .l (.ptr 0 0)), (5, .l (.sl 1)), (6, .l (.dat (.bool))), (7, .l (.dat (.int .i64)))]⟩ [.str, .list (.str), .list (.pair (.str) (.list (.str))), .list (.pair (.str) (.list (.str))), .bool, .int .i64] x := by kernel_rfl
theorem spec_l4Set.eq (m : Nat) (x : Den spec_l4Set.sig.ts) : spec_l4Set m x = startF ⟨lookΓ Γl, lookC (spec_l4Set.cons m), false⟩ Tryd.f60 spec_l4Set.sig (spec_l4Set.cuts m) m x := by kernel_rfl
theorem spec_l4Set.ok (m : Nat) : Meets Tryd.prog 60 spec_l4Set.sig (spec_l4Set m) :=
  fn_is (cx_is tyOk mixed (l := spec_l4Set.cons m) trivial) (fn := Tryd.f60) Tryd.func60 (by kernel_rfl) (cl := spec_l4Set.cuts m) ⟨⟨by kernel_rfl, fun _ => rfl, fun k x => spec_l4Set.eq0 m k x⟩, ⟨by kernel_rfl, fun _ => rfl, fun k x => spec_l4Set.eq1 m k x⟩, ⟨by kernel_rfl, fun _ => rfl, fun k x => spec_l4Set.eq2 m k x⟩, trivial⟩ (k := m) (spec_l4Set.eq m)

/-! ### loop.example/stemma/spec.TreeSet: function 119 -/
abbrev spec_TreeSet.R : Type := Den [.list (.pair (.str) (.list (.str))), .bool]
def spec_TreeSet.sig : Sig := ⟨2, ⟨[], [(0, .l (.dat (.list (.pair (.str) (.list (.str)))))), (1, .agg [.dat (.str), .dat (.list (.str))])]⟩, [.list (.pair (.str) (.list (.str))), .str, .list (.str)], ⟨[], [(0, .l (.dat (.list (.pair (.str) (.list (.str)))))), (1, .l (.dat (.bool)))]⟩, [.list (.pair (.str) (.list (.str))), .bool]⟩
abbrev spec_TreeSet.Tab : Type := Unit
def spec_TreeSet.start (m : Nat) (t : spec_TreeSet.Tab) (x0 : List (ByteArray × List ByteArray)) (x1 : ByteArray) (x2 : List ByteArray) : Option spec_TreeSet.R :=
  Option.bind (spec_l4Ok m (x0, ())) fun r1 => cond (!r1.1) (some ([], false, ())) (Option.bind (spec_l4Copy m (x0, ())) fun r2 => Option.bind (spec_l4Set m (r2.1, x1, x2, ())) fun r3 => Option.bind (spec_l4Ok m (r3.1, ())) fun r4 => cond (!r4.1) (Option.bind (spec_l4Copy m (x0, ())) fun r5 => some (r5.1, false, ())) (some (r3.1, true, ())))
def spec_TreeSet.tab (m : Nat) : Nat → spec_TreeSet.Tab
  | 0 => (())
  | k + 1 => (())
def spec_TreeSet (m : Nat) (x : Den [.list (.pair (.str) (.list (.str))), .str, .list (.str)]) : Option spec_TreeSet.R := spec_TreeSet.start m (spec_TreeSet.tab m m) x.1 x.2.1 x.2.2.1
def spec_TreeSet.cons (m : Nat) : List (Nat × Contract) := [(41, ⟨spec_l4Ok.sig, spec_l4Ok m⟩), (52, ⟨spec_l4Copy.sig, spec_l4Copy m⟩), (60, ⟨spec_l4Set.sig, spec_l4Set m⟩)]
def spec_TreeSet.cuts (m : Nat) : List (CutF (Den spec_TreeSet.sig.us)) := []
theorem spec_TreeSet.eq (m : Nat) (x : Den spec_TreeSet.sig.ts) : spec_TreeSet m x = startF ⟨lookΓ Γl, lookC (spec_TreeSet.cons m), false⟩ Tryd.f119 spec_TreeSet.sig (spec_TreeSet.cuts m) m x := by kernel_rfl
theorem spec_TreeSet.ok (m : Nat) : Meets Tryd.prog 119 spec_TreeSet.sig (spec_TreeSet m) :=
  fn_is (cx_is tyOk mixed (l := spec_TreeSet.cons m) ⟨spec_l4Ok.ok m, spec_l4Copy.ok m, spec_l4Set.ok m, trivial⟩) (fn := Tryd.f119) Tryd.func119 (by kernel_rfl) (cl := spec_TreeSet.cuts m) trivial (k := m) (spec_TreeSet.eq m)

/-! ### loop.example/stemma/spec.l30Tree: function 99 -/
abbrev spec_l30Tree.R : Type := Den [.list (.int .u8), .int .i64, .list (.pair (.str) (.list (.str)))]
def spec_l30Tree.sig : Sig := ⟨1, ⟨[.box [.dat (.list (.int .u8)), .dat (.int .i64)]], [(0, .l (.ptr 0 0))]⟩, [.list (.int .u8), .int .i64], ⟨[.box [.dat (.list (.int .u8)), .dat (.int .i64)], .row true (.pair (.str) (.list (.str)))], [(0, .l (.sl 1))]⟩, [.list (.int .u8), .int .i64, .list (.pair (.str) (.list (.str)))]⟩
abbrev spec_l30Tree.Tab : Type := (Den [.list (.int .u8), .int .i64, .list (.pair (.str) (.list (.str))), .int .i64] → Option spec_l30Tree.R) × Unit
def spec_l30Tree.start (m : Nat) (t : spec_l30Tree.Tab) (x0 : List Int) (x1 : Int) : Option spec_l30Tree.R :=
  Option.bind (spec_l30Rd_pick m (x0, x1, (6 : Int), ())) fun r1 => t.1 (r1.1, r1.2.1, [], r1.2.2.1, ())
def spec_l30Tree.b0 (m : Nat) (t : spec_l30Tree.Tab) (a0 : List Int) (a1 : Int) (a2 : List (ByteArray × List ByteArray)) (a3 : Int) : Option spec_l30Tree.R :=
  cond (decide (a3 > (0 : Int))) (Option.bind (spec_l30Path m (a0, a1, ())) fun r1 => Option.bind (spec_l30Text m (r1.1, r1.2.1, ())) fun r2 => Option.bind (spec_TreeSet m (a2, r1.2.2.1, r2.2.2.1, ())) fun r3 => t.1 (r2.1, r2.2.1, r3.1, (w64 (a3 - (1 : Int))), ())) (Option.bind (spec_l4Copy m (a2, ())) fun r4 => some (a0, a1, r4.1, ()))
def spec_l30Tree.tab (m : Nat) : Nat → spec_l30Tree.Tab
  | 0 => (fun _ => none, ())
  | k + 1 => (fun x => spec_l30Tree.b0 m (spec_l30Tree.tab m k) x.1 x.2.1 x.2.2.1 x.2.2.2.1, ())
def spec_l30Tree (m : Nat) (x : Den [.list (.int .u8), .int .i64]) : Option spec_l30Tree.R := spec_l30Tree.start m (spec_l30Tree.tab m m) x.1 x.2.1
def spec_l30Tree.cons (m : Nat) : List (Nat × Contract) := [(100, ⟨spec_l30Rd_pick.sig, spec_l30Rd_pick m⟩), (120, ⟨spec_l30Path.sig, spec_l30Path m⟩), (121, ⟨spec_l30Text.sig, spec_l30Text m⟩), (119, ⟨spec_TreeSet.sig, spec_TreeSet m⟩), (52, ⟨spec_l4Copy.sig, spec_l4Copy m⟩)]
def spec_l30Tree.cuts (m : Nat) : List (CutF (Den spec_l30Tree.sig.us)) := [⟨[false, true, false, true, true], 58, ⟨[.box [.dat (.list (.int .u8)), .dat (.int .i64)]], [(0, .l (.ptr 0 0)), (3, .l (.dat (.list (.pair (.str) (.list (.str)))))), (4, .l (.dat (.int .i64)))]⟩, [.list (.int .u8), .int .i64, .list (.pair (.str) (.list (.str))), .int .i64], fun k => (spec_l30Tree.tab m k).1⟩]
theorem spec_l30Tree.eq0 (m k : Nat) (x : Den [.list (.int .u8), .int .i64, .list (.pair (.str) (.list (.str))), .int .i64]) : (spec_l30Tree.tab m (k + 1)).1 x = runF ⟨lookΓ Γl, lookC (spec_l30Tree.cons m), false⟩ Tryd.f99 spec_l30Tree.sig (spec_l30Tree.cuts m) k [false, true, false, true, true] ⟨[.box [.dat (.list (.int .u8)), .dat (.int .i64)]], [(0, .l (.ptr 0 0)), (3, .l (.dat (.list (.pair (.str) (.list (.str)))))), (4, .l (.dat (.int .i64)))]⟩ [.list (.int .u8), .int .i64, .list (.pair (.str) (.list (.str))), .int .i64] x := by kernel_rfl
theorem spec_l30Tree.eq (m : Nat) (x : Den spec_l30Tree.sig.ts) : spec_l30Tree m x = startF ⟨lookΓ Γl, lookC (spec_l30Tree.cons m), false⟩ Tryd.f99 spec_l30Tree.sig (spec_l30Tree.cuts m) m x := by kernel_rfl
theorem spec_l30Tree.ok (m : Nat) : Meets Tryd.prog 99 spec_l30Tree.sig (spec_l30Tree m) :=
  fn_is (cx_is tyOk mixed (l := spec_l30Tree.cons m) ⟨spec_l30Rd_pick.ok m, spec_l30Path.ok m, spec_l30Text.ok m, spec_TreeSet.ok m, spec_l4Copy.ok m, trivial⟩) (fn := Tryd.f99) Tryd.func99 (by kernel_rfl) (cl := spec_l30Tree.cuts m) ⟨⟨by kernel_rfl, fun _ => rfl, fun k x => spec_l30Tree.eq0 m k x⟩, trivial⟩ (k := m) (spec_l30Tree.eq m)

/-! ### loop.example/stemma/spec.l30AnyPath: function 101 -/
abbrev spec_l30AnyPath.R : Type := Den [.list (.int .u8), .int .i64, .str]
def spec_l30AnyPath.sig : Sig := ⟨1, ⟨[.box [.dat (.list (.int .u8)), .dat (.int .i64)]], [(0, .l (.ptr 0 0))]⟩, [.list (.int .u8), .int .i64], ⟨[.box [.dat (.list (.int .u8)), .dat (.int .i64)]], [(0, .l (.dat (.str)))]⟩, [.list (.int .u8), .int .i64, .str]⟩
abbrev spec_l30AnyPath.Tab : Type := Unit
def spec_l30AnyPath.start (m : Nat) (t : spec_l30AnyPath.Tab) (x0 : List Int) (x1 : Int) : Option spec_l30AnyPath.R :=
  Option.bind (spec_l30Rd_pick m (x0, x1, (6 : Int), ())) fun r1 => cond (r1.2.2.1 == (0 : Int)) (lett ([ByteArray.empty, s_64, s_67, s_41, s_612f, s_612f622f632f64, s_746f6f6c6f6e67, s_672f68, s_642f652f66] : List ByteArray) fun v2 => Option.bind (spec_l30Rd_of m (r1.1, r1.2.1, v2, ())) fun r3 => some (r3.1, r3.2.1, r3.2.2.1, ())) (Option.bind (spec_l30Path m (r1.1, r1.2.1, ())) fun r4 => some (r4.1, r4.2.1, r4.2.2.1, ()))
def spec_l30AnyPath.tab (m : Nat) : Nat → spec_l30AnyPath.Tab
  | 0 => (())
  | k + 1 => (())
def spec_l30AnyPath (m : Nat) (x : Den [.list (.int .u8), .int .i64]) : Option spec_l30AnyPath.R := spec_l30AnyPath.start m (spec_l30AnyPath.tab m m) x.1 x.2.1
def spec_l30AnyPath.cons (m : Nat) : List (Nat × Contract) := [(100, ⟨spec_l30Rd_pick.sig, spec_l30Rd_pick m⟩), (103, ⟨spec_l30Rd_of.sig, spec_l30Rd_of m⟩), (120, ⟨spec_l30Path.sig, spec_l30Path m⟩)]
def spec_l30AnyPath.cuts (m : Nat) : List (CutF (Den spec_l30AnyPath.sig.us)) := []
theorem spec_l30AnyPath.eq (m : Nat) (x : Den spec_l30AnyPath.sig.ts) : spec_l30AnyPath m x = startF ⟨lookΓ Γl, lookC (spec_l30AnyPath.cons m), false⟩ Tryd.f101 spec_l30AnyPath.sig (spec_l30AnyPath.cuts m) m x := by kernel_rfl
theorem spec_l30AnyPath.ok (m : Nat) : Meets Tryd.prog 101 spec_l30AnyPath.sig (spec_l30AnyPath m) :=
  fn_is (cx_is tyOk mixed (l := spec_l30AnyPath.cons m) ⟨spec_l30Rd_pick.ok m, spec_l30Rd_of.ok m, spec_l30Path.ok m, trivial⟩) (fn := Tryd.f101) Tryd.func101 (by kernel_rfl) (cl := spec_l30AnyPath.cuts m) trivial (k := m) (spec_l30AnyPath.eq m)

/-! ### loop.example/stemma/spec.l30AnyText: function 102 -/
abbrev spec_l30AnyText.R : Type := Den [.list (.int .u8), .int .i64, .list (.str)]
def spec_l30AnyText.sig : Sig := ⟨1, ⟨[.box [.dat (.list (.int .u8)), .dat (.int .i64)]], [(0, .l (.ptr 0 0))]⟩, [.list (.int .u8), .int .i64], ⟨[.box [.dat (.list (.int .u8)), .dat (.int .i64)]], [(0, .l (.dat (.list (.str))))]⟩, [.list (.int .u8), .int .i64, .list (.str)]⟩
abbrev spec_l30AnyText.Tab : Type := Unit
def spec_l30AnyText.start (m : Nat) (t : spec_l30AnyText.Tab) (x0 : List Int) (x1 : Int) : Option spec_l30AnyText.R :=
  Option.bind (spec_l30Text m (x0, x1, ())) fun r1 => Option.bind (spec_l30Rd_pick m (r1.1, r1.2.1, (16 : Int), ())) fun r2 => cond (r2.2.2.1 == (0 : Int)) (Option.bind (spec_l30Rd_of m (r2.1, r2.2.1, [s_61206c696e6520746f6f206c6f6e67, s_780a79, s_ff], ())) fun r3 => cond (decide (List.length r1.2.2.1 + List.length ([r3.2.2.1] : List ByteArray) ≤ apCap)) (some (r3.1, r3.2.1, (List.append r1.2.2.1 ([r3.2.2.1] : List ByteArray)), ())) none) (cond (r2.2.2.1 == (1 : Int)) (lett ([s_31, s_32, s_33, s_34, s_35, s_36, s_37, s_38, s_39, s_3130] : List ByteArray) fun v4 => cond (decide (List.length r1.2.2.1 + List.length v4 ≤ apCap)) (some (r2.1, r2.2.1, (List.append r1.2.2.1 v4), ())) none) (some (r2.1, r2.2.1, r1.2.2.1, ())))
def spec_l30AnyText.tab (m : Nat) : Nat → spec_l30AnyText.Tab
  | 0 => (())
  | k + 1 => (())
def spec_l30AnyText (m : Nat) (x : Den [.list (.int .u8), .int .i64]) : Option spec_l30AnyText.R := spec_l30AnyText.start m (spec_l30AnyText.tab m m) x.1 x.2.1
def spec_l30AnyText.cons (m : Nat) : List (Nat × Contract) := [(121, ⟨spec_l30Text.sig, spec_l30Text m⟩), (100, ⟨spec_l30Rd_pick.sig, spec_l30Rd_pick m⟩), (103, ⟨spec_l30Rd_of.sig, spec_l30Rd_of m⟩)]
def spec_l30AnyText.cuts (m : Nat) : List (CutF (Den spec_l30AnyText.sig.us)) := []
theorem spec_l30AnyText.eq (m : Nat) (x : Den spec_l30AnyText.sig.ts) : spec_l30AnyText m x = startF ⟨lookΓ Γl, lookC (spec_l30AnyText.cons m), false⟩ Tryd.f102 spec_l30AnyText.sig (spec_l30AnyText.cuts m) m x := by kernel_rfl
theorem spec_l30AnyText.ok (m : Nat) : Meets Tryd.prog 102 spec_l30AnyText.sig (spec_l30AnyText m) :=
  fn_is (cx_is tyOk mixed (l := spec_l30AnyText.cons m) ⟨spec_l30Text.ok m, spec_l30Rd_pick.ok m, spec_l30Rd_of.ok m, trivial⟩) (fn := Tryd.f102) Tryd.func102 (by kernel_rfl) (cl := spec_l30AnyText.cuts m) trivial (k := m) (spec_l30AnyText.eq m)

/-! ### loop.example/stemma/spec.l30AnyTree: function 66 -/
abbrev spec_l30AnyTree.R : Type := Den [.list (.int .u8), .int .i64, .list (.pair (.str) (.list (.str)))]
def spec_l30AnyTree.sig : Sig := ⟨1, ⟨[.box [.dat (.list (.int .u8)), .dat (.int .i64)]], [(0, .l (.ptr 0 0))]⟩, [.list (.int .u8), .int .i64], ⟨[.box [.dat (.list (.int .u8)), .dat (.int .i64)]], [(0, .l (.dat (.list (.pair (.str) (.list (.str))))))]⟩, [.list (.int .u8), .int .i64, .list (.pair (.str) (.list (.str)))]⟩
abbrev spec_l30AnyTree.Tab : Type := Unit
def spec_l30AnyTree.start (m : Nat) (t : spec_l30AnyTree.Tab) (x0 : List Int) (x1 : Int) : Option spec_l30AnyTree.R :=
  Option.bind (spec_l30Tree m (x0, x1, ())) fun r1 => cond (decide ((lLen r1.2.2.1) > (0 : Int))) (Option.bind (spec_l30Rd_pick m (r1.1, r1.2.1, (lLen r1.2.2.1), ())) fun r2 => Option.bind (spec_l30Rd_pick m (r2.1, r2.2.1, (14 : Int), ())) fun r3 => cond (r3.2.2.1 == (0 : Int)) (Option.bind (spec_l30AnyPath m (r3.1, r3.2.1, ())) fun r4 => cond (decide ((0 : Int) ≤ r2.2.2.1)) (cond (decide (r2.2.2.1 < lLen r1.2.2.1)) (lett ((List.set r1.2.2.1 (Int.toNat r2.2.2.1) (r4.2.2.1, (List.getD r1.2.2.1 (Int.toNat r2.2.2.1) (ByteArray.empty, ([] : List ByteArray))).2)) : List (ByteArray × List ByteArray)) fun v5 => some (r4.1, r4.2.1, v5, ())) none) none) (cond (r3.2.2.1 == (1 : Int)) (Option.bind (spec_l30AnyText m (r3.1, r3.2.1, ())) fun r6 => cond (decide ((0 : Int) ≤ r2.2.2.1)) (cond (decide (r2.2.2.1 < lLen r1.2.2.1)) (lett ((List.set r1.2.2.1 (Int.toNat r2.2.2.1) ((List.getD r1.2.2.1 (Int.toNat r2.2.2.1) (ByteArray.empty, ([] : List ByteArray))).1, r6.2.2.1)) : List (ByteArray × List ByteArray)) fun v7 => some (r6.1, r6.2.1, v7, ())) none) none) (cond (r3.2.2.1 == (2 : Int)) (cond (decide ((0 : Int) ≤ r2.2.2.1)) (cond (decide (r2.2.2.1 < lLen r1.2.2.1)) (lett ((List.getD r1.2.2.1 (Int.toNat r2.2.2.1) (ByteArray.empty, ([] : List ByteArray))).1 : ByteArray) fun v8 => lett ((List.getD r1.2.2.1 (Int.toNat r2.2.2.1) (ByteArray.empty, ([] : List ByteArray))).2 : List ByteArray) fun v9 => cond (decide (List.length r1.2.2.1 + List.length ([(v8, v9)] : List (ByteArray × List ByteArray)) ≤ apCap)) (lett ((List.append r1.2.2.1 ([(v8, v9)] : List (ByteArray × List ByteArray))) : List (ByteArray × List ByteArray)) fun v10 => some (r3.1, r3.2.1, v10, ())) none) none) none) (some (r3.1, r3.2.1, r1.2.2.1, ()))))) (some (r1.1, r1.2.1, r1.2.2.1, ()))
def spec_l30AnyTree.tab (m : Nat) : Nat → spec_l30AnyTree.Tab
  | 0 => (())
  | k + 1 => (())
def spec_l30AnyTree (m : Nat) (x : Den [.list (.int .u8), .int .i64]) : Option spec_l30AnyTree.R := spec_l30AnyTree.start m (spec_l30AnyTree.tab m m) x.1 x.2.1
def spec_l30AnyTree.cons (m : Nat) : List (Nat × Contract) := [(99, ⟨spec_l30Tree.sig, spec_l30Tree m⟩), (100, ⟨spec_l30Rd_pick.sig, spec_l30Rd_pick m⟩), (101, ⟨spec_l30AnyPath.sig, spec_l30AnyPath m⟩), (102, ⟨spec_l30AnyText.sig, spec_l30AnyText m⟩)]
def spec_l30AnyTree.cuts (m : Nat) : List (CutF (Den spec_l30AnyTree.sig.us)) := []
theorem spec_l30AnyTree.eq (m : Nat) (x : Den spec_l30AnyTree.sig.ts) : spec_l30AnyTree m x = startF ⟨lookΓ Γl, lookC (spec_l30AnyTree.cons m), false⟩ Tryd.f66 spec_l30AnyTree.sig (spec_l30AnyTree.cuts m) m x := by kernel_rfl
theorem spec_l30AnyTree.ok (m : Nat) : Meets Tryd.prog 66 spec_l30AnyTree.sig (spec_l30AnyTree m) :=
  fn_is (cx_is tyOk mixed (l := spec_l30AnyTree.cons m) ⟨spec_l30Tree.ok m, spec_l30Rd_pick.ok m, spec_l30AnyPath.ok m, spec_l30AnyText.ok m, trivial⟩) (fn := Tryd.f66) Tryd.func66 (by kernel_rfl) (cl := spec_l30AnyTree.cuts m) trivial (k := m) (spec_l30AnyTree.eq m)

/-! ### loop.example/stemma/spec.l30Paths: function 67 -/
abbrev spec_l30Paths.R : Type := Den [.list (.int .u8), .int .i64, .list (.str)]
def spec_l30Paths.sig : Sig := ⟨1, ⟨[.box [.dat (.list (.int .u8)), .dat (.int .i64)]], [(0, .l (.ptr 0 0))]⟩, [.list (.int .u8), .int .i64], ⟨[.box [.dat (.list (.int .u8)), .dat (.int .i64)]], [(0, .l (.dat (.list (.str))))]⟩, [.list (.int .u8), .int .i64, .list (.str)]⟩
abbrev spec_l30Paths.Tab : Type := (Den [.list (.int .u8), .int .i64, .list (.str), .int .i64] → Option spec_l30Paths.R) × Unit
def spec_l30Paths.start (m : Nat) (t : spec_l30Paths.Tab) (x0 : List Int) (x1 : Int) : Option spec_l30Paths.R :=
  Option.bind (spec_l30Rd_pick m (x0, x1, (4 : Int), ())) fun r1 => t.1 (r1.1, r1.2.1, [], r1.2.2.1, ())
def spec_l30Paths.b0 (m : Nat) (t : spec_l30Paths.Tab) (a0 : List Int) (a1 : Int) (a2 : List ByteArray) (a3 : Int) : Option spec_l30Paths.R :=
  cond (decide (a3 > (0 : Int))) (Option.bind (spec_l30Rd_of m (a0, a1, [s_61, s_64, s_67, s_642f65, s_672f68, s_62], ())) fun r1 => cond (decide (List.length a2 + List.length ([r1.2.2.1] : List ByteArray) ≤ apCap)) (t.1 (r1.1, r1.2.1, (List.append a2 ([r1.2.2.1] : List ByteArray)), (w64 (a3 - (1 : Int))), ())) none) (Option.bind (spec_l30Rd_pick m (a0, a1, (14 : Int), ())) fun r2 => cond (r2.2.2.1 == (0 : Int)) (Option.bind (spec_l30Rd_of m (r2.1, r2.2.1, [ByteArray.empty, s_41], ())) fun r3 => cond (decide (List.length a2 + List.length ([r3.2.2.1] : List ByteArray) ≤ apCap)) (some (r3.1, r3.2.1, (List.append a2 ([r3.2.2.1] : List ByteArray)), ())) none) (some (r2.1, r2.2.1, a2, ())))
def spec_l30Paths.tab (m : Nat) : Nat → spec_l30Paths.Tab
  | 0 => (fun _ => none, ())
  | k + 1 => (fun x => spec_l30Paths.b0 m (spec_l30Paths.tab m k) x.1 x.2.1 x.2.2.1 x.2.2.2.1, ())
def spec_l30Paths (m : Nat) (x : Den [.list (.int .u8), .int .i64]) : Option spec_l30Paths.R := spec_l30Paths.start m (spec_l30Paths.tab m m) x.1 x.2.1
def spec_l30Paths.cons (m : Nat) : List (Nat × Contract) := [(100, ⟨spec_l30Rd_pick.sig, spec_l30Rd_pick m⟩), (103, ⟨spec_l30Rd_of.sig, spec_l30Rd_of m⟩)]
def spec_l30Paths.cuts (m : Nat) : List (CutF (Den spec_l30Paths.sig.us)) := [⟨[false, true, false, true, true], 58, ⟨[.box [.dat (.list (.int .u8)), .dat (.int .i64)], .row true (.str)], [(0, .l (.ptr 0 0)), (3, .l (.sl 1)), (4, .l (.dat (.int .i64)))]⟩, [.list (.int .u8), .int .i64, .list (.str), .int .i64], fun k => (spec_l30Paths.tab m k).1⟩]
theorem spec_l30Paths.eq0 (m k : Nat) (x : Den [.list (.int .u8), .int .i64, .list (.str), .int .i64]) : (spec_l30Paths.tab m (k + 1)).1 x = runF ⟨lookΓ Γl, lookC (spec_l30Paths.cons m), false⟩ Tryd.f67 spec_l30Paths.sig (spec_l30Paths.cuts m) k [false, true, false, true, true] ⟨[.box [.dat (.list (.int .u8)), .dat (.int .i64)], .row true (.str)], [(0, .l (.ptr 0 0)), (3, .l (.sl 1)), (4, .l (.dat (.int .i64)))]⟩ [.list (.int .u8), .int .i64, .list (.str), .int .i64] x := by kernel_rfl
theorem spec_l30Paths.eq (m : Nat) (x : Den spec_l30Paths.sig.ts) : spec_l30Paths m x = startF ⟨lookΓ Γl, lookC (spec_l30Paths.cons m), false⟩ Tryd.f67 spec_l30Paths.sig (spec_l30Paths.cuts m) m x := by kernel_rfl
theorem spec_l30Paths.ok (m : Nat) : Meets Tryd.prog 67 spec_l30Paths.sig (spec_l30Paths m) :=
  fn_is (cx_is tyOk mixed (l := spec_l30Paths.cons m) ⟨spec_l30Rd_pick.ok m, spec_l30Rd_of.ok m, trivial⟩) (fn := Tryd.f67) Tryd.func67 (by kernel_rfl) (cl := spec_l30Paths.cuts m) ⟨⟨by kernel_rfl, fun _ => rfl, fun k x => spec_l30Paths.eq0 m k x⟩, trivial⟩ (k := m) (spec_l30Paths.eq m)

/-! ### loop.example/stemma/spec.DrawViewOf: function 28 -/
abbrev spec_DrawViewOf.R : Type := Den [.list (.pair (.str) (.list (.str))), .list (.str)]
def spec_DrawViewOf.sig : Sig := ⟨1, ⟨[], [(0, .l (.dat (.list (.int .u8))))]⟩, [.list (.int .u8)], ⟨[], [(0, .l (.dat (.list (.pair (.str) (.list (.str)))))), (1, .l (.dat (.list (.str))))]⟩, [.list (.pair (.str) (.list (.str))), .list (.str)]⟩
abbrev spec_DrawViewOf.Tab : Type := Unit
def spec_DrawViewOf.start (m : Nat) (t : spec_DrawViewOf.Tab) (x0 : List Int) : Option spec_DrawViewOf.R :=
  Option.bind (spec_l30Open m (x0, ())) fun r1 => Option.bind (spec_l30AnyTree m (r1.1, r1.2.1, ())) fun r2 => Option.bind (spec_l30Paths m (r2.1, r2.2.1, ())) fun r3 => some (r2.2.2.1, r3.2.2.1, ())
def spec_DrawViewOf.tab (m : Nat) : Nat → spec_DrawViewOf.Tab
  | 0 => (())
  | k + 1 => (())
def spec_DrawViewOf (m : Nat) (x : Den [.list (.int .u8)]) : Option spec_DrawViewOf.R := spec_DrawViewOf.start m (spec_DrawViewOf.tab m m) x.1
def spec_DrawViewOf.cons (m : Nat) : List (Nat × Contract) := [(65, ⟨spec_l30Open.sig, spec_l30Open m⟩), (66, ⟨spec_l30AnyTree.sig, spec_l30AnyTree m⟩), (67, ⟨spec_l30Paths.sig, spec_l30Paths m⟩)]
def spec_DrawViewOf.cuts (m : Nat) : List (CutF (Den spec_DrawViewOf.sig.us)) := []
theorem spec_DrawViewOf.eq (m : Nat) (x : Den spec_DrawViewOf.sig.ts) : spec_DrawViewOf m x = startF ⟨lookΓ Γl, lookC (spec_DrawViewOf.cons m), false⟩ Tryd.f28 spec_DrawViewOf.sig (spec_DrawViewOf.cuts m) m x := by kernel_rfl
theorem spec_DrawViewOf.ok (m : Nat) : Meets Tryd.prog 28 spec_DrawViewOf.sig (spec_DrawViewOf m) :=
  fn_is (cx_is tyOk mixed (l := spec_DrawViewOf.cons m) ⟨spec_l30Open.ok m, spec_l30AnyTree.ok m, spec_l30Paths.ok m, trivial⟩) (fn := Tryd.f28) Tryd.func28 (by kernel_rfl) (cl := spec_DrawViewOf.cuts m) trivial (k := m) (spec_DrawViewOf.eq m)

/-! ### internal/bytealg.CountString: function 135 -/
def internal_bytealg_CountString.sig : Sig := cntByteSig
def internal_bytealg_CountString (m : Nat) (x : Den [.str, .int .u8]) : Option (Den [.int .i64]) := cntByteF x
theorem internal_bytealg_CountString.ok (m : Nat) : Meets Tryd.prog 135 internal_bytealg_CountString.sig (internal_bytealg_CountString m) := cntByte_meets (fn := Tryd.f135) Tryd.func135 (by kernel_rfl) (by kernel_rfl) (by kernel_rfl) (by kernel_rfl)

/-! ### internal/bytealg.IndexByteString: function 161 -/
def internal_bytealg_IndexByteString.sig : Sig := idxByteSig
def internal_bytealg_IndexByteString (m : Nat) (x : Den [.str, .int .u8]) : Option (Den [.int .i64]) := idxByteF x
theorem internal_bytealg_IndexByteString.ok (m : Nat) : Meets Tryd.prog 161 internal_bytealg_IndexByteString.sig (internal_bytealg_IndexByteString m) := idxByte_meets (fn := Tryd.f161) Tryd.func161 (by kernel_rfl) (by kernel_rfl) (by kernel_rfl) (by kernel_rfl)

/-! ### internal/stringslite.IndexByte: function 148 -/
abbrev internal_stringslite_IndexByte.R : Type := Den [.int .i64]
def internal_stringslite_IndexByte.sig : Sig := ⟨2, ⟨[], [(0, .l (.dat (.str))), (1, .l (.dat (.int .u8)))]⟩, [.str, .int .u8], ⟨[], [(0, .l (.dat (.int .i64)))]⟩, [.int .i64]⟩
abbrev internal_stringslite_IndexByte.Tab : Type := Unit
def internal_stringslite_IndexByte.start (m : Nat) (t : internal_stringslite_IndexByte.Tab) (x0 : ByteArray) (x1 : Int) : Option internal_stringslite_IndexByte.R :=
  Option.bind (internal_bytealg_IndexByteString m (x0, x1, ())) fun r1 => some (r1.1, ())
def internal_stringslite_IndexByte.tab (m : Nat) : Nat → internal_stringslite_IndexByte.Tab
  | 0 => (())
  | k + 1 => (())
def internal_stringslite_IndexByte (m : Nat) (x : Den [.str, .int .u8]) : Option internal_stringslite_IndexByte.R := internal_stringslite_IndexByte.start m (internal_stringslite_IndexByte.tab m m) x.1 x.2.1
def internal_stringslite_IndexByte.cons (m : Nat) : List (Nat × Contract) := [(161, ⟨internal_bytealg_IndexByteString.sig, internal_bytealg_IndexByteString m⟩)]
def internal_stringslite_IndexByte.cuts (m : Nat) : List (CutF (Den internal_stringslite_IndexByte.sig.us)) := []
theorem internal_stringslite_IndexByte.eq (m : Nat) (x : Den internal_stringslite_IndexByte.sig.ts) : internal_stringslite_IndexByte m x = startF ⟨lookΓ Γl, lookC (internal_stringslite_IndexByte.cons m), false⟩ Tryd.f148 internal_stringslite_IndexByte.sig (internal_stringslite_IndexByte.cuts m) m x := by kernel_rfl
theorem internal_stringslite_IndexByte.ok (m : Nat) : Meets Tryd.prog 148 internal_stringslite_IndexByte.sig (internal_stringslite_IndexByte m) :=
  fn_is (cx_is tyOk mixed (l := internal_stringslite_IndexByte.cons m) ⟨internal_bytealg_IndexByteString.ok m, trivial⟩) (fn := Tryd.f148) Tryd.func148 (by kernel_rfl) (cl := internal_stringslite_IndexByte.cuts m) trivial (k := m) (internal_stringslite_IndexByte.eq m)

/-! ### internal/stringslite.Index: function 136 -/
abbrev internal_stringslite_Index.R : Type := Den [.int .i64]
def internal_stringslite_Index.sig : Sig := ⟨2, ⟨[], [(0, .l (.dat (.str))), (1, .l (.dat (.str)))]⟩, [.str, .str], ⟨[], [(0, .l (.dat (.int .i64)))]⟩, [.int .i64]⟩
abbrev internal_stringslite_Index.Tab : Type := (Den [.str, .str, .int .i64, .bool] → Option internal_stringslite_Index.R) × Unit
def internal_stringslite_Index.start (m : Nat) (t : internal_stringslite_Index.Tab) (x0 : ByteArray) (x1 : ByteArray) : Option internal_stringslite_Index.R :=
  cond ((sLen x1) == (0 : Int)) (t.1 (x0, x1, (sLen x1), true, ())) (t.1 (x0, x1, (sLen x1), (sEq x1 x0), ()))
def internal_stringslite_Index.b0 (m : Nat) (t : internal_stringslite_Index.Tab) (a0 : ByteArray) (a1 : ByteArray) (a2 : Int) (a3 : Bool) : Option internal_stringslite_Index.R :=
  cond a3 (some ((0 : Int), ())) (cond (a2 == (1 : Int)) (cond (decide ((0 : Int) ≤ (0 : Int))) (cond (decide ((0 : Int) < sLen a1)) (Option.bind (internal_stringslite_IndexByte m (a0, (byteAt a1 (0 : Int)), ())) fun r1 => some (r1.1, ())) none) none) (cond (decide (a2 ≥ (sLen a0))) (some ((-1 : Int), ())) (none)))
def internal_stringslite_Index.tab (m : Nat) : Nat → internal_stringslite_Index.Tab
  | 0 => (fun _ => none, ())
  | k + 1 => (fun x => internal_stringslite_Index.b0 m (internal_stringslite_Index.tab m k) x.1 x.2.1 x.2.2.1 x.2.2.2.1, ())
def internal_stringslite_Index (m : Nat) (x : Den [.str, .str]) : Option internal_stringslite_Index.R := internal_stringslite_Index.start m (internal_stringslite_Index.tab m m) x.1 x.2.1
def internal_stringslite_Index.cons (m : Nat) : List (Nat × Contract) := [(148, ⟨internal_stringslite_IndexByte.sig, internal_stringslite_IndexByte m⟩)]
def internal_stringslite_Index.cuts (m : Nat) : List (CutF (Den internal_stringslite_Index.sig.us)) := [⟨[true, false, false, true, true], 57, ⟨[], [(0, .l (.dat (.str))), (1, .l (.dat (.str))), (5, .l (.dat (.int .i64))), (16, .l (.dat (.bool)))]⟩, [.str, .str, .int .i64, .bool], fun k => (internal_stringslite_Index.tab m k).1⟩]
theorem internal_stringslite_Index.eq0 (m k : Nat) (x : Den [.str, .str, .int .i64, .bool]) : (internal_stringslite_Index.tab m (k + 1)).1 x = runF ⟨lookΓ Γl, lookC (internal_stringslite_Index.cons m), false⟩ Tryd.f136 internal_stringslite_Index.sig (internal_stringslite_Index.cuts m) k [true, false, false, true, true] ⟨[], [(0, .l (.dat (.str))), (1, .l (.dat (.str))), (5, .l (.dat (.int .i64))), (16, .l (.dat (.bool)))]⟩ [.str, .str, .int .i64, .bool] x := by kernel_rfl
theorem internal_stringslite_Index.eq (m : Nat) (x : Den internal_stringslite_Index.sig.ts) : internal_stringslite_Index m x = startF ⟨lookΓ Γl, lookC (internal_stringslite_Index.cons m), false⟩ Tryd.f136 internal_stringslite_Index.sig (internal_stringslite_Index.cuts m) m x := by kernel_rfl
theorem internal_stringslite_Index.ok (m : Nat) : Meets Tryd.prog 136 internal_stringslite_Index.sig (internal_stringslite_Index m) :=
  fn_is (cx_is tyOk mixed (l := internal_stringslite_Index.cons m) ⟨internal_stringslite_IndexByte.ok m, trivial⟩) (fn := Tryd.f136) Tryd.func136 (by kernel_rfl) (cl := internal_stringslite_Index.cuts m) ⟨⟨by kernel_rfl, fun _ => rfl, fun k x => internal_stringslite_Index.eq0 m k x⟩, trivial⟩ (k := m) (internal_stringslite_Index.eq m)

/-! ### strings.Index: function 125 -/
abbrev strings_Index.R : Type := Den [.int .i64]
def strings_Index.sig : Sig := ⟨2, ⟨[], [(0, .l (.dat (.str))), (1, .l (.dat (.str)))]⟩, [.str, .str], ⟨[], [(0, .l (.dat (.int .i64)))]⟩, [.int .i64]⟩
abbrev strings_Index.Tab : Type := Unit
def strings_Index.start (m : Nat) (t : strings_Index.Tab) (x0 : ByteArray) (x1 : ByteArray) : Option strings_Index.R :=
  Option.bind (internal_stringslite_Index m (x0, x1, ())) fun r1 => some (r1.1, ())
def strings_Index.tab (m : Nat) : Nat → strings_Index.Tab
  | 0 => (())
  | k + 1 => (())
def strings_Index (m : Nat) (x : Den [.str, .str]) : Option strings_Index.R := strings_Index.start m (strings_Index.tab m m) x.1 x.2.1
def strings_Index.cons (m : Nat) : List (Nat × Contract) := [(136, ⟨internal_stringslite_Index.sig, internal_stringslite_Index m⟩)]
def strings_Index.cuts (m : Nat) : List (CutF (Den strings_Index.sig.us)) := []
theorem strings_Index.eq (m : Nat) (x : Den strings_Index.sig.ts) : strings_Index m x = startF ⟨lookΓ Γl, lookC (strings_Index.cons m), false⟩ Tryd.f125 strings_Index.sig (strings_Index.cuts m) m x := by kernel_rfl
theorem strings_Index.ok (m : Nat) : Meets Tryd.prog 125 strings_Index.sig (strings_Index m) :=
  fn_is (cx_is tyOk mixed (l := strings_Index.cons m) ⟨internal_stringslite_Index.ok m, trivial⟩) (fn := Tryd.f125) Tryd.func125 (by kernel_rfl) (cl := strings_Index.cuts m) trivial (k := m) (strings_Index.eq m)

/-! ### strings.Count: function 124 -/
abbrev strings_Count.R : Type := Den [.int .i64]
def strings_Count.sig : Sig := ⟨2, ⟨[], [(0, .l (.dat (.str))), (1, .l (.dat (.str)))]⟩, [.str, .str], ⟨[], [(0, .l (.dat (.int .i64)))]⟩, [.int .i64]⟩
abbrev strings_Count.Tab : Type := (Den [.str, .str, .int .i64] → Option strings_Count.R) × Unit
def strings_Count.start (m : Nat) (t : strings_Count.Tab) (x0 : ByteArray) (x1 : ByteArray) : Option strings_Count.R :=
  cond ((sLen x1) == (0 : Int)) (none) (cond ((sLen x1) == (1 : Int)) (cond (decide ((0 : Int) ≤ (0 : Int))) (cond (decide ((0 : Int) < sLen x1)) (Option.bind (internal_bytealg_CountString m (x0, (byteAt x1 (0 : Int)), ())) fun r1 => some (r1.1, ())) none) none) (t.1 (x0, x1, (0 : Int), ())))
def strings_Count.b0 (m : Nat) (t : strings_Count.Tab) (a0 : ByteArray) (a1 : ByteArray) (a2 : Int) : Option strings_Count.R :=
  Option.bind (strings_Index m (a0, a1, ())) fun r1 => cond (r1.1 == (-1 : Int)) (some (a2, ())) (cond (decide ((0 : Int) ≤ (w64 (r1.1 + (sLen a1))))) (cond (decide ((w64 (r1.1 + (sLen a1))) ≤ (ByteArray.size a0 : Int))) (lett ((cutS a0 (Int.toNat (w64 (r1.1 + (sLen a1)))) (ByteArray.size a0)) : ByteArray) fun v2 => t.1 (v2, a1, (w64 (a2 + (1 : Int))), ())) none) none)
def strings_Count.tab (m : Nat) : Nat → strings_Count.Tab
  | 0 => (fun _ => none, ())
  | k + 1 => (fun x => strings_Count.b0 m (strings_Count.tab m k) x.1 x.2.1 x.2.2.1, ())
def strings_Count (m : Nat) (x : Den [.str, .str]) : Option strings_Count.R := strings_Count.start m (strings_Count.tab m m) x.1 x.2.1
def strings_Count.cons (m : Nat) : List (Nat × Contract) := [(135, ⟨internal_bytealg_CountString.sig, internal_bytealg_CountString m⟩), (125, ⟨strings_Index.sig, strings_Index m⟩)]
def strings_Count.cuts (m : Nat) : List (CutF (Den strings_Count.sig.us)) := [⟨[false, true, true, true, true], 62, ⟨[], [(0, .l (.dat (.str))), (1, .l (.dat (.str))), (5, .l (.dat (.int .i64)))]⟩, [.str, .str, .int .i64], fun k => (strings_Count.tab m k).1⟩]
theorem strings_Count.eq0 (m k : Nat) (x : Den [.str, .str, .int .i64]) : (strings_Count.tab m (k + 1)).1 x = runF ⟨lookΓ Γl, lookC (strings_Count.cons m), false⟩ Tryd.f124 strings_Count.sig (strings_Count.cuts m) k [false, true, true, true, true] ⟨[], [(0, .l (.dat (.str))), (1, .l (.dat (.str))), (5, .l (.dat (.int .i64)))]⟩ [.str, .str, .int .i64] x := by kernel_rfl
theorem strings_Count.eq (m : Nat) (x : Den strings_Count.sig.ts) : strings_Count m x = startF ⟨lookΓ Γl, lookC (strings_Count.cons m), false⟩ Tryd.f124 strings_Count.sig (strings_Count.cuts m) m x := by kernel_rfl
theorem strings_Count.ok (m : Nat) : Meets Tryd.prog 124 strings_Count.sig (strings_Count m) :=
  fn_is (cx_is tyOk mixed (l := strings_Count.cons m) ⟨internal_bytealg_CountString.ok m, strings_Index.ok m, trivial⟩) (fn := Tryd.f124) Tryd.func124 (by kernel_rfl) (cl := strings_Count.cuts m) ⟨⟨by kernel_rfl, fun _ => rfl, fun k x => strings_Count.eq0 m k x⟩, trivial⟩ (k := m) (strings_Count.eq m)

/-! ### strings.genSplit: function 107 -/
abbrev strings_genSplit.R : Type := Den [.list (.str)]
def strings_genSplit.sig : Sig := ⟨4, ⟨[], [(0, .l (.dat (.str))), (1, .l (.dat (.str))), (2, .l (.dat (.int .i64))), (3, .l (.dat (.int .i64)))]⟩, [.str, .str, .int .i64, .int .i64], ⟨[], [(0, .l (.dat (.list (.str))))]⟩, [.list (.str)]⟩
abbrev strings_genSplit.Tab : Type := (Den [.list (.str), .str, .str, .int .i64, .int .i64, .int .i64] → Option strings_genSplit.R) × (Den [.str, .str, .int .i64, .int .i64] → Option strings_genSplit.R) × Unit
def strings_genSplit.start (m : Nat) (t : strings_genSplit.Tab) (x0 : ByteArray) (x1 : ByteArray) (x2 : Int) (x3 : Int) : Option strings_genSplit.R :=
  cond (x3 == (0 : Int)) (some ([], ())) (cond (sEq x1 ByteArray.empty) (none) (cond (decide (x3 < (0 : Int))) (Option.bind (strings_Count m (x0, x1, ())) fun r1 => t.2.1 (x0, x1, x2, (w64 (r1.1 + (1 : Int))), ())) (t.2.1 (x0, x1, x2, x3, ()))))
def strings_genSplit.b0 (m : Nat) (t : strings_genSplit.Tab) (a0 : List ByteArray) (a1 : ByteArray) (a2 : ByteArray) (a3 : Int) (a4 : Int) (a5 : Int) : Option strings_genSplit.R :=
  cond (decide (a5 < a4)) (Option.bind (strings_Index m (a1, a2, ())) fun r1 => cond (decide (r1.1 < (0 : Int))) (cond (decide ((0 : Int) ≤ a5)) (cond (decide (a5 < lLen a0)) (cond (decide ((0 : Int) ≤ (w64 (a5 + (1 : Int))))) (cond (decide ((w64 (a5 + (1 : Int))) ≤ ((List.length (List.set a0 (Int.toNat a5) a1)) : Int))) (lett ((List.take (Int.toNat (w64 (a5 + (1 : Int)))) (List.set a0 (Int.toNat a5) a1)) : List ByteArray) fun v2 => some (v2, ())) none) none) none) none) (cond (decide ((0 : Int) ≤ (w64 (r1.1 + a3)))) (cond (decide ((w64 (r1.1 + a3)) ≤ (ByteArray.size a1 : Int))) (lett ((cutS a1 0 (Int.toNat (w64 (r1.1 + a3)))) : ByteArray) fun v3 => cond (decide ((0 : Int) ≤ a5)) (cond (decide (a5 < lLen a0)) (cond (decide ((0 : Int) ≤ (w64 (r1.1 + (sLen a2))))) (cond (decide ((w64 (r1.1 + (sLen a2))) ≤ (ByteArray.size a1 : Int))) (lett ((cutS a1 (Int.toNat (w64 (r1.1 + (sLen a2)))) (ByteArray.size a1)) : ByteArray) fun v4 => t.1 ((List.set a0 (Int.toNat a5) v3), v4, a2, a3, a4, (w64 (a5 + (1 : Int))), ())) none) none) none) none) none) none)) (cond (decide ((0 : Int) ≤ a5)) (cond (decide (a5 < lLen a0)) (cond (decide ((0 : Int) ≤ (w64 (a5 + (1 : Int))))) (cond (decide ((w64 (a5 + (1 : Int))) ≤ ((List.length (List.set a0 (Int.toNat a5) a1)) : Int))) (lett ((List.take (Int.toNat (w64 (a5 + (1 : Int)))) (List.set a0 (Int.toNat a5) a1)) : List ByteArray) fun v5 => some (v5, ())) none) none) none) none)
def strings_genSplit.b1 (m : Nat) (t : strings_genSplit.Tab) (a0 : ByteArray) (a1 : ByteArray) (a2 : Int) (a3 : Int) : Option strings_genSplit.R :=
  cond (decide ((0 : Int) ≤ (minI a3 (w64 ((sLen a0) + (1 : Int)))))) (cond (decide (Int.toNat (minI a3 (w64 ((sLen a0) + (1 : Int)))) ≤ apCap)) (lett ((List.replicate (Int.toNat (minI a3 (w64 ((sLen a0) + (1 : Int))))) ByteArray.empty) : List ByteArray) fun v1 => lett ((w64 ((minI a3 (w64 ((sLen a0) + (1 : Int)))) - (1 : Int))) : Int) fun v2 => t.1 (v1, a0, a1, a2, v2, (0 : Int), ())) none) none
def strings_genSplit.tab (m : Nat) : Nat → strings_genSplit.Tab
  | 0 => (fun _ => none, fun _ => none, ())
  | k + 1 => (fun x => strings_genSplit.b0 m (strings_genSplit.tab m k) x.1 x.2.1 x.2.2.1 x.2.2.2.1 x.2.2.2.2.1 x.2.2.2.2.2.1, fun x => strings_genSplit.b1 m (strings_genSplit.tab m k) x.1 x.2.1 x.2.2.1 x.2.2.2.1, ())
def strings_genSplit (m : Nat) (x : Den [.str, .str, .int .i64, .int .i64]) : Option strings_genSplit.R := strings_genSplit.start m (strings_genSplit.tab m m) x.1 x.2.1 x.2.2.1 x.2.2.2.1
def strings_genSplit.cons (m : Nat) : List (Nat × Contract) := [(124, ⟨strings_Count.sig, strings_Count m⟩), (125, ⟨strings_Index.sig, strings_Index m⟩)]
def strings_genSplit.cuts (m : Nat) : List (CutF (Den strings_genSplit.sig.us)) := [⟨[false, false, true, true, true, true, true, true, true, true], 2044, ⟨[.row true (.str)], [(0, .l (.dat (.str))), (1, .l (.dat (.str))), (2, .l (.dat (.int .i64))), (3, .l (.dat (.int .i64))), (9, .l (.sl 0)), (10, .l (.dat (.int .i64)))]⟩, [.list (.str), .str, .str, .int .i64, .int .i64, .int .i64], fun k => (strings_genSplit.tab m k).1⟩,
  ⟨[true, true, true, true], 31, ⟨[], [(0, .l (.dat (.str))), (1, .l (.dat (.str))), (2, .l (.dat (.int .i64))), (3, .l (.dat (.int .i64)))]⟩, [.str, .str, .int .i64, .int .i64], fun k => (strings_genSplit.tab m k).2.1⟩]
theorem strings_genSplit.eq0 (m k : Nat) (x : Den [.list (.str), .str, .str, .int .i64, .int .i64, .int .i64]) : (strings_genSplit.tab m (k + 1)).1 x = runF ⟨lookΓ Γl, lookC (strings_genSplit.cons m), false⟩ Tryd.f107 strings_genSplit.sig (strings_genSplit.cuts m) k [false, false, true, true, true, true, true, true, true, true] ⟨[.row true (.str)], [(0, .l (.dat (.str))), (1, .l (.dat (.str))), (2, .l (.dat (.int .i64))), (3, .l (.dat (.int .i64))), (9, .l (.sl 0)), (10, .l (.dat (.int .i64)))]⟩ [.list (.str), .str, .str, .int .i64, .int .i64, .int .i64] x := by kernel_rfl
theorem strings_genSplit.eq1 (m k : Nat) (x : Den [.str, .str, .int .i64, .int .i64]) : (strings_genSplit.tab m (k + 1)).2.1 x = runF ⟨lookΓ Γl, lookC (strings_genSplit.cons m), false⟩ Tryd.f107 strings_genSplit.sig (strings_genSplit.cuts m) k [true, true, true, true] ⟨[], [(0, .l (.dat (.str))), (1, .l (.dat (.str))), (2, .l (.dat (.int .i64))), (3, .l (.dat (.int .i64)))]⟩ [.str, .str, .int .i64, .int .i64] x := by kernel_rfl
theorem strings_genSplit.eq (m : Nat) (x : Den strings_genSplit.sig.ts) : strings_genSplit m x = startF ⟨lookΓ Γl, lookC (strings_genSplit.cons m), false⟩ Tryd.f107 strings_genSplit.sig (strings_genSplit.cuts m) m x := by kernel_rfl
theorem strings_genSplit.ok (m : Nat) : Meets Tryd.prog 107 strings_genSplit.sig (strings_genSplit m) :=
  fn_is (cx_is tyOk mixed (l := strings_genSplit.cons m) ⟨strings_Count.ok m, strings_Index.ok m, trivial⟩) (fn := Tryd.f107) Tryd.func107 (by kernel_rfl) (cl := strings_genSplit.cuts m) ⟨⟨by kernel_rfl, fun _ => rfl, fun k x => strings_genSplit.eq0 m k x⟩, ⟨by kernel_rfl, fun _ => rfl, fun k x => strings_genSplit.eq1 m k x⟩, trivial⟩ (k := m) (strings_genSplit.eq m)

/-! ### strings.Split: function 72 -/
abbrev strings_Split.R : Type := Den [.list (.str)]
def strings_Split.sig : Sig := ⟨2, ⟨[], [(0, .l (.dat (.str))), (1, .l (.dat (.str)))]⟩, [.str, .str], ⟨[], [(0, .l (.dat (.list (.str))))]⟩, [.list (.str)]⟩
abbrev strings_Split.Tab : Type := Unit
def strings_Split.start (m : Nat) (t : strings_Split.Tab) (x0 : ByteArray) (x1 : ByteArray) : Option strings_Split.R :=
  Option.bind (strings_genSplit m (x0, x1, (0 : Int), (-1 : Int), ())) fun r1 => some (r1.1, ())
def strings_Split.tab (m : Nat) : Nat → strings_Split.Tab
  | 0 => (())
  | k + 1 => (())
def strings_Split (m : Nat) (x : Den [.str, .str]) : Option strings_Split.R := strings_Split.start m (strings_Split.tab m m) x.1 x.2.1
def strings_Split.cons (m : Nat) : List (Nat × Contract) := [(107, ⟨strings_genSplit.sig, strings_genSplit m⟩)]
def strings_Split.cuts (m : Nat) : List (CutF (Den strings_Split.sig.us)) := []
theorem strings_Split.eq (m : Nat) (x : Den strings_Split.sig.ts) : strings_Split m x = startF ⟨lookΓ Γl, lookC (strings_Split.cons m), false⟩ Tryd.f72 strings_Split.sig (strings_Split.cuts m) m x := by kernel_rfl
theorem strings_Split.ok (m : Nat) : Meets Tryd.prog 72 strings_Split.sig (strings_Split m) :=
  fn_is (cx_is tyOk mixed (l := strings_Split.cons m) ⟨strings_genSplit.ok m, trivial⟩) (fn := Tryd.f72) Tryd.func72 (by kernel_rfl) (cl := strings_Split.cuts m) trivial (k := m) (strings_Split.eq m)

/-! ### loop.example/stemma/impl.isNameByte: function 87 -/
abbrev impl_isNameByte.R : Type := Den [.bool]
def impl_isNameByte.sig : Sig := ⟨1, ⟨[], [(0, .l (.dat (.int .u8)))]⟩, [.int .u8], ⟨[], [(0, .l (.dat (.bool)))]⟩, [.bool]⟩
abbrev impl_isNameByte.Tab : Type := Unit
def impl_isNameByte.start (m : Nat) (t : impl_isNameByte.Tab) (x0 : Int) : Option impl_isNameByte.R :=
  cond (decide (x0 ≥ (97 : Int))) (cond (decide (x0 ≤ (122 : Int))) (some (true, ())) (cond (decide (x0 ≥ (48 : Int))) (some ((decide (x0 ≤ (57 : Int))), ())) (some (false, ())))) (cond (decide (x0 ≥ (48 : Int))) (some ((decide (x0 ≤ (57 : Int))), ())) (some (false, ())))
def impl_isNameByte.tab (m : Nat) : Nat → impl_isNameByte.Tab
  | 0 => (())
  | k + 1 => (())
def impl_isNameByte (m : Nat) (x : Den [.int .u8]) : Option impl_isNameByte.R := impl_isNameByte.start m (impl_isNameByte.tab m m) x.1
def impl_isNameByte.cons (m : Nat) : List (Nat × Contract) := []
def impl_isNameByte.cuts (m : Nat) : List (CutF (Den impl_isNameByte.sig.us)) := []
theorem impl_isNameByte.eq (m : Nat) (x : Den impl_isNameByte.sig.ts) : impl_isNameByte m x = startF ⟨lookΓ Γl, lookC (impl_isNameByte.cons m), false⟩ Tryd.f87 impl_isNameByte.sig (impl_isNameByte.cuts m) m x := by kernel_rfl
theorem impl_isNameByte.ok (m : Nat) : Meets Tryd.prog 87 impl_isNameByte.sig (impl_isNameByte m) :=
  fn_is (cx_is tyOk mixed (l := impl_isNameByte.cons m) trivial) (fn := Tryd.f87) Tryd.func87 (by kernel_rfl) (cl := impl_isNameByte.cuts m) trivial (k := m) (impl_isNameByte.eq m)

/-! ### loop.example/stemma/impl.within: function 88 -/
abbrev impl_within.R : Type := Den [.bool]
def impl_within.sig : Sig := ⟨3, ⟨[], [(0, .l (.dat (.int .i64))), (1, .l (.dat (.int .i64))), (2, .l (.dat (.int .i64)))]⟩, [.int .i64, .int .i64, .int .i64], ⟨[], [(0, .l (.dat (.bool)))]⟩, [.bool]⟩
abbrev impl_within.Tab : Type := Unit
def impl_within.start (m : Nat) (t : impl_within.Tab) (x0 : Int) (x1 : Int) (x2 : Int) : Option impl_within.R :=
  cond (decide (x0 ≥ x1)) (some ((decide (x0 ≤ x2)), ())) (some (false, ()))
def impl_within.tab (m : Nat) : Nat → impl_within.Tab
  | 0 => (())
  | k + 1 => (())
def impl_within (m : Nat) (x : Den [.int .i64, .int .i64, .int .i64]) : Option impl_within.R := impl_within.start m (impl_within.tab m m) x.1 x.2.1 x.2.2.1
def impl_within.cons (m : Nat) : List (Nat × Contract) := []
def impl_within.cuts (m : Nat) : List (CutF (Den impl_within.sig.us)) := []
theorem impl_within.eq (m : Nat) (x : Den impl_within.sig.ts) : impl_within m x = startF ⟨lookΓ Γl, lookC (impl_within.cons m), false⟩ Tryd.f88 impl_within.sig (impl_within.cuts m) m x := by kernel_rfl
theorem impl_within.ok (m : Nat) : Meets Tryd.prog 88 impl_within.sig (impl_within m) :=
  fn_is (cx_is tyOk mixed (l := impl_within.cons m) trivial) (fn := Tryd.f88) Tryd.func88 (by kernel_rfl) (cl := impl_within.cuts m) trivial (k := m) (impl_within.eq m)

/-! ### loop.example/stemma/impl.nameOk: function 47 -/
abbrev impl_nameOk.R : Type := Den [.bool]
def impl_nameOk.sig : Sig := ⟨1, ⟨[], [(0, .l (.dat (.str)))]⟩, [.str], ⟨[], [(0, .l (.dat (.bool)))]⟩, [.bool]⟩
abbrev impl_nameOk.Tab : Type := (Den [.str, .int .i64, .int .i64] → Option impl_nameOk.R) × Unit
def impl_nameOk.start (m : Nat) (t : impl_nameOk.Tab) (x0 : ByteArray) : Option impl_nameOk.R :=
  t.1 (x0, (sLen x0), (0 : Int), ())
def impl_nameOk.b0 (m : Nat) (t : impl_nameOk.Tab) (a0 : ByteArray) (a1 : Int) (a2 : Int) : Option impl_nameOk.R :=
  cond (decide (a2 < a1)) (cond (decide ((0 : Int) ≤ a2)) (cond (decide (a2 < sLen a0)) (Option.bind (impl_isNameByte m ((byteAt a0 a2), ())) fun r1 => cond (!r1.1) (some (false, ())) (t.1 (a0, a1, (w64 (a2 + (1 : Int))), ()))) none) none) (Option.bind (impl_within m ((sLen a0), (1 : Int), (6 : Int), ())) fun r2 => some (r2.1, ()))
def impl_nameOk.tab (m : Nat) : Nat → impl_nameOk.Tab
  | 0 => (fun _ => none, ())
  | k + 1 => (fun x => impl_nameOk.b0 m (impl_nameOk.tab m k) x.1 x.2.1 x.2.2.1, ())
def impl_nameOk (m : Nat) (x : Den [.str]) : Option impl_nameOk.R := impl_nameOk.start m (impl_nameOk.tab m m) x.1
def impl_nameOk.cons (m : Nat) : List (Nat × Contract) := [(87, ⟨impl_isNameByte.sig, impl_isNameByte m⟩), (88, ⟨impl_within.sig, impl_within m⟩)]
def impl_nameOk.cuts (m : Nat) : List (CutF (Den impl_nameOk.sig.us)) := [⟨[false, true, false, true], 26, ⟨[], [(0, .l (.dat (.str))), (5, .l (.dat (.int .i64))), (6, .l (.dat (.int .i64)))]⟩, [.str, .int .i64, .int .i64], fun k => (impl_nameOk.tab m k).1⟩]
theorem impl_nameOk.eq0 (m k : Nat) (x : Den [.str, .int .i64, .int .i64]) : (impl_nameOk.tab m (k + 1)).1 x = runF ⟨lookΓ Γl, lookC (impl_nameOk.cons m), false⟩ Tryd.f47 impl_nameOk.sig (impl_nameOk.cuts m) k [false, true, false, true] ⟨[], [(0, .l (.dat (.str))), (5, .l (.dat (.int .i64))), (6, .l (.dat (.int .i64)))]⟩ [.str, .int .i64, .int .i64] x := by kernel_rfl
theorem impl_nameOk.eq (m : Nat) (x : Den impl_nameOk.sig.ts) : impl_nameOk m x = startF ⟨lookΓ Γl, lookC (impl_nameOk.cons m), false⟩ Tryd.f47 impl_nameOk.sig (impl_nameOk.cuts m) m x := by kernel_rfl
theorem impl_nameOk.ok (m : Nat) : Meets Tryd.prog 47 impl_nameOk.sig (impl_nameOk m) :=
  fn_is (cx_is tyOk mixed (l := impl_nameOk.cons m) ⟨impl_isNameByte.ok m, impl_within.ok m, trivial⟩) (fn := Tryd.f47) Tryd.func47 (by kernel_rfl) (cl := impl_nameOk.cuts m) ⟨⟨by kernel_rfl, fun _ => rfl, fun k x => impl_nameOk.eq0 m k x⟩, trivial⟩ (k := m) (impl_nameOk.eq m)

/-! ### loop.example/stemma/impl.PathOk$1: function 74 -/
abbrev impl_PathOk_1.R : Type := Den [.bool]
def impl_PathOk_1.sig : Sig := ⟨1, ⟨[], [(0, .l (.dat (.str)))]⟩, [.str], ⟨[], [(0, .l (.dat (.bool)))]⟩, [.bool]⟩
abbrev impl_PathOk_1.Tab : Type := Unit
def impl_PathOk_1.start (m : Nat) (t : impl_PathOk_1.Tab) (x0 : ByteArray) : Option impl_PathOk_1.R :=
  Option.bind (impl_nameOk m (x0, ())) fun r1 => some ((!r1.1), ())
def impl_PathOk_1.tab (m : Nat) : Nat → impl_PathOk_1.Tab
  | 0 => (())
  | k + 1 => (())
def impl_PathOk_1 (m : Nat) (x : Den [.str]) : Option impl_PathOk_1.R := impl_PathOk_1.start m (impl_PathOk_1.tab m m) x.1
def impl_PathOk_1.cons (m : Nat) : List (Nat × Contract) := [(47, ⟨impl_nameOk.sig, impl_nameOk m⟩)]
def impl_PathOk_1.cuts (m : Nat) : List (CutF (Den impl_PathOk_1.sig.us)) := []
theorem impl_PathOk_1.eq (m : Nat) (x : Den impl_PathOk_1.sig.ts) : impl_PathOk_1 m x = startF ⟨lookΓ Γl, lookC (impl_PathOk_1.cons m), false⟩ Tryd.f74 impl_PathOk_1.sig (impl_PathOk_1.cuts m) m x := by kernel_rfl
theorem impl_PathOk_1.ok (m : Nat) : Meets Tryd.prog 74 impl_PathOk_1.sig (impl_PathOk_1 m) :=
  fn_is (cx_is tyOk mixed (l := impl_PathOk_1.cons m) ⟨impl_nameOk.ok m, trivial⟩) (fn := Tryd.f74) Tryd.func74 (by kernel_rfl) (cl := impl_PathOk_1.cuts m) trivial (k := m) (impl_PathOk_1.eq m)

/-! ### slices.IndexFunc[[]string,string]: function 108 -/
abbrev slices_IndexFunc_string_of_impl_PathOk_1.R : Type := Den [.int .i64]
def slices_IndexFunc_string_of_impl_PathOk_1.sig : Sig := ⟨2, ⟨[], [(0, .l (.dat (.list (.str)))), (1, .l (.fn 74 []))]⟩, [.list (.str)], ⟨[], [(0, .l (.dat (.int .i64)))]⟩, [.int .i64]⟩
abbrev slices_IndexFunc_string_of_impl_PathOk_1.Tab : Type := (Den [.list (.str), .int .i64, .int .i64] → Option slices_IndexFunc_string_of_impl_PathOk_1.R) × Unit
def slices_IndexFunc_string_of_impl_PathOk_1.start (m : Nat) (t : slices_IndexFunc_string_of_impl_PathOk_1.Tab) (x0 : List ByteArray) : Option slices_IndexFunc_string_of_impl_PathOk_1.R :=
  t.1 (x0, (lLen x0), (0 : Int), ())
def slices_IndexFunc_string_of_impl_PathOk_1.b0 (m : Nat) (t : slices_IndexFunc_string_of_impl_PathOk_1.Tab) (a0 : List ByteArray) (a1 : Int) (a2 : Int) : Option slices_IndexFunc_string_of_impl_PathOk_1.R :=
  cond (decide (a2 < a1)) (cond (decide ((0 : Int) ≤ a2)) (cond (decide (a2 < lLen a0)) (Option.bind (impl_PathOk_1 m ((getL a0 a2 ByteArray.empty), ())) fun r1 => cond r1.1 (some (a2, ())) (t.1 (a0, a1, (w64 (a2 + (1 : Int))), ()))) none) none) (some ((-1 : Int), ()))
def slices_IndexFunc_string_of_impl_PathOk_1.tab (m : Nat) : Nat → slices_IndexFunc_string_of_impl_PathOk_1.Tab
  | 0 => (fun _ => none, ())
  | k + 1 => (fun x => slices_IndexFunc_string_of_impl_PathOk_1.b0 m (slices_IndexFunc_string_of_impl_PathOk_1.tab m k) x.1 x.2.1 x.2.2.1, ())
def slices_IndexFunc_string_of_impl_PathOk_1 (m : Nat) (x : Den [.list (.str)]) : Option slices_IndexFunc_string_of_impl_PathOk_1.R := slices_IndexFunc_string_of_impl_PathOk_1.start m (slices_IndexFunc_string_of_impl_PathOk_1.tab m m) x.1
def slices_IndexFunc_string_of_impl_PathOk_1.cons (m : Nat) : List (Nat × Contract) := [(74, ⟨impl_PathOk_1.sig, impl_PathOk_1 m⟩)]
def slices_IndexFunc_string_of_impl_PathOk_1.cuts (m : Nat) : List (CutF (Den slices_IndexFunc_string_of_impl_PathOk_1.sig.us)) := [⟨[false, true, false, true], 26, ⟨[], [(0, .l (.dat (.list (.str)))), (1, .l (.fn 74 [])), (7, .l (.dat (.int .i64))), (8, .l (.dat (.int .i64)))]⟩, [.list (.str), .int .i64, .int .i64], fun k => (slices_IndexFunc_string_of_impl_PathOk_1.tab m k).1⟩]
theorem slices_IndexFunc_string_of_impl_PathOk_1.eq0 (m k : Nat) (x : Den [.list (.str), .int .i64, .int .i64]) : (slices_IndexFunc_string_of_impl_PathOk_1.tab m (k + 1)).1 x = runF ⟨lookΓ Γl, lookC (slices_IndexFunc_string_of_impl_PathOk_1.cons m), false⟩ Tryd.f108 slices_IndexFunc_string_of_impl_PathOk_1.sig (slices_IndexFunc_string_of_impl_PathOk_1.cuts m) k [false, true, false, true] ⟨[], [(0, .l (.dat (.list (.str)))), (1, .l (.fn 74 [])), (7, .l (.dat (.int .i64))), (8, .l (.dat (.int .i64)))]⟩ [.list (.str), .int .i64, .int .i64] x := by kernel_rfl
theorem slices_IndexFunc_string_of_impl_PathOk_1.eq (m : Nat) (x : Den slices_IndexFunc_string_of_impl_PathOk_1.sig.ts) : slices_IndexFunc_string_of_impl_PathOk_1 m x = startF ⟨lookΓ Γl, lookC (slices_IndexFunc_string_of_impl_PathOk_1.cons m), false⟩ Tryd.f108 slices_IndexFunc_string_of_impl_PathOk_1.sig (slices_IndexFunc_string_of_impl_PathOk_1.cuts m) m x := by kernel_rfl
theorem slices_IndexFunc_string_of_impl_PathOk_1.ok (m : Nat) : Meets Tryd.prog 108 slices_IndexFunc_string_of_impl_PathOk_1.sig (slices_IndexFunc_string_of_impl_PathOk_1 m) :=
  fn_is (cx_is tyOk mixed (l := slices_IndexFunc_string_of_impl_PathOk_1.cons m) ⟨impl_PathOk_1.ok m, trivial⟩) (fn := Tryd.f108) Tryd.func108 (by kernel_rfl) (cl := slices_IndexFunc_string_of_impl_PathOk_1.cuts m) ⟨⟨by kernel_rfl, fun _ => rfl, fun k x => slices_IndexFunc_string_of_impl_PathOk_1.eq0 m k x⟩, trivial⟩ (k := m) (slices_IndexFunc_string_of_impl_PathOk_1.eq m)

/-! ### slices.ContainsFunc[[]string,string]: function 73 -/
abbrev slices_ContainsFunc_string_of_impl_PathOk_1.R : Type := Den [.bool]
def slices_ContainsFunc_string_of_impl_PathOk_1.sig : Sig := ⟨2, ⟨[], [(0, .l (.dat (.list (.str)))), (1, .l (.fn 74 []))]⟩, [.list (.str)], ⟨[], [(0, .l (.dat (.bool)))]⟩, [.bool]⟩
abbrev slices_ContainsFunc_string_of_impl_PathOk_1.Tab : Type := Unit
def slices_ContainsFunc_string_of_impl_PathOk_1.start (m : Nat) (t : slices_ContainsFunc_string_of_impl_PathOk_1.Tab) (x0 : List ByteArray) : Option slices_ContainsFunc_string_of_impl_PathOk_1.R :=
  Option.bind (slices_IndexFunc_string_of_impl_PathOk_1 m (x0, ())) fun r1 => some ((decide (r1.1 ≥ (0 : Int))), ())
def slices_ContainsFunc_string_of_impl_PathOk_1.tab (m : Nat) : Nat → slices_ContainsFunc_string_of_impl_PathOk_1.Tab
  | 0 => (())
  | k + 1 => (())
def slices_ContainsFunc_string_of_impl_PathOk_1 (m : Nat) (x : Den [.list (.str)]) : Option slices_ContainsFunc_string_of_impl_PathOk_1.R := slices_ContainsFunc_string_of_impl_PathOk_1.start m (slices_ContainsFunc_string_of_impl_PathOk_1.tab m m) x.1
def slices_ContainsFunc_string_of_impl_PathOk_1.cons (m : Nat) : List (Nat × Contract) := [(108, ⟨slices_IndexFunc_string_of_impl_PathOk_1.sig, slices_IndexFunc_string_of_impl_PathOk_1 m⟩)]
def slices_ContainsFunc_string_of_impl_PathOk_1.cuts (m : Nat) : List (CutF (Den slices_ContainsFunc_string_of_impl_PathOk_1.sig.us)) := []
theorem slices_ContainsFunc_string_of_impl_PathOk_1.eq (m : Nat) (x : Den slices_ContainsFunc_string_of_impl_PathOk_1.sig.ts) : slices_ContainsFunc_string_of_impl_PathOk_1 m x = startF ⟨lookΓ Γl, lookC (slices_ContainsFunc_string_of_impl_PathOk_1.cons m), false⟩ Tryd.f73 slices_ContainsFunc_string_of_impl_PathOk_1.sig (slices_ContainsFunc_string_of_impl_PathOk_1.cuts m) m x := by kernel_rfl
theorem slices_ContainsFunc_string_of_impl_PathOk_1.ok (m : Nat) : Meets Tryd.prog 73 slices_ContainsFunc_string_of_impl_PathOk_1.sig (slices_ContainsFunc_string_of_impl_PathOk_1 m) :=
  fn_is (cx_is tyOk mixed (l := slices_ContainsFunc_string_of_impl_PathOk_1.cons m) ⟨slices_IndexFunc_string_of_impl_PathOk_1.ok m, trivial⟩) (fn := Tryd.f73) Tryd.func73 (by kernel_rfl) (cl := slices_ContainsFunc_string_of_impl_PathOk_1.cuts m) trivial (k := m) (slices_ContainsFunc_string_of_impl_PathOk_1.eq m)

/-! ### loop.example/stemma/impl.PathOk: function 31 -/
abbrev impl_PathOk.R : Type := Den [.bool]
def impl_PathOk.sig : Sig := ⟨1, ⟨[], [(0, .l (.dat (.str)))]⟩, [.str], ⟨[], [(0, .l (.dat (.bool)))]⟩, [.bool]⟩
abbrev impl_PathOk.Tab : Type := Unit
def impl_PathOk.start (m : Nat) (t : impl_PathOk.Tab) (x0 : ByteArray) : Option impl_PathOk.R :=
  Option.bind (strings_Split m (x0, s_2f, ())) fun r1 => cond (decide ((lLen r1.1) ≤ (3 : Int))) (Option.bind (slices_ContainsFunc_string_of_impl_PathOk_1 m (r1.1, ())) fun r2 => some ((!r2.1), ())) (some (false, ()))
def impl_PathOk.tab (m : Nat) : Nat → impl_PathOk.Tab
  | 0 => (())
  | k + 1 => (())
def impl_PathOk (m : Nat) (x : Den [.str]) : Option impl_PathOk.R := impl_PathOk.start m (impl_PathOk.tab m m) x.1
def impl_PathOk.cons (m : Nat) : List (Nat × Contract) := [(72, ⟨strings_Split.sig, strings_Split m⟩), (73, ⟨slices_ContainsFunc_string_of_impl_PathOk_1.sig, slices_ContainsFunc_string_of_impl_PathOk_1 m⟩)]
def impl_PathOk.cuts (m : Nat) : List (CutF (Den impl_PathOk.sig.us)) := []
theorem impl_PathOk.eq (m : Nat) (x : Den impl_PathOk.sig.ts) : impl_PathOk m x = startF ⟨lookΓ Γl, lookC (impl_PathOk.cons m), false⟩ Tryd.f31 impl_PathOk.sig (impl_PathOk.cuts m) m x := by kernel_rfl
theorem impl_PathOk.ok (m : Nat) : Meets Tryd.prog 31 impl_PathOk.sig (impl_PathOk m) :=
  fn_is (cx_is tyOk mixed (l := impl_PathOk.cons m) ⟨strings_Split.ok m, slices_ContainsFunc_string_of_impl_PathOk_1.ok m, trivial⟩) (fn := Tryd.f31) Tryd.func31 (by kernel_rfl) (cl := impl_PathOk.cuts m) trivial (k := m) (impl_PathOk.eq m)

/-! ### loop.example/stemma/impl.lineOk: function 105 -/
abbrev impl_lineOk.R : Type := Den [.bool]
def impl_lineOk.sig : Sig := ⟨1, ⟨[], [(0, .l (.dat (.str)))]⟩, [.str], ⟨[], [(0, .l (.dat (.bool)))]⟩, [.bool]⟩
abbrev impl_lineOk.Tab : Type := (Den [.str, .int .i64, .int .i64] → Option impl_lineOk.R) × Unit
def impl_lineOk.start (m : Nat) (t : impl_lineOk.Tab) (x0 : ByteArray) : Option impl_lineOk.R :=
  t.1 (x0, (sLen x0), (0 : Int), ())
def impl_lineOk.b0 (m : Nat) (t : impl_lineOk.Tab) (a0 : ByteArray) (a1 : Int) (a2 : Int) : Option impl_lineOk.R :=
  cond (decide (a2 < a1)) (cond (decide ((0 : Int) ≤ a2)) (cond (decide (a2 < sLen a0)) (cond (decide ((byteAt a0 a2) < (32 : Int))) (some (false, ())) (cond (decide ((0 : Int) ≤ a2)) (cond (decide (a2 < sLen a0)) (cond (decide ((byteAt a0 a2) > (126 : Int))) (some (false, ())) (t.1 (a0, a1, (w64 (a2 + (1 : Int))), ()))) none) none)) none) none) (some ((decide ((sLen a0) ≤ (12 : Int))), ()))
def impl_lineOk.tab (m : Nat) : Nat → impl_lineOk.Tab
  | 0 => (fun _ => none, ())
  | k + 1 => (fun x => impl_lineOk.b0 m (impl_lineOk.tab m k) x.1 x.2.1 x.2.2.1, ())
def impl_lineOk (m : Nat) (x : Den [.str]) : Option impl_lineOk.R := impl_lineOk.start m (impl_lineOk.tab m m) x.1
def impl_lineOk.cons (m : Nat) : List (Nat × Contract) := []
def impl_lineOk.cuts (m : Nat) : List (CutF (Den impl_lineOk.sig.us)) := [⟨[false, true, false, true], 26, ⟨[], [(0, .l (.dat (.str))), (5, .l (.dat (.int .i64))), (6, .l (.dat (.int .i64)))]⟩, [.str, .int .i64, .int .i64], fun k => (impl_lineOk.tab m k).1⟩]
theorem impl_lineOk.eq0 (m k : Nat) (x : Den [.str, .int .i64, .int .i64]) : (impl_lineOk.tab m (k + 1)).1 x = runF ⟨lookΓ Γl, lookC (impl_lineOk.cons m), false⟩ Tryd.f105 impl_lineOk.sig (impl_lineOk.cuts m) k [false, true, false, true] ⟨[], [(0, .l (.dat (.str))), (5, .l (.dat (.int .i64))), (6, .l (.dat (.int .i64)))]⟩ [.str, .int .i64, .int .i64] x := by kernel_rfl
theorem impl_lineOk.eq (m : Nat) (x : Den impl_lineOk.sig.ts) : impl_lineOk m x = startF ⟨lookΓ Γl, lookC (impl_lineOk.cons m), false⟩ Tryd.f105 impl_lineOk.sig (impl_lineOk.cuts m) m x := by kernel_rfl
theorem impl_lineOk.ok (m : Nat) : Meets Tryd.prog 105 impl_lineOk.sig (impl_lineOk m) :=
  fn_is (cx_is tyOk mixed (l := impl_lineOk.cons m) trivial) (fn := Tryd.f105) Tryd.func105 (by kernel_rfl) (cl := impl_lineOk.cuts m) ⟨⟨by kernel_rfl, fun _ => rfl, fun k x => impl_lineOk.eq0 m k x⟩, trivial⟩ (k := m) (impl_lineOk.eq m)

/-! ### loop.example/stemma/impl.TextOk$1: function 104 -/
abbrev impl_TextOk_1.R : Type := Den [.bool]
def impl_TextOk_1.sig : Sig := ⟨1, ⟨[], [(0, .l (.dat (.str)))]⟩, [.str], ⟨[], [(0, .l (.dat (.bool)))]⟩, [.bool]⟩
abbrev impl_TextOk_1.Tab : Type := Unit
def impl_TextOk_1.start (m : Nat) (t : impl_TextOk_1.Tab) (x0 : ByteArray) : Option impl_TextOk_1.R :=
  Option.bind (impl_lineOk m (x0, ())) fun r1 => some ((!r1.1), ())
def impl_TextOk_1.tab (m : Nat) : Nat → impl_TextOk_1.Tab
  | 0 => (())
  | k + 1 => (())
def impl_TextOk_1 (m : Nat) (x : Den [.str]) : Option impl_TextOk_1.R := impl_TextOk_1.start m (impl_TextOk_1.tab m m) x.1
def impl_TextOk_1.cons (m : Nat) : List (Nat × Contract) := [(105, ⟨impl_lineOk.sig, impl_lineOk m⟩)]
def impl_TextOk_1.cuts (m : Nat) : List (CutF (Den impl_TextOk_1.sig.us)) := []
theorem impl_TextOk_1.eq (m : Nat) (x : Den impl_TextOk_1.sig.ts) : impl_TextOk_1 m x = startF ⟨lookΓ Γl, lookC (impl_TextOk_1.cons m), false⟩ Tryd.f104 impl_TextOk_1.sig (impl_TextOk_1.cuts m) m x := by kernel_rfl
theorem impl_TextOk_1.ok (m : Nat) : Meets Tryd.prog 104 impl_TextOk_1.sig (impl_TextOk_1 m) :=
  fn_is (cx_is tyOk mixed (l := impl_TextOk_1.cons m) ⟨impl_lineOk.ok m, trivial⟩) (fn := Tryd.f104) Tryd.func104 (by kernel_rfl) (cl := impl_TextOk_1.cuts m) trivial (k := m) (impl_TextOk_1.eq m)

/-! ### slices.IndexFunc[[]string,string]: function 108 -/
abbrev slices_IndexFunc_string_of_impl_TextOk_1.R : Type := Den [.int .i64]
def slices_IndexFunc_string_of_impl_TextOk_1.sig : Sig := ⟨2, ⟨[], [(0, .l (.dat (.list (.str)))), (1, .l (.fn 104 []))]⟩, [.list (.str)], ⟨[], [(0, .l (.dat (.int .i64)))]⟩, [.int .i64]⟩
abbrev slices_IndexFunc_string_of_impl_TextOk_1.Tab : Type := (Den [.list (.str), .int .i64, .int .i64] → Option slices_IndexFunc_string_of_impl_TextOk_1.R) × Unit
def slices_IndexFunc_string_of_impl_TextOk_1.start (m : Nat) (t : slices_IndexFunc_string_of_impl_TextOk_1.Tab) (x0 : List ByteArray) : Option slices_IndexFunc_string_of_impl_TextOk_1.R :=
  t.1 (x0, (lLen x0), (0 : Int), ())
def slices_IndexFunc_string_of_impl_TextOk_1.b0 (m : Nat) (t : slices_IndexFunc_string_of_impl_TextOk_1.Tab) (a0 : List ByteArray) (a1 : Int) (a2 : Int) : Option slices_IndexFunc_string_of_impl_TextOk_1.R :=
  cond (decide (a2 < a1)) (cond (decide ((0 : Int) ≤ a2)) (cond (decide (a2 < lLen a0)) (Option.bind (impl_TextOk_1 m ((getL a0 a2 ByteArray.empty), ())) fun r1 => cond r1.1 (some (a2, ())) (t.1 (a0, a1, (w64 (a2 + (1 : Int))), ()))) none) none) (some ((-1 : Int), ()))
def slices_IndexFunc_string_of_impl_TextOk_1.tab (m : Nat) : Nat → slices_IndexFunc_string_of_impl_TextOk_1.Tab
  | 0 => (fun _ => none, ())
  | k + 1 => (fun x => slices_IndexFunc_string_of_impl_TextOk_1.b0 m (slices_IndexFunc_string_of_impl_TextOk_1.tab m k) x.1 x.2.1 x.2.2.1, ())
def slices_IndexFunc_string_of_impl_TextOk_1 (m : Nat) (x : Den [.list (.str)]) : Option slices_IndexFunc_string_of_impl_TextOk_1.R := slices_IndexFunc_string_of_impl_TextOk_1.start m (slices_IndexFunc_string_of_impl_TextOk_1.tab m m) x.1
def slices_IndexFunc_string_of_impl_TextOk_1.cons (m : Nat) : List (Nat × Contract) := [(104, ⟨impl_TextOk_1.sig, impl_TextOk_1 m⟩)]
def slices_IndexFunc_string_of_impl_TextOk_1.cuts (m : Nat) : List (CutF (Den slices_IndexFunc_string_of_impl_TextOk_1.sig.us)) := [⟨[false, true, false, true], 26, ⟨[], [(0, .l (.dat (.list (.str)))), (1, .l (.fn 104 [])), (7, .l (.dat (.int .i64))), (8, .l (.dat (.int .i64)))]⟩, [.list (.str), .int .i64, .int .i64], fun k => (slices_IndexFunc_string_of_impl_TextOk_1.tab m k).1⟩]
theorem slices_IndexFunc_string_of_impl_TextOk_1.eq0 (m k : Nat) (x : Den [.list (.str), .int .i64, .int .i64]) : (slices_IndexFunc_string_of_impl_TextOk_1.tab m (k + 1)).1 x = runF ⟨lookΓ Γl, lookC (slices_IndexFunc_string_of_impl_TextOk_1.cons m), false⟩ Tryd.f108 slices_IndexFunc_string_of_impl_TextOk_1.sig (slices_IndexFunc_string_of_impl_TextOk_1.cuts m) k [false, true, false, true] ⟨[], [(0, .l (.dat (.list (.str)))), (1, .l (.fn 104 [])), (7, .l (.dat (.int .i64))), (8, .l (.dat (.int .i64)))]⟩ [.list (.str), .int .i64, .int .i64] x := by kernel_rfl
theorem slices_IndexFunc_string_of_impl_TextOk_1.eq (m : Nat) (x : Den slices_IndexFunc_string_of_impl_TextOk_1.sig.ts) : slices_IndexFunc_string_of_impl_TextOk_1 m x = startF ⟨lookΓ Γl, lookC (slices_IndexFunc_string_of_impl_TextOk_1.cons m), false⟩ Tryd.f108 slices_IndexFunc_string_of_impl_TextOk_1.sig (slices_IndexFunc_string_of_impl_TextOk_1.cuts m) m x := by kernel_rfl
theorem slices_IndexFunc_string_of_impl_TextOk_1.ok (m : Nat) : Meets Tryd.prog 108 slices_IndexFunc_string_of_impl_TextOk_1.sig (slices_IndexFunc_string_of_impl_TextOk_1 m) :=
  fn_is (cx_is tyOk mixed (l := slices_IndexFunc_string_of_impl_TextOk_1.cons m) ⟨impl_TextOk_1.ok m, trivial⟩) (fn := Tryd.f108) Tryd.func108 (by kernel_rfl) (cl := slices_IndexFunc_string_of_impl_TextOk_1.cuts m) ⟨⟨by kernel_rfl, fun _ => rfl, fun k x => slices_IndexFunc_string_of_impl_TextOk_1.eq0 m k x⟩, trivial⟩ (k := m) (slices_IndexFunc_string_of_impl_TextOk_1.eq m)

/-! ### slices.ContainsFunc[[]string,string]: function 73 -/
abbrev slices_ContainsFunc_string_of_impl_TextOk_1.R : Type := Den [.bool]
def slices_ContainsFunc_string_of_impl_TextOk_1.sig : Sig := ⟨2, ⟨[], [(0, .l (.dat (.list (.str)))), (1, .l (.fn 104 []))]⟩, [.list (.str)], ⟨[], [(0, .l (.dat (.bool)))]⟩, [.bool]⟩
abbrev slices_ContainsFunc_string_of_impl_TextOk_1.Tab : Type := Unit
def slices_ContainsFunc_string_of_impl_TextOk_1.start (m : Nat) (t : slices_ContainsFunc_string_of_impl_TextOk_1.Tab) (x0 : List ByteArray) : Option slices_ContainsFunc_string_of_impl_TextOk_1.R :=
  Option.bind (slices_IndexFunc_string_of_impl_TextOk_1 m (x0, ())) fun r1 => some ((decide (r1.1 ≥ (0 : Int))), ())
def slices_ContainsFunc_string_of_impl_TextOk_1.tab (m : Nat) : Nat → slices_ContainsFunc_string_of_impl_TextOk_1.Tab
  | 0 => (())
  | k + 1 => (())
def slices_ContainsFunc_string_of_impl_TextOk_1 (m : Nat) (x : Den [.list (.str)]) : Option slices_ContainsFunc_string_of_impl_TextOk_1.R := slices_ContainsFunc_string_of_impl_TextOk_1.start m (slices_ContainsFunc_string_of_impl_TextOk_1.tab m m) x.1
def slices_ContainsFunc_string_of_impl_TextOk_1.cons (m : Nat) : List (Nat × Contract) := [(108, ⟨slices_IndexFunc_string_of_impl_TextOk_1.sig, slices_IndexFunc_string_of_impl_TextOk_1 m⟩)]
def slices_ContainsFunc_string_of_impl_TextOk_1.cuts (m : Nat) : List (CutF (Den slices_ContainsFunc_string_of_impl_TextOk_1.sig.us)) := []
theorem slices_ContainsFunc_string_of_impl_TextOk_1.eq (m : Nat) (x : Den slices_ContainsFunc_string_of_impl_TextOk_1.sig.ts) : slices_ContainsFunc_string_of_impl_TextOk_1 m x = startF ⟨lookΓ Γl, lookC (slices_ContainsFunc_string_of_impl_TextOk_1.cons m), false⟩ Tryd.f73 slices_ContainsFunc_string_of_impl_TextOk_1.sig (slices_ContainsFunc_string_of_impl_TextOk_1.cuts m) m x := by kernel_rfl
theorem slices_ContainsFunc_string_of_impl_TextOk_1.ok (m : Nat) : Meets Tryd.prog 73 slices_ContainsFunc_string_of_impl_TextOk_1.sig (slices_ContainsFunc_string_of_impl_TextOk_1 m) :=
  fn_is (cx_is tyOk mixed (l := slices_ContainsFunc_string_of_impl_TextOk_1.cons m) ⟨slices_IndexFunc_string_of_impl_TextOk_1.ok m, trivial⟩) (fn := Tryd.f73) Tryd.func73 (by kernel_rfl) (cl := slices_ContainsFunc_string_of_impl_TextOk_1.cuts m) trivial (k := m) (slices_ContainsFunc_string_of_impl_TextOk_1.eq m)

/-! ### loop.example/stemma/impl.TextOk: function 69 -/
abbrev impl_TextOk.R : Type := Den [.bool]
def impl_TextOk.sig : Sig := ⟨1, ⟨[], [(0, .l (.dat (.list (.str))))]⟩, [.list (.str)], ⟨[], [(0, .l (.dat (.bool)))]⟩, [.bool]⟩
abbrev impl_TextOk.Tab : Type := Unit
def impl_TextOk.start (m : Nat) (t : impl_TextOk.Tab) (x0 : List ByteArray) : Option impl_TextOk.R :=
  cond (decide ((lLen x0) ≤ (10 : Int))) (Option.bind (slices_ContainsFunc_string_of_impl_TextOk_1 m (x0, ())) fun r1 => some ((!r1.1), ())) (some (false, ()))
def impl_TextOk.tab (m : Nat) : Nat → impl_TextOk.Tab
  | 0 => (())
  | k + 1 => (())
def impl_TextOk (m : Nat) (x : Den [.list (.str)]) : Option impl_TextOk.R := impl_TextOk.start m (impl_TextOk.tab m m) x.1
def impl_TextOk.cons (m : Nat) : List (Nat × Contract) := [(73, ⟨slices_ContainsFunc_string_of_impl_TextOk_1.sig, slices_ContainsFunc_string_of_impl_TextOk_1 m⟩)]
def impl_TextOk.cuts (m : Nat) : List (CutF (Den impl_TextOk.sig.us)) := []
theorem impl_TextOk.eq (m : Nat) (x : Den impl_TextOk.sig.ts) : impl_TextOk m x = startF ⟨lookΓ Γl, lookC (impl_TextOk.cons m), false⟩ Tryd.f69 impl_TextOk.sig (impl_TextOk.cuts m) m x := by kernel_rfl
theorem impl_TextOk.ok (m : Nat) : Meets Tryd.prog 69 impl_TextOk.sig (impl_TextOk m) :=
  fn_is (cx_is tyOk mixed (l := impl_TextOk.cons m) ⟨slices_ContainsFunc_string_of_impl_TextOk_1.ok m, trivial⟩) (fn := Tryd.f69) Tryd.func69 (by kernel_rfl) (cl := impl_TextOk.cuts m) trivial (k := m) (impl_TextOk.eq m)

/-! ### internal/stringslite.HasPrefix: function 122 -/
abbrev internal_stringslite_HasPrefix.R : Type := Den [.bool]
def internal_stringslite_HasPrefix.sig : Sig := ⟨2, ⟨[], [(0, .l (.dat (.str))), (1, .l (.dat (.str)))]⟩, [.str, .str], ⟨[], [(0, .l (.dat (.bool)))]⟩, [.bool]⟩
abbrev internal_stringslite_HasPrefix.Tab : Type := Unit
def internal_stringslite_HasPrefix.start (m : Nat) (t : internal_stringslite_HasPrefix.Tab) (x0 : ByteArray) (x1 : ByteArray) : Option internal_stringslite_HasPrefix.R :=
  cond (decide ((sLen x0) ≥ (sLen x1))) (cond (decide ((0 : Int) ≤ (sLen x1))) (cond (decide ((sLen x1) ≤ (ByteArray.size x0 : Int))) (lett ((sEq (cutS x0 0 (Int.toNat (sLen x1))) x1) : Bool) fun v1 => some (v1, ())) none) none) (some (false, ()))
def internal_stringslite_HasPrefix.tab (m : Nat) : Nat → internal_stringslite_HasPrefix.Tab
  | 0 => (())
  | k + 1 => (())
def internal_stringslite_HasPrefix (m : Nat) (x : Den [.str, .str]) : Option internal_stringslite_HasPrefix.R := internal_stringslite_HasPrefix.start m (internal_stringslite_HasPrefix.tab m m) x.1 x.2.1
def internal_stringslite_HasPrefix.cons (m : Nat) : List (Nat × Contract) := []
def internal_stringslite_HasPrefix.cuts (m : Nat) : List (CutF (Den internal_stringslite_HasPrefix.sig.us)) := []
theorem internal_stringslite_HasPrefix.eq (m : Nat) (x : Den internal_stringslite_HasPrefix.sig.ts) : internal_stringslite_HasPrefix m x = startF ⟨lookΓ Γl, lookC (internal_stringslite_HasPrefix.cons m), false⟩ Tryd.f122 internal_stringslite_HasPrefix.sig (internal_stringslite_HasPrefix.cuts m) m x := by kernel_rfl
theorem internal_stringslite_HasPrefix.ok (m : Nat) : Meets Tryd.prog 122 internal_stringslite_HasPrefix.sig (internal_stringslite_HasPrefix m) :=
  fn_is (cx_is tyOk mixed (l := internal_stringslite_HasPrefix.cons m) trivial) (fn := Tryd.f122) Tryd.func122 (by kernel_rfl) (cl := internal_stringslite_HasPrefix.cuts m) trivial (k := m) (internal_stringslite_HasPrefix.eq m)

/-! ### strings.HasPrefix: function 106 -/
abbrev strings_HasPrefix.R : Type := Den [.bool]
def strings_HasPrefix.sig : Sig := ⟨2, ⟨[], [(0, .l (.dat (.str))), (1, .l (.dat (.str)))]⟩, [.str, .str], ⟨[], [(0, .l (.dat (.bool)))]⟩, [.bool]⟩
abbrev strings_HasPrefix.Tab : Type := Unit
def strings_HasPrefix.start (m : Nat) (t : strings_HasPrefix.Tab) (x0 : ByteArray) (x1 : ByteArray) : Option strings_HasPrefix.R :=
  Option.bind (internal_stringslite_HasPrefix m (x0, x1, ())) fun r1 => some (r1.1, ())
def strings_HasPrefix.tab (m : Nat) : Nat → strings_HasPrefix.Tab
  | 0 => (())
  | k + 1 => (())
def strings_HasPrefix (m : Nat) (x : Den [.str, .str]) : Option strings_HasPrefix.R := strings_HasPrefix.start m (strings_HasPrefix.tab m m) x.1 x.2.1
def strings_HasPrefix.cons (m : Nat) : List (Nat × Contract) := [(122, ⟨internal_stringslite_HasPrefix.sig, internal_stringslite_HasPrefix m⟩)]
def strings_HasPrefix.cuts (m : Nat) : List (CutF (Den strings_HasPrefix.sig.us)) := []
theorem strings_HasPrefix.eq (m : Nat) (x : Den strings_HasPrefix.sig.ts) : strings_HasPrefix m x = startF ⟨lookΓ Γl, lookC (strings_HasPrefix.cons m), false⟩ Tryd.f106 strings_HasPrefix.sig (strings_HasPrefix.cuts m) m x := by kernel_rfl
theorem strings_HasPrefix.ok (m : Nat) : Meets Tryd.prog 106 strings_HasPrefix.sig (strings_HasPrefix m) :=
  fn_is (cx_is tyOk mixed (l := strings_HasPrefix.cons m) ⟨internal_stringslite_HasPrefix.ok m, trivial⟩) (fn := Tryd.f106) Tryd.func106 (by kernel_rfl) (cl := strings_HasPrefix.cuts m) trivial (k := m) (strings_HasPrefix.eq m)

/-! ### loop.example/stemma/impl.PathIn: function 71 -/
abbrev impl_PathIn.R : Type := Den [.bool]
def impl_PathIn.sig : Sig := ⟨2, ⟨[], [(0, .l (.dat (.str))), (1, .l (.dat (.str)))]⟩, [.str, .str], ⟨[], [(0, .l (.dat (.bool)))]⟩, [.bool]⟩
abbrev impl_PathIn.Tab : Type := Unit
def impl_PathIn.start (m : Nat) (t : impl_PathIn.Tab) (x0 : ByteArray) (x1 : ByteArray) : Option impl_PathIn.R :=
  Option.bind (impl_PathOk m (x0, ())) fun r1 => cond r1.1 (Option.bind (impl_PathOk m (x1, ())) fun r2 => cond r2.1 (cond (decide (ByteArray.size x0 + ByteArray.size s_2f ≤ cap)) (Option.bind (strings_HasPrefix m (x1, (ByteArray.append x0 s_2f), ())) fun r3 => some (r3.1, ())) none) (some (false, ()))) (some (false, ()))
def impl_PathIn.tab (m : Nat) : Nat → impl_PathIn.Tab
  | 0 => (())
  | k + 1 => (())
def impl_PathIn (m : Nat) (x : Den [.str, .str]) : Option impl_PathIn.R := impl_PathIn.start m (impl_PathIn.tab m m) x.1 x.2.1
def impl_PathIn.cons (m : Nat) : List (Nat × Contract) := [(31, ⟨impl_PathOk.sig, impl_PathOk m⟩), (106, ⟨strings_HasPrefix.sig, strings_HasPrefix m⟩)]
def impl_PathIn.cuts (m : Nat) : List (CutF (Den impl_PathIn.sig.us)) := []
theorem impl_PathIn.eq (m : Nat) (x : Den impl_PathIn.sig.ts) : impl_PathIn m x = startF ⟨lookΓ Γl, lookC (impl_PathIn.cons m), false⟩ Tryd.f71 impl_PathIn.sig (impl_PathIn.cuts m) m x := by kernel_rfl
theorem impl_PathIn.ok (m : Nat) : Meets Tryd.prog 71 impl_PathIn.sig (impl_PathIn m) :=
  fn_is (cx_is tyOk mixed (l := impl_PathIn.cons m) ⟨impl_PathOk.ok m, strings_HasPrefix.ok m, trivial⟩) (fn := Tryd.f71) Tryd.func71 (by kernel_rfl) (cl := impl_PathIn.cuts m) trivial (k := m) (impl_PathIn.eq m)

/-! ### loop.example/stemma/impl.TreeOk$1: function 70 -/
abbrev impl_TreeOk_1_v0.R : Type := Den [.str, .list (.str), .bool]
def impl_TreeOk_1_v0.sig : Sig := ⟨2, ⟨[.box [.dat (.str), .dat (.list (.str))]], [(0, .agg [.dat (.str), .dat (.list (.str))]), (1, .l (.ptr 0 0))]⟩, [.str, .list (.str), .str, .list (.str)], ⟨[.box [.dat (.str), .dat (.list (.str))]], [(0, .l (.dat (.bool)))]⟩, [.str, .list (.str), .bool]⟩
abbrev impl_TreeOk_1_v0.Tab : Type := Unit
def impl_TreeOk_1_v0.start (m : Nat) (t : impl_TreeOk_1_v0.Tab) (x0 : ByteArray) (x1 : List ByteArray) (x2 : ByteArray) (x3 : List ByteArray) : Option impl_TreeOk_1_v0.R :=
  Option.bind (impl_PathIn m (x2, x0, ())) fun r1 => some (x0, x1, r1.1, ())
def impl_TreeOk_1_v0.tab (m : Nat) : Nat → impl_TreeOk_1_v0.Tab
  | 0 => (())
  | k + 1 => (())
def impl_TreeOk_1_v0 (m : Nat) (x : Den [.str, .list (.str), .str, .list (.str)]) : Option impl_TreeOk_1_v0.R := impl_TreeOk_1_v0.start m (impl_TreeOk_1_v0.tab m m) x.1 x.2.1 x.2.2.1 x.2.2.2.1
def impl_TreeOk_1_v0.cons (m : Nat) : List (Nat × Contract) := [(71, ⟨impl_PathIn.sig, impl_PathIn m⟩)]
def impl_TreeOk_1_v0.cuts (m : Nat) : List (CutF (Den impl_TreeOk_1_v0.sig.us)) := []
theorem impl_TreeOk_1_v0.eq (m : Nat) (x : Den impl_TreeOk_1_v0.sig.ts) : impl_TreeOk_1_v0 m x = startF ⟨lookΓ Γl, lookC (impl_TreeOk_1_v0.cons m), false⟩ Tryd.f70 impl_TreeOk_1_v0.sig (impl_TreeOk_1_v0.cuts m) m x := by kernel_rfl
theorem impl_TreeOk_1_v0.ok (m : Nat) : Meets Tryd.prog 70 impl_TreeOk_1_v0.sig (impl_TreeOk_1_v0 m) :=
  fn_is (cx_is tyOk mixed (l := impl_TreeOk_1_v0.cons m) ⟨impl_PathIn.ok m, trivial⟩) (fn := Tryd.f70) Tryd.func70 (by kernel_rfl) (cl := impl_TreeOk_1_v0.cuts m) trivial (k := m) (impl_TreeOk_1_v0.eq m)

/-! ### slices.IndexFunc[[]loop.example/stemma/impl.File,loop.example/stemma/impl.File]: function 92 -/
abbrev slices_IndexFunc_File_of_impl_TreeOk_1.R : Type := Den [.str, .list (.str), .int .i64]
def slices_IndexFunc_File_of_impl_TreeOk_1.sig : Sig := ⟨2, ⟨[.box [.dat (.str), .dat (.list (.str))]], [(0, .l (.dat (.list (.pair (.str) (.list (.str)))))), (1, .l (.fn 70 [0]))]⟩, [.str, .list (.str), .list (.pair (.str) (.list (.str)))], ⟨[.box [.dat (.str), .dat (.list (.str))]], [(0, .l (.dat (.int .i64)))]⟩, [.str, .list (.str), .int .i64]⟩
abbrev slices_IndexFunc_File_of_impl_TreeOk_1.Tab : Type := (Den [.str, .list (.str), .list (.pair (.str) (.list (.str))), .int .i64, .int .i64] → Option slices_IndexFunc_File_of_impl_TreeOk_1.R) × Unit
def slices_IndexFunc_File_of_impl_TreeOk_1.start (m : Nat) (t : slices_IndexFunc_File_of_impl_TreeOk_1.Tab) (x0 : ByteArray) (x1 : List ByteArray) (x2 : List (ByteArray × List ByteArray)) : Option slices_IndexFunc_File_of_impl_TreeOk_1.R :=
  t.1 (x0, x1, x2, (lLen x2), (0 : Int), ())
def slices_IndexFunc_File_of_impl_TreeOk_1.b0 (m : Nat) (t : slices_IndexFunc_File_of_impl_TreeOk_1.Tab) (a0 : ByteArray) (a1 : List ByteArray) (a2 : List (ByteArray × List ByteArray)) (a3 : Int) (a4 : Int) : Option slices_IndexFunc_File_of_impl_TreeOk_1.R :=
  cond (decide (a4 < a3)) (cond (decide ((0 : Int) ≤ a4)) (cond (decide (a4 < lLen a2)) (lett ((getL a2 a4 (ByteArray.empty, ([] : List ByteArray))) : ByteArray × List ByteArray) fun v1 => Option.bind (impl_TreeOk_1_v0 m (a0, a1, v1.1, v1.2, ())) fun r2 => cond r2.2.2.1 (some (r2.1, r2.2.1, a4, ())) (t.1 (r2.1, r2.2.1, a2, a3, (w64 (a4 + (1 : Int))), ()))) none) none) (some (a0, a1, (-1 : Int), ()))
def slices_IndexFunc_File_of_impl_TreeOk_1.tab (m : Nat) : Nat → slices_IndexFunc_File_of_impl_TreeOk_1.Tab
  | 0 => (fun _ => none, ())
  | k + 1 => (fun x => slices_IndexFunc_File_of_impl_TreeOk_1.b0 m (slices_IndexFunc_File_of_impl_TreeOk_1.tab m k) x.1 x.2.1 x.2.2.1 x.2.2.2.1 x.2.2.2.2.1, ())
def slices_IndexFunc_File_of_impl_TreeOk_1 (m : Nat) (x : Den [.str, .list (.str), .list (.pair (.str) (.list (.str)))]) : Option slices_IndexFunc_File_of_impl_TreeOk_1.R := slices_IndexFunc_File_of_impl_TreeOk_1.start m (slices_IndexFunc_File_of_impl_TreeOk_1.tab m m) x.1 x.2.1 x.2.2.1
def slices_IndexFunc_File_of_impl_TreeOk_1.cons (m : Nat) : List (Nat × Contract) := [(70, ⟨impl_TreeOk_1_v0.sig, impl_TreeOk_1_v0 m⟩)]
def slices_IndexFunc_File_of_impl_TreeOk_1.cuts (m : Nat) : List (CutF (Den slices_IndexFunc_File_of_impl_TreeOk_1.sig.us)) := [⟨[false, true, false, true], 26, ⟨[.box [.dat (.str), .dat (.list (.str))]], [(0, .l (.dat (.list (.pair (.str) (.list (.str)))))), (1, .l (.fn 70 [0])), (7, .l (.dat (.int .i64))), (8, .l (.dat (.int .i64)))]⟩, [.str, .list (.str), .list (.pair (.str) (.list (.str))), .int .i64, .int .i64], fun k => (slices_IndexFunc_File_of_impl_TreeOk_1.tab m k).1⟩]
theorem slices_IndexFunc_File_of_impl_TreeOk_1.eq0 (m k : Nat) (x : Den [.str, .list (.str), .list (.pair (.str) (.list (.str))), .int .i64, .int .i64]) : (slices_IndexFunc_File_of_impl_TreeOk_1.tab m (k + 1)).1 x = runF ⟨lookΓ Γl, lookC (slices_IndexFunc_File_of_impl_TreeOk_1.cons m), false⟩ Tryd.f92 slices_IndexFunc_File_of_impl_TreeOk_1.sig (slices_IndexFunc_File_of_impl_TreeOk_1.cuts m) k [false, true, false, true] ⟨[.box [.dat (.str), .dat (.list (.str))]], [(0, .l (.dat (.list (.pair (.str) (.list (.str)))))), (1, .l (.fn 70 [0])), (7, .l (.dat (.int .i64))), (8, .l (.dat (.int .i64)))]⟩ [.str, .list (.str), .list (.pair (.str) (.list (.str))), .int .i64, .int .i64] x := by kernel_rfl
theorem slices_IndexFunc_File_of_impl_TreeOk_1.eq (m : Nat) (x : Den slices_IndexFunc_File_of_impl_TreeOk_1.sig.ts) : slices_IndexFunc_File_of_impl_TreeOk_1 m x = startF ⟨lookΓ Γl, lookC (slices_IndexFunc_File_of_impl_TreeOk_1.cons m), false⟩ Tryd.f92 slices_IndexFunc_File_of_impl_TreeOk_1.sig (slices_IndexFunc_File_of_impl_TreeOk_1.cuts m) m x := by kernel_rfl
theorem slices_IndexFunc_File_of_impl_TreeOk_1.ok (m : Nat) : Meets Tryd.prog 92 slices_IndexFunc_File_of_impl_TreeOk_1.sig (slices_IndexFunc_File_of_impl_TreeOk_1 m) :=
  fn_is (cx_is tyOk mixed (l := slices_IndexFunc_File_of_impl_TreeOk_1.cons m) ⟨impl_TreeOk_1_v0.ok m, trivial⟩) (fn := Tryd.f92) Tryd.func92 (by kernel_rfl) (cl := slices_IndexFunc_File_of_impl_TreeOk_1.cuts m) ⟨⟨by kernel_rfl, fun _ => rfl, fun k x => slices_IndexFunc_File_of_impl_TreeOk_1.eq0 m k x⟩, trivial⟩ (k := m) (slices_IndexFunc_File_of_impl_TreeOk_1.eq m)

/-! ### slices.ContainsFunc[[]loop.example/stemma/impl.File,loop.example/stemma/impl.File]: function 61 -/
abbrev slices_ContainsFunc_File_of_impl_TreeOk_1.R : Type := Den [.str, .list (.str), .bool]
def slices_ContainsFunc_File_of_impl_TreeOk_1.sig : Sig := ⟨2, ⟨[.box [.dat (.str), .dat (.list (.str))]], [(0, .l (.dat (.list (.pair (.str) (.list (.str)))))), (1, .l (.fn 70 [0]))]⟩, [.str, .list (.str), .list (.pair (.str) (.list (.str)))], ⟨[.box [.dat (.str), .dat (.list (.str))]], [(0, .l (.dat (.bool)))]⟩, [.str, .list (.str), .bool]⟩
abbrev slices_ContainsFunc_File_of_impl_TreeOk_1.Tab : Type := Unit
def slices_ContainsFunc_File_of_impl_TreeOk_1.start (m : Nat) (t : slices_ContainsFunc_File_of_impl_TreeOk_1.Tab) (x0 : ByteArray) (x1 : List ByteArray) (x2 : List (ByteArray × List ByteArray)) : Option slices_ContainsFunc_File_of_impl_TreeOk_1.R :=
  Option.bind (slices_IndexFunc_File_of_impl_TreeOk_1 m (x0, x1, x2, ())) fun r1 => some (r1.1, r1.2.1, (decide (r1.2.2.1 ≥ (0 : Int))), ())
def slices_ContainsFunc_File_of_impl_TreeOk_1.tab (m : Nat) : Nat → slices_ContainsFunc_File_of_impl_TreeOk_1.Tab
  | 0 => (())
  | k + 1 => (())
def slices_ContainsFunc_File_of_impl_TreeOk_1 (m : Nat) (x : Den [.str, .list (.str), .list (.pair (.str) (.list (.str)))]) : Option slices_ContainsFunc_File_of_impl_TreeOk_1.R := slices_ContainsFunc_File_of_impl_TreeOk_1.start m (slices_ContainsFunc_File_of_impl_TreeOk_1.tab m m) x.1 x.2.1 x.2.2.1
def slices_ContainsFunc_File_of_impl_TreeOk_1.cons (m : Nat) : List (Nat × Contract) := [(92, ⟨slices_IndexFunc_File_of_impl_TreeOk_1.sig, slices_IndexFunc_File_of_impl_TreeOk_1 m⟩)]
def slices_ContainsFunc_File_of_impl_TreeOk_1.cuts (m : Nat) : List (CutF (Den slices_ContainsFunc_File_of_impl_TreeOk_1.sig.us)) := []
theorem slices_ContainsFunc_File_of_impl_TreeOk_1.eq (m : Nat) (x : Den slices_ContainsFunc_File_of_impl_TreeOk_1.sig.ts) : slices_ContainsFunc_File_of_impl_TreeOk_1 m x = startF ⟨lookΓ Γl, lookC (slices_ContainsFunc_File_of_impl_TreeOk_1.cons m), false⟩ Tryd.f61 slices_ContainsFunc_File_of_impl_TreeOk_1.sig (slices_ContainsFunc_File_of_impl_TreeOk_1.cuts m) m x := by kernel_rfl
theorem slices_ContainsFunc_File_of_impl_TreeOk_1.ok (m : Nat) : Meets Tryd.prog 61 slices_ContainsFunc_File_of_impl_TreeOk_1.sig (slices_ContainsFunc_File_of_impl_TreeOk_1 m) :=
  fn_is (cx_is tyOk mixed (l := slices_ContainsFunc_File_of_impl_TreeOk_1.cons m) ⟨slices_IndexFunc_File_of_impl_TreeOk_1.ok m, trivial⟩) (fn := Tryd.f61) Tryd.func61 (by kernel_rfl) (cl := slices_ContainsFunc_File_of_impl_TreeOk_1.cuts m) trivial (k := m) (slices_ContainsFunc_File_of_impl_TreeOk_1.eq m)

/-! ### loop.example/stemma/impl.TreeOk: function 30 -/
abbrev impl_TreeOk.R : Type := Den [.bool]
def impl_TreeOk.sig : Sig := ⟨1, ⟨[], [(0, .l (.dat (.list (.pair (.str) (.list (.str))))))]⟩, [.list (.pair (.str) (.list (.str)))], ⟨[], [(0, .l (.dat (.bool)))]⟩, [.bool]⟩
abbrev impl_TreeOk.Tab : Type := (Den [.list (.pair (.str) (.list (.str))), .list (.pair (.str) (.list (.str))), .int .i64, .int .i64] → Option impl_TreeOk.R) × (Den [.str, .list (.str), .list (.pair (.str) (.list (.str))), .int .i64, .list (.pair (.str) (.list (.str))), .int .i64, .int .i64, .bool] → Option impl_TreeOk.R) × Unit
def impl_TreeOk.start (m : Nat) (t : impl_TreeOk.Tab) (x0 : List (ByteArray × List ByteArray)) : Option impl_TreeOk.R :=
  t.1 (x0, x0, (lLen x0), (0 : Int), ())
def impl_TreeOk.b0 (m : Nat) (t : impl_TreeOk.Tab) (a0 : List (ByteArray × List ByteArray)) (a1 : List (ByteArray × List ByteArray)) (a2 : Int) (a3 : Int) : Option impl_TreeOk.R :=
  cond (decide (a3 < a2)) (cond (decide ((0 : Int) ≤ a3)) (cond (decide (a3 < lLen a1)) (lett ((getL a1 a3 (ByteArray.empty, ([] : List ByteArray))) : ByteArray × List ByteArray) fun v1 => Option.bind (impl_PathOk m (v1.1, ())) fun r2 => cond (!r2.1) (t.2.1 (v1.1, v1.2, a0, a3, a1, a2, a3, true, ())) (Option.bind (impl_TextOk m (v1.2, ())) fun r3 => cond (!r3.1) (t.2.1 (v1.1, v1.2, a0, a3, a1, a2, a3, true, ())) (cond (decide (a3 > (0 : Int))) (cond (decide ((0 : Int) ≤ (w64 (a3 - (1 : Int))))) (cond (decide ((w64 (a3 - (1 : Int))) < lLen a0)) (lett ((getL a0 (w64 (a3 - (1 : Int))) (ByteArray.empty, ([] : List ByteArray))) : ByteArray × List ByteArray) fun v4 => t.2.1 (v1.1, v1.2, a0, a3, a1, a2, a3, (!sLt v4.1 v1.1), ())) none) none) (t.2.1 (v1.1, v1.2, a0, a3, a1, a2, a3, false, ()))))) none) none) (some ((decide ((lLen a0) ≤ (8 : Int))), ()))
def impl_TreeOk.b1 (m : Nat) (t : impl_TreeOk.Tab) (a0 : ByteArray) (a1 : List ByteArray) (a2 : List (ByteArray × List ByteArray)) (a3 : Int) (a4 : List (ByteArray × List ByteArray)) (a5 : Int) (a6 : Int) (a7 : Bool) : Option impl_TreeOk.R :=
  cond a7 (some (false, ())) (cond (decide ((0 : Int) ≤ a3)) (cond (decide (a3 ≤ (List.length a2 : Int))) (Option.bind (slices_ContainsFunc_File_of_impl_TreeOk_1 m (a0, a1, (cutL a2 0 (Int.toNat a3)), ())) fun r1 => cond r1.2.2.1 (some (false, ())) (t.1 (a2, a4, a5, (w64 (a6 + (1 : Int))), ()))) none) none)
def impl_TreeOk.tab (m : Nat) : Nat → impl_TreeOk.Tab
  | 0 => (fun _ => none, fun _ => none, ())
  | k + 1 => (fun x => impl_TreeOk.b0 m (impl_TreeOk.tab m k) x.1 x.2.1 x.2.2.1 x.2.2.2.1, fun x => impl_TreeOk.b1 m (impl_TreeOk.tab m k) x.1 x.2.1 x.2.2.1 x.2.2.2.1 x.2.2.2.2.1 x.2.2.2.2.2.1 x.2.2.2.2.2.2.1 x.2.2.2.2.2.2.2.1, ())
def impl_TreeOk (m : Nat) (x : Den [.list (.pair (.str) (.list (.str)))]) : Option impl_TreeOk.R := impl_TreeOk.start m (impl_TreeOk.tab m m) x.1
def impl_TreeOk.cons (m : Nat) : List (Nat × Contract) := [(31, ⟨impl_PathOk.sig, impl_PathOk m⟩), (69, ⟨impl_TextOk.sig, impl_TextOk m⟩), (61, ⟨slices_ContainsFunc_File_of_impl_TreeOk_1.sig, slices_ContainsFunc_File_of_impl_TreeOk_1 m⟩)]
def impl_TreeOk.cuts (m : Nat) : List (CutF (Den impl_TreeOk.sig.us)) := [⟨[false, true, false, true], 26, ⟨[], [(0, .l (.dat (.list (.pair (.str) (.list (.str)))))), (5, .l (.dat (.list (.pair (.str) (.list (.str)))))), (6, .l (.dat (.int .i64))), (7, .l (.dat (.int .i64)))]⟩, [.list (.pair (.str) (.list (.str))), .list (.pair (.str) (.list (.str))), .int .i64, .int .i64], fun k => (impl_TreeOk.tab m k).1⟩,
  ⟨[true, false, true, false, false, true, true, false, false, true, false, true], 6757, ⟨[.box [.dat (.str), .dat (.list (.str))]], [(0, .l (.dat (.list (.pair (.str) (.list (.str)))))), (3, .l (.dat (.int .i64))), (4, .l (.ptr 0 0)), (5, .l (.dat (.list (.pair (.str) (.list (.str)))))), (6, .l (.dat (.int .i64))), (7, .l (.dat (.int .i64))), (36, .l (.dat (.bool)))]⟩, [.str, .list (.str), .list (.pair (.str) (.list (.str))), .int .i64, .list (.pair (.str) (.list (.str))), .int .i64, .int .i64, .bool], fun k => (impl_TreeOk.tab m k).2.1⟩]
theorem impl_TreeOk.eq0 (m k : Nat) (x : Den [.list (.pair (.str) (.list (.str))), .list (.pair (.str) (.list (.str))), .int .i64, .int .i64]) : (impl_TreeOk.tab m (k + 1)).1 x = runF ⟨lookΓ Γl, lookC (impl_TreeOk.cons m), false⟩ Tryd.f30 impl_TreeOk.sig (impl_TreeOk.cuts m) k [false, true, false, true] ⟨[], [(0, .l (.dat (.list (.pair (.str) (.list (.str)))))), (5, .l (.dat (.list (.pair (.str) (.list (.str)))))), (6, .l (.dat (.int .i64))), (7, .l (.dat (.int .i64)))]⟩ [.list (.pair (.str) (.list (.str))), .list (.pair (.str) (.list (.str))), .int .i64, .int .i64] x := by kernel_rfl
theorem impl_TreeOk.eq1 (m k : Nat) (x : Den [.str, .list (.str), .list (.pair (.str) (.list (.str))), .int .i64, .list (.pair (.str) (.list (.str))), .int .i64, .int .i64, .bool]) : (impl_TreeOk.tab m (k + 1)).2.1 x = runF ⟨lookΓ Γl, lookC (impl_TreeOk.cons m), false⟩ Tryd.f30 impl_TreeOk.sig (impl_TreeOk.cuts m) k [true, false, true, false, false, true, true, false, false, true, false, true] ⟨[.box [.dat (.str), .dat (.list (.str))]], [(0, .l (.dat (.list (.pair (.str) (.list (.str)))))), (3, .l (.dat (.int .i64))), (4, .l (.ptr 0 0)), (5, .l (.dat (.list (.pair (.str) (.list (.str)))))), (6, .l (.dat (.int .i64))), (7, .l (.dat (.int .i64))), (36, .l (.dat (.bool)))]⟩ [.str, .list (.str), .list (.pair (.str) (.list (.str))), .int .i64, .list (.pair (.str) (.list (.str))), .int .i64, .int .i64, .bool] x := by kernel_rfl
theorem impl_TreeOk.eq (m : Nat) (x : Den impl_TreeOk.sig.ts) : impl_TreeOk m x = startF ⟨lookΓ Γl, lookC (impl_TreeOk.cons m), false⟩ Tryd.f30 impl_TreeOk.sig (impl_TreeOk.cuts m) m x := by kernel_rfl
theorem impl_TreeOk.ok (m : Nat) : Meets Tryd.prog 30 impl_TreeOk.sig (impl_TreeOk m) :=
  fn_is (cx_is tyOk mixed (l := impl_TreeOk.cons m) ⟨impl_PathOk.ok m, impl_TextOk.ok m, slices_ContainsFunc_File_of_impl_TreeOk_1.ok m, trivial⟩) (fn := Tryd.f30) Tryd.func30 (by kernel_rfl) (cl := impl_TreeOk.cuts m) ⟨⟨by kernel_rfl, fun _ => rfl, fun k x => impl_TreeOk.eq0 m k x⟩, ⟨by kernel_rfl, fun _ => rfl, fun k x => impl_TreeOk.eq1 m k x⟩, trivial⟩ (k := m) (impl_TreeOk.eq m)

/-! ### loop.example/stemma/impl.viewOk$1: function 91 -/
abbrev impl_viewOk_1.R : Type := Den [.bool]
def impl_viewOk_1.sig : Sig := ⟨1, ⟨[], [(0, .l (.dat (.str)))]⟩, [.str], ⟨[], [(0, .l (.dat (.bool)))]⟩, [.bool]⟩
abbrev impl_viewOk_1.Tab : Type := Unit
def impl_viewOk_1.start (m : Nat) (t : impl_viewOk_1.Tab) (x0 : ByteArray) : Option impl_viewOk_1.R :=
  Option.bind (impl_PathOk m (x0, ())) fun r1 => some ((!r1.1), ())
def impl_viewOk_1.tab (m : Nat) : Nat → impl_viewOk_1.Tab
  | 0 => (())
  | k + 1 => (())
def impl_viewOk_1 (m : Nat) (x : Den [.str]) : Option impl_viewOk_1.R := impl_viewOk_1.start m (impl_viewOk_1.tab m m) x.1
def impl_viewOk_1.cons (m : Nat) : List (Nat × Contract) := [(31, ⟨impl_PathOk.sig, impl_PathOk m⟩)]
def impl_viewOk_1.cuts (m : Nat) : List (CutF (Den impl_viewOk_1.sig.us)) := []
theorem impl_viewOk_1.eq (m : Nat) (x : Den impl_viewOk_1.sig.ts) : impl_viewOk_1 m x = startF ⟨lookΓ Γl, lookC (impl_viewOk_1.cons m), false⟩ Tryd.f91 impl_viewOk_1.sig (impl_viewOk_1.cuts m) m x := by kernel_rfl
theorem impl_viewOk_1.ok (m : Nat) : Meets Tryd.prog 91 impl_viewOk_1.sig (impl_viewOk_1 m) :=
  fn_is (cx_is tyOk mixed (l := impl_viewOk_1.cons m) ⟨impl_PathOk.ok m, trivial⟩) (fn := Tryd.f91) Tryd.func91 (by kernel_rfl) (cl := impl_viewOk_1.cuts m) trivial (k := m) (impl_viewOk_1.eq m)

/-! ### slices.IndexFunc[[]string,string]: function 108 -/
abbrev slices_IndexFunc_string_of_impl_viewOk_1.R : Type := Den [.int .i64]
def slices_IndexFunc_string_of_impl_viewOk_1.sig : Sig := ⟨2, ⟨[], [(0, .l (.dat (.list (.str)))), (1, .l (.fn 91 []))]⟩, [.list (.str)], ⟨[], [(0, .l (.dat (.int .i64)))]⟩, [.int .i64]⟩
abbrev slices_IndexFunc_string_of_impl_viewOk_1.Tab : Type := (Den [.list (.str), .int .i64, .int .i64] → Option slices_IndexFunc_string_of_impl_viewOk_1.R) × Unit
def slices_IndexFunc_string_of_impl_viewOk_1.start (m : Nat) (t : slices_IndexFunc_string_of_impl_viewOk_1.Tab) (x0 : List ByteArray) : Option slices_IndexFunc_string_of_impl_viewOk_1.R :=
  t.1 (x0, (lLen x0), (0 : Int), ())
def slices_IndexFunc_string_of_impl_viewOk_1.b0 (m : Nat) (t : slices_IndexFunc_string_of_impl_viewOk_1.Tab) (a0 : List ByteArray) (a1 : Int) (a2 : Int) : Option slices_IndexFunc_string_of_impl_viewOk_1.R :=
  cond (decide (a2 < a1)) (cond (decide ((0 : Int) ≤ a2)) (cond (decide (a2 < lLen a0)) (Option.bind (impl_viewOk_1 m ((getL a0 a2 ByteArray.empty), ())) fun r1 => cond r1.1 (some (a2, ())) (t.1 (a0, a1, (w64 (a2 + (1 : Int))), ()))) none) none) (some ((-1 : Int), ()))
def slices_IndexFunc_string_of_impl_viewOk_1.tab (m : Nat) : Nat → slices_IndexFunc_string_of_impl_viewOk_1.Tab
  | 0 => (fun _ => none, ())
  | k + 1 => (fun x => slices_IndexFunc_string_of_impl_viewOk_1.b0 m (slices_IndexFunc_string_of_impl_viewOk_1.tab m k) x.1 x.2.1 x.2.2.1, ())
def slices_IndexFunc_string_of_impl_viewOk_1 (m : Nat) (x : Den [.list (.str)]) : Option slices_IndexFunc_string_of_impl_viewOk_1.R := slices_IndexFunc_string_of_impl_viewOk_1.start m (slices_IndexFunc_string_of_impl_viewOk_1.tab m m) x.1
def slices_IndexFunc_string_of_impl_viewOk_1.cons (m : Nat) : List (Nat × Contract) := [(91, ⟨impl_viewOk_1.sig, impl_viewOk_1 m⟩)]
def slices_IndexFunc_string_of_impl_viewOk_1.cuts (m : Nat) : List (CutF (Den slices_IndexFunc_string_of_impl_viewOk_1.sig.us)) := [⟨[false, true, false, true], 26, ⟨[], [(0, .l (.dat (.list (.str)))), (1, .l (.fn 91 [])), (7, .l (.dat (.int .i64))), (8, .l (.dat (.int .i64)))]⟩, [.list (.str), .int .i64, .int .i64], fun k => (slices_IndexFunc_string_of_impl_viewOk_1.tab m k).1⟩]
theorem slices_IndexFunc_string_of_impl_viewOk_1.eq0 (m k : Nat) (x : Den [.list (.str), .int .i64, .int .i64]) : (slices_IndexFunc_string_of_impl_viewOk_1.tab m (k + 1)).1 x = runF ⟨lookΓ Γl, lookC (slices_IndexFunc_string_of_impl_viewOk_1.cons m), false⟩ Tryd.f108 slices_IndexFunc_string_of_impl_viewOk_1.sig (slices_IndexFunc_string_of_impl_viewOk_1.cuts m) k [false, true, false, true] ⟨[], [(0, .l (.dat (.list (.str)))), (1, .l (.fn 91 [])), (7, .l (.dat (.int .i64))), (8, .l (.dat (.int .i64)))]⟩ [.list (.str), .int .i64, .int .i64] x := by kernel_rfl
theorem slices_IndexFunc_string_of_impl_viewOk_1.eq (m : Nat) (x : Den slices_IndexFunc_string_of_impl_viewOk_1.sig.ts) : slices_IndexFunc_string_of_impl_viewOk_1 m x = startF ⟨lookΓ Γl, lookC (slices_IndexFunc_string_of_impl_viewOk_1.cons m), false⟩ Tryd.f108 slices_IndexFunc_string_of_impl_viewOk_1.sig (slices_IndexFunc_string_of_impl_viewOk_1.cuts m) m x := by kernel_rfl
theorem slices_IndexFunc_string_of_impl_viewOk_1.ok (m : Nat) : Meets Tryd.prog 108 slices_IndexFunc_string_of_impl_viewOk_1.sig (slices_IndexFunc_string_of_impl_viewOk_1 m) :=
  fn_is (cx_is tyOk mixed (l := slices_IndexFunc_string_of_impl_viewOk_1.cons m) ⟨impl_viewOk_1.ok m, trivial⟩) (fn := Tryd.f108) Tryd.func108 (by kernel_rfl) (cl := slices_IndexFunc_string_of_impl_viewOk_1.cuts m) ⟨⟨by kernel_rfl, fun _ => rfl, fun k x => slices_IndexFunc_string_of_impl_viewOk_1.eq0 m k x⟩, trivial⟩ (k := m) (slices_IndexFunc_string_of_impl_viewOk_1.eq m)

/-! ### slices.ContainsFunc[[]string,string]: function 73 -/
abbrev slices_ContainsFunc_string_of_impl_viewOk_1.R : Type := Den [.bool]
def slices_ContainsFunc_string_of_impl_viewOk_1.sig : Sig := ⟨2, ⟨[], [(0, .l (.dat (.list (.str)))), (1, .l (.fn 91 []))]⟩, [.list (.str)], ⟨[], [(0, .l (.dat (.bool)))]⟩, [.bool]⟩
abbrev slices_ContainsFunc_string_of_impl_viewOk_1.Tab : Type := Unit
def slices_ContainsFunc_string_of_impl_viewOk_1.start (m : Nat) (t : slices_ContainsFunc_string_of_impl_viewOk_1.Tab) (x0 : List ByteArray) : Option slices_ContainsFunc_string_of_impl_viewOk_1.R :=
  Option.bind (slices_IndexFunc_string_of_impl_viewOk_1 m (x0, ())) fun r1 => some ((decide (r1.1 ≥ (0 : Int))), ())
def slices_ContainsFunc_string_of_impl_viewOk_1.tab (m : Nat) : Nat → slices_ContainsFunc_string_of_impl_viewOk_1.Tab
  | 0 => (())
  | k + 1 => (())
def slices_ContainsFunc_string_of_impl_viewOk_1 (m : Nat) (x : Den [.list (.str)]) : Option slices_ContainsFunc_string_of_impl_viewOk_1.R := slices_ContainsFunc_string_of_impl_viewOk_1.start m (slices_ContainsFunc_string_of_impl_viewOk_1.tab m m) x.1
def slices_ContainsFunc_string_of_impl_viewOk_1.cons (m : Nat) : List (Nat × Contract) := [(108, ⟨slices_IndexFunc_string_of_impl_viewOk_1.sig, slices_IndexFunc_string_of_impl_viewOk_1 m⟩)]
def slices_ContainsFunc_string_of_impl_viewOk_1.cuts (m : Nat) : List (CutF (Den slices_ContainsFunc_string_of_impl_viewOk_1.sig.us)) := []
theorem slices_ContainsFunc_string_of_impl_viewOk_1.eq (m : Nat) (x : Den slices_ContainsFunc_string_of_impl_viewOk_1.sig.ts) : slices_ContainsFunc_string_of_impl_viewOk_1 m x = startF ⟨lookΓ Γl, lookC (slices_ContainsFunc_string_of_impl_viewOk_1.cons m), false⟩ Tryd.f73 slices_ContainsFunc_string_of_impl_viewOk_1.sig (slices_ContainsFunc_string_of_impl_viewOk_1.cuts m) m x := by kernel_rfl
theorem slices_ContainsFunc_string_of_impl_viewOk_1.ok (m : Nat) : Meets Tryd.prog 73 slices_ContainsFunc_string_of_impl_viewOk_1.sig (slices_ContainsFunc_string_of_impl_viewOk_1 m) :=
  fn_is (cx_is tyOk mixed (l := slices_ContainsFunc_string_of_impl_viewOk_1.cons m) ⟨slices_IndexFunc_string_of_impl_viewOk_1.ok m, trivial⟩) (fn := Tryd.f73) Tryd.func73 (by kernel_rfl) (cl := slices_ContainsFunc_string_of_impl_viewOk_1.cuts m) trivial (k := m) (slices_ContainsFunc_string_of_impl_viewOk_1.eq m)

/-! ### loop.example/stemma/impl.viewOk: function 54 -/
abbrev impl_viewOk.R : Type := Den [.bool]
def impl_viewOk.sig : Sig := ⟨1, ⟨[], [(0, .l (.dat (.list (.str))))]⟩, [.list (.str)], ⟨[], [(0, .l (.dat (.bool)))]⟩, [.bool]⟩
abbrev impl_viewOk.Tab : Type := Unit
def impl_viewOk.start (m : Nat) (t : impl_viewOk.Tab) (x0 : List ByteArray) : Option impl_viewOk.R :=
  cond (decide ((lLen x0) ≤ (4 : Int))) (Option.bind (slices_ContainsFunc_string_of_impl_viewOk_1 m (x0, ())) fun r1 => some ((!r1.1), ())) (some (false, ()))
def impl_viewOk.tab (m : Nat) : Nat → impl_viewOk.Tab
  | 0 => (())
  | k + 1 => (())
def impl_viewOk (m : Nat) (x : Den [.list (.str)]) : Option impl_viewOk.R := impl_viewOk.start m (impl_viewOk.tab m m) x.1
def impl_viewOk.cons (m : Nat) : List (Nat × Contract) := [(73, ⟨slices_ContainsFunc_string_of_impl_viewOk_1.sig, slices_ContainsFunc_string_of_impl_viewOk_1 m⟩)]
def impl_viewOk.cuts (m : Nat) : List (CutF (Den impl_viewOk.sig.us)) := []
theorem impl_viewOk.eq (m : Nat) (x : Den impl_viewOk.sig.ts) : impl_viewOk m x = startF ⟨lookΓ Γl, lookC (impl_viewOk.cons m), false⟩ Tryd.f54 impl_viewOk.sig (impl_viewOk.cuts m) m x := by kernel_rfl
theorem impl_viewOk.ok (m : Nat) : Meets Tryd.prog 54 impl_viewOk.sig (impl_viewOk m) :=
  fn_is (cx_is tyOk mixed (l := impl_viewOk.cons m) ⟨slices_ContainsFunc_string_of_impl_viewOk_1.ok m, trivial⟩) (fn := Tryd.f54) Tryd.func54 (by kernel_rfl) (cl := impl_viewOk.cuts m) trivial (k := m) (impl_viewOk.eq m)

/-! ### slices.Clone[[]string,string]: function 116 -/
abbrev slices_Clone_string.R : Type := Den [.list (.str)]
def slices_Clone_string.sig : Sig := ⟨1, ⟨[], [(0, .l (.dat (.list (.str))))]⟩, [.list (.str)], ⟨[.row true (.str)], [(0, .l (.sl 0))]⟩, [.list (.str)]⟩
abbrev slices_Clone_string.Tab : Type := Unit
def slices_Clone_string.start (m : Nat) (t : slices_Clone_string.Tab) (x0 : List ByteArray) : Option slices_Clone_string.R :=
  cond (decide (0 < (List.length x0))) (cond (decide (List.length ([] : List ByteArray) + List.length x0 ≤ apCap)) (some ((List.append ([] : List ByteArray) x0), ())) none) (bothO (some ([], ())) (cond (decide (List.length ([] : List ByteArray) + List.length x0 ≤ apCap)) (some ((List.append ([] : List ByteArray) x0), ())) none))
def slices_Clone_string.tab (m : Nat) : Nat → slices_Clone_string.Tab
  | 0 => (())
  | k + 1 => (())
def slices_Clone_string (m : Nat) (x : Den [.list (.str)]) : Option slices_Clone_string.R := slices_Clone_string.start m (slices_Clone_string.tab m m) x.1
def slices_Clone_string.cons (m : Nat) : List (Nat × Contract) := []
def slices_Clone_string.cuts (m : Nat) : List (CutF (Den slices_Clone_string.sig.us)) := []
theorem slices_Clone_string.eq (m : Nat) (x : Den slices_Clone_string.sig.ts) : slices_Clone_string m x = startF ⟨lookΓ Γl, lookC (slices_Clone_string.cons m), false⟩ Tryd.f116 slices_Clone_string.sig (slices_Clone_string.cuts m) m x := by kernel_rfl
theorem slices_Clone_string.ok (m : Nat) : Meets Tryd.prog 116 slices_Clone_string.sig (slices_Clone_string m) :=
  fn_is (cx_is tyOk mixed (l := slices_Clone_string.cons m) trivial) (fn := Tryd.f116) Tryd.func116 (by kernel_rfl) (cl := slices_Clone_string.cuts m) trivial (k := m) (slices_Clone_string.eq m)

/-! ### loop.example/stemma/impl.copyFile: function 93 -/
abbrev impl_copyFile.R : Type := Den [.str, .list (.str)]
def impl_copyFile.sig : Sig := ⟨1, ⟨[], [(0, .agg [.dat (.str), .dat (.list (.str))])]⟩, [.str, .list (.str)], ⟨[], [(0, .agg [.dat (.str), .dat (.list (.str))])]⟩, [.str, .list (.str)]⟩
abbrev impl_copyFile.Tab : Type := Unit
def impl_copyFile.start (m : Nat) (t : impl_copyFile.Tab) (x0 : ByteArray) (x1 : List ByteArray) : Option impl_copyFile.R :=
  Option.bind (slices_Clone_string m (x1, ())) fun r1 => some (x0, r1.1, ())
def impl_copyFile.tab (m : Nat) : Nat → impl_copyFile.Tab
  | 0 => (())
  | k + 1 => (())
def impl_copyFile (m : Nat) (x : Den [.str, .list (.str)]) : Option impl_copyFile.R := impl_copyFile.start m (impl_copyFile.tab m m) x.1 x.2.1
def impl_copyFile.cons (m : Nat) : List (Nat × Contract) := [(116, ⟨slices_Clone_string.sig, slices_Clone_string m⟩)]
def impl_copyFile.cuts (m : Nat) : List (CutF (Den impl_copyFile.sig.us)) := []
theorem impl_copyFile.eq (m : Nat) (x : Den impl_copyFile.sig.ts) : impl_copyFile m x = startF ⟨lookΓ Γl, lookC (impl_copyFile.cons m), false⟩ Tryd.f93 impl_copyFile.sig (impl_copyFile.cuts m) m x := by kernel_rfl
theorem impl_copyFile.ok (m : Nat) : Meets Tryd.prog 93 impl_copyFile.sig (impl_copyFile m) :=
  fn_is (cx_is tyOk mixed (l := impl_copyFile.cons m) ⟨slices_Clone_string.ok m, trivial⟩) (fn := Tryd.f93) Tryd.func93 (by kernel_rfl) (cl := impl_copyFile.cuts m) trivial (k := m) (impl_copyFile.eq m)

/-! ### loop.example/stemma/impl.copyTree: function 56 -/
abbrev impl_copyTree.R : Type := Den [.list (.pair (.str) (.list (.str)))]
def impl_copyTree.sig : Sig := ⟨1, ⟨[], [(0, .l (.dat (.list (.pair (.str) (.list (.str))))))]⟩, [.list (.pair (.str) (.list (.str)))], ⟨[.row false (.pair (.str) (.list (.str)))], [(0, .l (.sl 0))]⟩, [.list (.pair (.str) (.list (.str)))]⟩
abbrev impl_copyTree.Tab : Type := (Den [.list (.pair (.str) (.list (.str))), .list (.pair (.str) (.list (.str))), .int .i64, .int .i64] → Option impl_copyTree.R) × Unit
def impl_copyTree.start (m : Nat) (t : impl_copyTree.Tab) (x0 : List (ByteArray × List ByteArray)) : Option impl_copyTree.R :=
  t.1 ([], x0, (lLen x0), (0 : Int), ())
def impl_copyTree.b0 (m : Nat) (t : impl_copyTree.Tab) (a0 : List (ByteArray × List ByteArray)) (a1 : List (ByteArray × List ByteArray)) (a2 : Int) (a3 : Int) : Option impl_copyTree.R :=
  cond (decide (a3 < a2)) (cond (decide ((0 : Int) ≤ a3)) (cond (decide (a3 < lLen a1)) (lett ((getL a1 a3 (ByteArray.empty, ([] : List ByteArray))) : ByteArray × List ByteArray) fun v1 => Option.bind (impl_copyFile m (v1.1, v1.2, ())) fun r2 => cond (decide (List.length a0 + List.length ([(r2.1, r2.2.1)] : List (ByteArray × List ByteArray)) ≤ apCap)) (lett ((List.append a0 ([(r2.1, r2.2.1)] : List (ByteArray × List ByteArray))) : List (ByteArray × List ByteArray)) fun v3 => t.1 (v3, a1, a2, (w64 (a3 + (1 : Int))), ())) none) none) none) (some (a0, ()))
def impl_copyTree.tab (m : Nat) : Nat → impl_copyTree.Tab
  | 0 => (fun _ => none, ())
  | k + 1 => (fun x => impl_copyTree.b0 m (impl_copyTree.tab m k) x.1 x.2.1 x.2.2.1 x.2.2.2.1, ())
def impl_copyTree (m : Nat) (x : Den [.list (.pair (.str) (.list (.str)))]) : Option impl_copyTree.R := impl_copyTree.start m (impl_copyTree.tab m m) x.1
def impl_copyTree.cons (m : Nat) : List (Nat × Contract) := [(93, ⟨impl_copyFile.sig, impl_copyFile m⟩)]
def impl_copyTree.cuts (m : Nat) : List (CutF (Den impl_copyTree.sig.us)) := [⟨[false, true, false, true, true], 58, ⟨[.row false (.pair (.str) (.list (.str)))], [(3, .l (.sl 0)), (7, .l (.dat (.list (.pair (.str) (.list (.str)))))), (8, .l (.dat (.int .i64))), (9, .l (.dat (.int .i64)))]⟩, [.list (.pair (.str) (.list (.str))), .list (.pair (.str) (.list (.str))), .int .i64, .int .i64], fun k => (impl_copyTree.tab m k).1⟩]
theorem impl_copyTree.eq0 (m k : Nat) (x : Den [.list (.pair (.str) (.list (.str))), .list (.pair (.str) (.list (.str))), .int .i64, .int .i64]) : (impl_copyTree.tab m (k + 1)).1 x = runF ⟨lookΓ Γl, lookC (impl_copyTree.cons m), false⟩ Tryd.f56 impl_copyTree.sig (impl_copyTree.cuts m) k [false, true, false, true, true] ⟨[.row false (.pair (.str) (.list (.str)))], [(3, .l (.sl 0)), (7, .l (.dat (.list (.pair (.str) (.list (.str)))))), (8, .l (.dat (.int .i64))), (9, .l (.dat (.int .i64)))]⟩ [.list (.pair (.str) (.list (.str))), .list (.pair (.str) (.list (.str))), .int .i64, .int .i64] x := by kernel_rfl
theorem impl_copyTree.eq (m : Nat) (x : Den impl_copyTree.sig.ts) : impl_copyTree m x = startF ⟨lookΓ Γl, lookC (impl_copyTree.cons m), false⟩ Tryd.f56 impl_copyTree.sig (impl_copyTree.cuts m) m x := by kernel_rfl
theorem impl_copyTree.ok (m : Nat) : Meets Tryd.prog 56 impl_copyTree.sig (impl_copyTree m) :=
  fn_is (cx_is tyOk mixed (l := impl_copyTree.cons m) ⟨impl_copyFile.ok m, trivial⟩) (fn := Tryd.f56) Tryd.func56 (by kernel_rfl) (cl := impl_copyTree.cuts m) ⟨⟨by kernel_rfl, fun _ => rfl, fun k x => impl_copyTree.eq0 m k x⟩, trivial⟩ (k := m) (impl_copyTree.eq m)

/-! ### loop.example/stemma/impl.isAt: function 95 -/
abbrev impl_isAt.R : Type := Den [.bool]
def impl_isAt.sig : Sig := ⟨2, ⟨[], [(0, .l (.dat (.str))), (1, .l (.dat (.str)))]⟩, [.str, .str], ⟨[], [(0, .l (.dat (.bool)))]⟩, [.bool]⟩
abbrev impl_isAt.Tab : Type := Unit
def impl_isAt.start (m : Nat) (t : impl_isAt.Tab) (x0 : ByteArray) (x1 : ByteArray) : Option impl_isAt.R :=
  cond (sEq x0 x1) (some (true, ())) (Option.bind (impl_PathIn m (x0, x1, ())) fun r1 => some (r1.1, ()))
def impl_isAt.tab (m : Nat) : Nat → impl_isAt.Tab
  | 0 => (())
  | k + 1 => (())
def impl_isAt (m : Nat) (x : Den [.str, .str]) : Option impl_isAt.R := impl_isAt.start m (impl_isAt.tab m m) x.1 x.2.1
def impl_isAt.cons (m : Nat) : List (Nat × Contract) := [(71, ⟨impl_PathIn.sig, impl_PathIn m⟩)]
def impl_isAt.cuts (m : Nat) : List (CutF (Den impl_isAt.sig.us)) := []
theorem impl_isAt.eq (m : Nat) (x : Den impl_isAt.sig.ts) : impl_isAt m x = startF ⟨lookΓ Γl, lookC (impl_isAt.cons m), false⟩ Tryd.f95 impl_isAt.sig (impl_isAt.cuts m) m x := by kernel_rfl
theorem impl_isAt.ok (m : Nat) : Meets Tryd.prog 95 impl_isAt.sig (impl_isAt m) :=
  fn_is (cx_is tyOk mixed (l := impl_isAt.cons m) ⟨impl_PathIn.ok m, trivial⟩) (fn := Tryd.f95) Tryd.func95 (by kernel_rfl) (cl := impl_isAt.cuts m) trivial (k := m) (impl_isAt.eq m)

/-! ### loop.example/stemma/impl.visible$1: function 94 -/
abbrev impl_visible_1_v0.R : Type := Den [.str, .bool]
def impl_visible_1_v0.sig : Sig := ⟨2, ⟨[.box [.dat (.str)]], [(0, .l (.dat (.str))), (1, .l (.ptr 0 0))]⟩, [.str, .str], ⟨[.box [.dat (.str)]], [(0, .l (.dat (.bool)))]⟩, [.str, .bool]⟩
abbrev impl_visible_1_v0.Tab : Type := Unit
def impl_visible_1_v0.start (m : Nat) (t : impl_visible_1_v0.Tab) (x0 : ByteArray) (x1 : ByteArray) : Option impl_visible_1_v0.R :=
  Option.bind (impl_isAt m (x1, x0, ())) fun r1 => some (x0, r1.1, ())
def impl_visible_1_v0.tab (m : Nat) : Nat → impl_visible_1_v0.Tab
  | 0 => (())
  | k + 1 => (())
def impl_visible_1_v0 (m : Nat) (x : Den [.str, .str]) : Option impl_visible_1_v0.R := impl_visible_1_v0.start m (impl_visible_1_v0.tab m m) x.1 x.2.1
def impl_visible_1_v0.cons (m : Nat) : List (Nat × Contract) := [(95, ⟨impl_isAt.sig, impl_isAt m⟩)]
def impl_visible_1_v0.cuts (m : Nat) : List (CutF (Den impl_visible_1_v0.sig.us)) := []
theorem impl_visible_1_v0.eq (m : Nat) (x : Den impl_visible_1_v0.sig.ts) : impl_visible_1_v0 m x = startF ⟨lookΓ Γl, lookC (impl_visible_1_v0.cons m), false⟩ Tryd.f94 impl_visible_1_v0.sig (impl_visible_1_v0.cuts m) m x := by kernel_rfl
theorem impl_visible_1_v0.ok (m : Nat) : Meets Tryd.prog 94 impl_visible_1_v0.sig (impl_visible_1_v0 m) :=
  fn_is (cx_is tyOk mixed (l := impl_visible_1_v0.cons m) ⟨impl_isAt.ok m, trivial⟩) (fn := Tryd.f94) Tryd.func94 (by kernel_rfl) (cl := impl_visible_1_v0.cuts m) trivial (k := m) (impl_visible_1_v0.eq m)

/-! ### slices.IndexFunc[[]string,string]: function 108 -/
abbrev slices_IndexFunc_string_of_impl_visible_1.R : Type := Den [.str, .int .i64]
def slices_IndexFunc_string_of_impl_visible_1.sig : Sig := ⟨2, ⟨[.box [.dat (.str)]], [(0, .l (.dat (.list (.str)))), (1, .l (.fn 94 [0]))]⟩, [.str, .list (.str)], ⟨[.box [.dat (.str)]], [(0, .l (.dat (.int .i64)))]⟩, [.str, .int .i64]⟩
abbrev slices_IndexFunc_string_of_impl_visible_1.Tab : Type := (Den [.str, .list (.str), .int .i64, .int .i64] → Option slices_IndexFunc_string_of_impl_visible_1.R) × Unit
def slices_IndexFunc_string_of_impl_visible_1.start (m : Nat) (t : slices_IndexFunc_string_of_impl_visible_1.Tab) (x0 : ByteArray) (x1 : List ByteArray) : Option slices_IndexFunc_string_of_impl_visible_1.R :=
  t.1 (x0, x1, (lLen x1), (0 : Int), ())
def slices_IndexFunc_string_of_impl_visible_1.b0 (m : Nat) (t : slices_IndexFunc_string_of_impl_visible_1.Tab) (a0 : ByteArray) (a1 : List ByteArray) (a2 : Int) (a3 : Int) : Option slices_IndexFunc_string_of_impl_visible_1.R :=
  cond (decide (a3 < a2)) (cond (decide ((0 : Int) ≤ a3)) (cond (decide (a3 < lLen a1)) (Option.bind (impl_visible_1_v0 m (a0, (getL a1 a3 ByteArray.empty), ())) fun r1 => cond r1.2.1 (some (r1.1, a3, ())) (t.1 (r1.1, a1, a2, (w64 (a3 + (1 : Int))), ()))) none) none) (some (a0, (-1 : Int), ()))
def slices_IndexFunc_string_of_impl_visible_1.tab (m : Nat) : Nat → slices_IndexFunc_string_of_impl_visible_1.Tab
  | 0 => (fun _ => none, ())
  | k + 1 => (fun x => slices_IndexFunc_string_of_impl_visible_1.b0 m (slices_IndexFunc_string_of_impl_visible_1.tab m k) x.1 x.2.1 x.2.2.1 x.2.2.2.1, ())
def slices_IndexFunc_string_of_impl_visible_1 (m : Nat) (x : Den [.str, .list (.str)]) : Option slices_IndexFunc_string_of_impl_visible_1.R := slices_IndexFunc_string_of_impl_visible_1.start m (slices_IndexFunc_string_of_impl_visible_1.tab m m) x.1 x.2.1
def slices_IndexFunc_string_of_impl_visible_1.cons (m : Nat) : List (Nat × Contract) := [(94, ⟨impl_visible_1_v0.sig, impl_visible_1_v0 m⟩)]
def slices_IndexFunc_string_of_impl_visible_1.cuts (m : Nat) : List (CutF (Den slices_IndexFunc_string_of_impl_visible_1.sig.us)) := [⟨[false, true, false, true], 26, ⟨[.box [.dat (.str)]], [(0, .l (.dat (.list (.str)))), (1, .l (.fn 94 [0])), (7, .l (.dat (.int .i64))), (8, .l (.dat (.int .i64)))]⟩, [.str, .list (.str), .int .i64, .int .i64], fun k => (slices_IndexFunc_string_of_impl_visible_1.tab m k).1⟩]
theorem slices_IndexFunc_string_of_impl_visible_1.eq0 (m k : Nat) (x : Den [.str, .list (.str), .int .i64, .int .i64]) : (slices_IndexFunc_string_of_impl_visible_1.tab m (k + 1)).1 x = runF ⟨lookΓ Γl, lookC (slices_IndexFunc_string_of_impl_visible_1.cons m), false⟩ Tryd.f108 slices_IndexFunc_string_of_impl_visible_1.sig (slices_IndexFunc_string_of_impl_visible_1.cuts m) k [false, true, false, true] ⟨[.box [.dat (.str)]], [(0, .l (.dat (.list (.str)))), (1, .l (.fn 94 [0])), (7, .l (.dat (.int .i64))), (8, .l (.dat (.int .i64)))]⟩ [.str, .list (.str), .int .i64, .int .i64] x := by kernel_rfl
theorem slices_IndexFunc_string_of_impl_visible_1.eq (m : Nat) (x : Den slices_IndexFunc_string_of_impl_visible_1.sig.ts) : slices_IndexFunc_string_of_impl_visible_1 m x = startF ⟨lookΓ Γl, lookC (slices_IndexFunc_string_of_impl_visible_1.cons m), false⟩ Tryd.f108 slices_IndexFunc_string_of_impl_visible_1.sig (slices_IndexFunc_string_of_impl_visible_1.cuts m) m x := by kernel_rfl
theorem slices_IndexFunc_string_of_impl_visible_1.ok (m : Nat) : Meets Tryd.prog 108 slices_IndexFunc_string_of_impl_visible_1.sig (slices_IndexFunc_string_of_impl_visible_1 m) :=
  fn_is (cx_is tyOk mixed (l := slices_IndexFunc_string_of_impl_visible_1.cons m) ⟨impl_visible_1_v0.ok m, trivial⟩) (fn := Tryd.f108) Tryd.func108 (by kernel_rfl) (cl := slices_IndexFunc_string_of_impl_visible_1.cuts m) ⟨⟨by kernel_rfl, fun _ => rfl, fun k x => slices_IndexFunc_string_of_impl_visible_1.eq0 m k x⟩, trivial⟩ (k := m) (slices_IndexFunc_string_of_impl_visible_1.eq m)

/-! ### slices.ContainsFunc[[]string,string]: function 73 -/
abbrev slices_ContainsFunc_string_of_impl_visible_1.R : Type := Den [.str, .bool]
def slices_ContainsFunc_string_of_impl_visible_1.sig : Sig := ⟨2, ⟨[.box [.dat (.str)]], [(0, .l (.dat (.list (.str)))), (1, .l (.fn 94 [0]))]⟩, [.str, .list (.str)], ⟨[.box [.dat (.str)]], [(0, .l (.dat (.bool)))]⟩, [.str, .bool]⟩
abbrev slices_ContainsFunc_string_of_impl_visible_1.Tab : Type := Unit
def slices_ContainsFunc_string_of_impl_visible_1.start (m : Nat) (t : slices_ContainsFunc_string_of_impl_visible_1.Tab) (x0 : ByteArray) (x1 : List ByteArray) : Option slices_ContainsFunc_string_of_impl_visible_1.R :=
  Option.bind (slices_IndexFunc_string_of_impl_visible_1 m (x0, x1, ())) fun r1 => some (r1.1, (decide (r1.2.1 ≥ (0 : Int))), ())
def slices_ContainsFunc_string_of_impl_visible_1.tab (m : Nat) : Nat → slices_ContainsFunc_string_of_impl_visible_1.Tab
  | 0 => (())
  | k + 1 => (())
def slices_ContainsFunc_string_of_impl_visible_1 (m : Nat) (x : Den [.str, .list (.str)]) : Option slices_ContainsFunc_string_of_impl_visible_1.R := slices_ContainsFunc_string_of_impl_visible_1.start m (slices_ContainsFunc_string_of_impl_visible_1.tab m m) x.1 x.2.1
def slices_ContainsFunc_string_of_impl_visible_1.cons (m : Nat) : List (Nat × Contract) := [(108, ⟨slices_IndexFunc_string_of_impl_visible_1.sig, slices_IndexFunc_string_of_impl_visible_1 m⟩)]
def slices_ContainsFunc_string_of_impl_visible_1.cuts (m : Nat) : List (CutF (Den slices_ContainsFunc_string_of_impl_visible_1.sig.us)) := []
theorem slices_ContainsFunc_string_of_impl_visible_1.eq (m : Nat) (x : Den slices_ContainsFunc_string_of_impl_visible_1.sig.ts) : slices_ContainsFunc_string_of_impl_visible_1 m x = startF ⟨lookΓ Γl, lookC (slices_ContainsFunc_string_of_impl_visible_1.cons m), false⟩ Tryd.f73 slices_ContainsFunc_string_of_impl_visible_1.sig (slices_ContainsFunc_string_of_impl_visible_1.cuts m) m x := by kernel_rfl
theorem slices_ContainsFunc_string_of_impl_visible_1.ok (m : Nat) : Meets Tryd.prog 73 slices_ContainsFunc_string_of_impl_visible_1.sig (slices_ContainsFunc_string_of_impl_visible_1 m) :=
  fn_is (cx_is tyOk mixed (l := slices_ContainsFunc_string_of_impl_visible_1.cons m) ⟨slices_IndexFunc_string_of_impl_visible_1.ok m, trivial⟩) (fn := Tryd.f73) Tryd.func73 (by kernel_rfl) (cl := slices_ContainsFunc_string_of_impl_visible_1.cuts m) trivial (k := m) (slices_ContainsFunc_string_of_impl_visible_1.eq m)

/-! ### loop.example/stemma/impl.visible: function 58 -/
abbrev impl_visible.R : Type := Den [.bool]
def impl_visible.sig : Sig := ⟨2, ⟨[], [(0, .l (.dat (.list (.str)))), (1, .l (.dat (.str)))]⟩, [.list (.str), .str], ⟨[], [(0, .l (.dat (.bool)))]⟩, [.bool]⟩
abbrev impl_visible.Tab : Type := Unit
def impl_visible.start (m : Nat) (t : impl_visible.Tab) (x0 : List ByteArray) (x1 : ByteArray) : Option impl_visible.R :=
  Option.bind (slices_ContainsFunc_string_of_impl_visible_1 m (x1, x0, ())) fun r1 => some (r1.2.1, ())
def impl_visible.tab (m : Nat) : Nat → impl_visible.Tab
  | 0 => (())
  | k + 1 => (())
def impl_visible (m : Nat) (x : Den [.list (.str), .str]) : Option impl_visible.R := impl_visible.start m (impl_visible.tab m m) x.1 x.2.1
def impl_visible.cons (m : Nat) : List (Nat × Contract) := [(73, ⟨slices_ContainsFunc_string_of_impl_visible_1.sig, slices_ContainsFunc_string_of_impl_visible_1 m⟩)]
def impl_visible.cuts (m : Nat) : List (CutF (Den impl_visible.sig.us)) := []
theorem impl_visible.eq (m : Nat) (x : Den impl_visible.sig.ts) : impl_visible m x = startF ⟨lookΓ Γl, lookC (impl_visible.cons m), false⟩ Tryd.f58 impl_visible.sig (impl_visible.cuts m) m x := by kernel_rfl
theorem impl_visible.ok (m : Nat) : Meets Tryd.prog 58 impl_visible.sig (impl_visible m) :=
  fn_is (cx_is tyOk mixed (l := impl_visible.cons m) ⟨slices_ContainsFunc_string_of_impl_visible_1.ok m, trivial⟩) (fn := Tryd.f58) Tryd.func58 (by kernel_rfl) (cl := impl_visible.cuts m) trivial (k := m) (impl_visible.eq m)

/-! ### loop.example/stemma/impl.ViewOf$1: function 57 -/
abbrev impl_ViewOf_1_v0.R : Type := Den [.list (.str), .bool]
def impl_ViewOf_1_v0.sig : Sig := ⟨2, ⟨[.box [.dat (.list (.str))]], [(0, .agg [.dat (.str), .dat (.list (.str))]), (1, .l (.ptr 0 0))]⟩, [.list (.str), .str, .list (.str)], ⟨[.box [.dat (.list (.str))]], [(0, .l (.dat (.bool)))]⟩, [.list (.str), .bool]⟩
abbrev impl_ViewOf_1_v0.Tab : Type := Unit
def impl_ViewOf_1_v0.start (m : Nat) (t : impl_ViewOf_1_v0.Tab) (x0 : List ByteArray) (x1 : ByteArray) (x2 : List ByteArray) : Option impl_ViewOf_1_v0.R :=
  Option.bind (impl_visible m (x0, x1, ())) fun r1 => some (x0, (!r1.1), ())
def impl_ViewOf_1_v0.tab (m : Nat) : Nat → impl_ViewOf_1_v0.Tab
  | 0 => (())
  | k + 1 => (())
def impl_ViewOf_1_v0 (m : Nat) (x : Den [.list (.str), .str, .list (.str)]) : Option impl_ViewOf_1_v0.R := impl_ViewOf_1_v0.start m (impl_ViewOf_1_v0.tab m m) x.1 x.2.1 x.2.2.1
def impl_ViewOf_1_v0.cons (m : Nat) : List (Nat × Contract) := [(58, ⟨impl_visible.sig, impl_visible m⟩)]
def impl_ViewOf_1_v0.cuts (m : Nat) : List (CutF (Den impl_ViewOf_1_v0.sig.us)) := []
theorem impl_ViewOf_1_v0.eq (m : Nat) (x : Den impl_ViewOf_1_v0.sig.ts) : impl_ViewOf_1_v0 m x = startF ⟨lookΓ Γl, lookC (impl_ViewOf_1_v0.cons m), false⟩ Tryd.f57 impl_ViewOf_1_v0.sig (impl_ViewOf_1_v0.cuts m) m x := by kernel_rfl
theorem impl_ViewOf_1_v0.ok (m : Nat) : Meets Tryd.prog 57 impl_ViewOf_1_v0.sig (impl_ViewOf_1_v0 m) :=
  fn_is (cx_is tyOk mixed (l := impl_ViewOf_1_v0.cons m) ⟨impl_visible.ok m, trivial⟩) (fn := Tryd.f57) Tryd.func57 (by kernel_rfl) (cl := impl_ViewOf_1_v0.cuts m) trivial (k := m) (impl_ViewOf_1_v0.eq m)

/-! ### slices.IndexFunc[[]loop.example/stemma/impl.File,loop.example/stemma/impl.File]: function 92 -/
abbrev slices_IndexFunc_File_of_impl_ViewOf_1.R : Type := Den [.list (.str), .list (.pair (.str) (.list (.str))), .int .i64]
def slices_IndexFunc_File_of_impl_ViewOf_1.sig : Sig := ⟨2, ⟨[.box [.dat (.list (.str))], .row false (.pair (.str) (.list (.str)))], [(0, .l (.sl 1)), (1, .l (.fn 57 [0]))]⟩, [.list (.str), .list (.pair (.str) (.list (.str)))], ⟨[.box [.dat (.list (.str))], .row false (.pair (.str) (.list (.str)))], [(0, .l (.dat (.int .i64)))]⟩, [.list (.str), .list (.pair (.str) (.list (.str))), .int .i64]⟩
abbrev slices_IndexFunc_File_of_impl_ViewOf_1.Tab : Type := (Den [.list (.str), .list (.pair (.str) (.list (.str))), .int .i64, .int .i64] → Option slices_IndexFunc_File_of_impl_ViewOf_1.R) × Unit
def slices_IndexFunc_File_of_impl_ViewOf_1.start (m : Nat) (t : slices_IndexFunc_File_of_impl_ViewOf_1.Tab) (x0 : List ByteArray) (x1 : List (ByteArray × List ByteArray)) : Option slices_IndexFunc_File_of_impl_ViewOf_1.R :=
  t.1 (x0, x1, (lLen x1), (0 : Int), ())
def slices_IndexFunc_File_of_impl_ViewOf_1.b0 (m : Nat) (t : slices_IndexFunc_File_of_impl_ViewOf_1.Tab) (a0 : List ByteArray) (a1 : List (ByteArray × List ByteArray)) (a2 : Int) (a3 : Int) : Option slices_IndexFunc_File_of_impl_ViewOf_1.R :=
  cond (decide (a3 < a2)) (cond (decide ((0 : Int) ≤ a3)) (cond (decide (a3 < lLen a1)) (lett ((List.getD a1 (Int.toNat a3) (ByteArray.empty, ([] : List ByteArray))).1 : ByteArray) fun v1 => lett ((List.getD a1 (Int.toNat a3) (ByteArray.empty, ([] : List ByteArray))).2 : List ByteArray) fun v2 => Option.bind (impl_ViewOf_1_v0 m (a0, v1, v2, ())) fun r3 => cond r3.2.1 (some (r3.1, a1, a3, ())) (t.1 (r3.1, a1, a2, (w64 (a3 + (1 : Int))), ()))) none) none) (some (a0, a1, (-1 : Int), ()))
def slices_IndexFunc_File_of_impl_ViewOf_1.tab (m : Nat) : Nat → slices_IndexFunc_File_of_impl_ViewOf_1.Tab
  | 0 => (fun _ => none, ())
  | k + 1 => (fun x => slices_IndexFunc_File_of_impl_ViewOf_1.b0 m (slices_IndexFunc_File_of_impl_ViewOf_1.tab m k) x.1 x.2.1 x.2.2.1 x.2.2.2.1, ())
def slices_IndexFunc_File_of_impl_ViewOf_1 (m : Nat) (x : Den [.list (.str), .list (.pair (.str) (.list (.str)))]) : Option slices_IndexFunc_File_of_impl_ViewOf_1.R := slices_IndexFunc_File_of_impl_ViewOf_1.start m (slices_IndexFunc_File_of_impl_ViewOf_1.tab m m) x.1 x.2.1
def slices_IndexFunc_File_of_impl_ViewOf_1.cons (m : Nat) : List (Nat × Contract) := [(57, ⟨impl_ViewOf_1_v0.sig, impl_ViewOf_1_v0 m⟩)]
def slices_IndexFunc_File_of_impl_ViewOf_1.cuts (m : Nat) : List (CutF (Den slices_IndexFunc_File_of_impl_ViewOf_1.sig.us)) := [⟨[false, true, false, true], 26, ⟨[.box [.dat (.list (.str))], .row false (.pair (.str) (.list (.str)))], [(0, .l (.sl 1)), (1, .l (.fn 57 [0])), (7, .l (.dat (.int .i64))), (8, .l (.dat (.int .i64)))]⟩, [.list (.str), .list (.pair (.str) (.list (.str))), .int .i64, .int .i64], fun k => (slices_IndexFunc_File_of_impl_ViewOf_1.tab m k).1⟩]
theorem slices_IndexFunc_File_of_impl_ViewOf_1.eq0 (m k : Nat) (x : Den [.list (.str), .list (.pair (.str) (.list (.str))), .int .i64, .int .i64]) : (slices_IndexFunc_File_of_impl_ViewOf_1.tab m (k + 1)).1 x = runF ⟨lookΓ Γl, lookC (slices_IndexFunc_File_of_impl_ViewOf_1.cons m), false⟩ Tryd.f92 slices_IndexFunc_File_of_impl_ViewOf_1.sig (slices_IndexFunc_File_of_impl_ViewOf_1.cuts m) k [false, true, false, true] ⟨[.box [.dat (.list (.str))], .row false (.pair (.str) (.list (.str)))], [(0, .l (.sl 1)), (1, .l (.fn 57 [0])), (7, .l (.dat (.int .i64))), (8, .l (.dat (.int .i64)))]⟩ [.list (.str), .list (.pair (.str) (.list (.str))), .int .i64, .int .i64] x := by kernel_rfl
theorem slices_IndexFunc_File_of_impl_ViewOf_1.eq (m : Nat) (x : Den slices_IndexFunc_File_of_impl_ViewOf_1.sig.ts) : slices_IndexFunc_File_of_impl_ViewOf_1 m x = startF ⟨lookΓ Γl, lookC (slices_IndexFunc_File_of_impl_ViewOf_1.cons m), false⟩ Tryd.f92 slices_IndexFunc_File_of_impl_ViewOf_1.sig (slices_IndexFunc_File_of_impl_ViewOf_1.cuts m) m x := by kernel_rfl
theorem slices_IndexFunc_File_of_impl_ViewOf_1.ok (m : Nat) : Meets Tryd.prog 92 slices_IndexFunc_File_of_impl_ViewOf_1.sig (slices_IndexFunc_File_of_impl_ViewOf_1 m) :=
  fn_is (cx_is tyOk mixed (l := slices_IndexFunc_File_of_impl_ViewOf_1.cons m) ⟨impl_ViewOf_1_v0.ok m, trivial⟩) (fn := Tryd.f92) Tryd.func92 (by kernel_rfl) (cl := slices_IndexFunc_File_of_impl_ViewOf_1.cuts m) ⟨⟨by kernel_rfl, fun _ => rfl, fun k x => slices_IndexFunc_File_of_impl_ViewOf_1.eq0 m k x⟩, trivial⟩ (k := m) (slices_IndexFunc_File_of_impl_ViewOf_1.eq m)

/-! ### slices.DeleteFunc[[]loop.example/stemma/impl.File,loop.example/stemma/impl.File]: function 55 -/
abbrev slices_DeleteFunc_File_of_impl_ViewOf_1.R : Type := Den [.list (.str), .list (.pair (.str) (.list (.str)))]
def slices_DeleteFunc_File_of_impl_ViewOf_1.sig : Sig := ⟨2, ⟨[.box [.dat (.list (.str))], .row false (.pair (.str) (.list (.str)))], [(0, .l (.sl 1)), (1, .l (.fn 57 [0]))]⟩, [.list (.str), .list (.pair (.str) (.list (.str)))], ⟨[.box [.dat (.list (.str))], .dead, .row false (.pair (.str) (.list (.str)))], [(0, .l (.sl 2))]⟩, [.list (.str), .list (.pair (.str) (.list (.str)))]⟩
abbrev slices_DeleteFunc_File_of_impl_ViewOf_1.Tab : Type := (Den [.list (.str), .list (.pair (.str) (.list (.str))), .int .i64, .int .i64] → Option slices_DeleteFunc_File_of_impl_ViewOf_1.R) × Unit
def slices_DeleteFunc_File_of_impl_ViewOf_1.start (m : Nat) (t : slices_DeleteFunc_File_of_impl_ViewOf_1.Tab) (x0 : List ByteArray) (x1 : List (ByteArray × List ByteArray)) : Option slices_DeleteFunc_File_of_impl_ViewOf_1.R :=
  Option.bind (slices_IndexFunc_File_of_impl_ViewOf_1 m (x0, x1, ())) fun r1 => cond (r1.2.2.1 == (-1 : Int)) (some (r1.1, r1.2.1, ())) (t.1 (r1.1, r1.2.1, r1.2.2.1, (w64 (r1.2.2.1 + (1 : Int))), ()))
def slices_DeleteFunc_File_of_impl_ViewOf_1.b0 (m : Nat) (t : slices_DeleteFunc_File_of_impl_ViewOf_1.Tab) (a0 : List ByteArray) (a1 : List (ByteArray × List ByteArray)) (a2 : Int) (a3 : Int) : Option slices_DeleteFunc_File_of_impl_ViewOf_1.R :=
  cond (decide (a3 < (lLen a1))) (cond (decide ((0 : Int) ≤ a3)) (cond (decide (a3 < lLen a1)) (lett ((List.getD a1 (Int.toNat a3) (ByteArray.empty, ([] : List ByteArray))).1 : ByteArray) fun v1 => lett ((List.getD a1 (Int.toNat a3) (ByteArray.empty, ([] : List ByteArray))).2 : List ByteArray) fun v2 => Option.bind (impl_ViewOf_1_v0 m (a0, v1, v2, ())) fun r3 => cond (!r3.2.1) (cond (decide ((0 : Int) ≤ a2)) (cond (decide (a2 < lLen a1)) (t.1 (r3.1, (List.set a1 (Int.toNat a2) (v1, v2)), (w64 (a2 + (1 : Int))), (w64 (a3 + (1 : Int))), ())) none) none) (t.1 (r3.1, a1, a2, (w64 (a3 + (1 : Int))), ()))) none) none) (cond (decide ((0 : Int) ≤ a2)) (cond (decide (a2 ≤ ((List.length a1) : Int))) (lett ((List.take (Int.toNat a2) a1 ++ (List.replicate ((List.length a1) - (Int.toNat a2)) (ByteArray.empty, ([] : List ByteArray)) ++ List.drop (List.length a1) a1)) : List (ByteArray × List ByteArray)) fun v4 => cond (decide ((0 : Int) ≤ a2)) (cond (decide (a2 ≤ ((List.length v4) : Int))) (some (a0, (List.take (Int.toNat a2) v4), ())) none) none) none) none)
def slices_DeleteFunc_File_of_impl_ViewOf_1.tab (m : Nat) : Nat → slices_DeleteFunc_File_of_impl_ViewOf_1.Tab
  | 0 => (fun _ => none, ())
  | k + 1 => (fun x => slices_DeleteFunc_File_of_impl_ViewOf_1.b0 m (slices_DeleteFunc_File_of_impl_ViewOf_1.tab m k) x.1 x.2.1 x.2.2.1 x.2.2.2.1, ())
def slices_DeleteFunc_File_of_impl_ViewOf_1 (m : Nat) (x : Den [.list (.str), .list (.pair (.str) (.list (.str)))]) : Option slices_DeleteFunc_File_of_impl_ViewOf_1.R := slices_DeleteFunc_File_of_impl_ViewOf_1.start m (slices_DeleteFunc_File_of_impl_ViewOf_1.tab m m) x.1 x.2.1
def slices_DeleteFunc_File_of_impl_ViewOf_1.cons (m : Nat) : List (Nat × Contract) := [(92, ⟨slices_IndexFunc_File_of_impl_ViewOf_1.sig, slices_IndexFunc_File_of_impl_ViewOf_1 m⟩), (57, ⟨impl_ViewOf_1_v0.sig, impl_ViewOf_1_v0 m⟩)]
def slices_DeleteFunc_File_of_impl_ViewOf_1.cuts (m : Nat) : List (CutF (Den slices_DeleteFunc_File_of_impl_ViewOf_1.sig.us)) := [⟨[false, true, false, true, true, true], 122, ⟨[.box [.dat (.list (.str))], .row false (.pair (.str) (.list (.str)))], [(0, .l (.sl 1)), (1, .l (.fn 57 [0])), (5, .l (.dat (.int .i64))), (6, .l (.dat (.int .i64)))]⟩, [.list (.str), .list (.pair (.str) (.list (.str))), .int .i64, .int .i64], fun k => (slices_DeleteFunc_File_of_impl_ViewOf_1.tab m k).1⟩]
theorem slices_DeleteFunc_File_of_impl_ViewOf_1.eq0 (m k : Nat) (x : Den [.list (.str), .list (.pair (.str) (.list (.str))), .int .i64, .int .i64]) : (slices_DeleteFunc_File_of_impl_ViewOf_1.tab m (k + 1)).1 x = runF ⟨lookΓ Γl, lookC (slices_DeleteFunc_File_of_impl_ViewOf_1.cons m), true⟩ Tryd.f55 slices_DeleteFunc_File_of_impl_ViewOf_1.sig (slices_DeleteFunc_File_of_impl_ViewOf_1.cuts m) k [false, true, false, true, true, true] ⟨[.box [.dat (.list (.str))], .row false (.pair (.str) (.list (.str)))], [(0, .l (.sl 1)), (1, .l (.fn 57 [0])), (5, .l (.dat (.int .i64))), (6, .l (.dat (.int .i64)))]⟩ [.list (.str), .list (.pair (.str) (.list (.str))), .int .i64, .int .i64] x := by kernel_rfl
theorem slices_DeleteFunc_File_of_impl_ViewOf_1.eq (m : Nat) (x : Den slices_DeleteFunc_File_of_impl_ViewOf_1.sig.ts) : slices_DeleteFunc_File_of_impl_ViewOf_1 m x = startF ⟨lookΓ Γl, lookC (slices_DeleteFunc_File_of_impl_ViewOf_1.cons m), true⟩ Tryd.f55 slices_DeleteFunc_File_of_impl_ViewOf_1.sig (slices_DeleteFunc_File_of_impl_ViewOf_1.cuts m) m x := by kernel_rfl
theorem slices_DeleteFunc_File_of_impl_ViewOf_1.ok (m : Nat) : Meets Tryd.prog 55 slices_DeleteFunc_File_of_impl_ViewOf_1.sig (slices_DeleteFunc_File_of_impl_ViewOf_1 m) :=
  fn_is (cx_is tyOk mixed (l := slices_DeleteFunc_File_of_impl_ViewOf_1.cons m) ⟨slices_IndexFunc_File_of_impl_ViewOf_1.ok m, impl_ViewOf_1_v0.ok m, trivial⟩) (fn := Tryd.f55) Tryd.func55 (by kernel_rfl) (cl := slices_DeleteFunc_File_of_impl_ViewOf_1.cuts m) ⟨⟨by kernel_rfl, fun _ => rfl, fun k x => slices_DeleteFunc_File_of_impl_ViewOf_1.eq0 m k x⟩, trivial⟩ (k := m) (slices_DeleteFunc_File_of_impl_ViewOf_1.eq m)

/-! ### loop.example/stemma/impl.ViewOf: function 22 -/
abbrev impl_ViewOf.R : Type := Den [.list (.pair (.str) (.list (.str)))]
def impl_ViewOf.sig : Sig := ⟨2, ⟨[], [(0, .l (.dat (.list (.pair (.str) (.list (.str)))))), (1, .l (.dat (.list (.str))))]⟩, [.list (.pair (.str) (.list (.str))), .list (.str)], ⟨[], [(0, .l (.dat (.list (.pair (.str) (.list (.str))))))]⟩, [.list (.pair (.str) (.list (.str)))]⟩
abbrev impl_ViewOf.Tab : Type := Unit
def impl_ViewOf.start (m : Nat) (t : impl_ViewOf.Tab) (x0 : List (ByteArray × List ByteArray)) (x1 : List ByteArray) : Option impl_ViewOf.R :=
  Option.bind (impl_TreeOk m (x0, ())) fun r1 => cond (!r1.1) (some ([], ())) (Option.bind (impl_viewOk m (x1, ())) fun r2 => cond (!r2.1) (some ([], ())) (Option.bind (impl_copyTree m (x0, ())) fun r3 => Option.bind (slices_DeleteFunc_File_of_impl_ViewOf_1 m (x1, r3.1, ())) fun r4 => some (r4.2.1, ())))
def impl_ViewOf.tab (m : Nat) : Nat → impl_ViewOf.Tab
  | 0 => (())
  | k + 1 => (())
def impl_ViewOf (m : Nat) (x : Den [.list (.pair (.str) (.list (.str))), .list (.str)]) : Option impl_ViewOf.R := impl_ViewOf.start m (impl_ViewOf.tab m m) x.1 x.2.1
def impl_ViewOf.cons (m : Nat) : List (Nat × Contract) := [(30, ⟨impl_TreeOk.sig, impl_TreeOk m⟩), (54, ⟨impl_viewOk.sig, impl_viewOk m⟩), (56, ⟨impl_copyTree.sig, impl_copyTree m⟩), (55, ⟨slices_DeleteFunc_File_of_impl_ViewOf_1.sig, slices_DeleteFunc_File_of_impl_ViewOf_1 m⟩)]
def impl_ViewOf.cuts (m : Nat) : List (CutF (Den impl_ViewOf.sig.us)) := []
theorem impl_ViewOf.eq (m : Nat) (x : Den impl_ViewOf.sig.ts) : impl_ViewOf m x = startF ⟨lookΓ Γl, lookC (impl_ViewOf.cons m), false⟩ Tryd.f22 impl_ViewOf.sig (impl_ViewOf.cuts m) m x := by kernel_rfl
theorem impl_ViewOf.ok (m : Nat) : Meets Tryd.prog 22 impl_ViewOf.sig (impl_ViewOf m) :=
  fn_is (cx_is tyOk mixed (l := impl_ViewOf.cons m) ⟨impl_TreeOk.ok m, impl_viewOk.ok m, impl_copyTree.ok m, slices_DeleteFunc_File_of_impl_ViewOf_1.ok m, trivial⟩) (fn := Tryd.f22) Tryd.func22 (by kernel_rfl) (cl := impl_ViewOf.cuts m) trivial (k := m) (impl_ViewOf.eq m)

/-! ### loop.example/stemma/spec.l25Paths: function 51 -/
abbrev spec_l25Paths.R : Type := Den [.bool]
def spec_l25Paths.sig : Sig := ⟨1, ⟨[], [(0, .l (.dat (.list (.str))))]⟩, [.list (.str)], ⟨[], [(0, .l (.dat (.bool)))]⟩, [.bool]⟩
abbrev spec_l25Paths.Tab : Type := (Den [.list (.str), .int .i64] → Option spec_l25Paths.R) × Unit
def spec_l25Paths.start (m : Nat) (t : spec_l25Paths.Tab) (x0 : List ByteArray) : Option spec_l25Paths.R :=
  t.1 (x0, (0 : Int), ())
def spec_l25Paths.b0 (m : Nat) (t : spec_l25Paths.Tab) (a0 : List ByteArray) (a1 : Int) : Option spec_l25Paths.R :=
  cond (decide (a1 < (lLen a0))) (cond (decide ((0 : Int) ≤ a1)) (cond (decide (a1 < lLen a0)) (Option.bind (spec_l4Path m ((getL a0 a1 ByteArray.empty), ())) fun r1 => cond (!r1.1) (some (false, ())) (t.1 (a0, (w64 (a1 + (1 : Int))), ()))) none) none) (some ((decide ((lLen a0) ≤ (4 : Int))), ()))
def spec_l25Paths.tab (m : Nat) : Nat → spec_l25Paths.Tab
  | 0 => (fun _ => none, ())
  | k + 1 => (fun x => spec_l25Paths.b0 m (spec_l25Paths.tab m k) x.1 x.2.1, ())
def spec_l25Paths (m : Nat) (x : Den [.list (.str)]) : Option spec_l25Paths.R := spec_l25Paths.start m (spec_l25Paths.tab m m) x.1
def spec_l25Paths.cons (m : Nat) : List (Nat × Contract) := [(82, ⟨spec_l4Path.sig, spec_l4Path m⟩)]
def spec_l25Paths.cuts (m : Nat) : List (CutF (Den spec_l25Paths.sig.us)) := [⟨[false, true, false, true], 26, ⟨[], [(0, .l (.dat (.list (.str)))), (3, .l (.dat (.int .i64)))]⟩, [.list (.str), .int .i64], fun k => (spec_l25Paths.tab m k).1⟩]
theorem spec_l25Paths.eq0 (m k : Nat) (x : Den [.list (.str), .int .i64]) : (spec_l25Paths.tab m (k + 1)).1 x = runF ⟨lookΓ Γl, lookC (spec_l25Paths.cons m), false⟩ Tryd.f51 spec_l25Paths.sig (spec_l25Paths.cuts m) k [false, true, false, true] ⟨[], [(0, .l (.dat (.list (.str)))), (3, .l (.dat (.int .i64)))]⟩ [.list (.str), .int .i64] x := by kernel_rfl
theorem spec_l25Paths.eq (m : Nat) (x : Den spec_l25Paths.sig.ts) : spec_l25Paths m x = startF ⟨lookΓ Γl, lookC (spec_l25Paths.cons m), false⟩ Tryd.f51 spec_l25Paths.sig (spec_l25Paths.cuts m) m x := by kernel_rfl
theorem spec_l25Paths.ok (m : Nat) : Meets Tryd.prog 51 spec_l25Paths.sig (spec_l25Paths m) :=
  fn_is (cx_is tyOk mixed (l := spec_l25Paths.cons m) ⟨spec_l4Path.ok m, trivial⟩) (fn := Tryd.f51) Tryd.func51 (by kernel_rfl) (cl := spec_l25Paths.cuts m) ⟨⟨by kernel_rfl, fun _ => rfl, fun k x => spec_l25Paths.eq0 m k x⟩, trivial⟩ (k := m) (spec_l25Paths.eq m)

/-! ### loop.example/stemma/spec.l25In: function 53 -/
abbrev spec_l25In.R : Type := Den [.bool]
def spec_l25In.sig : Sig := ⟨2, ⟨[], [(0, .l (.dat (.list (.str)))), (1, .l (.dat (.str)))]⟩, [.list (.str), .str], ⟨[], [(0, .l (.dat (.bool)))]⟩, [.bool]⟩
abbrev spec_l25In.Tab : Type := (Den [.list (.str), .str, .int .i64] → Option spec_l25In.R) × Unit
def spec_l25In.start (m : Nat) (t : spec_l25In.Tab) (x0 : List ByteArray) (x1 : ByteArray) : Option spec_l25In.R :=
  t.1 (x0, x1, (0 : Int), ())
def spec_l25In.b0 (m : Nat) (t : spec_l25In.Tab) (a0 : List ByteArray) (a1 : ByteArray) (a2 : Int) : Option spec_l25In.R :=
  cond (decide (a2 < (lLen a0))) (cond (decide ((0 : Int) ≤ a2)) (cond (decide (a2 < lLen a0)) (cond (sEq (getL a0 a2 ByteArray.empty) a1) (some (true, ())) (cond (decide ((0 : Int) ≤ a2)) (cond (decide (a2 < lLen a0)) (Option.bind (spec_l4In m ((getL a0 a2 ByteArray.empty), a1, ())) fun r1 => cond r1.1 (some (true, ())) (t.1 (a0, a1, (w64 (a2 + (1 : Int))), ()))) none) none)) none) none) (some (false, ()))
def spec_l25In.tab (m : Nat) : Nat → spec_l25In.Tab
  | 0 => (fun _ => none, ())
  | k + 1 => (fun x => spec_l25In.b0 m (spec_l25In.tab m k) x.1 x.2.1 x.2.2.1, ())
def spec_l25In (m : Nat) (x : Den [.list (.str), .str]) : Option spec_l25In.R := spec_l25In.start m (spec_l25In.tab m m) x.1 x.2.1
def spec_l25In.cons (m : Nat) : List (Nat × Contract) := [(84, ⟨spec_l4In.sig, spec_l4In m⟩)]
def spec_l25In.cuts (m : Nat) : List (CutF (Den spec_l25In.sig.us)) := [⟨[false, true, false, true], 26, ⟨[], [(0, .l (.dat (.list (.str)))), (1, .l (.dat (.str))), (5, .l (.dat (.int .i64)))]⟩, [.list (.str), .str, .int .i64], fun k => (spec_l25In.tab m k).1⟩]
theorem spec_l25In.eq0 (m k : Nat) (x : Den [.list (.str), .str, .int .i64]) : (spec_l25In.tab m (k + 1)).1 x = runF ⟨lookΓ Γl, lookC (spec_l25In.cons m), false⟩ Tryd.f53 spec_l25In.sig (spec_l25In.cuts m) k [false, true, false, true] ⟨[], [(0, .l (.dat (.list (.str)))), (1, .l (.dat (.str))), (5, .l (.dat (.int .i64)))]⟩ [.list (.str), .str, .int .i64] x := by kernel_rfl
theorem spec_l25In.eq (m : Nat) (x : Den spec_l25In.sig.ts) : spec_l25In m x = startF ⟨lookΓ Γl, lookC (spec_l25In.cons m), false⟩ Tryd.f53 spec_l25In.sig (spec_l25In.cuts m) m x := by kernel_rfl
theorem spec_l25In.ok (m : Nat) : Meets Tryd.prog 53 spec_l25In.sig (spec_l25In m) :=
  fn_is (cx_is tyOk mixed (l := spec_l25In.cons m) ⟨spec_l4In.ok m, trivial⟩) (fn := Tryd.f53) Tryd.func53 (by kernel_rfl) (cl := spec_l25In.cuts m) ⟨⟨by kernel_rfl, fun _ => rfl, fun k x => spec_l25In.eq0 m k x⟩, trivial⟩ (k := m) (spec_l25In.eq m)

/-! ### loop.example/stemma/spec.ViewOf: function 20 -/
abbrev spec_ViewOf.R : Type := Den [.list (.pair (.str) (.list (.str)))]
def spec_ViewOf.sig : Sig := ⟨2, ⟨[], [(0, .l (.dat (.list (.pair (.str) (.list (.str)))))), (1, .l (.dat (.list (.str))))]⟩, [.list (.pair (.str) (.list (.str))), .list (.str)], ⟨[], [(0, .l (.dat (.list (.pair (.str) (.list (.str))))))]⟩, [.list (.pair (.str) (.list (.str)))]⟩
abbrev spec_ViewOf.Tab : Type := (Den [.list (.pair (.str) (.list (.str))), .list (.pair (.str) (.list (.str))), .list (.str), .int .i64] → Option spec_ViewOf.R) × Unit
def spec_ViewOf.start (m : Nat) (t : spec_ViewOf.Tab) (x0 : List (ByteArray × List ByteArray)) (x1 : List ByteArray) : Option spec_ViewOf.R :=
  Option.bind (spec_l4Ok m (x0, ())) fun r1 => cond (!r1.1) (some ([], ())) (Option.bind (spec_l25Paths m (x1, ())) fun r2 => cond (!r2.1) (some ([], ())) (Option.bind (spec_l4Copy m (x0, ())) fun r3 => t.1 ([], r3.1, x1, (0 : Int), ())))
def spec_ViewOf.b0 (m : Nat) (t : spec_ViewOf.Tab) (a0 : List (ByteArray × List ByteArray)) (a1 : List (ByteArray × List ByteArray)) (a2 : List ByteArray) (a3 : Int) : Option spec_ViewOf.R :=
  cond (decide (a3 < (lLen a1))) (cond (decide ((0 : Int) ≤ a3)) (cond (decide (a3 < lLen a1)) (lett ((List.getD a1 (Int.toNat a3) (ByteArray.empty, ([] : List ByteArray))).1 : ByteArray) fun v1 => Option.bind (spec_l25In m (a2, v1, ())) fun r2 => cond r2.1 (cond (decide ((0 : Int) ≤ a3)) (cond (decide (a3 < lLen a1)) (lett ((List.getD a1 (Int.toNat a3) (ByteArray.empty, ([] : List ByteArray))).1 : ByteArray) fun v3 => lett ((List.getD a1 (Int.toNat a3) (ByteArray.empty, ([] : List ByteArray))).2 : List ByteArray) fun v4 => cond (decide (List.length a0 + List.length ([(v3, v4)] : List (ByteArray × List ByteArray)) ≤ apCap)) (lett ((List.append a0 ([(v3, v4)] : List (ByteArray × List ByteArray))) : List (ByteArray × List ByteArray)) fun v5 => t.1 (v5, a1, a2, (w64 (a3 + (1 : Int))), ())) none) none) none) (t.1 (a0, a1, a2, (w64 (a3 + (1 : Int))), ()))) none) none) (some (a0, ()))
def spec_ViewOf.tab (m : Nat) : Nat → spec_ViewOf.Tab
  | 0 => (fun _ => none, ())
  | k + 1 => (fun x => spec_ViewOf.b0 m (spec_ViewOf.tab m k) x.1 x.2.1 x.2.2.1 x.2.2.2.1, ())
def spec_ViewOf (m : Nat) (x : Den [.list (.pair (.str) (.list (.str))), .list (.str)]) : Option spec_ViewOf.R := spec_ViewOf.start m (spec_ViewOf.tab m m) x.1 x.2.1
def spec_ViewOf.cons (m : Nat) : List (Nat × Contract) := [(41, ⟨spec_l4Ok.sig, spec_l4Ok m⟩), (51, ⟨spec_l25Paths.sig, spec_l25Paths m⟩), (52, ⟨spec_l4Copy.sig, spec_l4Copy m⟩), (53, ⟨spec_l25In.sig, spec_l25In m⟩)]
def spec_ViewOf.cuts (m : Nat) : List (CutF (Den spec_ViewOf.sig.us)) := [⟨[false, true, false, true, true, true, true], 250, ⟨[.row false (.pair (.str) (.list (.str))), .row false (.pair (.str) (.list (.str)))], [(1, .l (.dat (.list (.str)))), (5, .l (.sl 0)), (6, .l (.sl 1)), (7, .l (.dat (.int .i64)))]⟩, [.list (.pair (.str) (.list (.str))), .list (.pair (.str) (.list (.str))), .list (.str), .int .i64], fun k => (spec_ViewOf.tab m k).1⟩]
theorem spec_ViewOf.eq0 (m k : Nat) (x : Den [.list (.pair (.str) (.list (.str))), .list (.pair (.str) (.list (.str))), .list (.str), .int .i64]) : (spec_ViewOf.tab m (k + 1)).1 x = runF ⟨lookΓ Γl, lookC (spec_ViewOf.cons m), false⟩ Tryd.f20 spec_ViewOf.sig (spec_ViewOf.cuts m) k [false, true, false, true, true, true, true] ⟨[.row false (.pair (.str) (.list (.str))), .row false (.pair (.str) (.list (.str)))], [(1, .l (.dat (.list (.str)))), (5, .l (.sl 0)), (6, .l (.sl 1)), (7, .l (.dat (.int .i64)))]⟩ [.list (.pair (.str) (.list (.str))), .list (.pair (.str) (.list (.str))), .list (.str), .int .i64] x := by kernel_rfl
theorem spec_ViewOf.eq (m : Nat) (x : Den spec_ViewOf.sig.ts) : spec_ViewOf m x = startF ⟨lookΓ Γl, lookC (spec_ViewOf.cons m), false⟩ Tryd.f20 spec_ViewOf.sig (spec_ViewOf.cuts m) m x := by kernel_rfl
theorem spec_ViewOf.ok (m : Nat) : Meets Tryd.prog 20 spec_ViewOf.sig (spec_ViewOf m) :=
  fn_is (cx_is tyOk mixed (l := spec_ViewOf.cons m) ⟨spec_l4Ok.ok m, spec_l25Paths.ok m, spec_l4Copy.ok m, spec_l25In.ok m, trivial⟩) (fn := Tryd.f20) Tryd.func20 (by kernel_rfl) (cl := spec_ViewOf.cuts m) ⟨⟨by kernel_rfl, fun _ => rfl, fun k x => spec_ViewOf.eq0 m k x⟩, trivial⟩ (k := m) (spec_ViewOf.eq m)

/-! ### loop.example/stemma/laws.smTexts: function 68 -/
abbrev laws_smTexts.R : Type := Den [.bool]
def laws_smTexts.sig : Sig := ⟨2, ⟨[], [(0, .l (.dat (.sp (.str)))), (1, .l (.dat (.sp (.str))))]⟩, [.sp (.str), .sp (.str)], ⟨[], [(0, .l (.dat (.bool)))]⟩, [.bool]⟩
abbrev laws_smTexts.Tab : Type := (Den [.sp (.str), .sp (.str), .int .i64] → Option laws_smTexts.R) × Unit
def laws_smTexts.start (m : Nat) (t : laws_smTexts.Tab) (x0 : List ByteArray × Nat) (x1 : List ByteArray × Nat) : Option laws_smTexts.R :=
  cond ((x0.2 : Int) != (x1.2 : Int)) (some (false, ())) (t.1 (x0, x1, (0 : Int), ()))
def laws_smTexts.b0 (m : Nat) (t : laws_smTexts.Tab) (a0 : List ByteArray × Nat) (a1 : List ByteArray × Nat) (a2 : Int) : Option laws_smTexts.R :=
  cond (decide (a2 < (a0.2 : Int))) (cond (decide ((0 : Int) ≤ a2)) (cond (decide (a2 < (a0.2 : Int))) (cond (decide ((0 : Int) ≤ a2)) (cond (decide (a2 < (a1.2 : Int))) (lett ((!sEq (getL a0.1 a2 ByteArray.empty) (getL a1.1 a2 ByteArray.empty)) : Bool) fun v1 => cond v1 (some (false, ())) (t.1 (a0, a1, (w64 (a2 + (1 : Int))), ()))) none) none) none) none) (some (true, ()))
def laws_smTexts.tab (m : Nat) : Nat → laws_smTexts.Tab
  | 0 => (fun _ => none, ())
  | k + 1 => (fun x => laws_smTexts.b0 m (laws_smTexts.tab m k) x.1 x.2.1 x.2.2.1, ())
def laws_smTexts (m : Nat) (x : Den [.sp (.str), .sp (.str)]) : Option laws_smTexts.R := laws_smTexts.start m (laws_smTexts.tab m m) x.1 x.2.1
def laws_smTexts.cons (m : Nat) : List (Nat × Contract) := []
def laws_smTexts.cuts (m : Nat) : List (CutF (Den laws_smTexts.sig.us)) := [⟨[false, true, false, true, true], 58, ⟨[], [(0, .l (.dat (.sp (.str)))), (1, .l (.dat (.sp (.str)))), (5, .l (.dat (.int .i64)))]⟩, [.sp (.str), .sp (.str), .int .i64], fun k => (laws_smTexts.tab m k).1⟩]
theorem laws_smTexts.eq0 (m k : Nat) (x : Den [.sp (.str), .sp (.str), .int .i64]) : (laws_smTexts.tab m (k + 1)).1 x = runF ⟨lookΓ Γs, lookC (laws_smTexts.cons m), false⟩ Tryd.f68 laws_smTexts.sig (laws_smTexts.cuts m) k [false, true, false, true, true] ⟨[], [(0, .l (.dat (.sp (.str)))), (1, .l (.dat (.sp (.str)))), (5, .l (.dat (.int .i64)))]⟩ [.sp (.str), .sp (.str), .int .i64] x := by kernel_rfl
theorem laws_smTexts.eq (m : Nat) (x : Den laws_smTexts.sig.ts) : laws_smTexts m x = startF ⟨lookΓ Γs, lookC (laws_smTexts.cons m), false⟩ Tryd.f68 laws_smTexts.sig (laws_smTexts.cuts m) m x := by kernel_rfl
theorem laws_smTexts.ok (m : Nat) : Meets Tryd.prog 68 laws_smTexts.sig (laws_smTexts m) :=
  fn_is (cx_is tyOks mixed (l := laws_smTexts.cons m) trivial) (fn := Tryd.f68) Tryd.func68 (by kernel_rfl) (cl := laws_smTexts.cuts m) ⟨⟨by kernel_rfl, fun _ => rfl, fun k x => laws_smTexts.eq0 m k x⟩, trivial⟩ (k := m) (laws_smTexts.eq m)

/-! ### loop.example/stemma/laws.smTree: function 29 -/
abbrev laws_smTree.R : Type := Den [.bool]
def laws_smTree.sig : Sig := ⟨2, ⟨[], [(0, .l (.dat (.sp (.pair (.str) (.sp (.str)))))), (1, .l (.dat (.sp (.pair (.str) (.sp (.str))))))]⟩, [.sp (.pair (.str) (.sp (.str))), .sp (.pair (.str) (.sp (.str)))], ⟨[], [(0, .l (.dat (.bool)))]⟩, [.bool]⟩
abbrev laws_smTree.Tab : Type := (Den [.sp (.pair (.str) (.sp (.str))), .sp (.pair (.str) (.sp (.str))), .int .i64] → Option laws_smTree.R) × Unit
def laws_smTree.start (m : Nat) (t : laws_smTree.Tab) (x0 : List (ByteArray × (List ByteArray × Nat)) × Nat) (x1 : List (ByteArray × (List ByteArray × Nat)) × Nat) : Option laws_smTree.R :=
  cond ((x0.2 : Int) != (x1.2 : Int)) (some (false, ())) (t.1 (x0, x1, (0 : Int), ()))
def laws_smTree.b0 (m : Nat) (t : laws_smTree.Tab) (a0 : List (ByteArray × (List ByteArray × Nat)) × Nat) (a1 : List (ByteArray × (List ByteArray × Nat)) × Nat) (a2 : Int) : Option laws_smTree.R :=
  cond (decide (a2 < (a0.2 : Int))) (cond (decide ((0 : Int) ≤ a2)) (cond (decide (a2 < (a0.2 : Int))) (lett ((getL a0.1 a2 (ByteArray.empty, ([] : List ByteArray), (0 : Nat))) : ByteArray × (List ByteArray × Nat)) fun v1 => cond (decide ((0 : Int) ≤ a2)) (cond (decide (a2 < (a1.2 : Int))) (lett ((getL a1.1 a2 (ByteArray.empty, ([] : List ByteArray), (0 : Nat))) : ByteArray × (List ByteArray × Nat)) fun v2 => cond (!sEq v1.1 v2.1) (some (false, ())) (cond (decide ((0 : Int) ≤ a2)) (cond (decide (a2 < (a0.2 : Int))) (lett ((getL a0.1 a2 (ByteArray.empty, ([] : List ByteArray), (0 : Nat))) : ByteArray × (List ByteArray × Nat)) fun v3 => cond (decide ((0 : Int) ≤ a2)) (cond (decide (a2 < (a1.2 : Int))) (lett ((getL a1.1 a2 (ByteArray.empty, ([] : List ByteArray), (0 : Nat))) : ByteArray × (List ByteArray × Nat)) fun v4 => Option.bind (laws_smTexts m (v3.2, v4.2, ())) fun r5 => cond (!r5.1) (some (false, ())) (t.1 (a0, a1, (w64 (a2 + (1 : Int))), ()))) none) none) none) none)) none) none) none) none) (some (true, ()))
def laws_smTree.tab (m : Nat) : Nat → laws_smTree.Tab
  | 0 => (fun _ => none, ())
  | k + 1 => (fun x => laws_smTree.b0 m (laws_smTree.tab m k) x.1 x.2.1 x.2.2.1, ())
def laws_smTree (m : Nat) (x : Den [.sp (.pair (.str) (.sp (.str))), .sp (.pair (.str) (.sp (.str)))]) : Option laws_smTree.R := laws_smTree.start m (laws_smTree.tab m m) x.1 x.2.1
def laws_smTree.cons (m : Nat) : List (Nat × Contract) := [(68, ⟨laws_smTexts.sig, laws_smTexts m⟩)]
def laws_smTree.cuts (m : Nat) : List (CutF (Den laws_smTree.sig.us)) := [⟨[false, true, false, true, true], 58, ⟨[], [(0, .l (.dat (.sp (.pair (.str) (.sp (.str)))))), (1, .l (.dat (.sp (.pair (.str) (.sp (.str)))))), (5, .l (.dat (.int .i64)))]⟩, [.sp (.pair (.str) (.sp (.str))), .sp (.pair (.str) (.sp (.str))), .int .i64], fun k => (laws_smTree.tab m k).1⟩]
theorem laws_smTree.eq0 (m k : Nat) (x : Den [.sp (.pair (.str) (.sp (.str))), .sp (.pair (.str) (.sp (.str))), .int .i64]) : (laws_smTree.tab m (k + 1)).1 x = runF ⟨lookΓ Γs, lookC (laws_smTree.cons m), false⟩ Tryd.f29 laws_smTree.sig (laws_smTree.cuts m) k [false, true, false, true, true] ⟨[], [(0, .l (.dat (.sp (.pair (.str) (.sp (.str)))))), (1, .l (.dat (.sp (.pair (.str) (.sp (.str)))))), (5, .l (.dat (.int .i64)))]⟩ [.sp (.pair (.str) (.sp (.str))), .sp (.pair (.str) (.sp (.str))), .int .i64] x := by kernel_rfl
theorem laws_smTree.eq (m : Nat) (x : Den laws_smTree.sig.ts) : laws_smTree m x = startF ⟨lookΓ Γs, lookC (laws_smTree.cons m), false⟩ Tryd.f29 laws_smTree.sig (laws_smTree.cuts m) m x := by kernel_rfl
theorem laws_smTree.ok (m : Nat) : Meets Tryd.prog 29 laws_smTree.sig (laws_smTree m) :=
  fn_is (cx_is tyOks mixed (l := laws_smTree.cons m) ⟨laws_smTexts.ok m, trivial⟩) (fn := Tryd.f29) Tryd.func29 (by kernel_rfl) (cl := laws_smTree.cuts m) ⟨⟨by kernel_rfl, fun _ => rfl, fun k x => laws_smTree.eq0 m k x⟩, trivial⟩ (k := m) (laws_smTree.eq m)

/-! ### loop.example/stemma/impl.ViewPut$1: function 62 -/
abbrev impl_ViewPut_1_v0.R : Type := Den [.list (.str), .bool]
def impl_ViewPut_1_v0.sig : Sig := ⟨2, ⟨[.box [.dat (.list (.str))]], [(0, .agg [.dat (.str), .dat (.list (.str))]), (1, .l (.ptr 0 0))]⟩, [.list (.str), .str, .list (.str)], ⟨[.box [.dat (.list (.str))]], [(0, .l (.dat (.bool)))]⟩, [.list (.str), .bool]⟩
abbrev impl_ViewPut_1_v0.Tab : Type := Unit
def impl_ViewPut_1_v0.start (m : Nat) (t : impl_ViewPut_1_v0.Tab) (x0 : List ByteArray) (x1 : ByteArray) (x2 : List ByteArray) : Option impl_ViewPut_1_v0.R :=
  Option.bind (impl_visible m (x0, x1, ())) fun r1 => some (x0, (!r1.1), ())
def impl_ViewPut_1_v0.tab (m : Nat) : Nat → impl_ViewPut_1_v0.Tab
  | 0 => (())
  | k + 1 => (())
def impl_ViewPut_1_v0 (m : Nat) (x : Den [.list (.str), .str, .list (.str)]) : Option impl_ViewPut_1_v0.R := impl_ViewPut_1_v0.start m (impl_ViewPut_1_v0.tab m m) x.1 x.2.1 x.2.2.1
def impl_ViewPut_1_v0.cons (m : Nat) : List (Nat × Contract) := [(58, ⟨impl_visible.sig, impl_visible m⟩)]
def impl_ViewPut_1_v0.cuts (m : Nat) : List (CutF (Den impl_ViewPut_1_v0.sig.us)) := []
theorem impl_ViewPut_1_v0.eq (m : Nat) (x : Den impl_ViewPut_1_v0.sig.ts) : impl_ViewPut_1_v0 m x = startF ⟨lookΓ Γl, lookC (impl_ViewPut_1_v0.cons m), false⟩ Tryd.f62 impl_ViewPut_1_v0.sig (impl_ViewPut_1_v0.cuts m) m x := by kernel_rfl
theorem impl_ViewPut_1_v0.ok (m : Nat) : Meets Tryd.prog 62 impl_ViewPut_1_v0.sig (impl_ViewPut_1_v0 m) :=
  fn_is (cx_is tyOk mixed (l := impl_ViewPut_1_v0.cons m) ⟨impl_visible.ok m, trivial⟩) (fn := Tryd.f62) Tryd.func62 (by kernel_rfl) (cl := impl_ViewPut_1_v0.cuts m) trivial (k := m) (impl_ViewPut_1_v0.eq m)

/-! ### slices.IndexFunc[[]loop.example/stemma/impl.File,loop.example/stemma/impl.File]: function 92 -/
abbrev slices_IndexFunc_File_of_impl_ViewPut_1.R : Type := Den [.list (.str), .int .i64]
def slices_IndexFunc_File_of_impl_ViewPut_1.sig : Sig := ⟨2, ⟨[.box [.dat (.list (.str))]], [(0, .l (.dat (.list (.pair (.str) (.list (.str)))))), (1, .l (.fn 62 [0]))]⟩, [.list (.str), .list (.pair (.str) (.list (.str)))], ⟨[.box [.dat (.list (.str))]], [(0, .l (.dat (.int .i64)))]⟩, [.list (.str), .int .i64]⟩
abbrev slices_IndexFunc_File_of_impl_ViewPut_1.Tab : Type := (Den [.list (.str), .list (.pair (.str) (.list (.str))), .int .i64, .int .i64] → Option slices_IndexFunc_File_of_impl_ViewPut_1.R) × Unit
def slices_IndexFunc_File_of_impl_ViewPut_1.start (m : Nat) (t : slices_IndexFunc_File_of_impl_ViewPut_1.Tab) (x0 : List ByteArray) (x1 : List (ByteArray × List ByteArray)) : Option slices_IndexFunc_File_of_impl_ViewPut_1.R :=
  t.1 (x0, x1, (lLen x1), (0 : Int), ())
def slices_IndexFunc_File_of_impl_ViewPut_1.b0 (m : Nat) (t : slices_IndexFunc_File_of_impl_ViewPut_1.Tab) (a0 : List ByteArray) (a1 : List (ByteArray × List ByteArray)) (a2 : Int) (a3 : Int) : Option slices_IndexFunc_File_of_impl_ViewPut_1.R :=
  cond (decide (a3 < a2)) (cond (decide ((0 : Int) ≤ a3)) (cond (decide (a3 < lLen a1)) (lett ((getL a1 a3 (ByteArray.empty, ([] : List ByteArray))) : ByteArray × List ByteArray) fun v1 => Option.bind (impl_ViewPut_1_v0 m (a0, v1.1, v1.2, ())) fun r2 => cond r2.2.1 (some (r2.1, a3, ())) (t.1 (r2.1, a1, a2, (w64 (a3 + (1 : Int))), ()))) none) none) (some (a0, (-1 : Int), ()))
def slices_IndexFunc_File_of_impl_ViewPut_1.tab (m : Nat) : Nat → slices_IndexFunc_File_of_impl_ViewPut_1.Tab
  | 0 => (fun _ => none, ())
  | k + 1 => (fun x => slices_IndexFunc_File_of_impl_ViewPut_1.b0 m (slices_IndexFunc_File_of_impl_ViewPut_1.tab m k) x.1 x.2.1 x.2.2.1 x.2.2.2.1, ())
def slices_IndexFunc_File_of_impl_ViewPut_1 (m : Nat) (x : Den [.list (.str), .list (.pair (.str) (.list (.str)))]) : Option slices_IndexFunc_File_of_impl_ViewPut_1.R := slices_IndexFunc_File_of_impl_ViewPut_1.start m (slices_IndexFunc_File_of_impl_ViewPut_1.tab m m) x.1 x.2.1
def slices_IndexFunc_File_of_impl_ViewPut_1.cons (m : Nat) : List (Nat × Contract) := [(62, ⟨impl_ViewPut_1_v0.sig, impl_ViewPut_1_v0 m⟩)]
def slices_IndexFunc_File_of_impl_ViewPut_1.cuts (m : Nat) : List (CutF (Den slices_IndexFunc_File_of_impl_ViewPut_1.sig.us)) := [⟨[false, true, false, true], 26, ⟨[.box [.dat (.list (.str))]], [(0, .l (.dat (.list (.pair (.str) (.list (.str)))))), (1, .l (.fn 62 [0])), (7, .l (.dat (.int .i64))), (8, .l (.dat (.int .i64)))]⟩, [.list (.str), .list (.pair (.str) (.list (.str))), .int .i64, .int .i64], fun k => (slices_IndexFunc_File_of_impl_ViewPut_1.tab m k).1⟩]
theorem slices_IndexFunc_File_of_impl_ViewPut_1.eq0 (m k : Nat) (x : Den [.list (.str), .list (.pair (.str) (.list (.str))), .int .i64, .int .i64]) : (slices_IndexFunc_File_of_impl_ViewPut_1.tab m (k + 1)).1 x = runF ⟨lookΓ Γl, lookC (slices_IndexFunc_File_of_impl_ViewPut_1.cons m), false⟩ Tryd.f92 slices_IndexFunc_File_of_impl_ViewPut_1.sig (slices_IndexFunc_File_of_impl_ViewPut_1.cuts m) k [false, true, false, true] ⟨[.box [.dat (.list (.str))]], [(0, .l (.dat (.list (.pair (.str) (.list (.str)))))), (1, .l (.fn 62 [0])), (7, .l (.dat (.int .i64))), (8, .l (.dat (.int .i64)))]⟩ [.list (.str), .list (.pair (.str) (.list (.str))), .int .i64, .int .i64] x := by kernel_rfl
theorem slices_IndexFunc_File_of_impl_ViewPut_1.eq (m : Nat) (x : Den slices_IndexFunc_File_of_impl_ViewPut_1.sig.ts) : slices_IndexFunc_File_of_impl_ViewPut_1 m x = startF ⟨lookΓ Γl, lookC (slices_IndexFunc_File_of_impl_ViewPut_1.cons m), false⟩ Tryd.f92 slices_IndexFunc_File_of_impl_ViewPut_1.sig (slices_IndexFunc_File_of_impl_ViewPut_1.cuts m) m x := by kernel_rfl
theorem slices_IndexFunc_File_of_impl_ViewPut_1.ok (m : Nat) : Meets Tryd.prog 92 slices_IndexFunc_File_of_impl_ViewPut_1.sig (slices_IndexFunc_File_of_impl_ViewPut_1 m) :=
  fn_is (cx_is tyOk mixed (l := slices_IndexFunc_File_of_impl_ViewPut_1.cons m) ⟨impl_ViewPut_1_v0.ok m, trivial⟩) (fn := Tryd.f92) Tryd.func92 (by kernel_rfl) (cl := slices_IndexFunc_File_of_impl_ViewPut_1.cuts m) ⟨⟨by kernel_rfl, fun _ => rfl, fun k x => slices_IndexFunc_File_of_impl_ViewPut_1.eq0 m k x⟩, trivial⟩ (k := m) (slices_IndexFunc_File_of_impl_ViewPut_1.eq m)

/-! ### slices.ContainsFunc[[]loop.example/stemma/impl.File,loop.example/stemma/impl.File]: function 61 -/
abbrev slices_ContainsFunc_File_of_impl_ViewPut_1.R : Type := Den [.list (.str), .bool]
def slices_ContainsFunc_File_of_impl_ViewPut_1.sig : Sig := ⟨2, ⟨[.box [.dat (.list (.str))]], [(0, .l (.dat (.list (.pair (.str) (.list (.str)))))), (1, .l (.fn 62 [0]))]⟩, [.list (.str), .list (.pair (.str) (.list (.str)))], ⟨[.box [.dat (.list (.str))]], [(0, .l (.dat (.bool)))]⟩, [.list (.str), .bool]⟩
abbrev slices_ContainsFunc_File_of_impl_ViewPut_1.Tab : Type := Unit
def slices_ContainsFunc_File_of_impl_ViewPut_1.start (m : Nat) (t : slices_ContainsFunc_File_of_impl_ViewPut_1.Tab) (x0 : List ByteArray) (x1 : List (ByteArray × List ByteArray)) : Option slices_ContainsFunc_File_of_impl_ViewPut_1.R :=
  Option.bind (slices_IndexFunc_File_of_impl_ViewPut_1 m (x0, x1, ())) fun r1 => some (r1.1, (decide (r1.2.1 ≥ (0 : Int))), ())
def slices_ContainsFunc_File_of_impl_ViewPut_1.tab (m : Nat) : Nat → slices_ContainsFunc_File_of_impl_ViewPut_1.Tab
  | 0 => (())
  | k + 1 => (())
def slices_ContainsFunc_File_of_impl_ViewPut_1 (m : Nat) (x : Den [.list (.str), .list (.pair (.str) (.list (.str)))]) : Option slices_ContainsFunc_File_of_impl_ViewPut_1.R := slices_ContainsFunc_File_of_impl_ViewPut_1.start m (slices_ContainsFunc_File_of_impl_ViewPut_1.tab m m) x.1 x.2.1
def slices_ContainsFunc_File_of_impl_ViewPut_1.cons (m : Nat) : List (Nat × Contract) := [(92, ⟨slices_IndexFunc_File_of_impl_ViewPut_1.sig, slices_IndexFunc_File_of_impl_ViewPut_1 m⟩)]
def slices_ContainsFunc_File_of_impl_ViewPut_1.cuts (m : Nat) : List (CutF (Den slices_ContainsFunc_File_of_impl_ViewPut_1.sig.us)) := []
theorem slices_ContainsFunc_File_of_impl_ViewPut_1.eq (m : Nat) (x : Den slices_ContainsFunc_File_of_impl_ViewPut_1.sig.ts) : slices_ContainsFunc_File_of_impl_ViewPut_1 m x = startF ⟨lookΓ Γl, lookC (slices_ContainsFunc_File_of_impl_ViewPut_1.cons m), false⟩ Tryd.f61 slices_ContainsFunc_File_of_impl_ViewPut_1.sig (slices_ContainsFunc_File_of_impl_ViewPut_1.cuts m) m x := by kernel_rfl
theorem slices_ContainsFunc_File_of_impl_ViewPut_1.ok (m : Nat) : Meets Tryd.prog 61 slices_ContainsFunc_File_of_impl_ViewPut_1.sig (slices_ContainsFunc_File_of_impl_ViewPut_1 m) :=
  fn_is (cx_is tyOk mixed (l := slices_ContainsFunc_File_of_impl_ViewPut_1.cons m) ⟨slices_IndexFunc_File_of_impl_ViewPut_1.ok m, trivial⟩) (fn := Tryd.f61) Tryd.func61 (by kernel_rfl) (cl := slices_ContainsFunc_File_of_impl_ViewPut_1.cuts m) trivial (k := m) (slices_ContainsFunc_File_of_impl_ViewPut_1.eq m)

/-! ### loop.example/stemma/impl.ViewPut$2: function 63 -/
abbrev impl_ViewPut_2_v0.R : Type := Den [.list (.str), .bool]
def impl_ViewPut_2_v0.sig : Sig := ⟨2, ⟨[.box [.dat (.list (.str))]], [(0, .agg [.dat (.str), .dat (.list (.str))]), (1, .l (.ptr 0 0))]⟩, [.list (.str), .str, .list (.str)], ⟨[.box [.dat (.list (.str))]], [(0, .l (.dat (.bool)))]⟩, [.list (.str), .bool]⟩
abbrev impl_ViewPut_2_v0.Tab : Type := Unit
def impl_ViewPut_2_v0.start (m : Nat) (t : impl_ViewPut_2_v0.Tab) (x0 : List ByteArray) (x1 : ByteArray) (x2 : List ByteArray) : Option impl_ViewPut_2_v0.R :=
  Option.bind (impl_visible m (x0, x1, ())) fun r1 => some (x0, r1.1, ())
def impl_ViewPut_2_v0.tab (m : Nat) : Nat → impl_ViewPut_2_v0.Tab
  | 0 => (())
  | k + 1 => (())
def impl_ViewPut_2_v0 (m : Nat) (x : Den [.list (.str), .str, .list (.str)]) : Option impl_ViewPut_2_v0.R := impl_ViewPut_2_v0.start m (impl_ViewPut_2_v0.tab m m) x.1 x.2.1 x.2.2.1
def impl_ViewPut_2_v0.cons (m : Nat) : List (Nat × Contract) := [(58, ⟨impl_visible.sig, impl_visible m⟩)]
def impl_ViewPut_2_v0.cuts (m : Nat) : List (CutF (Den impl_ViewPut_2_v0.sig.us)) := []
theorem impl_ViewPut_2_v0.eq (m : Nat) (x : Den impl_ViewPut_2_v0.sig.ts) : impl_ViewPut_2_v0 m x = startF ⟨lookΓ Γl, lookC (impl_ViewPut_2_v0.cons m), false⟩ Tryd.f63 impl_ViewPut_2_v0.sig (impl_ViewPut_2_v0.cuts m) m x := by kernel_rfl
theorem impl_ViewPut_2_v0.ok (m : Nat) : Meets Tryd.prog 63 impl_ViewPut_2_v0.sig (impl_ViewPut_2_v0 m) :=
  fn_is (cx_is tyOk mixed (l := impl_ViewPut_2_v0.cons m) ⟨impl_visible.ok m, trivial⟩) (fn := Tryd.f63) Tryd.func63 (by kernel_rfl) (cl := impl_ViewPut_2_v0.cuts m) trivial (k := m) (impl_ViewPut_2_v0.eq m)

/-! ### slices.IndexFunc[[]loop.example/stemma/impl.File,loop.example/stemma/impl.File]: function 92 -/
abbrev slices_IndexFunc_File_of_impl_ViewPut_2.R : Type := Den [.list (.str), .list (.pair (.str) (.list (.str))), .int .i64]
def slices_IndexFunc_File_of_impl_ViewPut_2.sig : Sig := ⟨2, ⟨[.box [.dat (.list (.str))], .row false (.pair (.str) (.list (.str)))], [(0, .l (.sl 1)), (1, .l (.fn 63 [0]))]⟩, [.list (.str), .list (.pair (.str) (.list (.str)))], ⟨[.box [.dat (.list (.str))], .row false (.pair (.str) (.list (.str)))], [(0, .l (.dat (.int .i64)))]⟩, [.list (.str), .list (.pair (.str) (.list (.str))), .int .i64]⟩
abbrev slices_IndexFunc_File_of_impl_ViewPut_2.Tab : Type := (Den [.list (.str), .list (.pair (.str) (.list (.str))), .int .i64, .int .i64] → Option slices_IndexFunc_File_of_impl_ViewPut_2.R) × Unit
def slices_IndexFunc_File_of_impl_ViewPut_2.start (m : Nat) (t : slices_IndexFunc_File_of_impl_ViewPut_2.Tab) (x0 : List ByteArray) (x1 : List (ByteArray × List ByteArray)) : Option slices_IndexFunc_File_of_impl_ViewPut_2.R :=
  t.1 (x0, x1, (lLen x1), (0 : Int), ())
def slices_IndexFunc_File_of_impl_ViewPut_2.b0 (m : Nat) (t : slices_IndexFunc_File_of_impl_ViewPut_2.Tab) (a0 : List ByteArray) (a1 : List (ByteArray × List ByteArray)) (a2 : Int) (a3 : Int) : Option slices_IndexFunc_File_of_impl_ViewPut_2.R :=
  cond (decide (a3 < a2)) (cond (decide ((0 : Int) ≤ a3)) (cond (decide (a3 < lLen a1)) (lett ((List.getD a1 (Int.toNat a3) (ByteArray.empty, ([] : List ByteArray))).1 : ByteArray) fun v1 => lett ((List.getD a1 (Int.toNat a3) (ByteArray.empty, ([] : List ByteArray))).2 : List ByteArray) fun v2 => Option.bind (impl_ViewPut_2_v0 m (a0, v1, v2, ())) fun r3 => cond r3.2.1 (some (r3.1, a1, a3, ())) (t.1 (r3.1, a1, a2, (w64 (a3 + (1 : Int))), ()))) none) none) (some (a0, a1, (-1 : Int), ()))
def slices_IndexFunc_File_of_impl_ViewPut_2.tab (m : Nat) : Nat → slices_IndexFunc_File_of_impl_ViewPut_2.Tab
  | 0 => (fun _ => none, ())
  | k + 1 => (fun x => slices_IndexFunc_File_of_impl_ViewPut_2.b0 m (slices_IndexFunc_File_of_impl_ViewPut_2.tab m k) x.1 x.2.1 x.2.2.1 x.2.2.2.1, ())
def slices_IndexFunc_File_of_impl_ViewPut_2 (m : Nat) (x : Den [.list (.str), .list (.pair (.str) (.list (.str)))]) : Option slices_IndexFunc_File_of_impl_ViewPut_2.R := slices_IndexFunc_File_of_impl_ViewPut_2.start m (slices_IndexFunc_File_of_impl_ViewPut_2.tab m m) x.1 x.2.1
def slices_IndexFunc_File_of_impl_ViewPut_2.cons (m : Nat) : List (Nat × Contract) := [(63, ⟨impl_ViewPut_2_v0.sig, impl_ViewPut_2_v0 m⟩)]
def slices_IndexFunc_File_of_impl_ViewPut_2.cuts (m : Nat) : List (CutF (Den slices_IndexFunc_File_of_impl_ViewPut_2.sig.us)) := [⟨[false, true, false, true], 26, ⟨[.box [.dat (.list (.str))], .row false (.pair (.str) (.list (.str)))], [(0, .l (.sl 1)), (1, .l (.fn 63 [0])), (7, .l (.dat (.int .i64))), (8, .l (.dat (.int .i64)))]⟩, [.list (.str), .list (.pair (.str) (.list (.str))), .int .i64, .int .i64], fun k => (slices_IndexFunc_File_of_impl_ViewPut_2.tab m k).1⟩]
theorem slices_IndexFunc_File_of_impl_ViewPut_2.eq0 (m k : Nat) (x : Den [.list (.str), .list (.pair (.str) (.list (.str))), .int .i64, .int .i64]) : (slices_IndexFunc_File_of_impl_ViewPut_2.tab m (k + 1)).1 x = runF ⟨lookΓ Γl, lookC (slices_IndexFunc_File_of_impl_ViewPut_2.cons m), false⟩ Tryd.f92 slices_IndexFunc_File_of_impl_ViewPut_2.sig (slices_IndexFunc_File_of_impl_ViewPut_2.cuts m) k [false, true, false, true] ⟨[.box [.dat (.list (.str))], .row false (.pair (.str) (.list (.str)))], [(0, .l (.sl 1)), (1, .l (.fn 63 [0])), (7, .l (.dat (.int .i64))), (8, .l (.dat (.int .i64)))]⟩ [.list (.str), .list (.pair (.str) (.list (.str))), .int .i64, .int .i64] x := by kernel_rfl
theorem slices_IndexFunc_File_of_impl_ViewPut_2.eq (m : Nat) (x : Den slices_IndexFunc_File_of_impl_ViewPut_2.sig.ts) : slices_IndexFunc_File_of_impl_ViewPut_2 m x = startF ⟨lookΓ Γl, lookC (slices_IndexFunc_File_of_impl_ViewPut_2.cons m), false⟩ Tryd.f92 slices_IndexFunc_File_of_impl_ViewPut_2.sig (slices_IndexFunc_File_of_impl_ViewPut_2.cuts m) m x := by kernel_rfl
theorem slices_IndexFunc_File_of_impl_ViewPut_2.ok (m : Nat) : Meets Tryd.prog 92 slices_IndexFunc_File_of_impl_ViewPut_2.sig (slices_IndexFunc_File_of_impl_ViewPut_2 m) :=
  fn_is (cx_is tyOk mixed (l := slices_IndexFunc_File_of_impl_ViewPut_2.cons m) ⟨impl_ViewPut_2_v0.ok m, trivial⟩) (fn := Tryd.f92) Tryd.func92 (by kernel_rfl) (cl := slices_IndexFunc_File_of_impl_ViewPut_2.cuts m) ⟨⟨by kernel_rfl, fun _ => rfl, fun k x => slices_IndexFunc_File_of_impl_ViewPut_2.eq0 m k x⟩, trivial⟩ (k := m) (slices_IndexFunc_File_of_impl_ViewPut_2.eq m)

/-! ### slices.DeleteFunc[[]loop.example/stemma/impl.File,loop.example/stemma/impl.File]: function 55 -/
abbrev slices_DeleteFunc_File_of_impl_ViewPut_2.R : Type := Den [.list (.str), .list (.pair (.str) (.list (.str)))]
def slices_DeleteFunc_File_of_impl_ViewPut_2.sig : Sig := ⟨2, ⟨[.box [.dat (.list (.str))], .row false (.pair (.str) (.list (.str)))], [(0, .l (.sl 1)), (1, .l (.fn 63 [0]))]⟩, [.list (.str), .list (.pair (.str) (.list (.str)))], ⟨[.box [.dat (.list (.str))], .dead, .row false (.pair (.str) (.list (.str)))], [(0, .l (.sl 2))]⟩, [.list (.str), .list (.pair (.str) (.list (.str)))]⟩
abbrev slices_DeleteFunc_File_of_impl_ViewPut_2.Tab : Type := (Den [.list (.str), .list (.pair (.str) (.list (.str))), .int .i64, .int .i64] → Option slices_DeleteFunc_File_of_impl_ViewPut_2.R) × Unit
def slices_DeleteFunc_File_of_impl_ViewPut_2.start (m : Nat) (t : slices_DeleteFunc_File_of_impl_ViewPut_2.Tab) (x0 : List ByteArray) (x1 : List (ByteArray × List ByteArray)) : Option slices_DeleteFunc_File_of_impl_ViewPut_2.R :=
  Option.bind (slices_IndexFunc_File_of_impl_ViewPut_2 m (x0, x1, ())) fun r1 => cond (r1.2.2.1 == (-1 : Int)) (some (r1.1, r1.2.1, ())) (t.1 (r1.1, r1.2.1, r1.2.2.1, (w64 (r1.2.2.1 + (1 : Int))), ()))
def slices_DeleteFunc_File_of_impl_ViewPut_2.b0 (m : Nat) (t : slices_DeleteFunc_File_of_impl_ViewPut_2.Tab) (a0 : List ByteArray) (a1 : List (ByteArray × List ByteArray)) (a2 : Int) (a3 : Int) : Option slices_DeleteFunc_File_of_impl_ViewPut_2.R :=
  cond (decide (a3 < (lLen a1))) (cond (decide ((0 : Int) ≤ a3)) (cond (decide (a3 < lLen a1)) (lett ((List.getD a1 (Int.toNat a3) (ByteArray.empty, ([] : List ByteArray))).1 : ByteArray) fun v1 => lett ((List.getD a1 (Int.toNat a3) (ByteArray.empty, ([] : List ByteArray))).2 : List ByteArray) fun v2 => Option.bind (impl_ViewPut_2_v0 m (a0, v1, v2, ())) fun r3 => cond (!r3.2.1) (cond (decide ((0 : Int) ≤ a2)) (cond (decide (a2 < lLen a1)) (t.1 (r3.1, (List.set a1 (Int.toNat a2) (v1, v2)), (w64 (a2 + (1 : Int))), (w64 (a3 + (1 : Int))), ())) none) none) (t.1 (r3.1, a1, a2, (w64 (a3 + (1 : Int))), ()))) none) none) (cond (decide ((0 : Int) ≤ a2)) (cond (decide (a2 ≤ ((List.length a1) : Int))) (lett ((List.take (Int.toNat a2) a1 ++ (List.replicate ((List.length a1) - (Int.toNat a2)) (ByteArray.empty, ([] : List ByteArray)) ++ List.drop (List.length a1) a1)) : List (ByteArray × List ByteArray)) fun v4 => cond (decide ((0 : Int) ≤ a2)) (cond (decide (a2 ≤ ((List.length v4) : Int))) (some (a0, (List.take (Int.toNat a2) v4), ())) none) none) none) none)
def slices_DeleteFunc_File_of_impl_ViewPut_2.tab (m : Nat) : Nat → slices_DeleteFunc_File_of_impl_ViewPut_2.Tab
  | 0 => (fun _ => none, ())
  | k + 1 => (fun x => slices_DeleteFunc_File_of_impl_ViewPut_2.b0 m (slices_DeleteFunc_File_of_impl_ViewPut_2.tab m k) x.1 x.2.1 x.2.2.1 x.2.2.2.1, ())
def slices_DeleteFunc_File_of_impl_ViewPut_2 (m : Nat) (x : Den [.list (.str), .list (.pair (.str) (.list (.str)))]) : Option slices_DeleteFunc_File_of_impl_ViewPut_2.R := slices_DeleteFunc_File_of_impl_ViewPut_2.start m (slices_DeleteFunc_File_of_impl_ViewPut_2.tab m m) x.1 x.2.1
def slices_DeleteFunc_File_of_impl_ViewPut_2.cons (m : Nat) : List (Nat × Contract) := [(92, ⟨slices_IndexFunc_File_of_impl_ViewPut_2.sig, slices_IndexFunc_File_of_impl_ViewPut_2 m⟩), (63, ⟨impl_ViewPut_2_v0.sig, impl_ViewPut_2_v0 m⟩)]
def slices_DeleteFunc_File_of_impl_ViewPut_2.cuts (m : Nat) : List (CutF (Den slices_DeleteFunc_File_of_impl_ViewPut_2.sig.us)) := [⟨[false, true, false, true, true, true], 122, ⟨[.box [.dat (.list (.str))], .row false (.pair (.str) (.list (.str)))], [(0, .l (.sl 1)), (1, .l (.fn 63 [0])), (5, .l (.dat (.int .i64))), (6, .l (.dat (.int .i64)))]⟩, [.list (.str), .list (.pair (.str) (.list (.str))), .int .i64, .int .i64], fun k => (slices_DeleteFunc_File_of_impl_ViewPut_2.tab m k).1⟩]
theorem slices_DeleteFunc_File_of_impl_ViewPut_2.eq0 (m k : Nat) (x : Den [.list (.str), .list (.pair (.str) (.list (.str))), .int .i64, .int .i64]) : (slices_DeleteFunc_File_of_impl_ViewPut_2.tab m (k + 1)).1 x = runF ⟨lookΓ Γl, lookC (slices_DeleteFunc_File_of_impl_ViewPut_2.cons m), true⟩ Tryd.f55 slices_DeleteFunc_File_of_impl_ViewPut_2.sig (slices_DeleteFunc_File_of_impl_ViewPut_2.cuts m) k [false, true, false, true, true, true] ⟨[.box [.dat (.list (.str))], .row false (.pair (.str) (.list (.str)))], [(0, .l (.sl 1)), (1, .l (.fn 63 [0])), (5, .l (.dat (.int .i64))), (6, .l (.dat (.int .i64)))]⟩ [.list (.str), .list (.pair (.str) (.list (.str))), .int .i64, .int .i64] x := by kernel_rfl
theorem slices_DeleteFunc_File_of_impl_ViewPut_2.eq (m : Nat) (x : Den slices_DeleteFunc_File_of_impl_ViewPut_2.sig.ts) : slices_DeleteFunc_File_of_impl_ViewPut_2 m x = startF ⟨lookΓ Γl, lookC (slices_DeleteFunc_File_of_impl_ViewPut_2.cons m), true⟩ Tryd.f55 slices_DeleteFunc_File_of_impl_ViewPut_2.sig (slices_DeleteFunc_File_of_impl_ViewPut_2.cuts m) m x := by kernel_rfl
theorem slices_DeleteFunc_File_of_impl_ViewPut_2.ok (m : Nat) : Meets Tryd.prog 55 slices_DeleteFunc_File_of_impl_ViewPut_2.sig (slices_DeleteFunc_File_of_impl_ViewPut_2 m) :=
  fn_is (cx_is tyOk mixed (l := slices_DeleteFunc_File_of_impl_ViewPut_2.cons m) ⟨slices_IndexFunc_File_of_impl_ViewPut_2.ok m, impl_ViewPut_2_v0.ok m, trivial⟩) (fn := Tryd.f55) Tryd.func55 (by kernel_rfl) (cl := slices_DeleteFunc_File_of_impl_ViewPut_2.cuts m) ⟨⟨by kernel_rfl, fun _ => rfl, fun k x => slices_DeleteFunc_File_of_impl_ViewPut_2.eq0 m k x⟩, trivial⟩ (k := m) (slices_DeleteFunc_File_of_impl_ViewPut_2.eq m)

/-! ### cmp.isNaN[string]: function 118 -/
abbrev cmp_isNaN_string.R : Type := Den [.bool]
def cmp_isNaN_string.sig : Sig := ⟨1, ⟨[], [(0, .l (.dat (.str)))]⟩, [.str], ⟨[], [(0, .l (.dat (.bool)))]⟩, [.bool]⟩
abbrev cmp_isNaN_string.Tab : Type := Unit
def cmp_isNaN_string.start (m : Nat) (t : cmp_isNaN_string.Tab) (x0 : ByteArray) : Option cmp_isNaN_string.R :=
  some ((!sEq x0 x0), ())
def cmp_isNaN_string.tab (m : Nat) : Nat → cmp_isNaN_string.Tab
  | 0 => (())
  | k + 1 => (())
def cmp_isNaN_string (m : Nat) (x : Den [.str]) : Option cmp_isNaN_string.R := cmp_isNaN_string.start m (cmp_isNaN_string.tab m m) x.1
def cmp_isNaN_string.cons (m : Nat) : List (Nat × Contract) := []
def cmp_isNaN_string.cuts (m : Nat) : List (CutF (Den cmp_isNaN_string.sig.us)) := []
theorem cmp_isNaN_string.eq (m : Nat) (x : Den cmp_isNaN_string.sig.ts) : cmp_isNaN_string m x = startF ⟨lookΓ Γl, lookC (cmp_isNaN_string.cons m), false⟩ Tryd.f118 cmp_isNaN_string.sig (cmp_isNaN_string.cuts m) m x := by kernel_rfl
theorem cmp_isNaN_string.ok (m : Nat) : Meets Tryd.prog 118 cmp_isNaN_string.sig (cmp_isNaN_string m) :=
  fn_is (cx_is tyOk mixed (l := cmp_isNaN_string.cons m) trivial) (fn := Tryd.f118) Tryd.func118 (by kernel_rfl) (cl := cmp_isNaN_string.cuts m) trivial (k := m) (cmp_isNaN_string.eq m)

/-! ### cmp.Compare[string]: function 98 -/
abbrev cmp_Compare_string.R : Type := Den [.int .i64]
def cmp_Compare_string.sig : Sig := ⟨2, ⟨[], [(0, .l (.dat (.str))), (1, .l (.dat (.str)))]⟩, [.str, .str], ⟨[], [(0, .l (.dat (.int .i64)))]⟩, [.int .i64]⟩
abbrev cmp_Compare_string.Tab : Type := Unit
def cmp_Compare_string.start (m : Nat) (t : cmp_Compare_string.Tab) (x0 : ByteArray) (x1 : ByteArray) : Option cmp_Compare_string.R :=
  Option.bind (cmp_isNaN_string m (x0, ())) fun r1 => Option.bind (cmp_isNaN_string m (x1, ())) fun r2 => cond r1.1 (cond r2.1 (some ((0 : Int), ())) (some ((-1 : Int), ()))) (cond r2.1 (some ((1 : Int), ())) (cond (sLt x0 x1) (some ((-1 : Int), ())) (cond (!(sLt x0 x1 || sEq x0 x1)) (some ((1 : Int), ())) (some ((0 : Int), ())))))
def cmp_Compare_string.tab (m : Nat) : Nat → cmp_Compare_string.Tab
  | 0 => (())
  | k + 1 => (())
def cmp_Compare_string (m : Nat) (x : Den [.str, .str]) : Option cmp_Compare_string.R := cmp_Compare_string.start m (cmp_Compare_string.tab m m) x.1 x.2.1
def cmp_Compare_string.cons (m : Nat) : List (Nat × Contract) := [(118, ⟨cmp_isNaN_string.sig, cmp_isNaN_string m⟩)]
def cmp_Compare_string.cuts (m : Nat) : List (CutF (Den cmp_Compare_string.sig.us)) := []
theorem cmp_Compare_string.eq (m : Nat) (x : Den cmp_Compare_string.sig.ts) : cmp_Compare_string m x = startF ⟨lookΓ Γl, lookC (cmp_Compare_string.cons m), false⟩ Tryd.f98 cmp_Compare_string.sig (cmp_Compare_string.cuts m) m x := by kernel_rfl
theorem cmp_Compare_string.ok (m : Nat) : Meets Tryd.prog 98 cmp_Compare_string.sig (cmp_Compare_string m) :=
  fn_is (cx_is tyOk mixed (l := cmp_Compare_string.cons m) ⟨cmp_isNaN_string.ok m, trivial⟩) (fn := Tryd.f98) Tryd.func98 (by kernel_rfl) (cl := cmp_Compare_string.cuts m) trivial (k := m) (cmp_Compare_string.eq m)

/-! ### loop.example/stemma/impl.sorted$1: function 97 -/
abbrev impl_sorted_1.R : Type := Den [.int .i64]
def impl_sorted_1.sig : Sig := ⟨2, ⟨[], [(0, .agg [.dat (.str), .dat (.list (.str))]), (1, .agg [.dat (.str), .dat (.list (.str))])]⟩, [.str, .list (.str), .str, .list (.str)], ⟨[], [(0, .l (.dat (.int .i64)))]⟩, [.int .i64]⟩
abbrev impl_sorted_1.Tab : Type := Unit
def impl_sorted_1.start (m : Nat) (t : impl_sorted_1.Tab) (x0 : ByteArray) (x1 : List ByteArray) (x2 : ByteArray) (x3 : List ByteArray) : Option impl_sorted_1.R :=
  Option.bind (cmp_Compare_string m (x0, x2, ())) fun r1 => some (r1.1, ())
def impl_sorted_1.tab (m : Nat) : Nat → impl_sorted_1.Tab
  | 0 => (())
  | k + 1 => (())
def impl_sorted_1 (m : Nat) (x : Den [.str, .list (.str), .str, .list (.str)]) : Option impl_sorted_1.R := impl_sorted_1.start m (impl_sorted_1.tab m m) x.1 x.2.1 x.2.2.1 x.2.2.2.1
def impl_sorted_1.cons (m : Nat) : List (Nat × Contract) := [(98, ⟨cmp_Compare_string.sig, cmp_Compare_string m⟩)]
def impl_sorted_1.cuts (m : Nat) : List (CutF (Den impl_sorted_1.sig.us)) := []
theorem impl_sorted_1.eq (m : Nat) (x : Den impl_sorted_1.sig.ts) : impl_sorted_1 m x = startF ⟨lookΓ Γl, lookC (impl_sorted_1.cons m), false⟩ Tryd.f97 impl_sorted_1.sig (impl_sorted_1.cuts m) m x := by kernel_rfl
theorem impl_sorted_1.ok (m : Nat) : Meets Tryd.prog 97 impl_sorted_1.sig (impl_sorted_1 m) :=
  fn_is (cx_is tyOk mixed (l := impl_sorted_1.cons m) ⟨cmp_Compare_string.ok m, trivial⟩) (fn := Tryd.f97) Tryd.func97 (by kernel_rfl) (cl := impl_sorted_1.cuts m) trivial (k := m) (impl_sorted_1.eq m)

/-! ### slices.insertionSortCmpFunc[loop.example/stemma/impl.File]: function 129 -/
abbrev slices_insertionSortCmpFunc_File_of_impl_sorted_1.R : Type := Den [.list (.pair (.str) (.list (.str)))]
def slices_insertionSortCmpFunc_File_of_impl_sorted_1.sig : Sig := ⟨4, ⟨[.row false (.pair (.str) (.list (.str)))], [(0, .l (.slv 0)), (1, .l (.dat (.int .i64))), (2, .l (.dat (.int .i64))), (3, .l (.fn 97 []))]⟩, [.list (.pair (.str) (.list (.str))), .int .i64, .int .i64, .int .i64], ⟨[.row false (.pair (.str) (.list (.str)))], []⟩, [.list (.pair (.str) (.list (.str)))]⟩
abbrev slices_insertionSortCmpFunc_File_of_impl_sorted_1.Tab : Type := (Den [.list (.pair (.str) (.list (.str))), .int .i64, .int .i64, .int .i64, .int .i64] → Option slices_insertionSortCmpFunc_File_of_impl_sorted_1.R) × (Den [.list (.pair (.str) (.list (.str))), .int .i64, .int .i64, .int .i64, .int .i64, .int .i64] → Option slices_insertionSortCmpFunc_File_of_impl_sorted_1.R) × Unit
def slices_insertionSortCmpFunc_File_of_impl_sorted_1.start (m : Nat) (t : slices_insertionSortCmpFunc_File_of_impl_sorted_1.Tab) (x0 : List (ByteArray × List ByteArray)) (x1 : Int) (x2 : Int) (x3 : Int) : Option slices_insertionSortCmpFunc_File_of_impl_sorted_1.R :=
  t.1 (x0, ((Int.toNat x1) : Int), x2, x3, (w64 (x2 + (1 : Int))), ())
def slices_insertionSortCmpFunc_File_of_impl_sorted_1.b0 (m : Nat) (t : slices_insertionSortCmpFunc_File_of_impl_sorted_1.Tab) (a0 : List (ByteArray × List ByteArray)) (a1 : Int) (a2 : Int) (a3 : Int) (a4 : Int) : Option slices_insertionSortCmpFunc_File_of_impl_sorted_1.R :=
  cond (decide (a4 < a3)) (t.2.1 (a0, ((Int.toNat a1) : Int), a2, a3, a4, a4, ())) (some (a0, ()))
def slices_insertionSortCmpFunc_File_of_impl_sorted_1.b1 (m : Nat) (t : slices_insertionSortCmpFunc_File_of_impl_sorted_1.Tab) (a0 : List (ByteArray × List ByteArray)) (a1 : Int) (a2 : Int) (a3 : Int) (a4 : Int) (a5 : Int) : Option slices_insertionSortCmpFunc_File_of_impl_sorted_1.R :=
  cond (decide (a5 > a2)) (cond (decide ((0 : Int) ≤ a5)) (cond (decide (a5 < ((Int.toNat a1) : Int))) (lett ((List.getD a0 (Int.toNat a5) (ByteArray.empty, ([] : List ByteArray))).1 : ByteArray) fun v1 => lett ((List.getD a0 (Int.toNat a5) (ByteArray.empty, ([] : List ByteArray))).2 : List ByteArray) fun v2 => cond (decide ((0 : Int) ≤ (w64 (a5 - (1 : Int))))) (cond (decide ((w64 (a5 - (1 : Int))) < ((Int.toNat a1) : Int))) (lett ((List.getD a0 (Int.toNat (w64 (a5 - (1 : Int)))) (ByteArray.empty, ([] : List ByteArray))).1 : ByteArray) fun v3 => lett ((List.getD a0 (Int.toNat (w64 (a5 - (1 : Int)))) (ByteArray.empty, ([] : List ByteArray))).2 : List ByteArray) fun v4 => Option.bind (impl_sorted_1 m (v1, v2, v3, v4, ())) fun r5 => cond (decide (r5.1 < (0 : Int))) (cond (decide ((0 : Int) ≤ (w64 (a5 - (1 : Int))))) (cond (decide ((w64 (a5 - (1 : Int))) < ((Int.toNat a1) : Int))) (lett ((List.getD a0 (Int.toNat (w64 (a5 - (1 : Int)))) (ByteArray.empty, ([] : List ByteArray))).1 : ByteArray) fun v6 => lett ((List.getD a0 (Int.toNat (w64 (a5 - (1 : Int)))) (ByteArray.empty, ([] : List ByteArray))).2 : List ByteArray) fun v7 => cond (decide ((0 : Int) ≤ a5)) (cond (decide (a5 < ((Int.toNat a1) : Int))) (lett ((List.getD a0 (Int.toNat a5) (ByteArray.empty, ([] : List ByteArray))).1 : ByteArray) fun v8 => lett ((List.getD a0 (Int.toNat a5) (ByteArray.empty, ([] : List ByteArray))).2 : List ByteArray) fun v9 => cond (decide ((0 : Int) ≤ a5)) (cond (decide (a5 < ((Int.toNat a1) : Int))) (cond (decide ((0 : Int) ≤ (w64 (a5 - (1 : Int))))) (cond (decide ((w64 (a5 - (1 : Int))) < ((Int.toNat a1) : Int))) (lett ((List.set (List.set a0 (Int.toNat a5) (v6, v7)) (Int.toNat (w64 (a5 - (1 : Int)))) (v8, v9)) : List (ByteArray × List ByteArray)) fun v10 => t.2.1 (v10, ((Int.toNat a1) : Int), a2, a3, a4, (w64 (a5 - (1 : Int))), ())) none) none) none) none) none) none) none) none) (t.1 (a0, ((Int.toNat a1) : Int), a2, a3, (w64 (a4 + (1 : Int))), ()))) none) none) none) none) (t.1 (a0, ((Int.toNat a1) : Int), a2, a3, (w64 (a4 + (1 : Int))), ()))
def slices_insertionSortCmpFunc_File_of_impl_sorted_1.tab (m : Nat) : Nat → slices_insertionSortCmpFunc_File_of_impl_sorted_1.Tab
  | 0 => (fun _ => none, fun _ => none, ())
  | k + 1 => (fun x => slices_insertionSortCmpFunc_File_of_impl_sorted_1.b0 m (slices_insertionSortCmpFunc_File_of_impl_sorted_1.tab m k) x.1 x.2.1 x.2.2.1 x.2.2.2.1 x.2.2.2.2.1, fun x => slices_insertionSortCmpFunc_File_of_impl_sorted_1.b1 m (slices_insertionSortCmpFunc_File_of_impl_sorted_1.tab m k) x.1 x.2.1 x.2.2.1 x.2.2.2.1 x.2.2.2.2.1 x.2.2.2.2.2.1, ())
def slices_insertionSortCmpFunc_File_of_impl_sorted_1 (m : Nat) (x : Den [.list (.pair (.str) (.list (.str))), .int .i64, .int .i64, .int .i64]) : Option slices_insertionSortCmpFunc_File_of_impl_sorted_1.R := slices_insertionSortCmpFunc_File_of_impl_sorted_1.start m (slices_insertionSortCmpFunc_File_of_impl_sorted_1.tab m m) x.1 x.2.1 x.2.2.1 x.2.2.2.1
def slices_insertionSortCmpFunc_File_of_impl_sorted_1.cons (m : Nat) : List (Nat × Contract) := [(97, ⟨impl_sorted_1.sig, impl_sorted_1 m⟩)]
def slices_insertionSortCmpFunc_File_of_impl_sorted_1.cuts (m : Nat) : List (CutF (Den slices_insertionSortCmpFunc_File_of_impl_sorted_1.sig.us)) := [⟨[false, true], 6, ⟨[.row false (.pair (.str) (.list (.str)))], [(0, .l (.slv 0)), (1, .l (.dat (.int .i64))), (2, .l (.dat (.int .i64))), (3, .l (.fn 97 [])), (8, .l (.dat (.int .i64)))]⟩, [.list (.pair (.str) (.list (.str))), .int .i64, .int .i64, .int .i64, .int .i64], fun k => (slices_insertionSortCmpFunc_File_of_impl_sorted_1.tab m k).1⟩,
  ⟨[false, true, false, false, true, false, false, true], 402, ⟨[.row false (.pair (.str) (.list (.str)))], [(0, .l (.slv 0)), (1, .l (.dat (.int .i64))), (2, .l (.dat (.int .i64))), (3, .l (.fn 97 [])), (8, .l (.dat (.int .i64))), (9, .l (.dat (.int .i64)))]⟩, [.list (.pair (.str) (.list (.str))), .int .i64, .int .i64, .int .i64, .int .i64, .int .i64], fun k => (slices_insertionSortCmpFunc_File_of_impl_sorted_1.tab m k).2.1⟩]
theorem slices_insertionSortCmpFunc_File_of_impl_sorted_1.eq0 (m k : Nat) (x : Den [.list (.pair (.str) (.list (.str))), .int .i64, .int .i64, .int .i64, .int .i64]) : (slices_insertionSortCmpFunc_File_of_impl_sorted_1.tab m (k + 1)).1 x = runF ⟨lookΓ Γl, lookC (slices_insertionSortCmpFunc_File_of_impl_sorted_1.cons m), false⟩ Tryd.f129 slices_insertionSortCmpFunc_File_of_impl_sorted_1.sig (slices_insertionSortCmpFunc_File_of_impl_sorted_1.cuts m) k [false, true] ⟨[.row false (.pair (.str) (.list (.str)))], [(0, .l (.slv 0)), (1, .l (.dat (.int .i64))), (2, .l (.dat (.int .i64))), (3, .l (.fn 97 [])), (8, .l (.dat (.int .i64)))]⟩ [.list (.pair (.str) (.list (.str))), .int .i64, .int .i64, .int .i64, .int .i64] x := by kernel_rfl
theorem slices_insertionSortCmpFunc_File_of_impl_sorted_1.eq1 (m k : Nat) (x : Den [.list (.pair (.str) (.list (.str))), .int .i64, .int .i64, .int .i64, .int .i64, .int .i64]) : (slices_insertionSortCmpFunc_File_of_impl_sorted_1.tab m (k + 1)).2.1 x = runF ⟨lookΓ Γl, lookC (slices_insertionSortCmpFunc_File_of_impl_sorted_1.cons m), false⟩ Tryd.f129 slices_insertionSortCmpFunc_File_of_impl_sorted_1.sig (slices_insertionSortCmpFunc_File_of_impl_sorted_1.cuts m) k [false, true, false, false, true, false, false, true] ⟨[.row false (.pair (.str) (.list (.str)))], [(0, .l (.slv 0)), (1, .l (.dat (.int .i64))), (2, .l (.dat (.int .i64))), (3, .l (.fn 97 [])), (8, .l (.dat (.int .i64))), (9, .l (.dat (.int .i64)))]⟩ [.list (.pair (.str) (.list (.str))), .int .i64, .int .i64, .int .i64, .int .i64, .int .i64] x := by kernel_rfl
theorem slices_insertionSortCmpFunc_File_of_impl_sorted_1.eq (m : Nat) (x : Den slices_insertionSortCmpFunc_File_of_impl_sorted_1.sig.ts) : slices_insertionSortCmpFunc_File_of_impl_sorted_1 m x = startF ⟨lookΓ Γl, lookC (slices_insertionSortCmpFunc_File_of_impl_sorted_1.cons m), false⟩ Tryd.f129 slices_insertionSortCmpFunc_File_of_impl_sorted_1.sig (slices_insertionSortCmpFunc_File_of_impl_sorted_1.cuts m) m x := by kernel_rfl
theorem slices_insertionSortCmpFunc_File_of_impl_sorted_1.ok (m : Nat) : Meets Tryd.prog 129 slices_insertionSortCmpFunc_File_of_impl_sorted_1.sig (slices_insertionSortCmpFunc_File_of_impl_sorted_1 m) :=
  fn_is (cx_is tyOk mixed (l := slices_insertionSortCmpFunc_File_of_impl_sorted_1.cons m) ⟨impl_sorted_1.ok m, trivial⟩) (fn := Tryd.f129) Tryd.func129 (by kernel_rfl) (cl := slices_insertionSortCmpFunc_File_of_impl_sorted_1.cuts m) ⟨⟨by kernel_rfl, fun _ => rfl, fun k x => slices_insertionSortCmpFunc_File_of_impl_sorted_1.eq0 m k x⟩, ⟨by kernel_rfl, fun _ => rfl, fun k x => slices_insertionSortCmpFunc_File_of_impl_sorted_1.eq1 m k x⟩, trivial⟩ (k := m) (slices_insertionSortCmpFunc_File_of_impl_sorted_1.eq m)

/-! ### slices.swapRangeCmpFunc[loop.example/stemma/impl.File]: function 160 -/
abbrev slices_swapRangeCmpFunc_File_of_impl_sorted_1.R : Type := Den [.list (.pair (.str) (.list (.str)))]
def slices_swapRangeCmpFunc_File_of_impl_sorted_1.sig : Sig := ⟨5, ⟨[.row false (.pair (.str) (.list (.str)))], [(0, .l (.slv 0)), (1, .l (.dat (.int .i64))), (2, .l (.dat (.int .i64))), (3, .l (.dat (.int .i64))), (4, .l (.fn 97 []))]⟩, [.list (.pair (.str) (.list (.str))), .int .i64, .int .i64, .int .i64, .int .i64], ⟨[.row false (.pair (.str) (.list (.str)))], []⟩, [.list (.pair (.str) (.list (.str)))]⟩
abbrev slices_swapRangeCmpFunc_File_of_impl_sorted_1.Tab : Type := (Den [.list (.pair (.str) (.list (.str))), .int .i64, .int .i64, .int .i64, .int .i64, .int .i64] → Option slices_swapRangeCmpFunc_File_of_impl_sorted_1.R) × Unit
def slices_swapRangeCmpFunc_File_of_impl_sorted_1.start (m : Nat) (t : slices_swapRangeCmpFunc_File_of_impl_sorted_1.Tab) (x0 : List (ByteArray × List ByteArray)) (x1 : Int) (x2 : Int) (x3 : Int) (x4 : Int) : Option slices_swapRangeCmpFunc_File_of_impl_sorted_1.R :=
  t.1 (x0, ((Int.toNat x1) : Int), x2, x3, x4, (0 : Int), ())
def slices_swapRangeCmpFunc_File_of_impl_sorted_1.b0 (m : Nat) (t : slices_swapRangeCmpFunc_File_of_impl_sorted_1.Tab) (a0 : List (ByteArray × List ByteArray)) (a1 : Int) (a2 : Int) (a3 : Int) (a4 : Int) (a5 : Int) : Option slices_swapRangeCmpFunc_File_of_impl_sorted_1.R :=
  cond (decide (a5 < a4)) (cond (decide ((0 : Int) ≤ (w64 (a3 + a5)))) (cond (decide ((w64 (a3 + a5)) < ((Int.toNat a1) : Int))) (lett ((List.getD a0 (Int.toNat (w64 (a3 + a5))) (ByteArray.empty, ([] : List ByteArray))).1 : ByteArray) fun v1 => lett ((List.getD a0 (Int.toNat (w64 (a3 + a5))) (ByteArray.empty, ([] : List ByteArray))).2 : List ByteArray) fun v2 => cond (decide ((0 : Int) ≤ (w64 (a2 + a5)))) (cond (decide ((w64 (a2 + a5)) < ((Int.toNat a1) : Int))) (lett ((List.getD a0 (Int.toNat (w64 (a2 + a5))) (ByteArray.empty, ([] : List ByteArray))).1 : ByteArray) fun v3 => lett ((List.getD a0 (Int.toNat (w64 (a2 + a5))) (ByteArray.empty, ([] : List ByteArray))).2 : List ByteArray) fun v4 => cond (decide ((0 : Int) ≤ (w64 (a2 + a5)))) (cond (decide ((w64 (a2 + a5)) < ((Int.toNat a1) : Int))) (cond (decide ((0 : Int) ≤ (w64 (a3 + a5)))) (cond (decide ((w64 (a3 + a5)) < ((Int.toNat a1) : Int))) (lett ((List.set (List.set a0 (Int.toNat (w64 (a2 + a5))) (v1, v2)) (Int.toNat (w64 (a3 + a5))) (v3, v4)) : List (ByteArray × List ByteArray)) fun v5 => t.1 (v5, ((Int.toNat a1) : Int), a2, a3, a4, (w64 (a5 + (1 : Int))), ())) none) none) none) none) none) none) none) none) (some (a0, ()))
def slices_swapRangeCmpFunc_File_of_impl_sorted_1.tab (m : Nat) : Nat → slices_swapRangeCmpFunc_File_of_impl_sorted_1.Tab
  | 0 => (fun _ => none, ())
  | k + 1 => (fun x => slices_swapRangeCmpFunc_File_of_impl_sorted_1.b0 m (slices_swapRangeCmpFunc_File_of_impl_sorted_1.tab m k) x.1 x.2.1 x.2.2.1 x.2.2.2.1 x.2.2.2.2.1 x.2.2.2.2.2.1, ())
def slices_swapRangeCmpFunc_File_of_impl_sorted_1 (m : Nat) (x : Den [.list (.pair (.str) (.list (.str))), .int .i64, .int .i64, .int .i64, .int .i64]) : Option slices_swapRangeCmpFunc_File_of_impl_sorted_1.R := slices_swapRangeCmpFunc_File_of_impl_sorted_1.start m (slices_swapRangeCmpFunc_File_of_impl_sorted_1.tab m m) x.1 x.2.1 x.2.2.1 x.2.2.2.1 x.2.2.2.2.1
def slices_swapRangeCmpFunc_File_of_impl_sorted_1.cons (m : Nat) : List (Nat × Contract) := []
def slices_swapRangeCmpFunc_File_of_impl_sorted_1.cuts (m : Nat) : List (CutF (Den slices_swapRangeCmpFunc_File_of_impl_sorted_1.sig.us)) := [⟨[false, true], 6, ⟨[.row false (.pair (.str) (.list (.str)))], [(0, .l (.slv 0)), (1, .l (.dat (.int .i64))), (2, .l (.dat (.int .i64))), (3, .l (.dat (.int .i64))), (10, .l (.dat (.int .i64)))]⟩, [.list (.pair (.str) (.list (.str))), .int .i64, .int .i64, .int .i64, .int .i64, .int .i64], fun k => (slices_swapRangeCmpFunc_File_of_impl_sorted_1.tab m k).1⟩]
theorem slices_swapRangeCmpFunc_File_of_impl_sorted_1.eq0 (m k : Nat) (x : Den [.list (.pair (.str) (.list (.str))), .int .i64, .int .i64, .int .i64, .int .i64, .int .i64]) : (slices_swapRangeCmpFunc_File_of_impl_sorted_1.tab m (k + 1)).1 x = runF ⟨lookΓ Γl, lookC (slices_swapRangeCmpFunc_File_of_impl_sorted_1.cons m), false⟩ Tryd.f160 slices_swapRangeCmpFunc_File_of_impl_sorted_1.sig (slices_swapRangeCmpFunc_File_of_impl_sorted_1.cuts m) k [false, true] ⟨[.row false (.pair (.str) (.list (.str)))], [(0, .l (.slv 0)), (1, .l (.dat (.int .i64))), (2, .l (.dat (.int .i64))), (3, .l (.dat (.int .i64))), (10, .l (.dat (.int .i64)))]⟩ [.list (.pair (.str) (.list (.str))), .int .i64, .int .i64, .int .i64, .int .i64, .int .i64] x := by kernel_rfl
theorem slices_swapRangeCmpFunc_File_of_impl_sorted_1.eq (m : Nat) (x : Den slices_swapRangeCmpFunc_File_of_impl_sorted_1.sig.ts) : slices_swapRangeCmpFunc_File_of_impl_sorted_1 m x = startF ⟨lookΓ Γl, lookC (slices_swapRangeCmpFunc_File_of_impl_sorted_1.cons m), false⟩ Tryd.f160 slices_swapRangeCmpFunc_File_of_impl_sorted_1.sig (slices_swapRangeCmpFunc_File_of_impl_sorted_1.cuts m) m x := by kernel_rfl
theorem slices_swapRangeCmpFunc_File_of_impl_sorted_1.ok (m : Nat) : Meets Tryd.prog 160 slices_swapRangeCmpFunc_File_of_impl_sorted_1.sig (slices_swapRangeCmpFunc_File_of_impl_sorted_1 m) :=
  fn_is (cx_is tyOk mixed (l := slices_swapRangeCmpFunc_File_of_impl_sorted_1.cons m) trivial) (fn := Tryd.f160) Tryd.func160 (by kernel_rfl) (cl := slices_swapRangeCmpFunc_File_of_impl_sorted_1.cuts m) ⟨⟨by kernel_rfl, fun _ => rfl, fun k x => slices_swapRangeCmpFunc_File_of_impl_sorted_1.eq0 m k x⟩, trivial⟩ (k := m) (slices_swapRangeCmpFunc_File_of_impl_sorted_1.eq m)

/-! ### slices.rotateCmpFunc[loop.example/stemma/impl.File]: function 146 -/
abbrev slices_rotateCmpFunc_File_of_impl_sorted_1.R : Type := Den [.list (.pair (.str) (.list (.str)))]
def slices_rotateCmpFunc_File_of_impl_sorted_1.sig : Sig := ⟨5, ⟨[.row false (.pair (.str) (.list (.str)))], [(0, .l (.slv 0)), (1, .l (.dat (.int .i64))), (2, .l (.dat (.int .i64))), (3, .l (.dat (.int .i64))), (4, .l (.fn 97 []))]⟩, [.list (.pair (.str) (.list (.str))), .int .i64, .int .i64, .int .i64, .int .i64], ⟨[.row false (.pair (.str) (.list (.str)))], []⟩, [.list (.pair (.str) (.list (.str)))]⟩
abbrev slices_rotateCmpFunc_File_of_impl_sorted_1.Tab : Type := (Den [.list (.pair (.str) (.list (.str))), .int .i64, .int .i64, .int .i64, .int .i64] → Option slices_rotateCmpFunc_File_of_impl_sorted_1.R) × Unit
def slices_rotateCmpFunc_File_of_impl_sorted_1.start (m : Nat) (t : slices_rotateCmpFunc_File_of_impl_sorted_1.Tab) (x0 : List (ByteArray × List ByteArray)) (x1 : Int) (x2 : Int) (x3 : Int) (x4 : Int) : Option slices_rotateCmpFunc_File_of_impl_sorted_1.R :=
  t.1 (x0, ((Int.toNat x1) : Int), x3, (w64 (x3 - x2)), (w64 (x4 - x3)), ())
def slices_rotateCmpFunc_File_of_impl_sorted_1.b0 (m : Nat) (t : slices_rotateCmpFunc_File_of_impl_sorted_1.Tab) (a0 : List (ByteArray × List ByteArray)) (a1 : Int) (a2 : Int) (a3 : Int) (a4 : Int) : Option slices_rotateCmpFunc_File_of_impl_sorted_1.R :=
  cond (a3 != a4) (cond (decide (a3 > a4)) (Option.bind (slices_swapRangeCmpFunc_File_of_impl_sorted_1 m (a0, ((Int.toNat a1) : Int), (w64 (a2 - a3)), a2, a4, ())) fun r1 => t.1 (r1.1, ((Int.toNat a1) : Int), a2, (w64 (a3 - a4)), a4, ())) (Option.bind (slices_swapRangeCmpFunc_File_of_impl_sorted_1 m (a0, ((Int.toNat a1) : Int), (w64 (a2 - a3)), (w64 ((w64 (a2 + a4)) - a3)), a3, ())) fun r2 => t.1 (r2.1, ((Int.toNat a1) : Int), a2, a3, (w64 (a4 - a3)), ()))) (Option.bind (slices_swapRangeCmpFunc_File_of_impl_sorted_1 m (a0, ((Int.toNat a1) : Int), (w64 (a2 - a3)), a2, a3, ())) fun r3 => some (r3.1, ()))
def slices_rotateCmpFunc_File_of_impl_sorted_1.tab (m : Nat) : Nat → slices_rotateCmpFunc_File_of_impl_sorted_1.Tab
  | 0 => (fun _ => none, ())
  | k + 1 => (fun x => slices_rotateCmpFunc_File_of_impl_sorted_1.b0 m (slices_rotateCmpFunc_File_of_impl_sorted_1.tab m k) x.1 x.2.1 x.2.2.1 x.2.2.2.1 x.2.2.2.2.1, ())
def slices_rotateCmpFunc_File_of_impl_sorted_1 (m : Nat) (x : Den [.list (.pair (.str) (.list (.str))), .int .i64, .int .i64, .int .i64, .int .i64]) : Option slices_rotateCmpFunc_File_of_impl_sorted_1.R := slices_rotateCmpFunc_File_of_impl_sorted_1.start m (slices_rotateCmpFunc_File_of_impl_sorted_1.tab m m) x.1 x.2.1 x.2.2.1 x.2.2.2.1 x.2.2.2.2.1
def slices_rotateCmpFunc_File_of_impl_sorted_1.cons (m : Nat) : List (Nat × Contract) := [(160, ⟨slices_swapRangeCmpFunc_File_of_impl_sorted_1.sig, slices_swapRangeCmpFunc_File_of_impl_sorted_1 m⟩)]
def slices_rotateCmpFunc_File_of_impl_sorted_1.cuts (m : Nat) : List (CutF (Den slices_rotateCmpFunc_File_of_impl_sorted_1.sig.us)) := [⟨[false, false, true, true], 28, ⟨[.row false (.pair (.str) (.list (.str)))], [(0, .l (.slv 0)), (2, .l (.dat (.int .i64))), (4, .l (.fn 97 [])), (10, .l (.dat (.int .i64))), (11, .l (.dat (.int .i64)))]⟩, [.list (.pair (.str) (.list (.str))), .int .i64, .int .i64, .int .i64, .int .i64], fun k => (slices_rotateCmpFunc_File_of_impl_sorted_1.tab m k).1⟩]
theorem slices_rotateCmpFunc_File_of_impl_sorted_1.eq0 (m k : Nat) (x : Den [.list (.pair (.str) (.list (.str))), .int .i64, .int .i64, .int .i64, .int .i64]) : (slices_rotateCmpFunc_File_of_impl_sorted_1.tab m (k + 1)).1 x = runF ⟨lookΓ Γl, lookC (slices_rotateCmpFunc_File_of_impl_sorted_1.cons m), false⟩ Tryd.f146 slices_rotateCmpFunc_File_of_impl_sorted_1.sig (slices_rotateCmpFunc_File_of_impl_sorted_1.cuts m) k [false, false, true, true] ⟨[.row false (.pair (.str) (.list (.str)))], [(0, .l (.slv 0)), (2, .l (.dat (.int .i64))), (4, .l (.fn 97 [])), (10, .l (.dat (.int .i64))), (11, .l (.dat (.int .i64)))]⟩ [.list (.pair (.str) (.list (.str))), .int .i64, .int .i64, .int .i64, .int .i64] x := by kernel_rfl
theorem slices_rotateCmpFunc_File_of_impl_sorted_1.eq (m : Nat) (x : Den slices_rotateCmpFunc_File_of_impl_sorted_1.sig.ts) : slices_rotateCmpFunc_File_of_impl_sorted_1 m x = startF ⟨lookΓ Γl, lookC (slices_rotateCmpFunc_File_of_impl_sorted_1.cons m), false⟩ Tryd.f146 slices_rotateCmpFunc_File_of_impl_sorted_1.sig (slices_rotateCmpFunc_File_of_impl_sorted_1.cuts m) m x := by kernel_rfl
theorem slices_rotateCmpFunc_File_of_impl_sorted_1.ok (m : Nat) : Meets Tryd.prog 146 slices_rotateCmpFunc_File_of_impl_sorted_1.sig (slices_rotateCmpFunc_File_of_impl_sorted_1 m) :=
  fn_is (cx_is tyOk mixed (l := slices_rotateCmpFunc_File_of_impl_sorted_1.cons m) ⟨slices_swapRangeCmpFunc_File_of_impl_sorted_1.ok m, trivial⟩) (fn := Tryd.f146) Tryd.func146 (by kernel_rfl) (cl := slices_rotateCmpFunc_File_of_impl_sorted_1.cuts m) ⟨⟨by kernel_rfl, fun _ => rfl, fun k x => slices_rotateCmpFunc_File_of_impl_sorted_1.eq0 m k x⟩, trivial⟩ (k := m) (slices_rotateCmpFunc_File_of_impl_sorted_1.eq m)

end
end Go.Sx.Tryd
