/- The functions that FnExactRepoPut reaches, as plain Lean functions, and that the program's functions do what these say: no condition. Printed by wip/gen/sx.py. -/
import Derived.Test.YtafchokjmboemaaGreatDoorSxD
import Derived.Test.YtafchokjmboemaaGreatDoorChecked
namespace Go.Sx.Tryz
open Go Go.Proofs Go.Sx
set_option linter.unusedVariables false
noncomputable section
def Γl : List (Nat × TI) := [(2, ⟨1, 8, false, .int .i64, some (.int .i64)⟩),
  (3, ⟨1, 8, false, .int .i64, some (.int .i64)⟩),
  (4, ⟨1, 1, false, .bool, some (.bool)⟩),
  (5, ⟨1, 1, false, .int .u8, some (.int .u8)⟩),
  (9, ⟨1, 16, false, .str, some (.str)⟩),
  (22, ⟨1, 24, false, .slice 99, some (.list (.pair (.list (.int .i64)) (.pair (.str) (.list (.pair (.str) (.list (.str)))))))⟩),
  (23, ⟨1, 24, false, .slice 74, some (.list (.pair (.str) (.int .i64)))⟩),
  (25, ⟨2, 48, true, .struct [(22, 0), (23, 1)], some (.pair (.list (.pair (.list (.int .i64)) (.pair (.str) (.list (.pair (.str) (.list (.str))))))) (.list (.pair (.str) (.int .i64))))⟩),
  (27, ⟨1, 24, false, .slice 3, some (.list (.int .i64))⟩),
  (29, ⟨1, 24, false, .slice 60, some (.list (.pair (.list (.int .i64)) (.pair (.str) (.list (.pair (.str) (.list (.str)))))))⟩),
  (30, ⟨1, 24, false, .slice 72, some (.list (.pair (.str) (.int .i64)))⟩),
  (32, ⟨2, 48, true, .struct [(29, 0), (30, 1)], some (.pair (.list (.pair (.list (.int .i64)) (.pair (.str) (.list (.pair (.str) (.list (.str))))))) (.list (.pair (.str) (.int .i64))))⟩),
  (51, ⟨1, 24, false, .slice 5, some (.list (.int .u8))⟩),
  (56, ⟨1, 24, false, .slice 9, some (.list (.str))⟩),
  (58, ⟨1, 24, false, .slice 102, some (.list (.pair (.str) (.list (.str))))⟩),
  (60, ⟨3, 64, true, .struct [(27, 0), (9, 1), (58, 2)], some (.pair (.list (.int .i64)) (.pair (.str) (.list (.pair (.str) (.list (.str))))))⟩),
  (63, ⟨1, 8, false, .other, none⟩),
  (72, ⟨2, 24, true, .struct [(9, 0), (3, 1)], some (.pair (.str) (.int .i64))⟩),
  (74, ⟨2, 24, true, .struct [(9, 0), (3, 1)], some (.pair (.str) (.int .i64))⟩),
  (97, ⟨1, 24, false, .slice 138, some (.list (.pair (.str) (.list (.str))))⟩),
  (99, ⟨3, 64, true, .struct [(27, 0), (9, 1), (97, 2)], some (.pair (.list (.int .i64)) (.pair (.str) (.list (.pair (.str) (.list (.str))))))⟩),
  (102, ⟨2, 40, true, .struct [(9, 0), (56, 1)], some (.pair (.str) (.list (.str)))⟩),
  (120, ⟨1, 8, false, .other, none⟩),
  (138, ⟨2, 40, true, .struct [(9, 0), (56, 1)], some (.pair (.str) (.list (.str)))⟩),
  (142, ⟨24, 24, true, .other, none⟩),
  (143, ⟨1, 8, false, .int .u64, some (.int .u64)⟩),
  (165, ⟨65, 65, true, .other, none⟩)]
theorem tyOk : TyOk Tryz.prog (lookΓ Γl) := tyOk_of (by kernel_rfl)
def Γs : List (Nat × TI) := [(3, ⟨1, 8, false, .int .i64, some (.int .i64)⟩),
  (4, ⟨1, 1, false, .bool, some (.bool)⟩),
  (9, ⟨1, 16, false, .str, some (.str)⟩),
  (22, ⟨1, 24, false, .slice 99, some (.sp (.pair (.sp (.int .i64)) (.pair (.str) (.sp (.pair (.str) (.sp (.str)))))))⟩),
  (23, ⟨1, 24, false, .slice 74, some (.sp (.pair (.str) (.int .i64)))⟩),
  (25, ⟨2, 48, true, .struct [(22, 0), (23, 1)], some (.pair (.sp (.pair (.sp (.int .i64)) (.pair (.str) (.sp (.pair (.str) (.sp (.str))))))) (.sp (.pair (.str) (.int .i64))))⟩),
  (27, ⟨1, 24, false, .slice 3, some (.sp (.int .i64))⟩),
  (29, ⟨1, 24, false, .slice 60, some (.sp (.pair (.sp (.int .i64)) (.pair (.str) (.sp (.pair (.str) (.sp (.str)))))))⟩),
  (30, ⟨1, 24, false, .slice 72, some (.sp (.pair (.str) (.int .i64)))⟩),
  (32, ⟨2, 48, true, .struct [(29, 0), (30, 1)], some (.pair (.sp (.pair (.sp (.int .i64)) (.pair (.str) (.sp (.pair (.str) (.sp (.str))))))) (.sp (.pair (.str) (.int .i64))))⟩),
  (56, ⟨1, 24, false, .slice 9, some (.sp (.str))⟩),
  (58, ⟨1, 24, false, .slice 102, some (.sp (.pair (.str) (.sp (.str))))⟩),
  (60, ⟨3, 64, true, .struct [(27, 0), (9, 1), (58, 2)], some (.pair (.sp (.int .i64)) (.pair (.str) (.sp (.pair (.str) (.sp (.str))))))⟩),
  (72, ⟨2, 24, true, .struct [(9, 0), (3, 1)], some (.pair (.str) (.int .i64))⟩),
  (74, ⟨2, 24, true, .struct [(9, 0), (3, 1)], some (.pair (.str) (.int .i64))⟩),
  (97, ⟨1, 24, false, .slice 138, some (.sp (.pair (.str) (.sp (.str))))⟩),
  (99, ⟨3, 64, true, .struct [(27, 0), (9, 1), (97, 2)], some (.pair (.sp (.int .i64)) (.pair (.str) (.sp (.pair (.str) (.sp (.str))))))⟩),
  (102, ⟨2, 40, true, .struct [(9, 0), (56, 1)], some (.pair (.str) (.sp (.str)))⟩),
  (138, ⟨2, 40, true, .struct [(9, 0), (56, 1)], some (.pair (.str) (.sp (.str)))⟩)]
theorem tyOks : TyOk Tryz.prog (lookΓ Γs) := tyOk_of (by kernel_rfl)
theorem mixed : Tryz.prog.follows .mixedOrders = true := by kernel_rfl
def s_7e73706172657e : ByteArray := ⟨#[126, 115, 112, 97, 114, 101, 126]⟩
def s_636f6d6d697420 : ByteArray := ⟨#[99, 111, 109, 109, 105, 116, 32]⟩
def s_6272616e636820 : ByteArray := ⟨#[98, 114, 97, 110, 99, 104, 32]⟩
def s_20 : ByteArray := ⟨#[32]⟩
def s_2d39323233333732303336383534373735383038 : ByteArray := ⟨#[45, 57, 50, 50, 51, 51, 55, 50, 48, 51, 54, 56, 53, 52, 55, 55, 53, 56, 48, 56]⟩
def s_2d : ByteArray := ⟨#[45]⟩
def s_0a : ByteArray := ⟨#[10]⟩
def s_66696c6520 : ByteArray := ⟨#[102, 105, 108, 101, 32]⟩
def s_2f : ByteArray := ⟨#[47]⟩
def s_30313233343536373839616263646566_36 : ByteArray := ⟨#[48, 49, 50, 51, 52, 53, 54, 55, 56, 57, 97, 98, 99, 100, 101, 102, 103, 104, 105, 106, 107, 108, 109, 110, 111, 112, 113, 114, 115, 116, 117, 118, 119, 120, 121, 122]⟩
def s_30303031303230333034303530363037_200 : ByteArray := ⟨#[48, 48, 48, 49, 48, 50, 48, 51, 48, 52, 48, 53, 48, 54, 48, 55, 48, 56, 48, 57, 49, 48, 49, 49, 49, 50, 49, 51, 49, 52, 49, 53, 49, 54, 49, 55, 49, 56, 49, 57, 50, 48, 50, 49, 50, 50, 50, 51, 50, 52, 50, 53, 50, 54, 50, 55, 50, 56, 50, 57, 51, 48, 51, 49, 51, 50, 51, 51, 51, 52, 51, 53, 51, 54, 51, 55, 51, 56, 51, 57, 52, 48, 52, 49, 52, 50, 52, 51, 52, 52, 52, 53, 52, 54, 52, 55, 52, 56, 52, 57, 53, 48, 53, 49, 53, 50, 53, 51, 53, 52, 53, 53, 53, 54, 53, 55, 53, 56, 53, 57, 54, 48, 54, 49, 54, 50, 54, 51, 54, 52, 54, 53, 54, 54, 54, 55, 54, 56, 54, 57, 55, 48, 55, 49, 55, 50, 55, 51, 55, 52, 55, 53, 55, 54, 55, 55, 55, 56, 55, 57, 56, 48, 56, 49, 56, 50, 56, 51, 56, 52, 56, 53, 56, 54, 56, 55, 56, 56, 56, 57, 57, 48, 57, 49, 57, 50, 57, 51, 57, 52, 57, 53, 57, 54, 57, 55, 57, 56, 57, 57]⟩
/-! ### loop.example/stemma/laws.szIntS: function 103 -/
abbrev laws_szIntS.R : Type := Den [.int .i64]
def laws_szIntS.sig : Sig := ⟨2, ⟨[], [(0, .l (.dat (.sp (.int .i64)))), (1, .l (.dat (.int .i64)))]⟩, [.sp (.int .i64), .int .i64], ⟨[], [(0, .l (.dat (.int .i64)))]⟩, [.int .i64]⟩
abbrev laws_szIntS.Tab : Type := Unit
def laws_szIntS.start (m : Nat) (t : laws_szIntS.Tab) (x0 : List Int × Nat) (x1 : Int) : Option laws_szIntS.R :=
  lett ((decide ((w64 (x1 - (x0.2 : Int))) < (0 : Int))) : Bool) fun v1 => cond v1 (some ((-1 : Int), ())) (some ((w64 (x1 - (x0.2 : Int))), ()))
def laws_szIntS.tab (m : Nat) : Nat → laws_szIntS.Tab
  | 0 => (())
  | k + 1 => (())
def laws_szIntS (m : Nat) (x : Den [.sp (.int .i64), .int .i64]) : Option laws_szIntS.R := laws_szIntS.start m (laws_szIntS.tab m m) x.1 x.2.1
def laws_szIntS.cons (m : Nat) : List (Nat × Contract) := []
def laws_szIntS.cuts (m : Nat) : List (CutF (Den laws_szIntS.sig.us)) := []
theorem laws_szIntS.eq (m : Nat) (x : Den laws_szIntS.sig.ts) : laws_szIntS m x = startF ⟨lookΓ Γs, lookC (laws_szIntS.cons m), false⟩ Tryz.f103 laws_szIntS.sig (laws_szIntS.cuts m) m x := by kernel_rfl
theorem laws_szIntS.ok (m : Nat) : Meets Tryz.prog 103 laws_szIntS.sig (laws_szIntS m) :=
  fn_is (cx_is tyOks mixed (l := laws_szIntS.cons m) trivial) (fn := Tryz.f103) Tryz.func103 (by kernel_rfl) (cl := laws_szIntS.cuts m) trivial (k := m) (laws_szIntS.eq m)

/-! ### loop.example/stemma/laws.szStringS: function 150 -/
abbrev laws_szStringS.R : Type := Den [.int .i64]
def laws_szStringS.sig : Sig := ⟨2, ⟨[], [(0, .l (.dat (.sp (.str)))), (1, .l (.dat (.int .i64)))]⟩, [.sp (.str), .int .i64], ⟨[], [(0, .l (.dat (.int .i64)))]⟩, [.int .i64]⟩
abbrev laws_szStringS.Tab : Type := (Den [.sp (.str), .int .i64, .int .i64] → Option laws_szStringS.R) × Unit
def laws_szStringS.start (m : Nat) (t : laws_szStringS.Tab) (x0 : List ByteArray × Nat) (x1 : Int) : Option laws_szStringS.R :=
  lett ((decide ((w64 (x1 - (x0.2 : Int))) < (0 : Int))) : Bool) fun v1 => cond v1 (some ((-1 : Int), ())) (t.1 (x0, (w64 (x1 - (x0.2 : Int))), (0 : Int), ()))
def laws_szStringS.b0 (m : Nat) (t : laws_szStringS.Tab) (a0 : List ByteArray × Nat) (a1 : Int) (a2 : Int) : Option laws_szStringS.R :=
  cond (decide (a2 < (a0.2 : Int))) (cond (decide ((0 : Int) ≤ a2)) (cond (decide (a2 < (a0.2 : Int))) (lett ((w64 (a1 - (sLen (getL a0.1 a2 ByteArray.empty)))) : Int) fun v1 => cond (decide (v1 < (0 : Int))) (some ((-1 : Int), ())) (t.1 (a0, v1, (w64 (a2 + (1 : Int))), ()))) none) none) (some (a1, ()))
def laws_szStringS.tab (m : Nat) : Nat → laws_szStringS.Tab
  | 0 => (fun _ => none, ())
  | k + 1 => (fun x => laws_szStringS.b0 m (laws_szStringS.tab m k) x.1 x.2.1 x.2.2.1, ())
def laws_szStringS (m : Nat) (x : Den [.sp (.str), .int .i64]) : Option laws_szStringS.R := laws_szStringS.start m (laws_szStringS.tab m m) x.1 x.2.1
def laws_szStringS.cons (m : Nat) : List (Nat × Contract) := []
def laws_szStringS.cuts (m : Nat) : List (CutF (Den laws_szStringS.sig.us)) := [⟨[false, true, false, true, true, true], 122, ⟨[], [(0, .l (.dat (.sp (.str)))), (1, .l (.dat (.int .i64))), (5, .l (.dat (.int .i64)))]⟩, [.sp (.str), .int .i64, .int .i64], fun k => (laws_szStringS.tab m k).1⟩]
theorem laws_szStringS.eq0 (m k : Nat) (x : Den [.sp (.str), .int .i64, .int .i64]) : (laws_szStringS.tab m (k + 1)).1 x = runF ⟨lookΓ Γs, lookC (laws_szStringS.cons m), false⟩ Tryz.f150 laws_szStringS.sig (laws_szStringS.cuts m) k [false, true, false, true, true, true] ⟨[], [(0, .l (.dat (.sp (.str)))), (1, .l (.dat (.int .i64))), (5, .l (.dat (.int .i64)))]⟩ [.sp (.str), .int .i64, .int .i64] x := by kernel_rfl
theorem laws_szStringS.eq (m : Nat) (x : Den laws_szStringS.sig.ts) : laws_szStringS m x = startF ⟨lookΓ Γs, lookC (laws_szStringS.cons m), false⟩ Tryz.f150 laws_szStringS.sig (laws_szStringS.cuts m) m x := by kernel_rfl
theorem laws_szStringS.ok (m : Nat) : Meets Tryz.prog 150 laws_szStringS.sig (laws_szStringS m) :=
  fn_is (cx_is tyOks mixed (l := laws_szStringS.cons m) trivial) (fn := Tryz.f150) Tryz.func150 (by kernel_rfl) (cl := laws_szStringS.cuts m) ⟨⟨by kernel_rfl, fun _ => rfl, fun k x => laws_szStringS.eq0 m k x⟩, trivial⟩ (k := m) (laws_szStringS.eq m)

/-! ### loop.example/stemma/laws.szFile: function 131 -/
abbrev laws_szFile.R : Type := Den [.int .i64]
def laws_szFile.sig : Sig := ⟨2, ⟨[], [(0, .agg [.dat (.str), .dat (.sp (.str))]), (1, .l (.dat (.int .i64)))]⟩, [.str, .sp (.str), .int .i64], ⟨[], [(0, .l (.dat (.int .i64)))]⟩, [.int .i64]⟩
abbrev laws_szFile.Tab : Type := Unit
def laws_szFile.start (m : Nat) (t : laws_szFile.Tab) (x0 : ByteArray) (x1 : List ByteArray × Nat) (x2 : Int) : Option laws_szFile.R :=
  lett ((decide ((w64 (x2 - (sLen x0))) < (0 : Int))) : Bool) fun v1 => cond v1 (some ((-1 : Int), ())) (Option.bind (laws_szStringS m (x1, (w64 (x2 - (sLen x0))), ())) fun r2 => cond (decide (r2.1 < (0 : Int))) (some ((-1 : Int), ())) (some (r2.1, ())))
def laws_szFile.tab (m : Nat) : Nat → laws_szFile.Tab
  | 0 => (())
  | k + 1 => (())
def laws_szFile (m : Nat) (x : Den [.str, .sp (.str), .int .i64]) : Option laws_szFile.R := laws_szFile.start m (laws_szFile.tab m m) x.1 x.2.1 x.2.2.1
def laws_szFile.cons (m : Nat) : List (Nat × Contract) := [(150, ⟨laws_szStringS.sig, laws_szStringS m⟩)]
def laws_szFile.cuts (m : Nat) : List (CutF (Den laws_szFile.sig.us)) := []
theorem laws_szFile.eq (m : Nat) (x : Den laws_szFile.sig.ts) : laws_szFile m x = startF ⟨lookΓ Γs, lookC (laws_szFile.cons m), false⟩ Tryz.f131 laws_szFile.sig (laws_szFile.cuts m) m x := by kernel_rfl
theorem laws_szFile.ok (m : Nat) : Meets Tryz.prog 131 laws_szFile.sig (laws_szFile m) :=
  fn_is (cx_is tyOks mixed (l := laws_szFile.cons m) ⟨laws_szStringS.ok m, trivial⟩) (fn := Tryz.f131) Tryz.func131 (by kernel_rfl) (cl := laws_szFile.cuts m) trivial (k := m) (laws_szFile.eq m)

/-! ### loop.example/stemma/laws.szFileS: function 104 -/
abbrev laws_szFileS.R : Type := Den [.int .i64]
def laws_szFileS.sig : Sig := ⟨2, ⟨[], [(0, .l (.dat (.sp (.pair (.str) (.sp (.str)))))), (1, .l (.dat (.int .i64)))]⟩, [.sp (.pair (.str) (.sp (.str))), .int .i64], ⟨[], [(0, .l (.dat (.int .i64)))]⟩, [.int .i64]⟩
abbrev laws_szFileS.Tab : Type := (Den [.sp (.pair (.str) (.sp (.str))), .int .i64, .int .i64] → Option laws_szFileS.R) × Unit
def laws_szFileS.start (m : Nat) (t : laws_szFileS.Tab) (x0 : List (ByteArray × (List ByteArray × Nat)) × Nat) (x1 : Int) : Option laws_szFileS.R :=
  lett ((decide ((w64 (x1 - (x0.2 : Int))) < (0 : Int))) : Bool) fun v1 => cond v1 (some ((-1 : Int), ())) (t.1 (x0, (w64 (x1 - (x0.2 : Int))), (0 : Int), ()))
def laws_szFileS.b0 (m : Nat) (t : laws_szFileS.Tab) (a0 : List (ByteArray × (List ByteArray × Nat)) × Nat) (a1 : Int) (a2 : Int) : Option laws_szFileS.R :=
  cond (decide (a2 < (a0.2 : Int))) (cond (decide ((0 : Int) ≤ a2)) (cond (decide (a2 < (a0.2 : Int))) (lett ((getL a0.1 a2 (ByteArray.empty, ([] : List ByteArray), (0 : Nat))) : ByteArray × (List ByteArray × Nat)) fun v1 => Option.bind (laws_szFile m (v1.1, v1.2, a1, ())) fun r2 => cond (decide (r2.1 < (0 : Int))) (some ((-1 : Int), ())) (t.1 (a0, r2.1, (w64 (a2 + (1 : Int))), ()))) none) none) (some (a1, ()))
def laws_szFileS.tab (m : Nat) : Nat → laws_szFileS.Tab
  | 0 => (fun _ => none, ())
  | k + 1 => (fun x => laws_szFileS.b0 m (laws_szFileS.tab m k) x.1 x.2.1 x.2.2.1, ())
def laws_szFileS (m : Nat) (x : Den [.sp (.pair (.str) (.sp (.str))), .int .i64]) : Option laws_szFileS.R := laws_szFileS.start m (laws_szFileS.tab m m) x.1 x.2.1
def laws_szFileS.cons (m : Nat) : List (Nat × Contract) := [(131, ⟨laws_szFile.sig, laws_szFile m⟩)]
def laws_szFileS.cuts (m : Nat) : List (CutF (Den laws_szFileS.sig.us)) := [⟨[false, true, false, true, true, true], 122, ⟨[], [(0, .l (.dat (.sp (.pair (.str) (.sp (.str)))))), (1, .l (.dat (.int .i64))), (5, .l (.dat (.int .i64)))]⟩, [.sp (.pair (.str) (.sp (.str))), .int .i64, .int .i64], fun k => (laws_szFileS.tab m k).1⟩]
theorem laws_szFileS.eq0 (m k : Nat) (x : Den [.sp (.pair (.str) (.sp (.str))), .int .i64, .int .i64]) : (laws_szFileS.tab m (k + 1)).1 x = runF ⟨lookΓ Γs, lookC (laws_szFileS.cons m), false⟩ Tryz.f104 laws_szFileS.sig (laws_szFileS.cuts m) k [false, true, false, true, true, true] ⟨[], [(0, .l (.dat (.sp (.pair (.str) (.sp (.str)))))), (1, .l (.dat (.int .i64))), (5, .l (.dat (.int .i64)))]⟩ [.sp (.pair (.str) (.sp (.str))), .int .i64, .int .i64] x := by kernel_rfl
theorem laws_szFileS.eq (m : Nat) (x : Den laws_szFileS.sig.ts) : laws_szFileS m x = startF ⟨lookΓ Γs, lookC (laws_szFileS.cons m), false⟩ Tryz.f104 laws_szFileS.sig (laws_szFileS.cuts m) m x := by kernel_rfl
theorem laws_szFileS.ok (m : Nat) : Meets Tryz.prog 104 laws_szFileS.sig (laws_szFileS m) :=
  fn_is (cx_is tyOks mixed (l := laws_szFileS.cons m) ⟨laws_szFile.ok m, trivial⟩) (fn := Tryz.f104) Tryz.func104 (by kernel_rfl) (cl := laws_szFileS.cuts m) ⟨⟨by kernel_rfl, fun _ => rfl, fun k x => laws_szFileS.eq0 m k x⟩, trivial⟩ (k := m) (laws_szFileS.eq m)

/-! ### loop.example/stemma/laws.szCommit: function 72 -/
abbrev laws_szCommit.R : Type := Den [.int .i64]
def laws_szCommit.sig : Sig := ⟨2, ⟨[], [(0, .agg [.dat (.sp (.int .i64)), .dat (.str), .dat (.sp (.pair (.str) (.sp (.str))))]), (1, .l (.dat (.int .i64)))]⟩, [.sp (.int .i64), .str, .sp (.pair (.str) (.sp (.str))), .int .i64], ⟨[], [(0, .l (.dat (.int .i64)))]⟩, [.int .i64]⟩
abbrev laws_szCommit.Tab : Type := Unit
def laws_szCommit.start (m : Nat) (t : laws_szCommit.Tab) (x0 : List Int × Nat) (x1 : ByteArray) (x2 : List (ByteArray × (List ByteArray × Nat)) × Nat) (x3 : Int) : Option laws_szCommit.R :=
  Option.bind (laws_szIntS m (x0, x3, ())) fun r1 => cond (decide (r1.1 < (0 : Int))) (some ((-1 : Int), ())) (lett ((decide ((w64 (r1.1 - (sLen x1))) < (0 : Int))) : Bool) fun v2 => cond v2 (some ((-1 : Int), ())) (Option.bind (laws_szFileS m (x2, (w64 (r1.1 - (sLen x1))), ())) fun r3 => cond (decide (r3.1 < (0 : Int))) (some ((-1 : Int), ())) (some (r3.1, ()))))
def laws_szCommit.tab (m : Nat) : Nat → laws_szCommit.Tab
  | 0 => (())
  | k + 1 => (())
def laws_szCommit (m : Nat) (x : Den [.sp (.int .i64), .str, .sp (.pair (.str) (.sp (.str))), .int .i64]) : Option laws_szCommit.R := laws_szCommit.start m (laws_szCommit.tab m m) x.1 x.2.1 x.2.2.1 x.2.2.2.1
def laws_szCommit.cons (m : Nat) : List (Nat × Contract) := [(103, ⟨laws_szIntS.sig, laws_szIntS m⟩), (104, ⟨laws_szFileS.sig, laws_szFileS m⟩)]
def laws_szCommit.cuts (m : Nat) : List (CutF (Den laws_szCommit.sig.us)) := []
theorem laws_szCommit.eq (m : Nat) (x : Den laws_szCommit.sig.ts) : laws_szCommit m x = startF ⟨lookΓ Γs, lookC (laws_szCommit.cons m), false⟩ Tryz.f72 laws_szCommit.sig (laws_szCommit.cuts m) m x := by kernel_rfl
theorem laws_szCommit.ok (m : Nat) : Meets Tryz.prog 72 laws_szCommit.sig (laws_szCommit m) :=
  fn_is (cx_is tyOks mixed (l := laws_szCommit.cons m) ⟨laws_szIntS.ok m, laws_szFileS.ok m, trivial⟩) (fn := Tryz.f72) Tryz.func72 (by kernel_rfl) (cl := laws_szCommit.cuts m) trivial (k := m) (laws_szCommit.eq m)

/-! ### loop.example/stemma/laws.szCommitS: function 34 -/
abbrev laws_szCommitS.R : Type := Den [.int .i64]
def laws_szCommitS.sig : Sig := ⟨2, ⟨[], [(0, .l (.dat (.sp (.pair (.sp (.int .i64)) (.pair (.str) (.sp (.pair (.str) (.sp (.str))))))))), (1, .l (.dat (.int .i64)))]⟩, [.sp (.pair (.sp (.int .i64)) (.pair (.str) (.sp (.pair (.str) (.sp (.str)))))), .int .i64], ⟨[], [(0, .l (.dat (.int .i64)))]⟩, [.int .i64]⟩
abbrev laws_szCommitS.Tab : Type := (Den [.sp (.pair (.sp (.int .i64)) (.pair (.str) (.sp (.pair (.str) (.sp (.str)))))), .int .i64, .int .i64] → Option laws_szCommitS.R) × Unit
def laws_szCommitS.start (m : Nat) (t : laws_szCommitS.Tab) (x0 : List ((List Int × Nat) × ByteArray × (List (ByteArray × (List ByteArray × Nat)) × Nat)) × Nat) (x1 : Int) : Option laws_szCommitS.R :=
  lett ((decide ((w64 (x1 - (x0.2 : Int))) < (0 : Int))) : Bool) fun v1 => cond v1 (some ((-1 : Int), ())) (t.1 (x0, (w64 (x1 - (x0.2 : Int))), (0 : Int), ()))
def laws_szCommitS.b0 (m : Nat) (t : laws_szCommitS.Tab) (a0 : List ((List Int × Nat) × ByteArray × (List (ByteArray × (List ByteArray × Nat)) × Nat)) × Nat) (a1 : Int) (a2 : Int) : Option laws_szCommitS.R :=
  cond (decide (a2 < (a0.2 : Int))) (cond (decide ((0 : Int) ≤ a2)) (cond (decide (a2 < (a0.2 : Int))) (lett ((getL a0.1 a2 ((([] : List Int), (0 : Nat)), ByteArray.empty, ([] : List (ByteArray × (List ByteArray × Nat))), (0 : Nat))) : (List Int × Nat) × ByteArray × (List (ByteArray × (List ByteArray × Nat)) × Nat)) fun v1 => Option.bind (laws_szCommit m (v1.1, v1.2.1, v1.2.2, a1, ())) fun r2 => cond (decide (r2.1 < (0 : Int))) (some ((-1 : Int), ())) (t.1 (a0, r2.1, (w64 (a2 + (1 : Int))), ()))) none) none) (some (a1, ()))
def laws_szCommitS.tab (m : Nat) : Nat → laws_szCommitS.Tab
  | 0 => (fun _ => none, ())
  | k + 1 => (fun x => laws_szCommitS.b0 m (laws_szCommitS.tab m k) x.1 x.2.1 x.2.2.1, ())
def laws_szCommitS (m : Nat) (x : Den [.sp (.pair (.sp (.int .i64)) (.pair (.str) (.sp (.pair (.str) (.sp (.str)))))), .int .i64]) : Option laws_szCommitS.R := laws_szCommitS.start m (laws_szCommitS.tab m m) x.1 x.2.1
def laws_szCommitS.cons (m : Nat) : List (Nat × Contract) := [(72, ⟨laws_szCommit.sig, laws_szCommit m⟩)]
def laws_szCommitS.cuts (m : Nat) : List (CutF (Den laws_szCommitS.sig.us)) := [⟨[false, true, false, true, true, true], 122, ⟨[], [(0, .l (.dat (.sp (.pair (.sp (.int .i64)) (.pair (.str) (.sp (.pair (.str) (.sp (.str))))))))), (1, .l (.dat (.int .i64))), (5, .l (.dat (.int .i64)))]⟩, [.sp (.pair (.sp (.int .i64)) (.pair (.str) (.sp (.pair (.str) (.sp (.str)))))), .int .i64, .int .i64], fun k => (laws_szCommitS.tab m k).1⟩]
theorem laws_szCommitS.eq0 (m k : Nat) (x : Den [.sp (.pair (.sp (.int .i64)) (.pair (.str) (.sp (.pair (.str) (.sp (.str)))))), .int .i64, .int .i64]) : (laws_szCommitS.tab m (k + 1)).1 x = runF ⟨lookΓ Γs, lookC (laws_szCommitS.cons m), false⟩ Tryz.f34 laws_szCommitS.sig (laws_szCommitS.cuts m) k [false, true, false, true, true, true] ⟨[], [(0, .l (.dat (.sp (.pair (.sp (.int .i64)) (.pair (.str) (.sp (.pair (.str) (.sp (.str))))))))), (1, .l (.dat (.int .i64))), (5, .l (.dat (.int .i64)))]⟩ [.sp (.pair (.sp (.int .i64)) (.pair (.str) (.sp (.pair (.str) (.sp (.str)))))), .int .i64, .int .i64] x := by kernel_rfl
theorem laws_szCommitS.eq (m : Nat) (x : Den laws_szCommitS.sig.ts) : laws_szCommitS m x = startF ⟨lookΓ Γs, lookC (laws_szCommitS.cons m), false⟩ Tryz.f34 laws_szCommitS.sig (laws_szCommitS.cuts m) m x := by kernel_rfl
theorem laws_szCommitS.ok (m : Nat) : Meets Tryz.prog 34 laws_szCommitS.sig (laws_szCommitS m) :=
  fn_is (cx_is tyOks mixed (l := laws_szCommitS.cons m) ⟨laws_szCommit.ok m, trivial⟩) (fn := Tryz.f34) Tryz.func34 (by kernel_rfl) (cl := laws_szCommitS.cuts m) ⟨⟨by kernel_rfl, fun _ => rfl, fun k x => laws_szCommitS.eq0 m k x⟩, trivial⟩ (k := m) (laws_szCommitS.eq m)

/-! ### loop.example/stemma/laws.szHead: function 48 -/
abbrev laws_szHead.R : Type := Den [.int .i64]
def laws_szHead.sig : Sig := ⟨2, ⟨[], [(0, .agg [.dat (.str), .dat (.int .i64)]), (1, .l (.dat (.int .i64)))]⟩, [.str, .int .i64, .int .i64], ⟨[], [(0, .l (.dat (.int .i64)))]⟩, [.int .i64]⟩
abbrev laws_szHead.Tab : Type := Unit
def laws_szHead.start (m : Nat) (t : laws_szHead.Tab) (x0 : ByteArray) (x1 : Int) (x2 : Int) : Option laws_szHead.R :=
  lett ((decide ((w64 (x2 - (sLen x0))) < (0 : Int))) : Bool) fun v1 => cond v1 (some ((-1 : Int), ())) (some ((w64 (x2 - (sLen x0))), ()))
def laws_szHead.tab (m : Nat) : Nat → laws_szHead.Tab
  | 0 => (())
  | k + 1 => (())
def laws_szHead (m : Nat) (x : Den [.str, .int .i64, .int .i64]) : Option laws_szHead.R := laws_szHead.start m (laws_szHead.tab m m) x.1 x.2.1 x.2.2.1
def laws_szHead.cons (m : Nat) : List (Nat × Contract) := []
def laws_szHead.cuts (m : Nat) : List (CutF (Den laws_szHead.sig.us)) := []
theorem laws_szHead.eq (m : Nat) (x : Den laws_szHead.sig.ts) : laws_szHead m x = startF ⟨lookΓ Γs, lookC (laws_szHead.cons m), false⟩ Tryz.f48 laws_szHead.sig (laws_szHead.cuts m) m x := by kernel_rfl
theorem laws_szHead.ok (m : Nat) : Meets Tryz.prog 48 laws_szHead.sig (laws_szHead m) :=
  fn_is (cx_is tyOks mixed (l := laws_szHead.cons m) trivial) (fn := Tryz.f48) Tryz.func48 (by kernel_rfl) (cl := laws_szHead.cuts m) trivial (k := m) (laws_szHead.eq m)

/-! ### loop.example/stemma/laws.szHeadS: function 19 -/
abbrev laws_szHeadS.R : Type := Den [.int .i64]
def laws_szHeadS.sig : Sig := ⟨2, ⟨[], [(0, .l (.dat (.sp (.pair (.str) (.int .i64))))), (1, .l (.dat (.int .i64)))]⟩, [.sp (.pair (.str) (.int .i64)), .int .i64], ⟨[], [(0, .l (.dat (.int .i64)))]⟩, [.int .i64]⟩
abbrev laws_szHeadS.Tab : Type := (Den [.sp (.pair (.str) (.int .i64)), .int .i64, .int .i64] → Option laws_szHeadS.R) × Unit
def laws_szHeadS.start (m : Nat) (t : laws_szHeadS.Tab) (x0 : List (ByteArray × Int) × Nat) (x1 : Int) : Option laws_szHeadS.R :=
  lett ((decide ((w64 (x1 - (x0.2 : Int))) < (0 : Int))) : Bool) fun v1 => cond v1 (some ((-1 : Int), ())) (t.1 (x0, (w64 (x1 - (x0.2 : Int))), (0 : Int), ()))
def laws_szHeadS.b0 (m : Nat) (t : laws_szHeadS.Tab) (a0 : List (ByteArray × Int) × Nat) (a1 : Int) (a2 : Int) : Option laws_szHeadS.R :=
  cond (decide (a2 < (a0.2 : Int))) (cond (decide ((0 : Int) ≤ a2)) (cond (decide (a2 < (a0.2 : Int))) (lett ((getL a0.1 a2 (ByteArray.empty, (0 : Int))) : ByteArray × Int) fun v1 => Option.bind (laws_szHead m (v1.1, v1.2, a1, ())) fun r2 => cond (decide (r2.1 < (0 : Int))) (some ((-1 : Int), ())) (t.1 (a0, r2.1, (w64 (a2 + (1 : Int))), ()))) none) none) (some (a1, ()))
def laws_szHeadS.tab (m : Nat) : Nat → laws_szHeadS.Tab
  | 0 => (fun _ => none, ())
  | k + 1 => (fun x => laws_szHeadS.b0 m (laws_szHeadS.tab m k) x.1 x.2.1 x.2.2.1, ())
def laws_szHeadS (m : Nat) (x : Den [.sp (.pair (.str) (.int .i64)), .int .i64]) : Option laws_szHeadS.R := laws_szHeadS.start m (laws_szHeadS.tab m m) x.1 x.2.1
def laws_szHeadS.cons (m : Nat) : List (Nat × Contract) := [(48, ⟨laws_szHead.sig, laws_szHead m⟩)]
def laws_szHeadS.cuts (m : Nat) : List (CutF (Den laws_szHeadS.sig.us)) := [⟨[false, true, false, true, true, true], 122, ⟨[], [(0, .l (.dat (.sp (.pair (.str) (.int .i64))))), (1, .l (.dat (.int .i64))), (5, .l (.dat (.int .i64)))]⟩, [.sp (.pair (.str) (.int .i64)), .int .i64, .int .i64], fun k => (laws_szHeadS.tab m k).1⟩]
theorem laws_szHeadS.eq0 (m k : Nat) (x : Den [.sp (.pair (.str) (.int .i64)), .int .i64, .int .i64]) : (laws_szHeadS.tab m (k + 1)).1 x = runF ⟨lookΓ Γs, lookC (laws_szHeadS.cons m), false⟩ Tryz.f19 laws_szHeadS.sig (laws_szHeadS.cuts m) k [false, true, false, true, true, true] ⟨[], [(0, .l (.dat (.sp (.pair (.str) (.int .i64))))), (1, .l (.dat (.int .i64))), (5, .l (.dat (.int .i64)))]⟩ [.sp (.pair (.str) (.int .i64)), .int .i64, .int .i64] x := by kernel_rfl
theorem laws_szHeadS.eq (m : Nat) (x : Den laws_szHeadS.sig.ts) : laws_szHeadS m x = startF ⟨lookΓ Γs, lookC (laws_szHeadS.cons m), false⟩ Tryz.f19 laws_szHeadS.sig (laws_szHeadS.cuts m) m x := by kernel_rfl
theorem laws_szHeadS.ok (m : Nat) : Meets Tryz.prog 19 laws_szHeadS.sig (laws_szHeadS m) :=
  fn_is (cx_is tyOks mixed (l := laws_szHeadS.cons m) ⟨laws_szHead.ok m, trivial⟩) (fn := Tryz.f19) Tryz.func19 (by kernel_rfl) (cl := laws_szHeadS.cuts m) ⟨⟨by kernel_rfl, fun _ => rfl, fun k x => laws_szHeadS.eq0 m k x⟩, trivial⟩ (k := m) (laws_szHeadS.eq m)

/-! ### loop.example/stemma/laws.szRepo: function 8 -/
abbrev laws_szRepo.R : Type := Den [.int .i64]
def laws_szRepo.sig : Sig := ⟨2, ⟨[], [(0, .agg [.dat (.sp (.pair (.sp (.int .i64)) (.pair (.str) (.sp (.pair (.str) (.sp (.str))))))), .dat (.sp (.pair (.str) (.int .i64)))]), (1, .l (.dat (.int .i64)))]⟩, [.sp (.pair (.sp (.int .i64)) (.pair (.str) (.sp (.pair (.str) (.sp (.str)))))), .sp (.pair (.str) (.int .i64)), .int .i64], ⟨[], [(0, .l (.dat (.int .i64)))]⟩, [.int .i64]⟩
abbrev laws_szRepo.Tab : Type := Unit
def laws_szRepo.start (m : Nat) (t : laws_szRepo.Tab) (x0 : List ((List Int × Nat) × ByteArray × (List (ByteArray × (List ByteArray × Nat)) × Nat)) × Nat) (x1 : List (ByteArray × Int) × Nat) (x2 : Int) : Option laws_szRepo.R :=
  Option.bind (laws_szCommitS m (x0, x2, ())) fun r1 => cond (decide (r1.1 < (0 : Int))) (some ((-1 : Int), ())) (Option.bind (laws_szHeadS m (x1, r1.1, ())) fun r2 => cond (decide (r2.1 < (0 : Int))) (some ((-1 : Int), ())) (some (r2.1, ())))
def laws_szRepo.tab (m : Nat) : Nat → laws_szRepo.Tab
  | 0 => (())
  | k + 1 => (())
def laws_szRepo (m : Nat) (x : Den [.sp (.pair (.sp (.int .i64)) (.pair (.str) (.sp (.pair (.str) (.sp (.str)))))), .sp (.pair (.str) (.int .i64)), .int .i64]) : Option laws_szRepo.R := laws_szRepo.start m (laws_szRepo.tab m m) x.1 x.2.1 x.2.2.1
def laws_szRepo.cons (m : Nat) : List (Nat × Contract) := [(34, ⟨laws_szCommitS.sig, laws_szCommitS m⟩), (19, ⟨laws_szHeadS.sig, laws_szHeadS m⟩)]
def laws_szRepo.cuts (m : Nat) : List (CutF (Den laws_szRepo.sig.us)) := []
theorem laws_szRepo.eq (m : Nat) (x : Den laws_szRepo.sig.ts) : laws_szRepo m x = startF ⟨lookΓ Γs, lookC (laws_szRepo.cons m), false⟩ Tryz.f8 laws_szRepo.sig (laws_szRepo.cuts m) m x := by kernel_rfl
theorem laws_szRepo.ok (m : Nat) : Meets Tryz.prog 8 laws_szRepo.sig (laws_szRepo m) :=
  fn_is (cx_is tyOks mixed (l := laws_szRepo.cons m) ⟨laws_szCommitS.ok m, laws_szHeadS.ok m, trivial⟩) (fn := Tryz.f8) Tryz.func8 (by kernel_rfl) (cl := laws_szRepo.cuts m) trivial (k := m) (laws_szRepo.eq m)

/-! ### loop.example/stemma/laws.roomBehind: function 50 -/
abbrev laws_roomBehind.R : Type := Den [.int .i64]
def laws_roomBehind.sig : Sig := ⟨1, ⟨[], [(0, .l (.dat (.int .i64)))]⟩, [.int .i64], ⟨[], [(0, .l (.dat (.int .i64)))]⟩, [.int .i64]⟩
abbrev laws_roomBehind.Tab : Type := Unit
def laws_roomBehind.start (m : Nat) (t : laws_roomBehind.Tab) (x0 : Int) : Option laws_roomBehind.R :=
  cond ((6 : Int) == 0) none (cond ((Int.tmod x0 (6 : Int)) == (5 : Int)) (some ((0 : Int), ())) (cond ((3 : Int) == 0) none (cond ((Int.tmod x0 (3 : Int)) == (0 : Int)) (some ((1 : Int), ())) (some (x0, ())))))
def laws_roomBehind.tab (m : Nat) : Nat → laws_roomBehind.Tab
  | 0 => (())
  | k + 1 => (())
def laws_roomBehind (m : Nat) (x : Den [.int .i64]) : Option laws_roomBehind.R := laws_roomBehind.start m (laws_roomBehind.tab m m) x.1
def laws_roomBehind.cons (m : Nat) : List (Nat × Contract) := []
def laws_roomBehind.cuts (m : Nat) : List (CutF (Den laws_roomBehind.sig.us)) := []
theorem laws_roomBehind.eq (m : Nat) (x : Den laws_roomBehind.sig.ts) : laws_roomBehind m x = startF ⟨lookΓ Γs, lookC (laws_roomBehind.cons m), false⟩ Tryz.f50 laws_roomBehind.sig (laws_roomBehind.cuts m) m x := by kernel_rfl
theorem laws_roomBehind.ok (m : Nat) : Meets Tryz.prog 50 laws_roomBehind.sig (laws_roomBehind m) :=
  fn_is (cx_is tyOks mixed (l := laws_roomBehind.cons m) trivial) (fn := Tryz.f50) Tryz.func50 (by kernel_rfl) (cl := laws_roomBehind.cuts m) trivial (k := m) (laws_roomBehind.eq m)

/-! ### loop.example/stemma/laws.toIntS: function 109 -/
abbrev laws_toIntS.R : Type := Den [.sp (.int .i64)]
def laws_toIntS.sig : Sig := ⟨2, ⟨[], [(0, .l (.dat (.sp (.int .i64)))), (1, .l (.dat (.bool)))]⟩, [.sp (.int .i64), .bool], ⟨[], [(0, .l (.dat (.sp (.int .i64))))]⟩, [.sp (.int .i64)]⟩
abbrev laws_toIntS.Tab : Type := (Den [.list (.int .i64), .sp (.int .i64), .int .i64] → Option laws_toIntS.R) × (Den [.list (.int .i64), .sp (.int .i64), .int .i64] → Option laws_toIntS.R) × (Den [.sp (.int .i64)] → Option laws_toIntS.R) × Unit
def laws_toIntS.start (m : Nat) (t : laws_toIntS.Tab) (x0 : List Int × Nat) (x1 : Bool) : Option laws_toIntS.R :=
  cond x1 (cond ((x0.2 : Int) == (0 : Int)) (some (([], 0), ())) (t.2.2.1 (x0, ()))) (t.2.2.1 (x0, ()))
def laws_toIntS.b0 (m : Nat) (t : laws_toIntS.Tab) (a0 : List Int) (a1 : List Int × Nat) (a2 : Int) : Option laws_toIntS.R :=
  cond (decide (a2 < (a1.2 : Int))) (cond (decide ((0 : Int) ≤ a2)) (cond (decide (a2 < (a1.2 : Int))) (cond (decide ((0 : Int) ≤ a2)) (cond (decide (a2 < lLen a0)) (t.1 ((List.set a0 (Int.toNat a2) (getL a1.1 a2 (0 : Int))), a1, (w64 (a2 + (1 : Int))), ())) none) none) none) none) (t.2.1 (a0, a1, (a1.2 : Int), ()))
def laws_toIntS.b1 (m : Nat) (t : laws_toIntS.Tab) (a0 : List Int) (a1 : List Int × Nat) (a2 : Int) : Option laws_toIntS.R :=
  cond (decide (a2 < (lLen a0))) (cond (decide ((0 : Int) ≤ a2)) (cond (decide (a2 < lLen a0)) (t.2.1 ((List.set a0 (Int.toNat a2) (-7000000000000000101 : Int)), a1, (w64 (a2 + (1 : Int))), ())) none) none) (cond (decide ((0 : Int) ≤ (a1.2 : Int))) (cond (decide ((a1.2 : Int) ≤ ((List.length a0) : Int))) (some ((a0, (Int.toNat (a1.2 : Int))), ())) none) none)
def laws_toIntS.b2 (m : Nat) (t : laws_toIntS.Tab) (a0 : List Int × Nat) : Option laws_toIntS.R :=
  Option.bind (laws_roomBehind m ((a0.2 : Int), ())) fun r1 => cond (decide ((0 : Int) ≤ (w64 ((a0.2 : Int) + r1.1)))) (cond (decide (Int.toNat (w64 ((a0.2 : Int) + r1.1)) ≤ apCap)) (lett ((List.replicate (Int.toNat (w64 ((a0.2 : Int) + r1.1))) (0 : Int)) : List Int) fun v2 => t.1 (v2, a0, (0 : Int), ())) none) none
def laws_toIntS.tab (m : Nat) : Nat → laws_toIntS.Tab
  | 0 => (fun _ => none, fun _ => none, fun _ => none, ())
  | k + 1 => (fun x => laws_toIntS.b0 m (laws_toIntS.tab m k) x.1 x.2.1 x.2.2.1, fun x => laws_toIntS.b1 m (laws_toIntS.tab m k) x.1 x.2.1 x.2.2.1, fun x => laws_toIntS.b2 m (laws_toIntS.tab m k) x.1, ())
def laws_toIntS (m : Nat) (x : Den [.sp (.int .i64), .bool]) : Option laws_toIntS.R := laws_toIntS.start m (laws_toIntS.tab m m) x.1 x.2.1
def laws_toIntS.cons (m : Nat) : List (Nat × Contract) := [(50, ⟨laws_roomBehind.sig, laws_roomBehind m⟩)]
def laws_toIntS.cuts (m : Nat) : List (CutF (Den laws_toIntS.sig.us)) := [⟨[false, true, false, true, true, true], 122, ⟨[.row true (.int .i64)], [(0, .l (.dat (.sp (.int .i64)))), (5, .l (.sl 0)), (6, .l (.dat (.int .i64)))]⟩, [.list (.int .i64), .sp (.int .i64), .int .i64], fun k => (laws_toIntS.tab m k).1⟩,
  ⟨[false, true, false, true, true, true, true], 250, ⟨[.row true (.int .i64)], [(0, .l (.dat (.sp (.int .i64)))), (5, .l (.sl 0)), (7, .l (.dat (.int .i64)))]⟩, [.list (.int .i64), .sp (.int .i64), .int .i64], fun k => (laws_toIntS.tab m k).2.1⟩,
  ⟨[true, true], 7, ⟨[], [(0, .l (.dat (.sp (.int .i64))))]⟩, [.sp (.int .i64)], fun k => (laws_toIntS.tab m k).2.2.1⟩]
theorem laws_toIntS.eq0 (m k : Nat) (x : Den [.list (.int .i64), .sp (.int .i64), .int .i64]) : (laws_toIntS.tab m (k + 1)).1 x = runF ⟨lookΓ Γs, lookC (laws_toIntS.cons m), false⟩ Tryz.f109 laws_toIntS.sig (laws_toIntS.cuts m) k [false, true, false, true, true, true] ⟨[.row true (.int .i64)], [(0, .l (.dat (.sp (.int .i64)))), (5, .l (.sl 0)), (6, .l (.dat (.int .i64)))]⟩ [.list (.int .i64), .sp (.int .i64), .int .i64] x := by kernel_rfl
theorem laws_toIntS.eq1 (m k : Nat) (x : Den [.list (.int .i64), .sp (.int .i64), .int .i64]) : (laws_toIntS.tab m (k + 1)).2.1 x = runF ⟨lookΓ Γs, lookC (laws_toIntS.cons m), false⟩ Tryz.f109 laws_toIntS.sig (laws_toIntS.cuts m) k [false, true, false, true, true, true, true] ⟨[.row true (.int .i64)], [(0, .l (.dat (.sp (.int .i64)))), (5, .l (.sl 0)), (7, .l (.dat (.int .i64)))]⟩ [.list (.int .i64), .sp (.int .i64), .int .i64] x := by kernel_rfl
theorem laws_toIntS.eq2 (m k : Nat) (x : Den [.sp (.int .i64)]) : (laws_toIntS.tab m (k + 1)).2.2.1 x = runF ⟨lookΓ Γs, lookC (laws_toIntS.cons m), false⟩ Tryz.f109 laws_toIntS.sig (laws_toIntS.cuts m) k [true, true] ⟨[], [(0, .l (.dat (.sp (.int .i64))))]⟩ [.sp (.int .i64)] x := by kernel_rfl
theorem laws_toIntS.eq (m : Nat) (x : Den laws_toIntS.sig.ts) : laws_toIntS m x = startF ⟨lookΓ Γs, lookC (laws_toIntS.cons m), false⟩ Tryz.f109 laws_toIntS.sig (laws_toIntS.cuts m) m x := by kernel_rfl
theorem laws_toIntS.ok (m : Nat) : Meets Tryz.prog 109 laws_toIntS.sig (laws_toIntS m) :=
  fn_is (cx_is tyOks mixed (l := laws_toIntS.cons m) ⟨laws_roomBehind.ok m, trivial⟩) (fn := Tryz.f109) Tryz.func109 (by kernel_rfl) (cl := laws_toIntS.cuts m) ⟨⟨by kernel_rfl, fun _ => rfl, fun k x => laws_toIntS.eq0 m k x⟩, ⟨by kernel_rfl, fun _ => rfl, fun k x => laws_toIntS.eq1 m k x⟩, ⟨by kernel_rfl, fun _ => rfl, fun k x => laws_toIntS.eq2 m k x⟩, trivial⟩ (k := m) (laws_toIntS.eq m)

/-! ### loop.example/stemma/laws.toStringS: function 151 -/
abbrev laws_toStringS.R : Type := Den [.sp (.str)]
def laws_toStringS.sig : Sig := ⟨2, ⟨[], [(0, .l (.dat (.sp (.str)))), (1, .l (.dat (.bool)))]⟩, [.sp (.str), .bool], ⟨[], [(0, .l (.dat (.sp (.str))))]⟩, [.sp (.str)]⟩
abbrev laws_toStringS.Tab : Type := (Den [.list (.str), .sp (.str), .int .i64] → Option laws_toStringS.R) × (Den [.list (.str), .sp (.str), .int .i64] → Option laws_toStringS.R) × (Den [.sp (.str)] → Option laws_toStringS.R) × Unit
def laws_toStringS.start (m : Nat) (t : laws_toStringS.Tab) (x0 : List ByteArray × Nat) (x1 : Bool) : Option laws_toStringS.R :=
  cond x1 (cond ((x0.2 : Int) == (0 : Int)) (some (([], 0), ())) (t.2.2.1 (x0, ()))) (t.2.2.1 (x0, ()))
def laws_toStringS.b0 (m : Nat) (t : laws_toStringS.Tab) (a0 : List ByteArray) (a1 : List ByteArray × Nat) (a2 : Int) : Option laws_toStringS.R :=
  cond (decide (a2 < (a1.2 : Int))) (cond (decide ((0 : Int) ≤ a2)) (cond (decide (a2 < (a1.2 : Int))) (cond (decide ((0 : Int) ≤ a2)) (cond (decide (a2 < lLen a0)) (t.1 ((List.set a0 (Int.toNat a2) (getL a1.1 a2 ByteArray.empty)), a1, (w64 (a2 + (1 : Int))), ())) none) none) none) none) (t.2.1 (a0, a1, (a1.2 : Int), ()))
def laws_toStringS.b1 (m : Nat) (t : laws_toStringS.Tab) (a0 : List ByteArray) (a1 : List ByteArray × Nat) (a2 : Int) : Option laws_toStringS.R :=
  cond (decide (a2 < (lLen a0))) (cond (decide ((0 : Int) ≤ a2)) (cond (decide (a2 < lLen a0)) (t.2.1 ((List.set a0 (Int.toNat a2) s_7e73706172657e), a1, (w64 (a2 + (1 : Int))), ())) none) none) (cond (decide ((0 : Int) ≤ (a1.2 : Int))) (cond (decide ((a1.2 : Int) ≤ ((List.length a0) : Int))) (some ((a0, (Int.toNat (a1.2 : Int))), ())) none) none)
def laws_toStringS.b2 (m : Nat) (t : laws_toStringS.Tab) (a0 : List ByteArray × Nat) : Option laws_toStringS.R :=
  Option.bind (laws_roomBehind m ((a0.2 : Int), ())) fun r1 => cond (decide ((0 : Int) ≤ (w64 ((a0.2 : Int) + r1.1)))) (cond (decide (Int.toNat (w64 ((a0.2 : Int) + r1.1)) ≤ apCap)) (lett ((List.replicate (Int.toNat (w64 ((a0.2 : Int) + r1.1))) ByteArray.empty) : List ByteArray) fun v2 => t.1 (v2, a0, (0 : Int), ())) none) none
def laws_toStringS.tab (m : Nat) : Nat → laws_toStringS.Tab
  | 0 => (fun _ => none, fun _ => none, fun _ => none, ())
  | k + 1 => (fun x => laws_toStringS.b0 m (laws_toStringS.tab m k) x.1 x.2.1 x.2.2.1, fun x => laws_toStringS.b1 m (laws_toStringS.tab m k) x.1 x.2.1 x.2.2.1, fun x => laws_toStringS.b2 m (laws_toStringS.tab m k) x.1, ())
def laws_toStringS (m : Nat) (x : Den [.sp (.str), .bool]) : Option laws_toStringS.R := laws_toStringS.start m (laws_toStringS.tab m m) x.1 x.2.1
def laws_toStringS.cons (m : Nat) : List (Nat × Contract) := [(50, ⟨laws_roomBehind.sig, laws_roomBehind m⟩)]
def laws_toStringS.cuts (m : Nat) : List (CutF (Den laws_toStringS.sig.us)) := [⟨[false, true, false, true, true, true], 122, ⟨[.row true (.str)], [(0, .l (.dat (.sp (.str)))), (5, .l (.sl 0)), (6, .l (.dat (.int .i64)))]⟩, [.list (.str), .sp (.str), .int .i64], fun k => (laws_toStringS.tab m k).1⟩,
  ⟨[false, true, false, true, true, true, true], 250, ⟨[.row true (.str)], [(0, .l (.dat (.sp (.str)))), (5, .l (.sl 0)), (7, .l (.dat (.int .i64)))]⟩, [.list (.str), .sp (.str), .int .i64], fun k => (laws_toStringS.tab m k).2.1⟩,
  ⟨[true, true], 7, ⟨[], [(0, .l (.dat (.sp (.str))))]⟩, [.sp (.str)], fun k => (laws_toStringS.tab m k).2.2.1⟩]
theorem laws_toStringS.eq0 (m k : Nat) (x : Den [.list (.str), .sp (.str), .int .i64]) : (laws_toStringS.tab m (k + 1)).1 x = runF ⟨lookΓ Γs, lookC (laws_toStringS.cons m), false⟩ Tryz.f151 laws_toStringS.sig (laws_toStringS.cuts m) k [false, true, false, true, true, true] ⟨[.row true (.str)], [(0, .l (.dat (.sp (.str)))), (5, .l (.sl 0)), (6, .l (.dat (.int .i64)))]⟩ [.list (.str), .sp (.str), .int .i64] x := by kernel_rfl
theorem laws_toStringS.eq1 (m k : Nat) (x : Den [.list (.str), .sp (.str), .int .i64]) : (laws_toStringS.tab m (k + 1)).2.1 x = runF ⟨lookΓ Γs, lookC (laws_toStringS.cons m), false⟩ Tryz.f151 laws_toStringS.sig (laws_toStringS.cuts m) k [false, true, false, true, true, true, true] ⟨[.row true (.str)], [(0, .l (.dat (.sp (.str)))), (5, .l (.sl 0)), (7, .l (.dat (.int .i64)))]⟩ [.list (.str), .sp (.str), .int .i64] x := by kernel_rfl
theorem laws_toStringS.eq2 (m k : Nat) (x : Den [.sp (.str)]) : (laws_toStringS.tab m (k + 1)).2.2.1 x = runF ⟨lookΓ Γs, lookC (laws_toStringS.cons m), false⟩ Tryz.f151 laws_toStringS.sig (laws_toStringS.cuts m) k [true, true] ⟨[], [(0, .l (.dat (.sp (.str))))]⟩ [.sp (.str)] x := by kernel_rfl
theorem laws_toStringS.eq (m : Nat) (x : Den laws_toStringS.sig.ts) : laws_toStringS m x = startF ⟨lookΓ Γs, lookC (laws_toStringS.cons m), false⟩ Tryz.f151 laws_toStringS.sig (laws_toStringS.cuts m) m x := by kernel_rfl
theorem laws_toStringS.ok (m : Nat) : Meets Tryz.prog 151 laws_toStringS.sig (laws_toStringS m) :=
  fn_is (cx_is tyOks mixed (l := laws_toStringS.cons m) ⟨laws_roomBehind.ok m, trivial⟩) (fn := Tryz.f151) Tryz.func151 (by kernel_rfl) (cl := laws_toStringS.cuts m) ⟨⟨by kernel_rfl, fun _ => rfl, fun k x => laws_toStringS.eq0 m k x⟩, ⟨by kernel_rfl, fun _ => rfl, fun k x => laws_toStringS.eq1 m k x⟩, ⟨by kernel_rfl, fun _ => rfl, fun k x => laws_toStringS.eq2 m k x⟩, trivial⟩ (k := m) (laws_toStringS.eq m)

/-! ### loop.example/stemma/laws.toFile: function 134 -/
abbrev laws_toFile.R : Type := Den [.str, .sp (.str)]
def laws_toFile.sig : Sig := ⟨2, ⟨[], [(0, .agg [.dat (.str), .dat (.sp (.str))]), (1, .l (.dat (.bool)))]⟩, [.str, .sp (.str), .bool], ⟨[], [(0, .agg [.dat (.str), .dat (.sp (.str))])]⟩, [.str, .sp (.str)]⟩
abbrev laws_toFile.Tab : Type := Unit
def laws_toFile.start (m : Nat) (t : laws_toFile.Tab) (x0 : ByteArray) (x1 : List ByteArray × Nat) (x2 : Bool) : Option laws_toFile.R :=
  Option.bind (laws_toStringS m (x1, x2, ())) fun r1 => some (x0, r1.1, ())
def laws_toFile.tab (m : Nat) : Nat → laws_toFile.Tab
  | 0 => (())
  | k + 1 => (())
def laws_toFile (m : Nat) (x : Den [.str, .sp (.str), .bool]) : Option laws_toFile.R := laws_toFile.start m (laws_toFile.tab m m) x.1 x.2.1 x.2.2.1
def laws_toFile.cons (m : Nat) : List (Nat × Contract) := [(151, ⟨laws_toStringS.sig, laws_toStringS m⟩)]
def laws_toFile.cuts (m : Nat) : List (CutF (Den laws_toFile.sig.us)) := []
theorem laws_toFile.eq (m : Nat) (x : Den laws_toFile.sig.ts) : laws_toFile m x = startF ⟨lookΓ Γs, lookC (laws_toFile.cons m), false⟩ Tryz.f134 laws_toFile.sig (laws_toFile.cuts m) m x := by kernel_rfl
theorem laws_toFile.ok (m : Nat) : Meets Tryz.prog 134 laws_toFile.sig (laws_toFile m) :=
  fn_is (cx_is tyOks mixed (l := laws_toFile.cons m) ⟨laws_toStringS.ok m, trivial⟩) (fn := Tryz.f134) Tryz.func134 (by kernel_rfl) (cl := laws_toFile.cuts m) trivial (k := m) (laws_toFile.eq m)

/-! ### loop.example/stemma/laws.fillerFile: function 111 -/
abbrev laws_fillerFile.R : Type := Den [.str, .list (.str)]
def laws_fillerFile.sig : Sig := ⟨0, ⟨[], []⟩, [], ⟨[], [(0, .agg [.dat (.str), .dat (.list (.str))])]⟩, [.str, .list (.str)]⟩
abbrev laws_fillerFile.Tab : Type := Unit
def laws_fillerFile.start (m : Nat) (t : laws_fillerFile.Tab) : Option laws_fillerFile.R :=
  some (s_7e73706172657e, [s_7e73706172657e], ())
def laws_fillerFile.tab (m : Nat) : Nat → laws_fillerFile.Tab
  | 0 => (())
  | k + 1 => (())
def laws_fillerFile (m : Nat) (x : Den []) : Option laws_fillerFile.R := laws_fillerFile.start m (laws_fillerFile.tab m m)
def laws_fillerFile.cons (m : Nat) : List (Nat × Contract) := []
def laws_fillerFile.cuts (m : Nat) : List (CutF (Den laws_fillerFile.sig.us)) := []
theorem laws_fillerFile.eq (m : Nat) (x : Den laws_fillerFile.sig.ts) : laws_fillerFile m x = startF ⟨lookΓ Γs, lookC (laws_fillerFile.cons m), false⟩ Tryz.f111 laws_fillerFile.sig (laws_fillerFile.cuts m) m x := by kernel_rfl
theorem laws_fillerFile.ok (m : Nat) : Meets Tryz.prog 111 laws_fillerFile.sig (laws_fillerFile m) :=
  fn_is (cx_is tyOks mixed (l := laws_fillerFile.cons m) trivial) (fn := Tryz.f111) Tryz.func111 (by kernel_rfl) (cl := laws_fillerFile.cuts m) trivial (k := m) (laws_fillerFile.eq m)

/-! ### loop.example/stemma/laws.toFileS: function 110 -/
abbrev laws_toFileS.R : Type := Den [.sp (.pair (.str) (.sp (.str)))]
def laws_toFileS.sig : Sig := ⟨2, ⟨[], [(0, .l (.dat (.sp (.pair (.str) (.sp (.str)))))), (1, .l (.dat (.bool)))]⟩, [.sp (.pair (.str) (.sp (.str))), .bool], ⟨[], [(0, .l (.dat (.sp (.pair (.str) (.sp (.str))))))]⟩, [.sp (.pair (.str) (.sp (.str)))]⟩
abbrev laws_toFileS.Tab : Type := (Den [.list (.pair (.str) (.sp (.str))), .sp (.pair (.str) (.sp (.str))), .bool, .int .i64] → Option laws_toFileS.R) × (Den [.list (.pair (.str) (.sp (.str))), .sp (.pair (.str) (.sp (.str))), .int .i64] → Option laws_toFileS.R) × (Den [.sp (.pair (.str) (.sp (.str))), .bool] → Option laws_toFileS.R) × Unit
def laws_toFileS.start (m : Nat) (t : laws_toFileS.Tab) (x0 : List (ByteArray × (List ByteArray × Nat)) × Nat) (x1 : Bool) : Option laws_toFileS.R :=
  cond x1 (cond ((x0.2 : Int) == (0 : Int)) (some (([], 0), ())) (t.2.2.1 (x0, x1, ()))) (t.2.2.1 (x0, x1, ()))
def laws_toFileS.b0 (m : Nat) (t : laws_toFileS.Tab) (a0 : List (ByteArray × (List ByteArray × Nat))) (a1 : List (ByteArray × (List ByteArray × Nat)) × Nat) (a2 : Bool) (a3 : Int) : Option laws_toFileS.R :=
  cond (decide (a3 < (a1.2 : Int))) (cond (decide ((0 : Int) ≤ a3)) (cond (decide (a3 < (a1.2 : Int))) (lett ((getL a1.1 a3 (ByteArray.empty, ([] : List ByteArray), (0 : Nat))) : ByteArray × (List ByteArray × Nat)) fun v1 => Option.bind (laws_toFile m (v1.1, v1.2, a2, ())) fun r2 => cond (decide ((0 : Int) ≤ a3)) (cond (decide (a3 < lLen a0)) (t.1 ((List.set a0 (Int.toNat a3) (r2.1, r2.2.1)), a1, a2, (w64 (a3 + (1 : Int))), ())) none) none) none) none) (t.2.1 (a0, a1, (a1.2 : Int), ()))
def laws_toFileS.b1 (m : Nat) (t : laws_toFileS.Tab) (a0 : List (ByteArray × (List ByteArray × Nat))) (a1 : List (ByteArray × (List ByteArray × Nat)) × Nat) (a2 : Int) : Option laws_toFileS.R :=
  cond (decide (a2 < (lLen a0))) (Option.bind (laws_fillerFile m (())) fun r1 => cond (decide ((0 : Int) ≤ a2)) (cond (decide (a2 < lLen a0)) (lett ((List.set a0 (Int.toNat a2) (r1.1, r1.2.1, (List.length r1.2.1))) : List (ByteArray × (List ByteArray × Nat))) fun v2 => t.2.1 (v2, a1, (w64 (a2 + (1 : Int))), ())) none) none) (cond (decide ((0 : Int) ≤ (a1.2 : Int))) (cond (decide ((a1.2 : Int) ≤ ((List.length a0) : Int))) (some ((a0, (Int.toNat (a1.2 : Int))), ())) none) none)
def laws_toFileS.b2 (m : Nat) (t : laws_toFileS.Tab) (a0 : List (ByteArray × (List ByteArray × Nat)) × Nat) (a1 : Bool) : Option laws_toFileS.R :=
  Option.bind (laws_roomBehind m ((a0.2 : Int), ())) fun r1 => cond (decide ((0 : Int) ≤ (w64 ((a0.2 : Int) + r1.1)))) (cond (decide (Int.toNat (w64 ((a0.2 : Int) + r1.1)) ≤ apCap)) (lett ((List.replicate (Int.toNat (w64 ((a0.2 : Int) + r1.1))) (ByteArray.empty, ([] : List ByteArray), (0 : Nat))) : List (ByteArray × (List ByteArray × Nat))) fun v2 => t.1 (v2, a0, a1, (0 : Int), ())) none) none
def laws_toFileS.tab (m : Nat) : Nat → laws_toFileS.Tab
  | 0 => (fun _ => none, fun _ => none, fun _ => none, ())
  | k + 1 => (fun x => laws_toFileS.b0 m (laws_toFileS.tab m k) x.1 x.2.1 x.2.2.1 x.2.2.2.1, fun x => laws_toFileS.b1 m (laws_toFileS.tab m k) x.1 x.2.1 x.2.2.1, fun x => laws_toFileS.b2 m (laws_toFileS.tab m k) x.1 x.2.1, ())
def laws_toFileS (m : Nat) (x : Den [.sp (.pair (.str) (.sp (.str))), .bool]) : Option laws_toFileS.R := laws_toFileS.start m (laws_toFileS.tab m m) x.1 x.2.1
def laws_toFileS.cons (m : Nat) : List (Nat × Contract) := [(134, ⟨laws_toFile.sig, laws_toFile m⟩), (111, ⟨laws_fillerFile.sig, laws_fillerFile m⟩), (50, ⟨laws_roomBehind.sig, laws_roomBehind m⟩)]
def laws_toFileS.cuts (m : Nat) : List (CutF (Den laws_toFileS.sig.us)) := [⟨[false, true, false, true, true, true], 122, ⟨[.row false (.pair (.str) (.sp (.str)))], [(0, .l (.dat (.sp (.pair (.str) (.sp (.str)))))), (1, .l (.dat (.bool))), (5, .l (.sl 0)), (6, .l (.dat (.int .i64)))]⟩, [.list (.pair (.str) (.sp (.str))), .sp (.pair (.str) (.sp (.str))), .bool, .int .i64], fun k => (laws_toFileS.tab m k).1⟩,
  ⟨[false, true, false, true, true, true, true], 250, ⟨[.row false (.pair (.str) (.sp (.str)))], [(0, .l (.dat (.sp (.pair (.str) (.sp (.str)))))), (5, .l (.sl 0)), (7, .l (.dat (.int .i64)))]⟩, [.list (.pair (.str) (.sp (.str))), .sp (.pair (.str) (.sp (.str))), .int .i64], fun k => (laws_toFileS.tab m k).2.1⟩,
  ⟨[true, true], 7, ⟨[], [(0, .l (.dat (.sp (.pair (.str) (.sp (.str)))))), (1, .l (.dat (.bool)))]⟩, [.sp (.pair (.str) (.sp (.str))), .bool], fun k => (laws_toFileS.tab m k).2.2.1⟩]
theorem laws_toFileS.eq0 (m k : Nat) (x : Den [.list (.pair (.str) (.sp (.str))), .sp (.pair (.str) (.sp (.str))), .bool, .int .i64]) : (laws_toFileS.tab m (k + 1)).1 x = runF ⟨lookΓ Γs, lookC (laws_toFileS.cons m), false⟩ Tryz.f110 laws_toFileS.sig (laws_toFileS.cuts m) k [false, true, false, true, true, true] ⟨[.row false (.pair (.str) (.sp (.str)))], [(0, .l (.dat (.sp (.pair (.str) (.sp (.str)))))), (1, .l (.dat (.bool))), (5, .l (.sl 0)), (6, .l (.dat (.int .i64)))]⟩ [.list (.pair (.str) (.sp (.str))), .sp (.pair (.str) (.sp (.str))), .bool, .int .i64] x := by kernel_rfl
theorem laws_toFileS.eq1 (m k : Nat) (x : Den [.list (.pair (.str) (.sp (.str))), .sp (.pair (.str) (.sp (.str))), .int .i64]) : (laws_toFileS.tab m (k + 1)).2.1 x = runF ⟨lookΓ Γs, lookC (laws_toFileS.cons m), false⟩ Tryz.f110 laws_toFileS.sig (laws_toFileS.cuts m) k [false, true, false, true, true, true, true] ⟨[.row false (.pair (.str) (.sp (.str)))], [(0, .l (.dat (.sp (.pair (.str) (.sp (.str)))))), (5, .l (.sl 0)), (7, .l (.dat (.int .i64)))]⟩ [.list (.pair (.str) (.sp (.str))), .sp (.pair (.str) (.sp (.str))), .int .i64] x := by kernel_rfl
theorem laws_toFileS.eq2 (m k : Nat) (x : Den [.sp (.pair (.str) (.sp (.str))), .bool]) : (laws_toFileS.tab m (k + 1)).2.2.1 x = runF ⟨lookΓ Γs, lookC (laws_toFileS.cons m), false⟩ Tryz.f110 laws_toFileS.sig (laws_toFileS.cuts m) k [true, true] ⟨[], [(0, .l (.dat (.sp (.pair (.str) (.sp (.str)))))), (1, .l (.dat (.bool)))]⟩ [.sp (.pair (.str) (.sp (.str))), .bool] x := by kernel_rfl
theorem laws_toFileS.eq (m : Nat) (x : Den laws_toFileS.sig.ts) : laws_toFileS m x = startF ⟨lookΓ Γs, lookC (laws_toFileS.cons m), false⟩ Tryz.f110 laws_toFileS.sig (laws_toFileS.cuts m) m x := by kernel_rfl
theorem laws_toFileS.ok (m : Nat) : Meets Tryz.prog 110 laws_toFileS.sig (laws_toFileS m) :=
  fn_is (cx_is tyOks mixed (l := laws_toFileS.cons m) ⟨laws_toFile.ok m, laws_fillerFile.ok m, laws_roomBehind.ok m, trivial⟩) (fn := Tryz.f110) Tryz.func110 (by kernel_rfl) (cl := laws_toFileS.cuts m) ⟨⟨by kernel_rfl, fun _ => rfl, fun k x => laws_toFileS.eq0 m k x⟩, ⟨by kernel_rfl, fun _ => rfl, fun k x => laws_toFileS.eq1 m k x⟩, ⟨by kernel_rfl, fun _ => rfl, fun k x => laws_toFileS.eq2 m k x⟩, trivial⟩ (k := m) (laws_toFileS.eq m)

/-! ### loop.example/stemma/laws.toCommit: function 75 -/
abbrev laws_toCommit.R : Type := Den [.sp (.int .i64), .str, .sp (.pair (.str) (.sp (.str)))]
def laws_toCommit.sig : Sig := ⟨2, ⟨[], [(0, .agg [.dat (.sp (.int .i64)), .dat (.str), .dat (.sp (.pair (.str) (.sp (.str))))]), (1, .l (.dat (.bool)))]⟩, [.sp (.int .i64), .str, .sp (.pair (.str) (.sp (.str))), .bool], ⟨[], [(0, .agg [.dat (.sp (.int .i64)), .dat (.str), .dat (.sp (.pair (.str) (.sp (.str))))])]⟩, [.sp (.int .i64), .str, .sp (.pair (.str) (.sp (.str)))]⟩
abbrev laws_toCommit.Tab : Type := Unit
def laws_toCommit.start (m : Nat) (t : laws_toCommit.Tab) (x0 : List Int × Nat) (x1 : ByteArray) (x2 : List (ByteArray × (List ByteArray × Nat)) × Nat) (x3 : Bool) : Option laws_toCommit.R :=
  Option.bind (laws_toIntS m (x0, x3, ())) fun r1 => Option.bind (laws_toFileS m (x2, x3, ())) fun r2 => some (r1.1, x1, r2.1, ())
def laws_toCommit.tab (m : Nat) : Nat → laws_toCommit.Tab
  | 0 => (())
  | k + 1 => (())
def laws_toCommit (m : Nat) (x : Den [.sp (.int .i64), .str, .sp (.pair (.str) (.sp (.str))), .bool]) : Option laws_toCommit.R := laws_toCommit.start m (laws_toCommit.tab m m) x.1 x.2.1 x.2.2.1 x.2.2.2.1
def laws_toCommit.cons (m : Nat) : List (Nat × Contract) := [(109, ⟨laws_toIntS.sig, laws_toIntS m⟩), (110, ⟨laws_toFileS.sig, laws_toFileS m⟩)]
def laws_toCommit.cuts (m : Nat) : List (CutF (Den laws_toCommit.sig.us)) := []
theorem laws_toCommit.eq (m : Nat) (x : Den laws_toCommit.sig.ts) : laws_toCommit m x = startF ⟨lookΓ Γs, lookC (laws_toCommit.cons m), false⟩ Tryz.f75 laws_toCommit.sig (laws_toCommit.cuts m) m x := by kernel_rfl
theorem laws_toCommit.ok (m : Nat) : Meets Tryz.prog 75 laws_toCommit.sig (laws_toCommit m) :=
  fn_is (cx_is tyOks mixed (l := laws_toCommit.cons m) ⟨laws_toIntS.ok m, laws_toFileS.ok m, trivial⟩) (fn := Tryz.f75) Tryz.func75 (by kernel_rfl) (cl := laws_toCommit.cuts m) trivial (k := m) (laws_toCommit.eq m)

/-! ### loop.example/stemma/laws.fillerCommit: function 76 -/
abbrev laws_fillerCommit.R : Type := Den [.list (.int .i64), .str, .list (.pair (.str) (.sp (.str)))]
def laws_fillerCommit.sig : Sig := ⟨0, ⟨[], []⟩, [], ⟨[], [(0, .agg [.dat (.list (.int .i64)), .dat (.str), .dat (.list (.pair (.str) (.sp (.str))))])]⟩, [.list (.int .i64), .str, .list (.pair (.str) (.sp (.str)))]⟩
abbrev laws_fillerCommit.Tab : Type := Unit
def laws_fillerCommit.start (m : Nat) (t : laws_fillerCommit.Tab) : Option laws_fillerCommit.R :=
  Option.bind (laws_fillerFile m (())) fun r1 => some ([(-7000000000000000101 : Int)], s_7e73706172657e, [(r1.1, r1.2.1, (List.length r1.2.1))], ())
def laws_fillerCommit.tab (m : Nat) : Nat → laws_fillerCommit.Tab
  | 0 => (())
  | k + 1 => (())
def laws_fillerCommit (m : Nat) (x : Den []) : Option laws_fillerCommit.R := laws_fillerCommit.start m (laws_fillerCommit.tab m m)
def laws_fillerCommit.cons (m : Nat) : List (Nat × Contract) := [(111, ⟨laws_fillerFile.sig, laws_fillerFile m⟩)]
def laws_fillerCommit.cuts (m : Nat) : List (CutF (Den laws_fillerCommit.sig.us)) := []
theorem laws_fillerCommit.eq (m : Nat) (x : Den laws_fillerCommit.sig.ts) : laws_fillerCommit m x = startF ⟨lookΓ Γs, lookC (laws_fillerCommit.cons m), false⟩ Tryz.f76 laws_fillerCommit.sig (laws_fillerCommit.cuts m) m x := by kernel_rfl
theorem laws_fillerCommit.ok (m : Nat) : Meets Tryz.prog 76 laws_fillerCommit.sig (laws_fillerCommit m) :=
  fn_is (cx_is tyOks mixed (l := laws_fillerCommit.cons m) ⟨laws_fillerFile.ok m, trivial⟩) (fn := Tryz.f76) Tryz.func76 (by kernel_rfl) (cl := laws_fillerCommit.cuts m) trivial (k := m) (laws_fillerCommit.eq m)

/-! ### loop.example/stemma/laws.toCommitS: function 38 -/
abbrev laws_toCommitS.R : Type := Den [.sp (.pair (.sp (.int .i64)) (.pair (.str) (.sp (.pair (.str) (.sp (.str))))))]
def laws_toCommitS.sig : Sig := ⟨2, ⟨[], [(0, .l (.dat (.sp (.pair (.sp (.int .i64)) (.pair (.str) (.sp (.pair (.str) (.sp (.str))))))))), (1, .l (.dat (.bool)))]⟩, [.sp (.pair (.sp (.int .i64)) (.pair (.str) (.sp (.pair (.str) (.sp (.str)))))), .bool], ⟨[], [(0, .l (.dat (.sp (.pair (.sp (.int .i64)) (.pair (.str) (.sp (.pair (.str) (.sp (.str)))))))))]⟩, [.sp (.pair (.sp (.int .i64)) (.pair (.str) (.sp (.pair (.str) (.sp (.str))))))]⟩
abbrev laws_toCommitS.Tab : Type := (Den [.list (.pair (.sp (.int .i64)) (.pair (.str) (.sp (.pair (.str) (.sp (.str)))))), .sp (.pair (.sp (.int .i64)) (.pair (.str) (.sp (.pair (.str) (.sp (.str)))))), .bool, .int .i64] → Option laws_toCommitS.R) × (Den [.list (.pair (.sp (.int .i64)) (.pair (.str) (.sp (.pair (.str) (.sp (.str)))))), .sp (.pair (.sp (.int .i64)) (.pair (.str) (.sp (.pair (.str) (.sp (.str)))))), .int .i64] → Option laws_toCommitS.R) × (Den [.sp (.pair (.sp (.int .i64)) (.pair (.str) (.sp (.pair (.str) (.sp (.str)))))), .bool] → Option laws_toCommitS.R) × Unit
def laws_toCommitS.start (m : Nat) (t : laws_toCommitS.Tab) (x0 : List ((List Int × Nat) × ByteArray × (List (ByteArray × (List ByteArray × Nat)) × Nat)) × Nat) (x1 : Bool) : Option laws_toCommitS.R :=
  cond x1 (cond ((x0.2 : Int) == (0 : Int)) (some (([], 0), ())) (t.2.2.1 (x0, x1, ()))) (t.2.2.1 (x0, x1, ()))
def laws_toCommitS.b0 (m : Nat) (t : laws_toCommitS.Tab) (a0 : List ((List Int × Nat) × ByteArray × (List (ByteArray × (List ByteArray × Nat)) × Nat))) (a1 : List ((List Int × Nat) × ByteArray × (List (ByteArray × (List ByteArray × Nat)) × Nat)) × Nat) (a2 : Bool) (a3 : Int) : Option laws_toCommitS.R :=
  cond (decide (a3 < (a1.2 : Int))) (cond (decide ((0 : Int) ≤ a3)) (cond (decide (a3 < (a1.2 : Int))) (lett ((getL a1.1 a3 ((([] : List Int), (0 : Nat)), ByteArray.empty, ([] : List (ByteArray × (List ByteArray × Nat))), (0 : Nat))) : (List Int × Nat) × ByteArray × (List (ByteArray × (List ByteArray × Nat)) × Nat)) fun v1 => Option.bind (laws_toCommit m (v1.1, v1.2.1, v1.2.2, a2, ())) fun r2 => cond (decide ((0 : Int) ≤ a3)) (cond (decide (a3 < lLen a0)) (t.1 ((List.set a0 (Int.toNat a3) (r2.1, r2.2.1, r2.2.2.1)), a1, a2, (w64 (a3 + (1 : Int))), ())) none) none) none) none) (t.2.1 (a0, a1, (a1.2 : Int), ()))
def laws_toCommitS.b1 (m : Nat) (t : laws_toCommitS.Tab) (a0 : List ((List Int × Nat) × ByteArray × (List (ByteArray × (List ByteArray × Nat)) × Nat))) (a1 : List ((List Int × Nat) × ByteArray × (List (ByteArray × (List ByteArray × Nat)) × Nat)) × Nat) (a2 : Int) : Option laws_toCommitS.R :=
  cond (decide (a2 < (lLen a0))) (Option.bind (laws_fillerCommit m (())) fun r1 => cond (decide ((0 : Int) ≤ a2)) (cond (decide (a2 < lLen a0)) (lett ((List.set a0 (Int.toNat a2) ((r1.1, (List.length r1.1)), r1.2.1, r1.2.2.1, (List.length r1.2.2.1))) : List ((List Int × Nat) × ByteArray × (List (ByteArray × (List ByteArray × Nat)) × Nat))) fun v2 => t.2.1 (v2, a1, (w64 (a2 + (1 : Int))), ())) none) none) (cond (decide ((0 : Int) ≤ (a1.2 : Int))) (cond (decide ((a1.2 : Int) ≤ ((List.length a0) : Int))) (some ((a0, (Int.toNat (a1.2 : Int))), ())) none) none)
def laws_toCommitS.b2 (m : Nat) (t : laws_toCommitS.Tab) (a0 : List ((List Int × Nat) × ByteArray × (List (ByteArray × (List ByteArray × Nat)) × Nat)) × Nat) (a1 : Bool) : Option laws_toCommitS.R :=
  Option.bind (laws_roomBehind m ((a0.2 : Int), ())) fun r1 => cond (decide ((0 : Int) ≤ (w64 ((a0.2 : Int) + r1.1)))) (cond (decide (Int.toNat (w64 ((a0.2 : Int) + r1.1)) ≤ apCap)) (lett ((List.replicate (Int.toNat (w64 ((a0.2 : Int) + r1.1))) ((([] : List Int), (0 : Nat)), ByteArray.empty, ([] : List (ByteArray × (List ByteArray × Nat))), (0 : Nat))) : List ((List Int × Nat) × ByteArray × (List (ByteArray × (List ByteArray × Nat)) × Nat))) fun v2 => t.1 (v2, a0, a1, (0 : Int), ())) none) none
def laws_toCommitS.tab (m : Nat) : Nat → laws_toCommitS.Tab
  | 0 => (fun _ => none, fun _ => none, fun _ => none, ())
  | k + 1 => (fun x => laws_toCommitS.b0 m (laws_toCommitS.tab m k) x.1 x.2.1 x.2.2.1 x.2.2.2.1, fun x => laws_toCommitS.b1 m (laws_toCommitS.tab m k) x.1 x.2.1 x.2.2.1, fun x => laws_toCommitS.b2 m (laws_toCommitS.tab m k) x.1 x.2.1, ())
def laws_toCommitS (m : Nat) (x : Den [.sp (.pair (.sp (.int .i64)) (.pair (.str) (.sp (.pair (.str) (.sp (.str)))))), .bool]) : Option laws_toCommitS.R := laws_toCommitS.start m (laws_toCommitS.tab m m) x.1 x.2.1
def laws_toCommitS.cons (m : Nat) : List (Nat × Contract) := [(75, ⟨laws_toCommit.sig, laws_toCommit m⟩), (76, ⟨laws_fillerCommit.sig, laws_fillerCommit m⟩), (50, ⟨laws_roomBehind.sig, laws_roomBehind m⟩)]
def laws_toCommitS.cuts (m : Nat) : List (CutF (Den laws_toCommitS.sig.us)) := [⟨[false, true, false, true, true, true], 122, ⟨[.row false (.pair (.sp (.int .i64)) (.pair (.str) (.sp (.pair (.str) (.sp (.str))))))], [(0, .l (.dat (.sp (.pair (.sp (.int .i64)) (.pair (.str) (.sp (.pair (.str) (.sp (.str))))))))), (1, .l (.dat (.bool))), (5, .l (.sl 0)), (6, .l (.dat (.int .i64)))]⟩, [.list (.pair (.sp (.int .i64)) (.pair (.str) (.sp (.pair (.str) (.sp (.str)))))), .sp (.pair (.sp (.int .i64)) (.pair (.str) (.sp (.pair (.str) (.sp (.str)))))), .bool, .int .i64], fun k => (laws_toCommitS.tab m k).1⟩,
  ⟨[false, true, false, true, true, true, true], 250, ⟨[.row false (.pair (.sp (.int .i64)) (.pair (.str) (.sp (.pair (.str) (.sp (.str))))))], [(0, .l (.dat (.sp (.pair (.sp (.int .i64)) (.pair (.str) (.sp (.pair (.str) (.sp (.str))))))))), (5, .l (.sl 0)), (7, .l (.dat (.int .i64)))]⟩, [.list (.pair (.sp (.int .i64)) (.pair (.str) (.sp (.pair (.str) (.sp (.str)))))), .sp (.pair (.sp (.int .i64)) (.pair (.str) (.sp (.pair (.str) (.sp (.str)))))), .int .i64], fun k => (laws_toCommitS.tab m k).2.1⟩,
  ⟨[true, true], 7, ⟨[], [(0, .l (.dat (.sp (.pair (.sp (.int .i64)) (.pair (.str) (.sp (.pair (.str) (.sp (.str))))))))), (1, .l (.dat (.bool)))]⟩, [.sp (.pair (.sp (.int .i64)) (.pair (.str) (.sp (.pair (.str) (.sp (.str)))))), .bool], fun k => (laws_toCommitS.tab m k).2.2.1⟩]
theorem laws_toCommitS.eq0 (m k : Nat) (x : Den [.list (.pair (.sp (.int .i64)) (.pair (.str) (.sp (.pair (.str) (.sp (.str)))))), .sp (.pair (.sp (.int .i64)) (.pair (.str) (.sp (.pair (.str) (.sp (.str)))))), .bool, .int .i64]) : (laws_toCommitS.tab m (k + 1)).1 x = runF ⟨lookΓ Γs, lookC (laws_toCommitS.cons m), false⟩ Tryz.f38 laws_toCommitS.sig (laws_toCommitS.cuts m) k [false, true, false, true, true, true] ⟨[.row false (.pair (.sp (.int .i64)) (.pair (.str) (.sp (.pair (.str) (.sp (.str))))))], [(0, .l (.dat (.sp (.pair (.sp (.int .i64)) (.pair (.str) (.sp (.pair (.str) (.sp (.str))))))))), (1, .l (.dat (.bool))), (5, .l (.sl 0)), (6, .l (.dat (.int .i64)))]⟩ [.list (.pair (.sp (.int .i64)) (.pair (.str) (.sp (.pair (.str) (.sp (.str)))))), .sp (.pair (.sp (.int .i64)) (.pair (.str) (.sp (.pair (.str) (.sp (.str)))))), .bool, .int .i64] x := by kernel_rfl
theorem laws_toCommitS.eq1 (m k : Nat) (x : Den [.list (.pair (.sp (.int .i64)) (.pair (.str) (.sp (.pair (.str) (.sp (.str)))))), .sp (.pair (.sp (.int .i64)) (.pair (.str) (.sp (.pair (.str) (.sp (.str)))))), .int .i64]) : (laws_toCommitS.tab m (k + 1)).2.1 x = runF ⟨lookΓ Γs, lookC (laws_toCommitS.cons m), false⟩ Tryz.f38 laws_toCommitS.sig (laws_toCommitS.cuts m) k [false, true, false, true, true, true, true] ⟨[.row false (.pair (.sp (.int .i64)) (.pair (.str) (.sp (.pair (.str) (.sp (.str))))))], [(0, .l (.dat (.sp (.pair (.sp (.int .i64)) (.pair (.str) (.sp (.pair (.str) (.sp (.str))))))))), (5, .l (.sl 0)), (7, .l (.dat (.int .i64)))]⟩ [.list (.pair (.sp (.int .i64)) (.pair (.str) (.sp (.pair (.str) (.sp (.str)))))), .sp (.pair (.sp (.int .i64)) (.pair (.str) (.sp (.pair (.str) (.sp (.str)))))), .int .i64] x := by kernel_rfl
theorem laws_toCommitS.eq2 (m k : Nat) (x : Den [.sp (.pair (.sp (.int .i64)) (.pair (.str) (.sp (.pair (.str) (.sp (.str)))))), .bool]) : (laws_toCommitS.tab m (k + 1)).2.2.1 x = runF ⟨lookΓ Γs, lookC (laws_toCommitS.cons m), false⟩ Tryz.f38 laws_toCommitS.sig (laws_toCommitS.cuts m) k [true, true] ⟨[], [(0, .l (.dat (.sp (.pair (.sp (.int .i64)) (.pair (.str) (.sp (.pair (.str) (.sp (.str))))))))), (1, .l (.dat (.bool)))]⟩ [.sp (.pair (.sp (.int .i64)) (.pair (.str) (.sp (.pair (.str) (.sp (.str)))))), .bool] x := by kernel_rfl
theorem laws_toCommitS.eq (m : Nat) (x : Den laws_toCommitS.sig.ts) : laws_toCommitS m x = startF ⟨lookΓ Γs, lookC (laws_toCommitS.cons m), false⟩ Tryz.f38 laws_toCommitS.sig (laws_toCommitS.cuts m) m x := by kernel_rfl
theorem laws_toCommitS.ok (m : Nat) : Meets Tryz.prog 38 laws_toCommitS.sig (laws_toCommitS m) :=
  fn_is (cx_is tyOks mixed (l := laws_toCommitS.cons m) ⟨laws_toCommit.ok m, laws_fillerCommit.ok m, laws_roomBehind.ok m, trivial⟩) (fn := Tryz.f38) Tryz.func38 (by kernel_rfl) (cl := laws_toCommitS.cuts m) ⟨⟨by kernel_rfl, fun _ => rfl, fun k x => laws_toCommitS.eq0 m k x⟩, ⟨by kernel_rfl, fun _ => rfl, fun k x => laws_toCommitS.eq1 m k x⟩, ⟨by kernel_rfl, fun _ => rfl, fun k x => laws_toCommitS.eq2 m k x⟩, trivial⟩ (k := m) (laws_toCommitS.eq m)

/-! ### loop.example/stemma/laws.toHead: function 51 -/
abbrev laws_toHead.R : Type := Den [.str, .int .i64]
def laws_toHead.sig : Sig := ⟨1, ⟨[], [(0, .agg [.dat (.str), .dat (.int .i64)])]⟩, [.str, .int .i64], ⟨[], [(0, .agg [.dat (.str), .dat (.int .i64)])]⟩, [.str, .int .i64]⟩
abbrev laws_toHead.Tab : Type := Unit
def laws_toHead.start (m : Nat) (t : laws_toHead.Tab) (x0 : ByteArray) (x1 : Int) : Option laws_toHead.R :=
  some (x0, x1, ())
def laws_toHead.tab (m : Nat) : Nat → laws_toHead.Tab
  | 0 => (())
  | k + 1 => (())
def laws_toHead (m : Nat) (x : Den [.str, .int .i64]) : Option laws_toHead.R := laws_toHead.start m (laws_toHead.tab m m) x.1 x.2.1
def laws_toHead.cons (m : Nat) : List (Nat × Contract) := []
def laws_toHead.cuts (m : Nat) : List (CutF (Den laws_toHead.sig.us)) := []
theorem laws_toHead.eq (m : Nat) (x : Den laws_toHead.sig.ts) : laws_toHead m x = startF ⟨lookΓ Γs, lookC (laws_toHead.cons m), false⟩ Tryz.f51 laws_toHead.sig (laws_toHead.cuts m) m x := by kernel_rfl
theorem laws_toHead.ok (m : Nat) : Meets Tryz.prog 51 laws_toHead.sig (laws_toHead m) :=
  fn_is (cx_is tyOks mixed (l := laws_toHead.cons m) trivial) (fn := Tryz.f51) Tryz.func51 (by kernel_rfl) (cl := laws_toHead.cuts m) trivial (k := m) (laws_toHead.eq m)

/-! ### loop.example/stemma/laws.fillerHead: function 52 -/
abbrev laws_fillerHead.R : Type := Den [.str, .int .i64]
def laws_fillerHead.sig : Sig := ⟨0, ⟨[], []⟩, [], ⟨[], [(0, .agg [.dat (.str), .dat (.int .i64)])]⟩, [.str, .int .i64]⟩
abbrev laws_fillerHead.Tab : Type := Unit
def laws_fillerHead.start (m : Nat) (t : laws_fillerHead.Tab) : Option laws_fillerHead.R :=
  some (s_7e73706172657e, (-7000000000000000101 : Int), ())
def laws_fillerHead.tab (m : Nat) : Nat → laws_fillerHead.Tab
  | 0 => (())
  | k + 1 => (())
def laws_fillerHead (m : Nat) (x : Den []) : Option laws_fillerHead.R := laws_fillerHead.start m (laws_fillerHead.tab m m)
def laws_fillerHead.cons (m : Nat) : List (Nat × Contract) := []
def laws_fillerHead.cuts (m : Nat) : List (CutF (Den laws_fillerHead.sig.us)) := []
theorem laws_fillerHead.eq (m : Nat) (x : Den laws_fillerHead.sig.ts) : laws_fillerHead m x = startF ⟨lookΓ Γs, lookC (laws_fillerHead.cons m), false⟩ Tryz.f52 laws_fillerHead.sig (laws_fillerHead.cuts m) m x := by kernel_rfl
theorem laws_fillerHead.ok (m : Nat) : Meets Tryz.prog 52 laws_fillerHead.sig (laws_fillerHead m) :=
  fn_is (cx_is tyOks mixed (l := laws_fillerHead.cons m) trivial) (fn := Tryz.f52) Tryz.func52 (by kernel_rfl) (cl := laws_fillerHead.cuts m) trivial (k := m) (laws_fillerHead.eq m)

/-! ### loop.example/stemma/laws.toHeadS: function 21 -/
abbrev laws_toHeadS.R : Type := Den [.sp (.pair (.str) (.int .i64))]
def laws_toHeadS.sig : Sig := ⟨2, ⟨[], [(0, .l (.dat (.sp (.pair (.str) (.int .i64))))), (1, .l (.dat (.bool)))]⟩, [.sp (.pair (.str) (.int .i64)), .bool], ⟨[], [(0, .l (.dat (.sp (.pair (.str) (.int .i64)))))]⟩, [.sp (.pair (.str) (.int .i64))]⟩
abbrev laws_toHeadS.Tab : Type := (Den [.list (.pair (.str) (.int .i64)), .sp (.pair (.str) (.int .i64)), .int .i64] → Option laws_toHeadS.R) × (Den [.list (.pair (.str) (.int .i64)), .sp (.pair (.str) (.int .i64)), .int .i64] → Option laws_toHeadS.R) × (Den [.sp (.pair (.str) (.int .i64))] → Option laws_toHeadS.R) × Unit
def laws_toHeadS.start (m : Nat) (t : laws_toHeadS.Tab) (x0 : List (ByteArray × Int) × Nat) (x1 : Bool) : Option laws_toHeadS.R :=
  cond x1 (cond ((x0.2 : Int) == (0 : Int)) (some (([], 0), ())) (t.2.2.1 (x0, ()))) (t.2.2.1 (x0, ()))
def laws_toHeadS.b0 (m : Nat) (t : laws_toHeadS.Tab) (a0 : List (ByteArray × Int)) (a1 : List (ByteArray × Int) × Nat) (a2 : Int) : Option laws_toHeadS.R :=
  cond (decide (a2 < (a1.2 : Int))) (cond (decide ((0 : Int) ≤ a2)) (cond (decide (a2 < (a1.2 : Int))) (lett ((getL a1.1 a2 (ByteArray.empty, (0 : Int))) : ByteArray × Int) fun v1 => Option.bind (laws_toHead m (v1.1, v1.2, ())) fun r2 => cond (decide ((0 : Int) ≤ a2)) (cond (decide (a2 < lLen a0)) (t.1 ((List.set a0 (Int.toNat a2) (r2.1, r2.2.1)), a1, (w64 (a2 + (1 : Int))), ())) none) none) none) none) (t.2.1 (a0, a1, (a1.2 : Int), ()))
def laws_toHeadS.b1 (m : Nat) (t : laws_toHeadS.Tab) (a0 : List (ByteArray × Int)) (a1 : List (ByteArray × Int) × Nat) (a2 : Int) : Option laws_toHeadS.R :=
  cond (decide (a2 < (lLen a0))) (Option.bind (laws_fillerHead m (())) fun r1 => cond (decide ((0 : Int) ≤ a2)) (cond (decide (a2 < lLen a0)) (t.2.1 ((List.set a0 (Int.toNat a2) (r1.1, r1.2.1)), a1, (w64 (a2 + (1 : Int))), ())) none) none) (cond (decide ((0 : Int) ≤ (a1.2 : Int))) (cond (decide ((a1.2 : Int) ≤ ((List.length a0) : Int))) (some ((a0, (Int.toNat (a1.2 : Int))), ())) none) none)
def laws_toHeadS.b2 (m : Nat) (t : laws_toHeadS.Tab) (a0 : List (ByteArray × Int) × Nat) : Option laws_toHeadS.R :=
  Option.bind (laws_roomBehind m ((a0.2 : Int), ())) fun r1 => cond (decide ((0 : Int) ≤ (w64 ((a0.2 : Int) + r1.1)))) (cond (decide (Int.toNat (w64 ((a0.2 : Int) + r1.1)) ≤ apCap)) (lett ((List.replicate (Int.toNat (w64 ((a0.2 : Int) + r1.1))) (ByteArray.empty, (0 : Int))) : List (ByteArray × Int)) fun v2 => t.1 (v2, a0, (0 : Int), ())) none) none
def laws_toHeadS.tab (m : Nat) : Nat → laws_toHeadS.Tab
  | 0 => (fun _ => none, fun _ => none, fun _ => none, ())
  | k + 1 => (fun x => laws_toHeadS.b0 m (laws_toHeadS.tab m k) x.1 x.2.1 x.2.2.1, fun x => laws_toHeadS.b1 m (laws_toHeadS.tab m k) x.1 x.2.1 x.2.2.1, fun x => laws_toHeadS.b2 m (laws_toHeadS.tab m k) x.1, ())
def laws_toHeadS (m : Nat) (x : Den [.sp (.pair (.str) (.int .i64)), .bool]) : Option laws_toHeadS.R := laws_toHeadS.start m (laws_toHeadS.tab m m) x.1 x.2.1
def laws_toHeadS.cons (m : Nat) : List (Nat × Contract) := [(51, ⟨laws_toHead.sig, laws_toHead m⟩), (52, ⟨laws_fillerHead.sig, laws_fillerHead m⟩), (50, ⟨laws_roomBehind.sig, laws_roomBehind m⟩)]
def laws_toHeadS.cuts (m : Nat) : List (CutF (Den laws_toHeadS.sig.us)) := [⟨[false, true, false, true, true, true], 122, ⟨[.row true (.pair (.str) (.int .i64))], [(0, .l (.dat (.sp (.pair (.str) (.int .i64))))), (5, .l (.sl 0)), (6, .l (.dat (.int .i64)))]⟩, [.list (.pair (.str) (.int .i64)), .sp (.pair (.str) (.int .i64)), .int .i64], fun k => (laws_toHeadS.tab m k).1⟩,
  ⟨[false, true, false, true, true, true, true], 250, ⟨[.row true (.pair (.str) (.int .i64))], [(0, .l (.dat (.sp (.pair (.str) (.int .i64))))), (5, .l (.sl 0)), (7, .l (.dat (.int .i64)))]⟩, [.list (.pair (.str) (.int .i64)), .sp (.pair (.str) (.int .i64)), .int .i64], fun k => (laws_toHeadS.tab m k).2.1⟩,
  ⟨[true, true], 7, ⟨[], [(0, .l (.dat (.sp (.pair (.str) (.int .i64)))))]⟩, [.sp (.pair (.str) (.int .i64))], fun k => (laws_toHeadS.tab m k).2.2.1⟩]
theorem laws_toHeadS.eq0 (m k : Nat) (x : Den [.list (.pair (.str) (.int .i64)), .sp (.pair (.str) (.int .i64)), .int .i64]) : (laws_toHeadS.tab m (k + 1)).1 x = runF ⟨lookΓ Γs, lookC (laws_toHeadS.cons m), false⟩ Tryz.f21 laws_toHeadS.sig (laws_toHeadS.cuts m) k [false, true, false, true, true, true] ⟨[.row true (.pair (.str) (.int .i64))], [(0, .l (.dat (.sp (.pair (.str) (.int .i64))))), (5, .l (.sl 0)), (6, .l (.dat (.int .i64)))]⟩ [.list (.pair (.str) (.int .i64)), .sp (.pair (.str) (.int .i64)), .int .i64] x := by kernel_rfl
theorem laws_toHeadS.eq1 (m k : Nat) (x : Den [.list (.pair (.str) (.int .i64)), .sp (.pair (.str) (.int .i64)), .int .i64]) : (laws_toHeadS.tab m (k + 1)).2.1 x = runF ⟨lookΓ Γs, lookC (laws_toHeadS.cons m), false⟩ Tryz.f21 laws_toHeadS.sig (laws_toHeadS.cuts m) k [false, true, false, true, true, true, true] ⟨[.row true (.pair (.str) (.int .i64))], [(0, .l (.dat (.sp (.pair (.str) (.int .i64))))), (5, .l (.sl 0)), (7, .l (.dat (.int .i64)))]⟩ [.list (.pair (.str) (.int .i64)), .sp (.pair (.str) (.int .i64)), .int .i64] x := by kernel_rfl
theorem laws_toHeadS.eq2 (m k : Nat) (x : Den [.sp (.pair (.str) (.int .i64))]) : (laws_toHeadS.tab m (k + 1)).2.2.1 x = runF ⟨lookΓ Γs, lookC (laws_toHeadS.cons m), false⟩ Tryz.f21 laws_toHeadS.sig (laws_toHeadS.cuts m) k [true, true] ⟨[], [(0, .l (.dat (.sp (.pair (.str) (.int .i64)))))]⟩ [.sp (.pair (.str) (.int .i64))] x := by kernel_rfl
theorem laws_toHeadS.eq (m : Nat) (x : Den laws_toHeadS.sig.ts) : laws_toHeadS m x = startF ⟨lookΓ Γs, lookC (laws_toHeadS.cons m), false⟩ Tryz.f21 laws_toHeadS.sig (laws_toHeadS.cuts m) m x := by kernel_rfl
theorem laws_toHeadS.ok (m : Nat) : Meets Tryz.prog 21 laws_toHeadS.sig (laws_toHeadS m) :=
  fn_is (cx_is tyOks mixed (l := laws_toHeadS.cons m) ⟨laws_toHead.ok m, laws_fillerHead.ok m, laws_roomBehind.ok m, trivial⟩) (fn := Tryz.f21) Tryz.func21 (by kernel_rfl) (cl := laws_toHeadS.cuts m) ⟨⟨by kernel_rfl, fun _ => rfl, fun k x => laws_toHeadS.eq0 m k x⟩, ⟨by kernel_rfl, fun _ => rfl, fun k x => laws_toHeadS.eq1 m k x⟩, ⟨by kernel_rfl, fun _ => rfl, fun k x => laws_toHeadS.eq2 m k x⟩, trivial⟩ (k := m) (laws_toHeadS.eq m)

/-! ### loop.example/stemma/laws.toRepo: function 10 -/
abbrev laws_toRepo.R : Type := Den [.sp (.pair (.sp (.int .i64)) (.pair (.str) (.sp (.pair (.str) (.sp (.str)))))), .sp (.pair (.str) (.int .i64))]
def laws_toRepo.sig : Sig := ⟨2, ⟨[], [(0, .agg [.dat (.sp (.pair (.sp (.int .i64)) (.pair (.str) (.sp (.pair (.str) (.sp (.str))))))), .dat (.sp (.pair (.str) (.int .i64)))]), (1, .l (.dat (.bool)))]⟩, [.sp (.pair (.sp (.int .i64)) (.pair (.str) (.sp (.pair (.str) (.sp (.str)))))), .sp (.pair (.str) (.int .i64)), .bool], ⟨[], [(0, .agg [.dat (.sp (.pair (.sp (.int .i64)) (.pair (.str) (.sp (.pair (.str) (.sp (.str))))))), .dat (.sp (.pair (.str) (.int .i64)))])]⟩, [.sp (.pair (.sp (.int .i64)) (.pair (.str) (.sp (.pair (.str) (.sp (.str)))))), .sp (.pair (.str) (.int .i64))]⟩
abbrev laws_toRepo.Tab : Type := Unit
def laws_toRepo.start (m : Nat) (t : laws_toRepo.Tab) (x0 : List ((List Int × Nat) × ByteArray × (List (ByteArray × (List ByteArray × Nat)) × Nat)) × Nat) (x1 : List (ByteArray × Int) × Nat) (x2 : Bool) : Option laws_toRepo.R :=
  Option.bind (laws_toCommitS m (x0, x2, ())) fun r1 => Option.bind (laws_toHeadS m (x1, x2, ())) fun r2 => some (r1.1, r2.1, ())
def laws_toRepo.tab (m : Nat) : Nat → laws_toRepo.Tab
  | 0 => (())
  | k + 1 => (())
def laws_toRepo (m : Nat) (x : Den [.sp (.pair (.sp (.int .i64)) (.pair (.str) (.sp (.pair (.str) (.sp (.str)))))), .sp (.pair (.str) (.int .i64)), .bool]) : Option laws_toRepo.R := laws_toRepo.start m (laws_toRepo.tab m m) x.1 x.2.1 x.2.2.1
def laws_toRepo.cons (m : Nat) : List (Nat × Contract) := [(38, ⟨laws_toCommitS.sig, laws_toCommitS m⟩), (21, ⟨laws_toHeadS.sig, laws_toHeadS m⟩)]
def laws_toRepo.cuts (m : Nat) : List (CutF (Den laws_toRepo.sig.us)) := []
theorem laws_toRepo.eq (m : Nat) (x : Den laws_toRepo.sig.ts) : laws_toRepo m x = startF ⟨lookΓ Γs, lookC (laws_toRepo.cons m), false⟩ Tryz.f10 laws_toRepo.sig (laws_toRepo.cuts m) m x := by kernel_rfl
theorem laws_toRepo.ok (m : Nat) : Meets Tryz.prog 10 laws_toRepo.sig (laws_toRepo m) :=
  fn_is (cx_is tyOks mixed (l := laws_toRepo.cons m) ⟨laws_toCommitS.ok m, laws_toHeadS.ok m, trivial⟩) (fn := Tryz.f10) Tryz.func10 (by kernel_rfl) (cl := laws_toRepo.cuts m) trivial (k := m) (laws_toRepo.eq m)

/-! ### loop.example/stemma/spec.l1In: function 59 -/
abbrev spec_l1In.R : Type := Den [.bool]
def spec_l1In.sig : Sig := ⟨3, ⟨[], [(0, .l (.dat (.int .i64))), (1, .l (.dat (.int .i64))), (2, .l (.dat (.int .i64)))]⟩, [.int .i64, .int .i64, .int .i64], ⟨[], [(0, .l (.dat (.bool)))]⟩, [.bool]⟩
abbrev spec_l1In.Tab : Type := Unit
def spec_l1In.start (m : Nat) (t : spec_l1In.Tab) (x0 : Int) (x1 : Int) (x2 : Int) : Option spec_l1In.R :=
  cond (decide (x0 ≥ x1)) (some ((decide (x0 ≤ x2)), ())) (some (false, ()))
def spec_l1In.tab (m : Nat) : Nat → spec_l1In.Tab
  | 0 => (())
  | k + 1 => (())
def spec_l1In (m : Nat) (x : Den [.int .i64, .int .i64, .int .i64]) : Option spec_l1In.R := spec_l1In.start m (spec_l1In.tab m m) x.1 x.2.1 x.2.2.1
def spec_l1In.cons (m : Nat) : List (Nat × Contract) := []
def spec_l1In.cuts (m : Nat) : List (CutF (Den spec_l1In.sig.us)) := []
theorem spec_l1In.eq (m : Nat) (x : Den spec_l1In.sig.ts) : spec_l1In m x = startF ⟨lookΓ Γl, lookC (spec_l1In.cons m), false⟩ Tryz.f59 spec_l1In.sig (spec_l1In.cuts m) m x := by kernel_rfl
theorem spec_l1In.ok (m : Nat) : Meets Tryz.prog 59 spec_l1In.sig (spec_l1In m) :=
  fn_is (cx_is tyOk mixed (l := spec_l1In.cons m) trivial) (fn := Tryz.f59) Tryz.func59 (by kernel_rfl) (cl := spec_l1In.cuts m) trivial (k := m) (spec_l1In.eq m)

/-! ### loop.example/stemma/spec.l4Name: function 36 -/
abbrev spec_l4Name.R : Type := Den [.bool]
def spec_l4Name.sig : Sig := ⟨1, ⟨[], [(0, .l (.dat (.str)))]⟩, [.str], ⟨[], [(0, .l (.dat (.bool)))]⟩, [.bool]⟩
abbrev spec_l4Name.Tab : Type := (Den [.str, .int .i64] → Option spec_l4Name.R) × (Den [.str, .int .i64, .bool] → Option spec_l4Name.R) × Unit
def spec_l4Name.start (m : Nat) (t : spec_l4Name.Tab) (x0 : ByteArray) : Option spec_l4Name.R :=
  t.1 (x0, (0 : Int), ())
def spec_l4Name.b0 (m : Nat) (t : spec_l4Name.Tab) (a0 : ByteArray) (a1 : Int) : Option spec_l4Name.R :=
  cond (decide (a1 < (sLen a0))) (cond (decide ((0 : Int) ≤ a1)) (cond (decide (a1 < sLen a0)) (cond (decide ((byteAt a0 a1) < (97 : Int))) (cond (decide ((0 : Int) ≤ a1)) (cond (decide (a1 < sLen a0)) (cond (decide ((byteAt a0 a1) < (48 : Int))) (t.2.1 (a0, a1, true, ())) (cond (decide ((0 : Int) ≤ a1)) (cond (decide (a1 < sLen a0)) (t.2.1 (a0, a1, (decide ((byteAt a0 a1) > (57 : Int))), ())) none) none)) none) none) (cond (decide ((0 : Int) ≤ a1)) (cond (decide (a1 < sLen a0)) (cond (decide ((byteAt a0 a1) > (122 : Int))) (cond (decide ((0 : Int) ≤ a1)) (cond (decide (a1 < sLen a0)) (cond (decide ((byteAt a0 a1) < (48 : Int))) (t.2.1 (a0, a1, true, ())) (cond (decide ((0 : Int) ≤ a1)) (cond (decide (a1 < sLen a0)) (t.2.1 (a0, a1, (decide ((byteAt a0 a1) > (57 : Int))), ())) none) none)) none) none) (t.2.1 (a0, a1, false, ()))) none) none)) none) none) (Option.bind (spec_l1In m ((sLen a0), (1 : Int), (6 : Int), ())) fun r1 => some (r1.1, ()))
def spec_l4Name.b1 (m : Nat) (t : spec_l4Name.Tab) (a0 : ByteArray) (a1 : Int) (a2 : Bool) : Option spec_l4Name.R :=
  cond a2 (some (false, ())) (t.1 (a0, (w64 (a1 + (1 : Int))), ()))
def spec_l4Name.tab (m : Nat) : Nat → spec_l4Name.Tab
  | 0 => (fun _ => none, fun _ => none, ())
  | k + 1 => (fun x => spec_l4Name.b0 m (spec_l4Name.tab m k) x.1 x.2.1, fun x => spec_l4Name.b1 m (spec_l4Name.tab m k) x.1 x.2.1 x.2.2.1, ())
def spec_l4Name (m : Nat) (x : Den [.str]) : Option spec_l4Name.R := spec_l4Name.start m (spec_l4Name.tab m m) x.1
def spec_l4Name.cons (m : Nat) : List (Nat × Contract) := [(59, ⟨spec_l1In.sig, spec_l1In m⟩)]
def spec_l4Name.cuts (m : Nat) : List (CutF (Den spec_l4Name.sig.us)) := [⟨[false, true, false, true], 26, ⟨[], [(0, .l (.dat (.str))), (3, .l (.dat (.int .i64)))]⟩, [.str, .int .i64], fun k => (spec_l4Name.tab m k).1⟩,
  ⟨[true, false, false, true, false, false, true, false, true], 841, ⟨[], [(0, .l (.dat (.str))), (3, .l (.dat (.int .i64))), (31, .l (.dat (.bool)))]⟩, [.str, .int .i64, .bool], fun k => (spec_l4Name.tab m k).2.1⟩]
theorem spec_l4Name.eq0 (m k : Nat) (x : Den [.str, .int .i64]) : (spec_l4Name.tab m (k + 1)).1 x = runF ⟨lookΓ Γl, lookC (spec_l4Name.cons m), false⟩ Tryz.f36 spec_l4Name.sig (spec_l4Name.cuts m) k [false, true, false, true] ⟨[], [(0, .l (.dat (.str))), (3, .l (.dat (.int .i64)))]⟩ [.str, .int .i64] x := by kernel_rfl
theorem spec_l4Name.eq1 (m k : Nat) (x : Den [.str, .int .i64, .bool]) : (spec_l4Name.tab m (k + 1)).2.1 x = runF ⟨lookΓ Γl, lookC (spec_l4Name.cons m), false⟩ Tryz.f36 spec_l4Name.sig (spec_l4Name.cuts m) k [true, false, false, true, false, false, true, false, true] ⟨[], [(0, .l (.dat (.str))), (3, .l (.dat (.int .i64))), (31, .l (.dat (.bool)))]⟩ [.str, .int .i64, .bool] x := by kernel_rfl
theorem spec_l4Name.eq (m : Nat) (x : Den spec_l4Name.sig.ts) : spec_l4Name m x = startF ⟨lookΓ Γl, lookC (spec_l4Name.cons m), false⟩ Tryz.f36 spec_l4Name.sig (spec_l4Name.cuts m) m x := by kernel_rfl
theorem spec_l4Name.ok (m : Nat) : Meets Tryz.prog 36 spec_l4Name.sig (spec_l4Name m) :=
  fn_is (cx_is tyOk mixed (l := spec_l4Name.cons m) ⟨spec_l1In.ok m, trivial⟩) (fn := Tryz.f36) Tryz.func36 (by kernel_rfl) (cl := spec_l4Name.cuts m) ⟨⟨by kernel_rfl, fun _ => rfl, fun k x => spec_l4Name.eq0 m k x⟩, ⟨by kernel_rfl, fun _ => rfl, fun k x => spec_l4Name.eq1 m k x⟩, trivial⟩ (k := m) (spec_l4Name.eq m)

/-! ### loop.example/stemma/spec.l1Cut: function 132 -/
abbrev spec_l1Cut.R : Type := Den [.list (.str)]
def spec_l1Cut.sig : Sig := ⟨3, ⟨[], [(0, .l (.dat (.str))), (1, .l (.dat (.int .u8))), (2, .l (.dat (.int .i64)))]⟩, [.str, .int .u8, .int .i64], ⟨[], [(0, .l (.dat (.list (.str))))]⟩, [.list (.str)]⟩
abbrev spec_l1Cut.Tab : Type := (Den [.list (.str), .str, .int .u8, .int .i64, .int .i64, .int .i64] → Option spec_l1Cut.R) × Unit
def spec_l1Cut.start (m : Nat) (t : spec_l1Cut.Tab) (x0 : ByteArray) (x1 : Int) (x2 : Int) : Option spec_l1Cut.R :=
  t.1 ([], x0, x1, x2, (0 : Int), (0 : Int), ())
def spec_l1Cut.b0 (m : Nat) (t : spec_l1Cut.Tab) (a0 : List ByteArray) (a1 : ByteArray) (a2 : Int) (a3 : Int) (a4 : Int) (a5 : Int) : Option spec_l1Cut.R :=
  cond (decide (a5 < (sLen a1))) (cond (decide ((lLen a0) < a3)) (cond (decide ((0 : Int) ≤ a5)) (cond (decide (a5 < sLen a1)) (cond ((byteAt a1 a5) == a2) (cond (decide ((0 : Int) ≤ a5)) (cond (decide (a5 ≤ (ByteArray.size a1 : Int))) (cond (decide ((0 : Int) ≤ a4)) (cond (decide (a4 ≤ a5)) (cond (decide (List.length a0 + List.length ([(cutS a1 (Int.toNat a4) (Int.toNat a5))] : List ByteArray) ≤ apCap)) (lett ((List.append a0 ([(cutS a1 (Int.toNat a4) (Int.toNat a5))] : List ByteArray)) : List ByteArray) fun v1 => t.1 (v1, a1, a2, a3, (w64 (a5 + (1 : Int))), (w64 (a5 + (1 : Int))), ())) none) none) none) none) none) (t.1 (a0, a1, a2, a3, a4, (w64 (a5 + (1 : Int))), ()))) none) none) (cond (decide ((0 : Int) ≤ a4)) (cond (decide (a4 ≤ (ByteArray.size a1 : Int))) (lett ((cutS a1 (Int.toNat a4) (ByteArray.size a1)) : ByteArray) fun v2 => cond (decide (List.length a0 + List.length ([v2] : List ByteArray) ≤ apCap)) (some ((List.append a0 ([v2] : List ByteArray)), ())) none) none) none)) (cond (decide ((0 : Int) ≤ a4)) (cond (decide (a4 ≤ (ByteArray.size a1 : Int))) (lett ((cutS a1 (Int.toNat a4) (ByteArray.size a1)) : ByteArray) fun v3 => cond (decide (List.length a0 + List.length ([v3] : List ByteArray) ≤ apCap)) (some ((List.append a0 ([v3] : List ByteArray)), ())) none) none) none)
def spec_l1Cut.tab (m : Nat) : Nat → spec_l1Cut.Tab
  | 0 => (fun _ => none, ())
  | k + 1 => (fun x => spec_l1Cut.b0 m (spec_l1Cut.tab m k) x.1 x.2.1 x.2.2.1 x.2.2.2.1 x.2.2.2.2.1 x.2.2.2.2.2.1, ())
def spec_l1Cut (m : Nat) (x : Den [.str, .int .u8, .int .i64]) : Option spec_l1Cut.R := spec_l1Cut.start m (spec_l1Cut.tab m m) x.1 x.2.1 x.2.2.1
def spec_l1Cut.cons (m : Nat) : List (Nat × Contract) := []
def spec_l1Cut.cuts (m : Nat) : List (CutF (Den spec_l1Cut.sig.us)) := [⟨[false, true, false, true, true, true], 122, ⟨[.row true (.str)], [(0, .l (.dat (.str))), (1, .l (.dat (.int .u8))), (2, .l (.dat (.int .i64))), (7, .l (.sl 0)), (8, .l (.dat (.int .i64))), (9, .l (.dat (.int .i64)))]⟩, [.list (.str), .str, .int .u8, .int .i64, .int .i64, .int .i64], fun k => (spec_l1Cut.tab m k).1⟩]
theorem spec_l1Cut.eq0 (m k : Nat) (x : Den [.list (.str), .str, .int .u8, .int .i64, .int .i64, .int .i64]) : (spec_l1Cut.tab m (k + 1)).1 x = runF ⟨lookΓ Γl, lookC (spec_l1Cut.cons m), false⟩ Tryz.f132 spec_l1Cut.sig (spec_l1Cut.cuts m) k [false, true, false, true, true, true] ⟨[.row true (.str)], [(0, .l (.dat (.str))), (1, .l (.dat (.int .u8))), (2, .l (.dat (.int .i64))), (7, .l (.sl 0)), (8, .l (.dat (.int .i64))), (9, .l (.dat (.int .i64)))]⟩ [.list (.str), .str, .int .u8, .int .i64, .int .i64, .int .i64] x := by kernel_rfl
theorem spec_l1Cut.eq (m : Nat) (x : Den spec_l1Cut.sig.ts) : spec_l1Cut m x = startF ⟨lookΓ Γl, lookC (spec_l1Cut.cons m), false⟩ Tryz.f132 spec_l1Cut.sig (spec_l1Cut.cuts m) m x := by kernel_rfl
theorem spec_l1Cut.ok (m : Nat) : Meets Tryz.prog 132 spec_l1Cut.sig (spec_l1Cut m) :=
  fn_is (cx_is tyOk mixed (l := spec_l1Cut.cons m) trivial) (fn := Tryz.f132) Tryz.func132 (by kernel_rfl) (cl := spec_l1Cut.cuts m) ⟨⟨by kernel_rfl, fun _ => rfl, fun k x => spec_l1Cut.eq0 m k x⟩, trivial⟩ (k := m) (spec_l1Cut.eq m)

/-! ### loop.example/stemma/spec.l4Path: function 105 -/
abbrev spec_l4Path.R : Type := Den [.bool]
def spec_l4Path.sig : Sig := ⟨1, ⟨[], [(0, .l (.dat (.str)))]⟩, [.str], ⟨[], [(0, .l (.dat (.bool)))]⟩, [.bool]⟩
abbrev spec_l4Path.Tab : Type := (Den [.list (.str), .int .i64] → Option spec_l4Path.R) × Unit
def spec_l4Path.start (m : Nat) (t : spec_l4Path.Tab) (x0 : ByteArray) : Option spec_l4Path.R :=
  Option.bind (spec_l1Cut m (x0, (47 : Int), (3 : Int), ())) fun r1 => t.1 (r1.1, (0 : Int), ())
def spec_l4Path.b0 (m : Nat) (t : spec_l4Path.Tab) (a0 : List ByteArray) (a1 : Int) : Option spec_l4Path.R :=
  cond (decide (a1 < (lLen a0))) (cond (decide ((0 : Int) ≤ a1)) (cond (decide (a1 < lLen a0)) (Option.bind (spec_l4Name m ((getL a0 a1 ByteArray.empty), ())) fun r1 => cond (!r1.1) (some (false, ())) (t.1 (a0, (w64 (a1 + (1 : Int))), ()))) none) none) (some ((decide ((lLen a0) ≤ (3 : Int))), ()))
def spec_l4Path.tab (m : Nat) : Nat → spec_l4Path.Tab
  | 0 => (fun _ => none, ())
  | k + 1 => (fun x => spec_l4Path.b0 m (spec_l4Path.tab m k) x.1 x.2.1, ())
def spec_l4Path (m : Nat) (x : Den [.str]) : Option spec_l4Path.R := spec_l4Path.start m (spec_l4Path.tab m m) x.1
def spec_l4Path.cons (m : Nat) : List (Nat × Contract) := [(132, ⟨spec_l1Cut.sig, spec_l1Cut m⟩), (36, ⟨spec_l4Name.sig, spec_l4Name m⟩)]
def spec_l4Path.cuts (m : Nat) : List (CutF (Den spec_l4Path.sig.us)) := [⟨[false, true, false, true, true], 58, ⟨[], [(3, .l (.dat (.list (.str)))), (4, .l (.dat (.int .i64)))]⟩, [.list (.str), .int .i64], fun k => (spec_l4Path.tab m k).1⟩]
theorem spec_l4Path.eq0 (m k : Nat) (x : Den [.list (.str), .int .i64]) : (spec_l4Path.tab m (k + 1)).1 x = runF ⟨lookΓ Γl, lookC (spec_l4Path.cons m), false⟩ Tryz.f105 spec_l4Path.sig (spec_l4Path.cuts m) k [false, true, false, true, true] ⟨[], [(3, .l (.dat (.list (.str)))), (4, .l (.dat (.int .i64)))]⟩ [.list (.str), .int .i64] x := by kernel_rfl
theorem spec_l4Path.eq (m : Nat) (x : Den spec_l4Path.sig.ts) : spec_l4Path m x = startF ⟨lookΓ Γl, lookC (spec_l4Path.cons m), false⟩ Tryz.f105 spec_l4Path.sig (spec_l4Path.cuts m) m x := by kernel_rfl
theorem spec_l4Path.ok (m : Nat) : Meets Tryz.prog 105 spec_l4Path.sig (spec_l4Path m) :=
  fn_is (cx_is tyOk mixed (l := spec_l4Path.cons m) ⟨spec_l1Cut.ok m, spec_l4Name.ok m, trivial⟩) (fn := Tryz.f105) Tryz.func105 (by kernel_rfl) (cl := spec_l4Path.cuts m) ⟨⟨by kernel_rfl, fun _ => rfl, fun k x => spec_l4Path.eq0 m k x⟩, trivial⟩ (k := m) (spec_l4Path.eq m)

/-! ### loop.example/stemma/spec.l1Line: function 133 -/
abbrev spec_l1Line.R : Type := Den [.bool]
def spec_l1Line.sig : Sig := ⟨1, ⟨[], [(0, .l (.dat (.str)))]⟩, [.str], ⟨[], [(0, .l (.dat (.bool)))]⟩, [.bool]⟩
abbrev spec_l1Line.Tab : Type := (Den [.str, .int .i64] → Option spec_l1Line.R) × Unit
def spec_l1Line.start (m : Nat) (t : spec_l1Line.Tab) (x0 : ByteArray) : Option spec_l1Line.R :=
  t.1 (x0, (0 : Int), ())
def spec_l1Line.b0 (m : Nat) (t : spec_l1Line.Tab) (a0 : ByteArray) (a1 : Int) : Option spec_l1Line.R :=
  cond (decide (a1 < (sLen a0))) (cond (decide ((0 : Int) ≤ a1)) (cond (decide (a1 < sLen a0)) (cond (decide ((byteAt a0 a1) < (32 : Int))) (some (false, ())) (cond (decide ((0 : Int) ≤ a1)) (cond (decide (a1 < sLen a0)) (cond (decide ((byteAt a0 a1) > (126 : Int))) (some (false, ())) (t.1 (a0, (w64 (a1 + (1 : Int))), ()))) none) none)) none) none) (some ((decide ((sLen a0) ≤ (12 : Int))), ()))
def spec_l1Line.tab (m : Nat) : Nat → spec_l1Line.Tab
  | 0 => (fun _ => none, ())
  | k + 1 => (fun x => spec_l1Line.b0 m (spec_l1Line.tab m k) x.1 x.2.1, ())
def spec_l1Line (m : Nat) (x : Den [.str]) : Option spec_l1Line.R := spec_l1Line.start m (spec_l1Line.tab m m) x.1
def spec_l1Line.cons (m : Nat) : List (Nat × Contract) := []
def spec_l1Line.cuts (m : Nat) : List (CutF (Den spec_l1Line.sig.us)) := [⟨[false, true, false, true], 26, ⟨[], [(0, .l (.dat (.str))), (3, .l (.dat (.int .i64)))]⟩, [.str, .int .i64], fun k => (spec_l1Line.tab m k).1⟩]
theorem spec_l1Line.eq0 (m k : Nat) (x : Den [.str, .int .i64]) : (spec_l1Line.tab m (k + 1)).1 x = runF ⟨lookΓ Γl, lookC (spec_l1Line.cons m), false⟩ Tryz.f133 spec_l1Line.sig (spec_l1Line.cuts m) k [false, true, false, true] ⟨[], [(0, .l (.dat (.str))), (3, .l (.dat (.int .i64)))]⟩ [.str, .int .i64] x := by kernel_rfl
theorem spec_l1Line.eq (m : Nat) (x : Den spec_l1Line.sig.ts) : spec_l1Line m x = startF ⟨lookΓ Γl, lookC (spec_l1Line.cons m), false⟩ Tryz.f133 spec_l1Line.sig (spec_l1Line.cuts m) m x := by kernel_rfl
theorem spec_l1Line.ok (m : Nat) : Meets Tryz.prog 133 spec_l1Line.sig (spec_l1Line m) :=
  fn_is (cx_is tyOk mixed (l := spec_l1Line.cons m) trivial) (fn := Tryz.f133) Tryz.func133 (by kernel_rfl) (cl := spec_l1Line.cuts m) ⟨⟨by kernel_rfl, fun _ => rfl, fun k x => spec_l1Line.eq0 m k x⟩, trivial⟩ (k := m) (spec_l1Line.eq m)

/-! ### loop.example/stemma/spec.l1Ok: function 106 -/
abbrev spec_l1Ok.R : Type := Den [.bool]
def spec_l1Ok.sig : Sig := ⟨1, ⟨[], [(0, .l (.dat (.list (.str))))]⟩, [.list (.str)], ⟨[], [(0, .l (.dat (.bool)))]⟩, [.bool]⟩
abbrev spec_l1Ok.Tab : Type := (Den [.list (.str), .int .i64] → Option spec_l1Ok.R) × Unit
def spec_l1Ok.start (m : Nat) (t : spec_l1Ok.Tab) (x0 : List ByteArray) : Option spec_l1Ok.R :=
  t.1 (x0, (0 : Int), ())
def spec_l1Ok.b0 (m : Nat) (t : spec_l1Ok.Tab) (a0 : List ByteArray) (a1 : Int) : Option spec_l1Ok.R :=
  cond (decide (a1 < (lLen a0))) (cond (decide ((0 : Int) ≤ a1)) (cond (decide (a1 < lLen a0)) (Option.bind (spec_l1Line m ((getL a0 a1 ByteArray.empty), ())) fun r1 => cond (!r1.1) (some (false, ())) (t.1 (a0, (w64 (a1 + (1 : Int))), ()))) none) none) (some ((decide ((lLen a0) ≤ (10 : Int))), ()))
def spec_l1Ok.tab (m : Nat) : Nat → spec_l1Ok.Tab
  | 0 => (fun _ => none, ())
  | k + 1 => (fun x => spec_l1Ok.b0 m (spec_l1Ok.tab m k) x.1 x.2.1, ())
def spec_l1Ok (m : Nat) (x : Den [.list (.str)]) : Option spec_l1Ok.R := spec_l1Ok.start m (spec_l1Ok.tab m m) x.1
def spec_l1Ok.cons (m : Nat) : List (Nat × Contract) := [(133, ⟨spec_l1Line.sig, spec_l1Line m⟩)]
def spec_l1Ok.cuts (m : Nat) : List (CutF (Den spec_l1Ok.sig.us)) := [⟨[false, true, false, true], 26, ⟨[], [(0, .l (.dat (.list (.str)))), (3, .l (.dat (.int .i64)))]⟩, [.list (.str), .int .i64], fun k => (spec_l1Ok.tab m k).1⟩]
theorem spec_l1Ok.eq0 (m k : Nat) (x : Den [.list (.str), .int .i64]) : (spec_l1Ok.tab m (k + 1)).1 x = runF ⟨lookΓ Γl, lookC (spec_l1Ok.cons m), false⟩ Tryz.f106 spec_l1Ok.sig (spec_l1Ok.cuts m) k [false, true, false, true] ⟨[], [(0, .l (.dat (.list (.str)))), (3, .l (.dat (.int .i64)))]⟩ [.list (.str), .int .i64] x := by kernel_rfl
theorem spec_l1Ok.eq (m : Nat) (x : Den spec_l1Ok.sig.ts) : spec_l1Ok m x = startF ⟨lookΓ Γl, lookC (spec_l1Ok.cons m), false⟩ Tryz.f106 spec_l1Ok.sig (spec_l1Ok.cuts m) m x := by kernel_rfl
theorem spec_l1Ok.ok (m : Nat) : Meets Tryz.prog 106 spec_l1Ok.sig (spec_l1Ok m) :=
  fn_is (cx_is tyOk mixed (l := spec_l1Ok.cons m) ⟨spec_l1Line.ok m, trivial⟩) (fn := Tryz.f106) Tryz.func106 (by kernel_rfl) (cl := spec_l1Ok.cuts m) ⟨⟨by kernel_rfl, fun _ => rfl, fun k x => spec_l1Ok.eq0 m k x⟩, trivial⟩ (k := m) (spec_l1Ok.eq m)

/-! ### loop.example/stemma/spec.l4In: function 107 -/
abbrev spec_l4In.R : Type := Den [.bool]
def spec_l4In.sig : Sig := ⟨2, ⟨[], [(0, .l (.dat (.str))), (1, .l (.dat (.str)))]⟩, [.str, .str], ⟨[], [(0, .l (.dat (.bool)))]⟩, [.bool]⟩
abbrev spec_l4In.Tab : Type := Unit
def spec_l4In.start (m : Nat) (t : spec_l4In.Tab) (x0 : ByteArray) (x1 : ByteArray) : Option spec_l4In.R :=
  cond (decide ((sLen x1) > (sLen x0))) (cond (decide ((0 : Int) ≤ (sLen x0))) (cond (decide ((sLen x0) ≤ (ByteArray.size x1 : Int))) (lett ((sEq (cutS x1 0 (Int.toNat (sLen x0))) x0) : Bool) fun v1 => cond v1 (cond (decide ((0 : Int) ≤ (sLen x0))) (cond (decide ((sLen x0) < sLen x1)) (some (((byteAt x1 (sLen x0)) == (47 : Int)), ())) none) none) (some (false, ()))) none) none) (some (false, ()))
def spec_l4In.tab (m : Nat) : Nat → spec_l4In.Tab
  | 0 => (())
  | k + 1 => (())
def spec_l4In (m : Nat) (x : Den [.str, .str]) : Option spec_l4In.R := spec_l4In.start m (spec_l4In.tab m m) x.1 x.2.1
def spec_l4In.cons (m : Nat) : List (Nat × Contract) := []
def spec_l4In.cuts (m : Nat) : List (CutF (Den spec_l4In.sig.us)) := []
theorem spec_l4In.eq (m : Nat) (x : Den spec_l4In.sig.ts) : spec_l4In m x = startF ⟨lookΓ Γl, lookC (spec_l4In.cons m), false⟩ Tryz.f107 spec_l4In.sig (spec_l4In.cuts m) m x := by kernel_rfl
theorem spec_l4In.ok (m : Nat) : Meets Tryz.prog 107 spec_l4In.sig (spec_l4In m) :=
  fn_is (cx_is tyOk mixed (l := spec_l4In.cons m) trivial) (fn := Tryz.f107) Tryz.func107 (by kernel_rfl) (cl := spec_l4In.cuts m) trivial (k := m) (spec_l4In.eq m)

/-! ### loop.example/stemma/spec.l4Ok: function 73 -/
abbrev spec_l4Ok.R : Type := Den [.bool]
def spec_l4Ok.sig : Sig := ⟨1, ⟨[], [(0, .l (.dat (.list (.pair (.str) (.list (.str))))))]⟩, [.list (.pair (.str) (.list (.str)))], ⟨[], [(0, .l (.dat (.bool)))]⟩, [.bool]⟩
abbrev spec_l4Ok.Tab : Type := (Den [.list (.pair (.str) (.list (.str))), .int .i64] → Option spec_l4Ok.R) × (Den [.list (.pair (.str) (.list (.str))), .int .i64, .int .i64] → Option spec_l4Ok.R) × (Den [.list (.pair (.str) (.list (.str))), .int .i64, .bool] → Option spec_l4Ok.R) × (Den [.list (.pair (.str) (.list (.str))), .int .i64] → Option spec_l4Ok.R) × Unit
def spec_l4Ok.start (m : Nat) (t : spec_l4Ok.Tab) (x0 : List (ByteArray × List ByteArray)) : Option spec_l4Ok.R :=
  t.1 (x0, (0 : Int), ())
def spec_l4Ok.b0 (m : Nat) (t : spec_l4Ok.Tab) (a0 : List (ByteArray × List ByteArray)) (a1 : Int) : Option spec_l4Ok.R :=
  cond (decide (a1 < (lLen a0))) (cond (decide ((0 : Int) ≤ a1)) (cond (decide (a1 < lLen a0)) (lett ((getL a0 a1 (ByteArray.empty, ([] : List ByteArray))) : ByteArray × List ByteArray) fun v1 => Option.bind (spec_l4Path m (v1.1, ())) fun r2 => cond (!r2.1) (t.2.2.1 (a0, a1, true, ())) (cond (decide ((0 : Int) ≤ a1)) (cond (decide (a1 < lLen a0)) (lett ((getL a0 a1 (ByteArray.empty, ([] : List ByteArray))) : ByteArray × List ByteArray) fun v3 => Option.bind (spec_l1Ok m (v3.2, ())) fun r4 => cond (!r4.1) (t.2.2.1 (a0, a1, true, ())) (cond (decide (a1 > (0 : Int))) (cond (decide ((0 : Int) ≤ a1)) (cond (decide (a1 < lLen a0)) (lett ((getL a0 a1 (ByteArray.empty, ([] : List ByteArray))) : ByteArray × List ByteArray) fun v5 => cond (decide ((0 : Int) ≤ (w64 (a1 - (1 : Int))))) (cond (decide ((w64 (a1 - (1 : Int))) < lLen a0)) (lett ((getL a0 (w64 (a1 - (1 : Int))) (ByteArray.empty, ([] : List ByteArray))) : ByteArray × List ByteArray) fun v6 => t.2.2.1 (a0, a1, (sLt v5.1 v6.1 || sEq v5.1 v6.1), ())) none) none) none) none) (t.2.2.1 (a0, a1, false, ())))) none) none)) none) none) (some ((decide ((lLen a0) ≤ (8 : Int))), ()))
def spec_l4Ok.b1 (m : Nat) (t : spec_l4Ok.Tab) (a0 : List (ByteArray × List ByteArray)) (a1 : Int) (a2 : Int) : Option spec_l4Ok.R :=
  cond (decide (a2 < (lLen a0))) (cond (decide ((0 : Int) ≤ a1)) (cond (decide (a1 < lLen a0)) (lett ((getL a0 a1 (ByteArray.empty, ([] : List ByteArray))) : ByteArray × List ByteArray) fun v1 => cond (decide ((0 : Int) ≤ a2)) (cond (decide (a2 < lLen a0)) (lett ((getL a0 a2 (ByteArray.empty, ([] : List ByteArray))) : ByteArray × List ByteArray) fun v2 => Option.bind (spec_l4In m (v1.1, v2.1, ())) fun r3 => cond r3.1 (some (false, ())) (t.2.1 (a0, a1, (w64 (a2 + (1 : Int))), ()))) none) none) none) none) (t.1 (a0, (w64 (a1 + (1 : Int))), ()))
def spec_l4Ok.b2 (m : Nat) (t : spec_l4Ok.Tab) (a0 : List (ByteArray × List ByteArray)) (a1 : Int) (a2 : Bool) : Option spec_l4Ok.R :=
  cond a2 (some (false, ())) (t.2.2.2.1 (a0, a1, ()))
def spec_l4Ok.b3 (m : Nat) (t : spec_l4Ok.Tab) (a0 : List (ByteArray × List ByteArray)) (a1 : Int) : Option spec_l4Ok.R :=
  t.2.1 (a0, a1, (0 : Int), ())
def spec_l4Ok.tab (m : Nat) : Nat → spec_l4Ok.Tab
  | 0 => (fun _ => none, fun _ => none, fun _ => none, fun _ => none, ())
  | k + 1 => (fun x => spec_l4Ok.b0 m (spec_l4Ok.tab m k) x.1 x.2.1, fun x => spec_l4Ok.b1 m (spec_l4Ok.tab m k) x.1 x.2.1 x.2.2.1, fun x => spec_l4Ok.b2 m (spec_l4Ok.tab m k) x.1 x.2.1 x.2.2.1, fun x => spec_l4Ok.b3 m (spec_l4Ok.tab m k) x.1 x.2.1, ())
def spec_l4Ok (m : Nat) (x : Den [.list (.pair (.str) (.list (.str)))]) : Option spec_l4Ok.R := spec_l4Ok.start m (spec_l4Ok.tab m m) x.1
def spec_l4Ok.cons (m : Nat) : List (Nat × Contract) := [(105, ⟨spec_l4Path.sig, spec_l4Path m⟩), (106, ⟨spec_l1Ok.sig, spec_l1Ok m⟩), (107, ⟨spec_l4In.sig, spec_l4In m⟩)]
def spec_l4Ok.cuts (m : Nat) : List (CutF (Den spec_l4Ok.sig.us)) := [⟨[false, true, false, true], 26, ⟨[], [(0, .l (.dat (.list (.pair (.str) (.list (.str)))))), (3, .l (.dat (.int .i64)))]⟩, [.list (.pair (.str) (.list (.str))), .int .i64], fun k => (spec_l4Ok.tab m k).1⟩,
  ⟨[false, true, true, false, false, true, false, false, true, false, true], 3366, ⟨[], [(0, .l (.dat (.list (.pair (.str) (.list (.str)))))), (3, .l (.dat (.int .i64))), (4, .l (.dat (.int .i64)))]⟩, [.list (.pair (.str) (.list (.str))), .int .i64, .int .i64], fun k => (spec_l4Ok.tab m k).2.1⟩,
  ⟨[true, false, false, false, true, false, false, true, false, true], 1681, ⟨[], [(0, .l (.dat (.list (.pair (.str) (.list (.str)))))), (3, .l (.dat (.int .i64))), (44, .l (.dat (.bool)))]⟩, [.list (.pair (.str) (.list (.str))), .int .i64, .bool], fun k => (spec_l4Ok.tab m k).2.2.1⟩,
  ⟨[true, false, false, true, false, false, true, false, true], 841, ⟨[], [(0, .l (.dat (.list (.pair (.str) (.list (.str)))))), (3, .l (.dat (.int .i64)))]⟩, [.list (.pair (.str) (.list (.str))), .int .i64], fun k => (spec_l4Ok.tab m k).2.2.2.1⟩]
theorem spec_l4Ok.eq0 (m k : Nat) (x : Den [.list (.pair (.str) (.list (.str))), .int .i64]) : (spec_l4Ok.tab m (k + 1)).1 x = runF ⟨lookΓ Γl, lookC (spec_l4Ok.cons m), false⟩ Tryz.f73 spec_l4Ok.sig (spec_l4Ok.cuts m) k [false, true, false, true] ⟨[], [(0, .l (.dat (.list (.pair (.str) (.list (.str)))))), (3, .l (.dat (.int .i64)))]⟩ [.list (.pair (.str) (.list (.str))), .int .i64] x := by kernel_rfl
theorem spec_l4Ok.eq1 (m k : Nat) (x : Den [.list (.pair (.str) (.list (.str))), .int .i64, .int .i64]) : (spec_l4Ok.tab m (k + 1)).2.1 x = runF ⟨lookΓ Γl, lookC (spec_l4Ok.cons m), false⟩ Tryz.f73 spec_l4Ok.sig (spec_l4Ok.cuts m) k [false, true, true, false, false, true, false, false, true, false, true] ⟨[], [(0, .l (.dat (.list (.pair (.str) (.list (.str)))))), (3, .l (.dat (.int .i64))), (4, .l (.dat (.int .i64)))]⟩ [.list (.pair (.str) (.list (.str))), .int .i64, .int .i64] x := by kernel_rfl
theorem spec_l4Ok.eq2 (m k : Nat) (x : Den [.list (.pair (.str) (.list (.str))), .int .i64, .bool]) : (spec_l4Ok.tab m (k + 1)).2.2.1 x = runF ⟨lookΓ Γl, lookC (spec_l4Ok.cons m), false⟩ Tryz.f73 spec_l4Ok.sig (spec_l4Ok.cuts m) k [true, false, false, false, true, false, false, true, false, true] ⟨[], [(0, .l (.dat (.list (.pair (.str) (.list (.str)))))), (3, .l (.dat (.int .i64))), (44, .l (.dat (.bool)))]⟩ [.list (.pair (.str) (.list (.str))), .int .i64, .bool] x := by kernel_rfl
theorem spec_l4Ok.eq3 (m k : Nat) (x : Den [.list (.pair (.str) (.list (.str))), .int .i64]) : (spec_l4Ok.tab m (k + 1)).2.2.2.1 x = runF ⟨lookΓ Γl, lookC (spec_l4Ok.cons m), false⟩ Tryz.f73 spec_l4Ok.sig (spec_l4Ok.cuts m) k [true, false, false, true, false, false, true, false, true] ⟨[], [(0, .l (.dat (.list (.pair (.str) (.list (.str)))))), (3, .l (.dat (.int .i64)))]⟩ [.list (.pair (.str) (.list (.str))), .int .i64] x := by kernel_rfl
theorem spec_l4Ok.eq (m : Nat) (x : Den spec_l4Ok.sig.ts) : spec_l4Ok m x = startF ⟨lookΓ Γl, lookC (spec_l4Ok.cons m), false⟩ Tryz.f73 spec_l4Ok.sig (spec_l4Ok.cuts m) m x := by kernel_rfl
theorem spec_l4Ok.ok (m : Nat) : Meets Tryz.prog 73 spec_l4Ok.sig (spec_l4Ok m) :=
  fn_is (cx_is tyOk mixed (l := spec_l4Ok.cons m) ⟨spec_l4Path.ok m, spec_l1Ok.ok m, spec_l4In.ok m, trivial⟩) (fn := Tryz.f73) Tryz.func73 (by kernel_rfl) (cl := spec_l4Ok.cuts m) ⟨⟨by kernel_rfl, fun _ => rfl, fun k x => spec_l4Ok.eq0 m k x⟩, ⟨by kernel_rfl, fun _ => rfl, fun k x => spec_l4Ok.eq1 m k x⟩, ⟨by kernel_rfl, fun _ => rfl, fun k x => spec_l4Ok.eq2 m k x⟩, ⟨by kernel_rfl, fun _ => rfl, fun k x => spec_l4Ok.eq3 m k x⟩, trivial⟩ (k := m) (spec_l4Ok.eq m)

/-! ### loop.example/stemma/spec.l7Ok: function 35 -/
abbrev spec_l7Ok.R : Type := Den [.bool]
def spec_l7Ok.sig : Sig := ⟨1, ⟨[], [(0, .agg [.dat (.list (.pair (.list (.int .i64)) (.pair (.str) (.list (.pair (.str) (.list (.str))))))), .dat (.list (.pair (.str) (.int .i64)))])]⟩, [.list (.pair (.list (.int .i64)) (.pair (.str) (.list (.pair (.str) (.list (.str)))))), .list (.pair (.str) (.int .i64))], ⟨[], [(0, .l (.dat (.bool)))]⟩, [.bool]⟩
abbrev spec_l7Ok.Tab : Type := (Den [.list (.pair (.list (.int .i64)) (.pair (.str) (.list (.pair (.str) (.list (.str)))))), .list (.pair (.str) (.int .i64)), .int .i64] → Option spec_l7Ok.R) × (Den [.list (.pair (.list (.int .i64)) (.pair (.str) (.list (.pair (.str) (.list (.str)))))), .list (.pair (.str) (.int .i64)), .list (.int .i64), .str, .list (.pair (.str) (.list (.str))), .int .i64, .int .i64] → Option spec_l7Ok.R) × (Den [.list (.pair (.list (.int .i64)) (.pair (.str) (.list (.pair (.str) (.list (.str)))))), .list (.pair (.str) (.int .i64)), .int .i64] → Option spec_l7Ok.R) × (Den [.list (.pair (.list (.int .i64)) (.pair (.str) (.list (.pair (.str) (.list (.str)))))), .list (.pair (.str) (.int .i64)), .int .i64, .bool] → Option spec_l7Ok.R) × Unit
def spec_l7Ok.start (m : Nat) (t : spec_l7Ok.Tab) (x0 : List (List Int × ByteArray × List (ByteArray × List ByteArray))) (x1 : List (ByteArray × Int)) : Option spec_l7Ok.R :=
  t.1 (x0, x1, (0 : Int), ())
def spec_l7Ok.b0 (m : Nat) (t : spec_l7Ok.Tab) (a0 : List (List Int × ByteArray × List (ByteArray × List ByteArray))) (a1 : List (ByteArray × Int)) (a2 : Int) : Option spec_l7Ok.R :=
  cond (decide (a2 < (lLen a0))) (cond (decide ((0 : Int) ≤ a2)) (cond (decide (a2 < lLen a0)) (lett ((getL a0 a2 (([] : List Int), ByteArray.empty, ([] : List (ByteArray × List ByteArray)))) : List Int × ByteArray × List (ByteArray × List ByteArray)) fun v1 => t.2.1 (a0, a1, v1.1, v1.2.1, v1.2.2, a2, (0 : Int), ())) none) none) (t.2.2.1 (a0, a1, (0 : Int), ()))
def spec_l7Ok.b1 (m : Nat) (t : spec_l7Ok.Tab) (a0 : List (List Int × ByteArray × List (ByteArray × List ByteArray))) (a1 : List (ByteArray × Int)) (a2 : List Int) (a3 : ByteArray) (a4 : List (ByteArray × List ByteArray)) (a5 : Int) (a6 : Int) : Option spec_l7Ok.R :=
  cond (decide (a6 < (lLen a2))) (cond (decide ((0 : Int) ≤ a6)) (cond (decide (a6 < lLen a2)) (Option.bind (spec_l1In m ((getL a2 a6 (0 : Int)), (0 : Int), (w64 (a5 - (1 : Int))), ())) fun r1 => cond (!r1.1) (some (false, ())) (cond (decide (a6 > (0 : Int))) (cond (decide ((0 : Int) ≤ a6)) (cond (decide (a6 < lLen a2)) (cond (decide ((0 : Int) ≤ (0 : Int))) (cond (decide ((0 : Int) < lLen a2)) (lett (((getL a2 a6 (0 : Int)) == (getL a2 (0 : Int) (0 : Int))) : Bool) fun v2 => cond v2 (some (false, ())) (t.2.1 (a0, a1, a2, a3, a4, a5, (w64 (a6 + (1 : Int))), ()))) none) none) none) none) (t.2.1 (a0, a1, a2, a3, a4, a5, (w64 (a6 + (1 : Int))), ())))) none) none) (cond (decide ((lLen a2) > (2 : Int))) (some (false, ())) (Option.bind (spec_l4Name m (a3, ())) fun r3 => cond (!r3.1) (some (false, ())) (Option.bind (spec_l4Ok m (a4, ())) fun r4 => cond (!r4.1) (some (false, ())) (t.1 (a0, a1, (w64 (a5 + (1 : Int))), ())))))
def spec_l7Ok.b2 (m : Nat) (t : spec_l7Ok.Tab) (a0 : List (List Int × ByteArray × List (ByteArray × List ByteArray))) (a1 : List (ByteArray × Int)) (a2 : Int) : Option spec_l7Ok.R :=
  cond (decide (a2 < (lLen a1))) (cond (decide ((0 : Int) ≤ a2)) (cond (decide (a2 < lLen a1)) (lett ((getL a1 a2 (ByteArray.empty, (0 : Int))) : ByteArray × Int) fun v1 => Option.bind (spec_l4Name m (v1.1, ())) fun r2 => cond (!r2.1) (t.2.2.2.1 (a0, a1, a2, true, ())) (cond (decide ((0 : Int) ≤ a2)) (cond (decide (a2 < lLen a1)) (lett ((getL a1 a2 (ByteArray.empty, (0 : Int))) : ByteArray × Int) fun v3 => Option.bind (spec_l1In m (v3.2, (0 : Int), (w64 ((lLen a0) - (1 : Int))), ())) fun r4 => cond (!r4.1) (t.2.2.2.1 (a0, a1, a2, true, ())) (cond (decide (a2 > (0 : Int))) (cond (decide ((0 : Int) ≤ a2)) (cond (decide (a2 < lLen a1)) (lett ((getL a1 a2 (ByteArray.empty, (0 : Int))) : ByteArray × Int) fun v5 => cond (decide ((0 : Int) ≤ (w64 (a2 - (1 : Int))))) (cond (decide ((w64 (a2 - (1 : Int))) < lLen a1)) (lett ((getL a1 (w64 (a2 - (1 : Int))) (ByteArray.empty, (0 : Int))) : ByteArray × Int) fun v6 => t.2.2.2.1 (a0, a1, a2, (sLt v5.1 v6.1 || sEq v5.1 v6.1), ())) none) none) none) none) (t.2.2.2.1 (a0, a1, a2, false, ())))) none) none)) none) none) (cond (decide ((lLen a0) ≤ (16 : Int))) (some ((decide ((lLen a1) ≤ (5 : Int))), ())) (some (false, ())))
def spec_l7Ok.b3 (m : Nat) (t : spec_l7Ok.Tab) (a0 : List (List Int × ByteArray × List (ByteArray × List ByteArray))) (a1 : List (ByteArray × Int)) (a2 : Int) (a3 : Bool) : Option spec_l7Ok.R :=
  cond a3 (some (false, ())) (t.2.2.1 (a0, a1, (w64 (a2 + (1 : Int))), ()))
def spec_l7Ok.tab (m : Nat) : Nat → spec_l7Ok.Tab
  | 0 => (fun _ => none, fun _ => none, fun _ => none, fun _ => none, ())
  | k + 1 => (fun x => spec_l7Ok.b0 m (spec_l7Ok.tab m k) x.1 x.2.1 x.2.2.1, fun x => spec_l7Ok.b1 m (spec_l7Ok.tab m k) x.1 x.2.1 x.2.2.1 x.2.2.2.1 x.2.2.2.2.1 x.2.2.2.2.2.1 x.2.2.2.2.2.2.1, fun x => spec_l7Ok.b2 m (spec_l7Ok.tab m k) x.1 x.2.1 x.2.2.1, fun x => spec_l7Ok.b3 m (spec_l7Ok.tab m k) x.1 x.2.1 x.2.2.1 x.2.2.2.1, ())
def spec_l7Ok (m : Nat) (x : Den [.list (.pair (.list (.int .i64)) (.pair (.str) (.list (.pair (.str) (.list (.str)))))), .list (.pair (.str) (.int .i64))]) : Option spec_l7Ok.R := spec_l7Ok.start m (spec_l7Ok.tab m m) x.1 x.2.1
def spec_l7Ok.cons (m : Nat) : List (Nat × Contract) := [(59, ⟨spec_l1In.sig, spec_l1In m⟩), (36, ⟨spec_l4Name.sig, spec_l4Name m⟩), (73, ⟨spec_l4Ok.sig, spec_l4Ok m⟩)]
def spec_l7Ok.cuts (m : Nat) : List (CutF (Den spec_l7Ok.sig.us)) := [⟨[false, true, false, true], 26, ⟨[.box [.dat (.list (.pair (.list (.int .i64)) (.pair (.str) (.list (.pair (.str) (.list (.str))))))), .dat (.list (.pair (.str) (.int .i64)))]], [(1, .l (.ptr 0 0)), (3, .l (.dat (.int .i64)))]⟩, [.list (.pair (.list (.int .i64)) (.pair (.str) (.list (.pair (.str) (.list (.str)))))), .list (.pair (.str) (.int .i64)), .int .i64], fun k => (spec_l7Ok.tab m k).1⟩,
  ⟨[false, true, false, true, false, false, true, false, false, true, false, true], 6730, ⟨[.box [.dat (.list (.pair (.list (.int .i64)) (.pair (.str) (.list (.pair (.str) (.list (.str))))))), .dat (.list (.pair (.str) (.int .i64)))], .box [.dat (.list (.int .i64)), .dat (.str), .dat (.list (.pair (.str) (.list (.str))))]], [(1, .l (.ptr 0 0)), (3, .l (.dat (.int .i64))), (4, .l (.ptr 1 0)), (5, .l (.dat (.int .i64)))]⟩, [.list (.pair (.list (.int .i64)) (.pair (.str) (.list (.pair (.str) (.list (.str)))))), .list (.pair (.str) (.int .i64)), .list (.int .i64), .str, .list (.pair (.str) (.list (.str))), .int .i64, .int .i64], fun k => (spec_l7Ok.tab m k).2.1⟩,
  ⟨[false, true, false, true, true], 58, ⟨[.box [.dat (.list (.pair (.list (.int .i64)) (.pair (.str) (.list (.pair (.str) (.list (.str))))))), .dat (.list (.pair (.str) (.int .i64)))]], [(1, .l (.ptr 0 0)), (6, .l (.dat (.int .i64)))]⟩, [.list (.pair (.list (.int .i64)) (.pair (.str) (.list (.pair (.str) (.list (.str)))))), .list (.pair (.str) (.int .i64)), .int .i64], fun k => (spec_l7Ok.tab m k).2.2.1⟩,
  ⟨[true, false, false, true, false, false, true, false, true, true], 1865, ⟨[.box [.dat (.list (.pair (.list (.int .i64)) (.pair (.str) (.list (.pair (.str) (.list (.str))))))), .dat (.list (.pair (.str) (.int .i64)))]], [(1, .l (.ptr 0 0)), (6, .l (.dat (.int .i64))), (115, .l (.dat (.bool)))]⟩, [.list (.pair (.list (.int .i64)) (.pair (.str) (.list (.pair (.str) (.list (.str)))))), .list (.pair (.str) (.int .i64)), .int .i64, .bool], fun k => (spec_l7Ok.tab m k).2.2.2.1⟩]
theorem spec_l7Ok.eq0 (m k : Nat) (x : Den [.list (.pair (.list (.int .i64)) (.pair (.str) (.list (.pair (.str) (.list (.str)))))), .list (.pair (.str) (.int .i64)), .int .i64]) : (spec_l7Ok.tab m (k + 1)).1 x = runF ⟨lookΓ Γl, lookC (spec_l7Ok.cons m), false⟩ Tryz.f35 spec_l7Ok.sig (spec_l7Ok.cuts m) k [false, true, false, true] ⟨[.box [.dat (.list (.pair (.list (.int .i64)) (.pair (.str) (.list (.pair (.str) (.list (.str))))))), .dat (.list (.pair (.str) (.int .i64)))]], [(1, .l (.ptr 0 0)), (3, .l (.dat (.int .i64)))]⟩ [.list (.pair (.list (.int .i64)) (.pair (.str) (.list (.pair (.str) (.list (.str)))))), .list (.pair (.str) (.int .i64)), .int .i64] x := by kernel_rfl
theorem spec_l7Ok.eq1 (m k : Nat) (x : Den [.list (.pair (.list (.int .i64)) (.pair (.str) (.list (.pair (.str) (.list (.str)))))), .list (.pair (.str) (.int .i64)), .list (.int .i64), .str, .list (.pair (.str) (.list (.str))), .int .i64, .int .i64]) : (spec_l7Ok.tab m (k + 1)).2.1 x = runF ⟨lookΓ Γl, lookC (spec_l7Ok.cons m), false⟩ Tryz.f35 spec_l7Ok.sig (spec_l7Ok.cuts m) k [false, true, false, true, false, false, true, false, false, true, false, true] ⟨[.box [.dat (.list (.pair (.list (.int .i64)) (.pair (.str) (.list (.pair (.str) (.list (.str))))))), .dat (.list (.pair (.str) (.int .i64)))], .box [.dat (.list (.int .i64)), .dat (.str), .dat (.list (.pair (.str) (.list (.str))))]], [(1, .l (.ptr 0 0)), (3, .l (.dat (.int .i64))), (4, .l (.ptr 1 0)), (5, .l (.dat (.int .i64)))]⟩ [.list (.pair (.list (.int .i64)) (.pair (.str) (.list (.pair (.str) (.list (.str)))))), .list (.pair (.str) (.int .i64)), .list (.int .i64), .str, .list (.pair (.str) (.list (.str))), .int .i64, .int .i64] x := by kernel_rfl
theorem spec_l7Ok.eq2 (m k : Nat) (x : Den [.list (.pair (.list (.int .i64)) (.pair (.str) (.list (.pair (.str) (.list (.str)))))), .list (.pair (.str) (.int .i64)), .int .i64]) : (spec_l7Ok.tab m (k + 1)).2.2.1 x = runF ⟨lookΓ Γl, lookC (spec_l7Ok.cons m), false⟩ Tryz.f35 spec_l7Ok.sig (spec_l7Ok.cuts m) k [false, true, false, true, true] ⟨[.box [.dat (.list (.pair (.list (.int .i64)) (.pair (.str) (.list (.pair (.str) (.list (.str))))))), .dat (.list (.pair (.str) (.int .i64)))]], [(1, .l (.ptr 0 0)), (6, .l (.dat (.int .i64)))]⟩ [.list (.pair (.list (.int .i64)) (.pair (.str) (.list (.pair (.str) (.list (.str)))))), .list (.pair (.str) (.int .i64)), .int .i64] x := by kernel_rfl
theorem spec_l7Ok.eq3 (m k : Nat) (x : Den [.list (.pair (.list (.int .i64)) (.pair (.str) (.list (.pair (.str) (.list (.str)))))), .list (.pair (.str) (.int .i64)), .int .i64, .bool]) : (spec_l7Ok.tab m (k + 1)).2.2.2.1 x = runF ⟨lookΓ Γl, lookC (spec_l7Ok.cons m), false⟩ Tryz.f35 spec_l7Ok.sig (spec_l7Ok.cuts m) k [true, false, false, true, false, false, true, false, true, true] ⟨[.box [.dat (.list (.pair (.list (.int .i64)) (.pair (.str) (.list (.pair (.str) (.list (.str))))))), .dat (.list (.pair (.str) (.int .i64)))]], [(1, .l (.ptr 0 0)), (6, .l (.dat (.int .i64))), (115, .l (.dat (.bool)))]⟩ [.list (.pair (.list (.int .i64)) (.pair (.str) (.list (.pair (.str) (.list (.str)))))), .list (.pair (.str) (.int .i64)), .int .i64, .bool] x := by kernel_rfl
theorem spec_l7Ok.eq (m : Nat) (x : Den spec_l7Ok.sig.ts) : spec_l7Ok m x = startF ⟨lookΓ Γl, lookC (spec_l7Ok.cons m), false⟩ Tryz.f35 spec_l7Ok.sig (spec_l7Ok.cuts m) m x := by kernel_rfl
theorem spec_l7Ok.ok (m : Nat) : Meets Tryz.prog 35 spec_l7Ok.sig (spec_l7Ok m) :=
  fn_is (cx_is tyOk mixed (l := spec_l7Ok.cons m) ⟨spec_l1In.ok m, spec_l4Name.ok m, spec_l4Ok.ok m, trivial⟩) (fn := Tryz.f35) Tryz.func35 (by kernel_rfl) (cl := spec_l7Ok.cuts m) ⟨⟨by kernel_rfl, fun _ => rfl, fun k x => spec_l7Ok.eq0 m k x⟩, ⟨by kernel_rfl, fun _ => rfl, fun k x => spec_l7Ok.eq1 m k x⟩, ⟨by kernel_rfl, fun _ => rfl, fun k x => spec_l7Ok.eq2 m k x⟩, ⟨by kernel_rfl, fun _ => rfl, fun k x => spec_l7Ok.eq3 m k x⟩, trivial⟩ (k := m) (spec_l7Ok.eq m)

/-! ### loop.example/stemma/spec.l1Dec: function 85 -/
abbrev spec_l1Dec.R : Type := Den [.str]
def spec_l1Dec.sig : Sig := ⟨1, ⟨[], [(0, .l (.dat (.int .i64)))]⟩, [.int .i64], ⟨[], [(0, .l (.dat (.str)))]⟩, [.str]⟩
abbrev spec_l1Dec.Tab : Type := Unit
def spec_l1Dec.start (m : Nat) (self : Den [.int .i64] → Option spec_l1Dec.R) (t : spec_l1Dec.Tab) (x0 : Int) : Option spec_l1Dec.R :=
  lett ((decide (x0 < (-9223372036854775807 : Int))) : Bool) fun v1 => cond v1 (lett (s_2d39323233333732303336383534373735383038 : ByteArray) fun v2 => some (v2, ())) (cond (decide (x0 < (0 : Int))) (Option.bind (self ((wr .i64 (0 - x0)), ())) fun r3 => cond (decide (ByteArray.size s_2d + ByteArray.size r3.1 ≤ cap)) (some ((ByteArray.append s_2d r3.1), ())) none) (cond (decide (x0 < (10 : Int))) (lett ((strOfNums [(wr .u8 (w64 ((48 : Int) + x0)))]) : ByteArray) fun v4 => some (v4, ())) (cond ((10 : Int) == 0) none (Option.bind (self ((w64 (Int.tdiv x0 (10 : Int))), ())) fun r5 => cond ((10 : Int) == 0) none (lett ((w64 ((48 : Int) + (Int.tmod x0 (10 : Int)))) : Int) fun v6 => cond (decide (ByteArray.size r5.1 + ByteArray.size (strOfNums [(wr .u8 v6)]) ≤ cap)) (lett ((ByteArray.append r5.1 (strOfNums [(wr .u8 v6)])) : ByteArray) fun v7 => some (v7, ())) none)))))
def spec_l1Dec.tab (m : Nat) (self : Den [.int .i64] → Option spec_l1Dec.R) : Nat → spec_l1Dec.Tab
  | 0 => (())
  | k + 1 => (())
def spec_l1Dec : Nat → Den [.int .i64] → Option spec_l1Dec.R
  | 0, _ => none
  | m + 1, x => spec_l1Dec.start m (spec_l1Dec m) (spec_l1Dec.tab m (spec_l1Dec m) m) x.1
def spec_l1Dec.cons (m : Nat) : List (Nat × Contract) := [(85, ⟨spec_l1Dec.sig, spec_l1Dec m⟩)]
def spec_l1Dec.cuts (m : Nat) : List (CutF (Den spec_l1Dec.sig.us)) := []
theorem spec_l1Dec.eq (m : Nat) (x : Den spec_l1Dec.sig.ts) : spec_l1Dec (m + 1) x = startF ⟨lookΓ Γl, lookC (spec_l1Dec.cons m), false⟩ Tryz.f85 spec_l1Dec.sig (spec_l1Dec.cuts m) m x := by kernel_rfl
theorem spec_l1Dec.ok : ∀ m, Meets Tryz.prog 85 spec_l1Dec.sig (spec_l1Dec m)
  | 0 => ⟨by kernel_rfl, by decide, fun x r h => nomatch h⟩
  | m + 1 => fn_is (cx_is tyOk mixed (l := spec_l1Dec.cons m) ⟨spec_l1Dec.ok m, trivial⟩) (fn := Tryz.f85) Tryz.func85 (by kernel_rfl) (cl := spec_l1Dec.cuts m) trivial (k := m) (spec_l1Dec.eq m)

/-! ### loop.example/stemma/spec.l24Tree: function 86 -/
abbrev spec_l24Tree.R : Type := Den [.str]
def spec_l24Tree.sig : Sig := ⟨1, ⟨[], [(0, .l (.dat (.list (.pair (.str) (.list (.str))))))]⟩, [.list (.pair (.str) (.list (.str)))], ⟨[], [(0, .l (.dat (.str)))]⟩, [.str]⟩
abbrev spec_l24Tree.Tab : Type := (Den [.list (.pair (.str) (.list (.str))), .str, .int .i64] → Option spec_l24Tree.R) × (Den [.list (.pair (.str) (.list (.str))), .str, .int .i64, .int .i64] → Option spec_l24Tree.R) × Unit
def spec_l24Tree.start (m : Nat) (t : spec_l24Tree.Tab) (x0 : List (ByteArray × List ByteArray)) : Option spec_l24Tree.R :=
  t.1 (x0, ByteArray.empty, (0 : Int), ())
def spec_l24Tree.b0 (m : Nat) (t : spec_l24Tree.Tab) (a0 : List (ByteArray × List ByteArray)) (a1 : ByteArray) (a2 : Int) : Option spec_l24Tree.R :=
  cond (decide (a2 < (lLen a0))) (cond (decide (ByteArray.size a1 + ByteArray.size s_66696c6520 ≤ cap)) (cond (decide ((0 : Int) ≤ a2)) (cond (decide (a2 < lLen a0)) (lett ((getL a0 a2 (ByteArray.empty, ([] : List ByteArray))) : ByteArray × List ByteArray) fun v1 => cond (decide (ByteArray.size (ByteArray.append a1 s_66696c6520) + ByteArray.size v1.1 ≤ cap)) (lett ((ByteArray.append (ByteArray.append a1 s_66696c6520) v1.1) : ByteArray) fun v2 => cond (decide (ByteArray.size v2 + ByteArray.size s_20 ≤ cap)) (cond (decide ((0 : Int) ≤ a2)) (cond (decide (a2 < lLen a0)) (lett ((getL a0 a2 (ByteArray.empty, ([] : List ByteArray))) : ByteArray × List ByteArray) fun v3 => Option.bind (spec_l1Dec m ((lLen v3.2), ())) fun r4 => cond (decide (ByteArray.size (ByteArray.append v2 s_20) + ByteArray.size r4.1 ≤ cap)) (lett ((ByteArray.append (ByteArray.append v2 s_20) r4.1) : ByteArray) fun v5 => cond (decide (ByteArray.size v5 + ByteArray.size s_0a ≤ cap)) (t.2.1 (a0, (ByteArray.append v5 s_0a), a2, (0 : Int), ())) none) none) none) none) none) none) none) none) none) (some (a1, ()))
def spec_l24Tree.b1 (m : Nat) (t : spec_l24Tree.Tab) (a0 : List (ByteArray × List ByteArray)) (a1 : ByteArray) (a2 : Int) (a3 : Int) : Option spec_l24Tree.R :=
  cond (decide ((0 : Int) ≤ a2)) (cond (decide (a2 < lLen a0)) (lett ((getL a0 a2 (ByteArray.empty, ([] : List ByteArray))) : ByteArray × List ByteArray) fun v1 => cond (decide (a3 < (lLen v1.2))) (cond (decide ((0 : Int) ≤ a2)) (cond (decide (a2 < lLen a0)) (lett ((getL a0 a2 (ByteArray.empty, ([] : List ByteArray))) : ByteArray × List ByteArray) fun v2 => cond (decide ((0 : Int) ≤ a3)) (cond (decide (a3 < lLen v2.2)) (cond (decide (ByteArray.size a1 + ByteArray.size (getL v2.2 a3 ByteArray.empty) ≤ cap)) (lett ((ByteArray.append a1 (getL v2.2 a3 ByteArray.empty)) : ByteArray) fun v3 => cond (decide (ByteArray.size v3 + ByteArray.size s_0a ≤ cap)) (t.2.1 (a0, (ByteArray.append v3 s_0a), a2, (w64 (a3 + (1 : Int))), ())) none) none) none) none) none) none) (t.1 (a0, a1, (w64 (a2 + (1 : Int))), ()))) none) none
def spec_l24Tree.tab (m : Nat) : Nat → spec_l24Tree.Tab
  | 0 => (fun _ => none, fun _ => none, ())
  | k + 1 => (fun x => spec_l24Tree.b0 m (spec_l24Tree.tab m k) x.1 x.2.1 x.2.2.1, fun x => spec_l24Tree.b1 m (spec_l24Tree.tab m k) x.1 x.2.1 x.2.2.1 x.2.2.2.1, ())
def spec_l24Tree (m : Nat) (x : Den [.list (.pair (.str) (.list (.str)))]) : Option spec_l24Tree.R := spec_l24Tree.start m (spec_l24Tree.tab m m) x.1
def spec_l24Tree.cons (m : Nat) : List (Nat × Contract) := [(85, ⟨spec_l1Dec.sig, spec_l1Dec m⟩)]
def spec_l24Tree.cuts (m : Nat) : List (CutF (Den spec_l24Tree.sig.us)) := [⟨[false, true, false, true, true], 58, ⟨[], [(0, .l (.dat (.list (.pair (.str) (.list (.str)))))), (3, .l (.dat (.str))), (4, .l (.dat (.int .i64)))]⟩, [.list (.pair (.str) (.list (.str))), .str, .int .i64], fun k => (spec_l24Tree.tab m k).1⟩,
  ⟨[false, true, true, false, false, true, false, false, true, false, true, true], 7462, ⟨[], [(0, .l (.dat (.list (.pair (.str) (.list (.str)))))), (3, .l (.dat (.str))), (4, .l (.dat (.int .i64))), (5, .l (.dat (.int .i64)))]⟩, [.list (.pair (.str) (.list (.str))), .str, .int .i64, .int .i64], fun k => (spec_l24Tree.tab m k).2.1⟩]
theorem spec_l24Tree.eq0 (m k : Nat) (x : Den [.list (.pair (.str) (.list (.str))), .str, .int .i64]) : (spec_l24Tree.tab m (k + 1)).1 x = runF ⟨lookΓ Γl, lookC (spec_l24Tree.cons m), false⟩ Tryz.f86 spec_l24Tree.sig (spec_l24Tree.cuts m) k [false, true, false, true, true] ⟨[], [(0, .l (.dat (.list (.pair (.str) (.list (.str)))))), (3, .l (.dat (.str))), (4, .l (.dat (.int .i64)))]⟩ [.list (.pair (.str) (.list (.str))), .str, .int .i64] x := by kernel_rfl
theorem spec_l24Tree.eq1 (m k : Nat) (x : Den [.list (.pair (.str) (.list (.str))), .str, .int .i64, .int .i64]) : (spec_l24Tree.tab m (k + 1)).2.1 x = runF ⟨lookΓ Γl, lookC (spec_l24Tree.cons m), false⟩ Tryz.f86 spec_l24Tree.sig (spec_l24Tree.cuts m) k [false, true, true, false, false, true, false, false, true, false, true, true] ⟨[], [(0, .l (.dat (.list (.pair (.str) (.list (.str)))))), (3, .l (.dat (.str))), (4, .l (.dat (.int .i64))), (5, .l (.dat (.int .i64)))]⟩ [.list (.pair (.str) (.list (.str))), .str, .int .i64, .int .i64] x := by kernel_rfl
theorem spec_l24Tree.eq (m : Nat) (x : Den spec_l24Tree.sig.ts) : spec_l24Tree m x = startF ⟨lookΓ Γl, lookC (spec_l24Tree.cons m), false⟩ Tryz.f86 spec_l24Tree.sig (spec_l24Tree.cuts m) m x := by kernel_rfl
theorem spec_l24Tree.ok (m : Nat) : Meets Tryz.prog 86 spec_l24Tree.sig (spec_l24Tree m) :=
  fn_is (cx_is tyOk mixed (l := spec_l24Tree.cons m) ⟨spec_l1Dec.ok m, trivial⟩) (fn := Tryz.f86) Tryz.func86 (by kernel_rfl) (cl := spec_l24Tree.cuts m) ⟨⟨by kernel_rfl, fun _ => rfl, fun k x => spec_l24Tree.eq0 m k x⟩, ⟨by kernel_rfl, fun _ => rfl, fun k x => spec_l24Tree.eq1 m k x⟩, trivial⟩ (k := m) (spec_l24Tree.eq m)

/-! ### loop.example/stemma/spec.l24Repo: function 45 -/
abbrev spec_l24Repo.R : Type := Den [.str]
def spec_l24Repo.sig : Sig := ⟨1, ⟨[], [(0, .agg [.dat (.list (.pair (.list (.int .i64)) (.pair (.str) (.list (.pair (.str) (.list (.str))))))), .dat (.list (.pair (.str) (.int .i64)))])]⟩, [.list (.pair (.list (.int .i64)) (.pair (.str) (.list (.pair (.str) (.list (.str)))))), .list (.pair (.str) (.int .i64))], ⟨[], [(0, .l (.dat (.str)))]⟩, [.str]⟩
abbrev spec_l24Repo.Tab : Type := (Den [.list (.pair (.list (.int .i64)) (.pair (.str) (.list (.pair (.str) (.list (.str)))))), .list (.pair (.str) (.int .i64)), .str, .int .i64] → Option spec_l24Repo.R) × (Den [.list (.pair (.list (.int .i64)) (.pair (.str) (.list (.pair (.str) (.list (.str)))))), .list (.pair (.str) (.int .i64)), .str, .int .i64, .int .i64] → Option spec_l24Repo.R) × (Den [.list (.pair (.list (.int .i64)) (.pair (.str) (.list (.pair (.str) (.list (.str)))))), .list (.pair (.str) (.int .i64)), .str, .int .i64] → Option spec_l24Repo.R) × Unit
def spec_l24Repo.start (m : Nat) (t : spec_l24Repo.Tab) (x0 : List (List Int × ByteArray × List (ByteArray × List ByteArray))) (x1 : List (ByteArray × Int)) : Option spec_l24Repo.R :=
  t.1 (x0, x1, ByteArray.empty, (0 : Int), ())
def spec_l24Repo.b0 (m : Nat) (t : spec_l24Repo.Tab) (a0 : List (List Int × ByteArray × List (ByteArray × List ByteArray))) (a1 : List (ByteArray × Int)) (a2 : ByteArray) (a3 : Int) : Option spec_l24Repo.R :=
  cond (decide (a3 < (lLen a0))) (cond (decide (ByteArray.size a2 + ByteArray.size s_636f6d6d697420 ≤ cap)) (cond (decide ((0 : Int) ≤ a3)) (cond (decide (a3 < lLen a0)) (lett ((getL a0 a3 (([] : List Int), ByteArray.empty, ([] : List (ByteArray × List ByteArray)))) : List Int × ByteArray × List (ByteArray × List ByteArray)) fun v1 => cond (decide (ByteArray.size (ByteArray.append a2 s_636f6d6d697420) + ByteArray.size v1.2.1 ≤ cap)) (lett ((ByteArray.append (ByteArray.append a2 s_636f6d6d697420) v1.2.1) : ByteArray) fun v2 => t.2.1 (a0, a1, v2, a3, (0 : Int), ())) none) none) none) none) (t.2.2.1 (a0, a1, a2, (0 : Int), ()))
def spec_l24Repo.b1 (m : Nat) (t : spec_l24Repo.Tab) (a0 : List (List Int × ByteArray × List (ByteArray × List ByteArray))) (a1 : List (ByteArray × Int)) (a2 : ByteArray) (a3 : Int) (a4 : Int) : Option spec_l24Repo.R :=
  cond (decide ((0 : Int) ≤ a3)) (cond (decide (a3 < lLen a0)) (lett ((getL a0 a3 (([] : List Int), ByteArray.empty, ([] : List (ByteArray × List ByteArray)))) : List Int × ByteArray × List (ByteArray × List ByteArray)) fun v1 => cond (decide (a4 < (lLen v1.1))) (cond (decide (ByteArray.size a2 + ByteArray.size s_20 ≤ cap)) (cond (decide ((0 : Int) ≤ a3)) (cond (decide (a3 < lLen a0)) (lett ((getL a0 a3 (([] : List Int), ByteArray.empty, ([] : List (ByteArray × List ByteArray)))) : List Int × ByteArray × List (ByteArray × List ByteArray)) fun v2 => cond (decide ((0 : Int) ≤ a4)) (cond (decide (a4 < lLen v2.1)) (Option.bind (spec_l1Dec m ((getL v2.1 a4 (0 : Int)), ())) fun r3 => cond (decide (ByteArray.size (ByteArray.append a2 s_20) + ByteArray.size r3.1 ≤ cap)) (lett ((ByteArray.append (ByteArray.append a2 s_20) r3.1) : ByteArray) fun v4 => t.2.1 (a0, a1, v4, a3, (w64 (a4 + (1 : Int))), ())) none) none) none) none) none) none) (cond (decide (ByteArray.size a2 + ByteArray.size s_0a ≤ cap)) (cond (decide ((0 : Int) ≤ a3)) (cond (decide (a3 < lLen a0)) (lett ((getL a0 a3 (([] : List Int), ByteArray.empty, ([] : List (ByteArray × List ByteArray)))) : List Int × ByteArray × List (ByteArray × List ByteArray)) fun v5 => Option.bind (spec_l24Tree m (v5.2.2, ())) fun r6 => cond (decide (ByteArray.size (ByteArray.append a2 s_0a) + ByteArray.size r6.1 ≤ cap)) (lett ((ByteArray.append (ByteArray.append a2 s_0a) r6.1) : ByteArray) fun v7 => t.1 (a0, a1, v7, (w64 (a3 + (1 : Int))), ())) none) none) none) none)) none) none
def spec_l24Repo.b2 (m : Nat) (t : spec_l24Repo.Tab) (a0 : List (List Int × ByteArray × List (ByteArray × List ByteArray))) (a1 : List (ByteArray × Int)) (a2 : ByteArray) (a3 : Int) : Option spec_l24Repo.R :=
  cond (decide (a3 < (lLen a1))) (cond (decide (ByteArray.size a2 + ByteArray.size s_6272616e636820 ≤ cap)) (cond (decide ((0 : Int) ≤ a3)) (cond (decide (a3 < lLen a1)) (lett ((getL a1 a3 (ByteArray.empty, (0 : Int))) : ByteArray × Int) fun v1 => cond (decide (ByteArray.size (ByteArray.append a2 s_6272616e636820) + ByteArray.size v1.1 ≤ cap)) (lett ((ByteArray.append (ByteArray.append a2 s_6272616e636820) v1.1) : ByteArray) fun v2 => cond (decide (ByteArray.size v2 + ByteArray.size s_20 ≤ cap)) (cond (decide ((0 : Int) ≤ a3)) (cond (decide (a3 < lLen a1)) (lett ((getL a1 a3 (ByteArray.empty, (0 : Int))) : ByteArray × Int) fun v3 => Option.bind (spec_l1Dec m (v3.2, ())) fun r4 => cond (decide (ByteArray.size (ByteArray.append v2 s_20) + ByteArray.size r4.1 ≤ cap)) (lett ((ByteArray.append (ByteArray.append v2 s_20) r4.1) : ByteArray) fun v5 => cond (decide (ByteArray.size v5 + ByteArray.size s_0a ≤ cap)) (t.2.2.1 (a0, a1, (ByteArray.append v5 s_0a), (w64 (a3 + (1 : Int))), ())) none) none) none) none) none) none) none) none) none) (some (a2, ()))
def spec_l24Repo.tab (m : Nat) : Nat → spec_l24Repo.Tab
  | 0 => (fun _ => none, fun _ => none, fun _ => none, ())
  | k + 1 => (fun x => spec_l24Repo.b0 m (spec_l24Repo.tab m k) x.1 x.2.1 x.2.2.1 x.2.2.2.1, fun x => spec_l24Repo.b1 m (spec_l24Repo.tab m k) x.1 x.2.1 x.2.2.1 x.2.2.2.1 x.2.2.2.2.1, fun x => spec_l24Repo.b2 m (spec_l24Repo.tab m k) x.1 x.2.1 x.2.2.1 x.2.2.2.1, ())
def spec_l24Repo (m : Nat) (x : Den [.list (.pair (.list (.int .i64)) (.pair (.str) (.list (.pair (.str) (.list (.str)))))), .list (.pair (.str) (.int .i64))]) : Option spec_l24Repo.R := spec_l24Repo.start m (spec_l24Repo.tab m m) x.1 x.2.1
def spec_l24Repo.cons (m : Nat) : List (Nat × Contract) := [(85, ⟨spec_l1Dec.sig, spec_l1Dec m⟩), (86, ⟨spec_l24Tree.sig, spec_l24Tree m⟩)]
def spec_l24Repo.cuts (m : Nat) : List (CutF (Den spec_l24Repo.sig.us)) := [⟨[false, true, false, true, true], 58, ⟨[.box [.dat (.list (.pair (.list (.int .i64)) (.pair (.str) (.list (.pair (.str) (.list (.str))))))), .dat (.list (.pair (.str) (.int .i64)))]], [(1, .l (.ptr 0 0)), (3, .l (.dat (.str))), (4, .l (.dat (.int .i64)))]⟩, [.list (.pair (.list (.int .i64)) (.pair (.str) (.list (.pair (.str) (.list (.str)))))), .list (.pair (.str) (.int .i64)), .str, .int .i64], fun k => (spec_l24Repo.tab m k).1⟩,
  ⟨[false, true, false, true, false, false, true, false, false, true, false, true, true], 14922, ⟨[.box [.dat (.list (.pair (.list (.int .i64)) (.pair (.str) (.list (.pair (.str) (.list (.str))))))), .dat (.list (.pair (.str) (.int .i64)))]], [(1, .l (.ptr 0 0)), (3, .l (.dat (.str))), (4, .l (.dat (.int .i64))), (5, .l (.dat (.int .i64)))]⟩, [.list (.pair (.list (.int .i64)) (.pair (.str) (.list (.pair (.str) (.list (.str)))))), .list (.pair (.str) (.int .i64)), .str, .int .i64, .int .i64], fun k => (spec_l24Repo.tab m k).2.1⟩,
  ⟨[false, true, false, true, true, true], 122, ⟨[.box [.dat (.list (.pair (.list (.int .i64)) (.pair (.str) (.list (.pair (.str) (.list (.str))))))), .dat (.list (.pair (.str) (.int .i64)))]], [(1, .l (.ptr 0 0)), (3, .l (.dat (.str))), (6, .l (.dat (.int .i64)))]⟩, [.list (.pair (.list (.int .i64)) (.pair (.str) (.list (.pair (.str) (.list (.str)))))), .list (.pair (.str) (.int .i64)), .str, .int .i64], fun k => (spec_l24Repo.tab m k).2.2.1⟩]
theorem spec_l24Repo.eq0 (m k : Nat) (x : Den [.list (.pair (.list (.int .i64)) (.pair (.str) (.list (.pair (.str) (.list (.str)))))), .list (.pair (.str) (.int .i64)), .str, .int .i64]) : (spec_l24Repo.tab m (k + 1)).1 x = runF ⟨lookΓ Γl, lookC (spec_l24Repo.cons m), false⟩ Tryz.f45 spec_l24Repo.sig (spec_l24Repo.cuts m) k [false, true, false, true, true] ⟨[.box [.dat (.list (.pair (.list (.int .i64)) (.pair (.str) (.list (.pair (.str) (.list (.str))))))), .dat (.list (.pair (.str) (.int .i64)))]], [(1, .l (.ptr 0 0)), (3, .l (.dat (.str))), (4, .l (.dat (.int .i64)))]⟩ [.list (.pair (.list (.int .i64)) (.pair (.str) (.list (.pair (.str) (.list (.str)))))), .list (.pair (.str) (.int .i64)), .str, .int .i64] x := by kernel_rfl
theorem spec_l24Repo.eq1 (m k : Nat) (x : Den [.list (.pair (.list (.int .i64)) (.pair (.str) (.list (.pair (.str) (.list (.str)))))), .list (.pair (.str) (.int .i64)), .str, .int .i64, .int .i64]) : (spec_l24Repo.tab m (k + 1)).2.1 x = runF ⟨lookΓ Γl, lookC (spec_l24Repo.cons m), false⟩ Tryz.f45 spec_l24Repo.sig (spec_l24Repo.cuts m) k [false, true, false, true, false, false, true, false, false, true, false, true, true] ⟨[.box [.dat (.list (.pair (.list (.int .i64)) (.pair (.str) (.list (.pair (.str) (.list (.str))))))), .dat (.list (.pair (.str) (.int .i64)))]], [(1, .l (.ptr 0 0)), (3, .l (.dat (.str))), (4, .l (.dat (.int .i64))), (5, .l (.dat (.int .i64)))]⟩ [.list (.pair (.list (.int .i64)) (.pair (.str) (.list (.pair (.str) (.list (.str)))))), .list (.pair (.str) (.int .i64)), .str, .int .i64, .int .i64] x := by kernel_rfl
theorem spec_l24Repo.eq2 (m k : Nat) (x : Den [.list (.pair (.list (.int .i64)) (.pair (.str) (.list (.pair (.str) (.list (.str)))))), .list (.pair (.str) (.int .i64)), .str, .int .i64]) : (spec_l24Repo.tab m (k + 1)).2.2.1 x = runF ⟨lookΓ Γl, lookC (spec_l24Repo.cons m), false⟩ Tryz.f45 spec_l24Repo.sig (spec_l24Repo.cuts m) k [false, true, false, true, true, true] ⟨[.box [.dat (.list (.pair (.list (.int .i64)) (.pair (.str) (.list (.pair (.str) (.list (.str))))))), .dat (.list (.pair (.str) (.int .i64)))]], [(1, .l (.ptr 0 0)), (3, .l (.dat (.str))), (6, .l (.dat (.int .i64)))]⟩ [.list (.pair (.list (.int .i64)) (.pair (.str) (.list (.pair (.str) (.list (.str)))))), .list (.pair (.str) (.int .i64)), .str, .int .i64] x := by kernel_rfl
theorem spec_l24Repo.eq (m : Nat) (x : Den spec_l24Repo.sig.ts) : spec_l24Repo m x = startF ⟨lookΓ Γl, lookC (spec_l24Repo.cons m), false⟩ Tryz.f45 spec_l24Repo.sig (spec_l24Repo.cuts m) m x := by kernel_rfl
theorem spec_l24Repo.ok (m : Nat) : Meets Tryz.prog 45 spec_l24Repo.sig (spec_l24Repo m) :=
  fn_is (cx_is tyOk mixed (l := spec_l24Repo.cons m) ⟨spec_l1Dec.ok m, spec_l24Tree.ok m, trivial⟩) (fn := Tryz.f45) Tryz.func45 (by kernel_rfl) (cl := spec_l24Repo.cuts m) ⟨⟨by kernel_rfl, fun _ => rfl, fun k x => spec_l24Repo.eq0 m k x⟩, ⟨by kernel_rfl, fun _ => rfl, fun k x => spec_l24Repo.eq1 m k x⟩, ⟨by kernel_rfl, fun _ => rfl, fun k x => spec_l24Repo.eq2 m k x⟩, trivial⟩ (k := m) (spec_l24Repo.eq m)

/-! ### loop.example/stemma/spec.RepoPut: function 17 -/
abbrev spec_RepoPut.R : Type := Den [.str]
def spec_RepoPut.sig : Sig := ⟨1, ⟨[], [(0, .agg [.dat (.list (.pair (.list (.int .i64)) (.pair (.str) (.list (.pair (.str) (.list (.str))))))), .dat (.list (.pair (.str) (.int .i64)))])]⟩, [.list (.pair (.list (.int .i64)) (.pair (.str) (.list (.pair (.str) (.list (.str)))))), .list (.pair (.str) (.int .i64))], ⟨[], [(0, .l (.dat (.str)))]⟩, [.str]⟩
abbrev spec_RepoPut.Tab : Type := Unit
def spec_RepoPut.start (m : Nat) (t : spec_RepoPut.Tab) (x0 : List (List Int × ByteArray × List (ByteArray × List ByteArray))) (x1 : List (ByteArray × Int)) : Option spec_RepoPut.R :=
  Option.bind (spec_l7Ok m (x0, x1, ())) fun r1 => cond (!r1.1) (some (ByteArray.empty, ())) (Option.bind (spec_l24Repo m (x0, x1, ())) fun r2 => some (r2.1, ()))
def spec_RepoPut.tab (m : Nat) : Nat → spec_RepoPut.Tab
  | 0 => (())
  | k + 1 => (())
def spec_RepoPut (m : Nat) (x : Den [.list (.pair (.list (.int .i64)) (.pair (.str) (.list (.pair (.str) (.list (.str)))))), .list (.pair (.str) (.int .i64))]) : Option spec_RepoPut.R := spec_RepoPut.start m (spec_RepoPut.tab m m) x.1 x.2.1
def spec_RepoPut.cons (m : Nat) : List (Nat × Contract) := [(35, ⟨spec_l7Ok.sig, spec_l7Ok m⟩), (45, ⟨spec_l24Repo.sig, spec_l24Repo m⟩)]
def spec_RepoPut.cuts (m : Nat) : List (CutF (Den spec_RepoPut.sig.us)) := []
theorem spec_RepoPut.eq (m : Nat) (x : Den spec_RepoPut.sig.ts) : spec_RepoPut m x = startF ⟨lookΓ Γl, lookC (spec_RepoPut.cons m), false⟩ Tryz.f17 spec_RepoPut.sig (spec_RepoPut.cuts m) m x := by kernel_rfl
theorem spec_RepoPut.ok (m : Nat) : Meets Tryz.prog 17 spec_RepoPut.sig (spec_RepoPut m) :=
  fn_is (cx_is tyOk mixed (l := spec_RepoPut.cons m) ⟨spec_l7Ok.ok m, spec_l24Repo.ok m, trivial⟩) (fn := Tryz.f17) Tryz.func17 (by kernel_rfl) (cl := spec_RepoPut.cuts m) trivial (k := m) (spec_RepoPut.eq m)

/-! ### loop.example/stemma/impl.within: function 78 -/
abbrev impl_within.R : Type := Den [.bool]
def impl_within.sig : Sig := ⟨3, ⟨[], [(0, .l (.dat (.int .i64))), (1, .l (.dat (.int .i64))), (2, .l (.dat (.int .i64)))]⟩, [.int .i64, .int .i64, .int .i64], ⟨[], [(0, .l (.dat (.bool)))]⟩, [.bool]⟩
abbrev impl_within.Tab : Type := Unit
def impl_within.start (m : Nat) (t : impl_within.Tab) (x0 : Int) (x1 : Int) (x2 : Int) : Option impl_within.R :=
  cond (decide (x0 ≥ x1)) (some ((decide (x0 ≤ x2)), ())) (some (false, ()))
def impl_within.tab (m : Nat) : Nat → impl_within.Tab
  | 0 => (())
  | k + 1 => (())
def impl_within (m : Nat) (x : Den [.int .i64, .int .i64, .int .i64]) : Option impl_within.R := impl_within.start m (impl_within.tab m m) x.1 x.2.1 x.2.2.1
def impl_within.cons (m : Nat) : List (Nat × Contract) := []
def impl_within.cuts (m : Nat) : List (CutF (Den impl_within.sig.us)) := []
theorem impl_within.eq (m : Nat) (x : Den impl_within.sig.ts) : impl_within m x = startF ⟨lookΓ Γl, lookC (impl_within.cons m), false⟩ Tryz.f78 impl_within.sig (impl_within.cuts m) m x := by kernel_rfl
theorem impl_within.ok (m : Nat) : Meets Tryz.prog 78 impl_within.sig (impl_within m) :=
  fn_is (cx_is tyOk mixed (l := impl_within.cons m) trivial) (fn := Tryz.f78) Tryz.func78 (by kernel_rfl) (cl := impl_within.cuts m) trivial (k := m) (impl_within.eq m)

/-! ### slices.Index[[]int,int]: function 124 -/
abbrev slices_Index_int.R : Type := Den [.int .i64]
def slices_Index_int.sig : Sig := ⟨2, ⟨[], [(0, .l (.dat (.list (.int .i64)))), (1, .l (.dat (.int .i64)))]⟩, [.list (.int .i64), .int .i64], ⟨[], [(0, .l (.dat (.int .i64)))]⟩, [.int .i64]⟩
abbrev slices_Index_int.Tab : Type := (Den [.list (.int .i64), .int .i64, .int .i64, .int .i64] → Option slices_Index_int.R) × Unit
def slices_Index_int.start (m : Nat) (t : slices_Index_int.Tab) (x0 : List Int) (x1 : Int) : Option slices_Index_int.R :=
  t.1 (x0, x1, (lLen x0), (0 : Int), ())
def slices_Index_int.b0 (m : Nat) (t : slices_Index_int.Tab) (a0 : List Int) (a1 : Int) (a2 : Int) (a3 : Int) : Option slices_Index_int.R :=
  cond (decide (a3 < a2)) (cond (decide ((0 : Int) ≤ a3)) (cond (decide (a3 < lLen a0)) (cond (a1 == (getL a0 a3 (0 : Int))) (some (a3, ())) (t.1 (a0, a1, a2, (w64 (a3 + (1 : Int))), ()))) none) none) (some ((-1 : Int), ()))
def slices_Index_int.tab (m : Nat) : Nat → slices_Index_int.Tab
  | 0 => (fun _ => none, ())
  | k + 1 => (fun x => slices_Index_int.b0 m (slices_Index_int.tab m k) x.1 x.2.1 x.2.2.1 x.2.2.2.1, ())
def slices_Index_int (m : Nat) (x : Den [.list (.int .i64), .int .i64]) : Option slices_Index_int.R := slices_Index_int.start m (slices_Index_int.tab m m) x.1 x.2.1
def slices_Index_int.cons (m : Nat) : List (Nat × Contract) := []
def slices_Index_int.cuts (m : Nat) : List (CutF (Den slices_Index_int.sig.us)) := [⟨[false, true, false, true], 26, ⟨[], [(0, .l (.dat (.list (.int .i64)))), (1, .l (.dat (.int .i64))), (7, .l (.dat (.int .i64))), (8, .l (.dat (.int .i64)))]⟩, [.list (.int .i64), .int .i64, .int .i64, .int .i64], fun k => (slices_Index_int.tab m k).1⟩]
theorem slices_Index_int.eq0 (m k : Nat) (x : Den [.list (.int .i64), .int .i64, .int .i64, .int .i64]) : (slices_Index_int.tab m (k + 1)).1 x = runF ⟨lookΓ Γl, lookC (slices_Index_int.cons m), false⟩ Tryz.f124 slices_Index_int.sig (slices_Index_int.cuts m) k [false, true, false, true] ⟨[], [(0, .l (.dat (.list (.int .i64)))), (1, .l (.dat (.int .i64))), (7, .l (.dat (.int .i64))), (8, .l (.dat (.int .i64)))]⟩ [.list (.int .i64), .int .i64, .int .i64, .int .i64] x := by kernel_rfl
theorem slices_Index_int.eq (m : Nat) (x : Den slices_Index_int.sig.ts) : slices_Index_int m x = startF ⟨lookΓ Γl, lookC (slices_Index_int.cons m), false⟩ Tryz.f124 slices_Index_int.sig (slices_Index_int.cuts m) m x := by kernel_rfl
theorem slices_Index_int.ok (m : Nat) : Meets Tryz.prog 124 slices_Index_int.sig (slices_Index_int m) :=
  fn_is (cx_is tyOk mixed (l := slices_Index_int.cons m) trivial) (fn := Tryz.f124) Tryz.func124 (by kernel_rfl) (cl := slices_Index_int.cuts m) ⟨⟨by kernel_rfl, fun _ => rfl, fun k x => slices_Index_int.eq0 m k x⟩, trivial⟩ (k := m) (slices_Index_int.eq m)

/-! ### slices.Contains[[]int,int]: function 97 -/
abbrev slices_Contains_int.R : Type := Den [.bool]
def slices_Contains_int.sig : Sig := ⟨2, ⟨[], [(0, .l (.dat (.list (.int .i64)))), (1, .l (.dat (.int .i64)))]⟩, [.list (.int .i64), .int .i64], ⟨[], [(0, .l (.dat (.bool)))]⟩, [.bool]⟩
abbrev slices_Contains_int.Tab : Type := Unit
def slices_Contains_int.start (m : Nat) (t : slices_Contains_int.Tab) (x0 : List Int) (x1 : Int) : Option slices_Contains_int.R :=
  Option.bind (slices_Index_int m (x0, x1, ())) fun r1 => some ((decide (r1.1 ≥ (0 : Int))), ())
def slices_Contains_int.tab (m : Nat) : Nat → slices_Contains_int.Tab
  | 0 => (())
  | k + 1 => (())
def slices_Contains_int (m : Nat) (x : Den [.list (.int .i64), .int .i64]) : Option slices_Contains_int.R := slices_Contains_int.start m (slices_Contains_int.tab m m) x.1 x.2.1
def slices_Contains_int.cons (m : Nat) : List (Nat × Contract) := [(124, ⟨slices_Index_int.sig, slices_Index_int m⟩)]
def slices_Contains_int.cuts (m : Nat) : List (CutF (Den slices_Contains_int.sig.us)) := []
theorem slices_Contains_int.eq (m : Nat) (x : Den slices_Contains_int.sig.ts) : slices_Contains_int m x = startF ⟨lookΓ Γl, lookC (slices_Contains_int.cons m), false⟩ Tryz.f97 slices_Contains_int.sig (slices_Contains_int.cuts m) m x := by kernel_rfl
theorem slices_Contains_int.ok (m : Nat) : Meets Tryz.prog 97 slices_Contains_int.sig (slices_Contains_int m) :=
  fn_is (cx_is tyOk mixed (l := slices_Contains_int.cons m) ⟨slices_Index_int.ok m, trivial⟩) (fn := Tryz.f97) Tryz.func97 (by kernel_rfl) (cl := slices_Contains_int.cuts m) trivial (k := m) (slices_Contains_int.eq m)

/-! ### loop.example/stemma/impl.isNameByte: function 77 -/
abbrev impl_isNameByte.R : Type := Den [.bool]
def impl_isNameByte.sig : Sig := ⟨1, ⟨[], [(0, .l (.dat (.int .u8)))]⟩, [.int .u8], ⟨[], [(0, .l (.dat (.bool)))]⟩, [.bool]⟩
abbrev impl_isNameByte.Tab : Type := Unit
def impl_isNameByte.start (m : Nat) (t : impl_isNameByte.Tab) (x0 : Int) : Option impl_isNameByte.R :=
  cond (decide (x0 ≥ (97 : Int))) (cond (decide (x0 ≤ (122 : Int))) (some (true, ())) (cond (decide (x0 ≥ (48 : Int))) (some ((decide (x0 ≤ (57 : Int))), ())) (some (false, ())))) (cond (decide (x0 ≥ (48 : Int))) (some ((decide (x0 ≤ (57 : Int))), ())) (some (false, ())))
def impl_isNameByte.tab (m : Nat) : Nat → impl_isNameByte.Tab
  | 0 => (())
  | k + 1 => (())
def impl_isNameByte (m : Nat) (x : Den [.int .u8]) : Option impl_isNameByte.R := impl_isNameByte.start m (impl_isNameByte.tab m m) x.1
def impl_isNameByte.cons (m : Nat) : List (Nat × Contract) := []
def impl_isNameByte.cuts (m : Nat) : List (CutF (Den impl_isNameByte.sig.us)) := []
theorem impl_isNameByte.eq (m : Nat) (x : Den impl_isNameByte.sig.ts) : impl_isNameByte m x = startF ⟨lookΓ Γl, lookC (impl_isNameByte.cons m), false⟩ Tryz.f77 impl_isNameByte.sig (impl_isNameByte.cuts m) m x := by kernel_rfl
theorem impl_isNameByte.ok (m : Nat) : Meets Tryz.prog 77 impl_isNameByte.sig (impl_isNameByte m) :=
  fn_is (cx_is tyOk mixed (l := impl_isNameByte.cons m) trivial) (fn := Tryz.f77) Tryz.func77 (by kernel_rfl) (cl := impl_isNameByte.cuts m) trivial (k := m) (impl_isNameByte.eq m)

/-! ### loop.example/stemma/impl.nameOk: function 39 -/
abbrev impl_nameOk.R : Type := Den [.bool]
def impl_nameOk.sig : Sig := ⟨1, ⟨[], [(0, .l (.dat (.str)))]⟩, [.str], ⟨[], [(0, .l (.dat (.bool)))]⟩, [.bool]⟩
abbrev impl_nameOk.Tab : Type := (Den [.str, .int .i64, .int .i64] → Option impl_nameOk.R) × Unit
def impl_nameOk.start (m : Nat) (t : impl_nameOk.Tab) (x0 : ByteArray) : Option impl_nameOk.R :=
  t.1 (x0, (sLen x0), (0 : Int), ())
def impl_nameOk.b0 (m : Nat) (t : impl_nameOk.Tab) (a0 : ByteArray) (a1 : Int) (a2 : Int) : Option impl_nameOk.R :=
  cond (decide (a2 < a1)) (cond (decide ((0 : Int) ≤ a2)) (cond (decide (a2 < sLen a0)) (Option.bind (impl_isNameByte m ((byteAt a0 a2), ())) fun r1 => cond (!r1.1) (some (false, ())) (t.1 (a0, a1, (w64 (a2 + (1 : Int))), ()))) none) none) (Option.bind (impl_within m ((sLen a0), (1 : Int), (6 : Int), ())) fun r2 => some (r2.1, ()))
def impl_nameOk.tab (m : Nat) : Nat → impl_nameOk.Tab
  | 0 => (fun _ => none, ())
  | k + 1 => (fun x => impl_nameOk.b0 m (impl_nameOk.tab m k) x.1 x.2.1 x.2.2.1, ())
def impl_nameOk (m : Nat) (x : Den [.str]) : Option impl_nameOk.R := impl_nameOk.start m (impl_nameOk.tab m m) x.1
def impl_nameOk.cons (m : Nat) : List (Nat × Contract) := [(77, ⟨impl_isNameByte.sig, impl_isNameByte m⟩), (78, ⟨impl_within.sig, impl_within m⟩)]
def impl_nameOk.cuts (m : Nat) : List (CutF (Den impl_nameOk.sig.us)) := [⟨[false, true, false, true], 26, ⟨[], [(0, .l (.dat (.str))), (5, .l (.dat (.int .i64))), (6, .l (.dat (.int .i64)))]⟩, [.str, .int .i64, .int .i64], fun k => (impl_nameOk.tab m k).1⟩]
theorem impl_nameOk.eq0 (m k : Nat) (x : Den [.str, .int .i64, .int .i64]) : (impl_nameOk.tab m (k + 1)).1 x = runF ⟨lookΓ Γl, lookC (impl_nameOk.cons m), false⟩ Tryz.f39 impl_nameOk.sig (impl_nameOk.cuts m) k [false, true, false, true] ⟨[], [(0, .l (.dat (.str))), (5, .l (.dat (.int .i64))), (6, .l (.dat (.int .i64)))]⟩ [.str, .int .i64, .int .i64] x := by kernel_rfl
theorem impl_nameOk.eq (m : Nat) (x : Den impl_nameOk.sig.ts) : impl_nameOk m x = startF ⟨lookΓ Γl, lookC (impl_nameOk.cons m), false⟩ Tryz.f39 impl_nameOk.sig (impl_nameOk.cuts m) m x := by kernel_rfl
theorem impl_nameOk.ok (m : Nat) : Meets Tryz.prog 39 impl_nameOk.sig (impl_nameOk m) :=
  fn_is (cx_is tyOk mixed (l := impl_nameOk.cons m) ⟨impl_isNameByte.ok m, impl_within.ok m, trivial⟩) (fn := Tryz.f39) Tryz.func39 (by kernel_rfl) (cl := impl_nameOk.cuts m) ⟨⟨by kernel_rfl, fun _ => rfl, fun k x => impl_nameOk.eq0 m k x⟩, trivial⟩ (k := m) (impl_nameOk.eq m)

/-! ### internal/bytealg.CountString: function 192 -/
def internal_bytealg_CountString.sig : Sig := cntByteSig
def internal_bytealg_CountString (m : Nat) (x : Den [.str, .int .u8]) : Option (Den [.int .i64]) := cntByteF x
theorem internal_bytealg_CountString.ok (m : Nat) : Meets Tryz.prog 192 internal_bytealg_CountString.sig (internal_bytealg_CountString m) := cntByte_meets (fn := Tryz.f192) Tryz.func192 (by kernel_rfl) (by kernel_rfl) (by kernel_rfl) (by kernel_rfl)

/-! ### internal/bytealg.IndexByteString: function 204 -/
def internal_bytealg_IndexByteString.sig : Sig := idxByteSig
def internal_bytealg_IndexByteString (m : Nat) (x : Den [.str, .int .u8]) : Option (Den [.int .i64]) := idxByteF x
theorem internal_bytealg_IndexByteString.ok (m : Nat) : Meets Tryz.prog 204 internal_bytealg_IndexByteString.sig (internal_bytealg_IndexByteString m) := idxByte_meets (fn := Tryz.f204) Tryz.func204 (by kernel_rfl) (by kernel_rfl) (by kernel_rfl) (by kernel_rfl)

/-! ### internal/stringslite.IndexByte: function 198 -/
abbrev internal_stringslite_IndexByte.R : Type := Den [.int .i64]
def internal_stringslite_IndexByte.sig : Sig := ⟨2, ⟨[], [(0, .l (.dat (.str))), (1, .l (.dat (.int .u8)))]⟩, [.str, .int .u8], ⟨[], [(0, .l (.dat (.int .i64)))]⟩, [.int .i64]⟩
abbrev internal_stringslite_IndexByte.Tab : Type := Unit
def internal_stringslite_IndexByte.start (m : Nat) (t : internal_stringslite_IndexByte.Tab) (x0 : ByteArray) (x1 : Int) : Option internal_stringslite_IndexByte.R :=
  Option.bind (internal_bytealg_IndexByteString m (x0, x1, ())) fun r1 => some (r1.1, ())
def internal_stringslite_IndexByte.tab (m : Nat) : Nat → internal_stringslite_IndexByte.Tab
  | 0 => (())
  | k + 1 => (())
def internal_stringslite_IndexByte (m : Nat) (x : Den [.str, .int .u8]) : Option internal_stringslite_IndexByte.R := internal_stringslite_IndexByte.start m (internal_stringslite_IndexByte.tab m m) x.1 x.2.1
def internal_stringslite_IndexByte.cons (m : Nat) : List (Nat × Contract) := [(204, ⟨internal_bytealg_IndexByteString.sig, internal_bytealg_IndexByteString m⟩)]
def internal_stringslite_IndexByte.cuts (m : Nat) : List (CutF (Den internal_stringslite_IndexByte.sig.us)) := []
theorem internal_stringslite_IndexByte.eq (m : Nat) (x : Den internal_stringslite_IndexByte.sig.ts) : internal_stringslite_IndexByte m x = startF ⟨lookΓ Γl, lookC (internal_stringslite_IndexByte.cons m), false⟩ Tryz.f198 internal_stringslite_IndexByte.sig (internal_stringslite_IndexByte.cuts m) m x := by kernel_rfl
theorem internal_stringslite_IndexByte.ok (m : Nat) : Meets Tryz.prog 198 internal_stringslite_IndexByte.sig (internal_stringslite_IndexByte m) :=
  fn_is (cx_is tyOk mixed (l := internal_stringslite_IndexByte.cons m) ⟨internal_bytealg_IndexByteString.ok m, trivial⟩) (fn := Tryz.f198) Tryz.func198 (by kernel_rfl) (cl := internal_stringslite_IndexByte.cuts m) trivial (k := m) (internal_stringslite_IndexByte.eq m)

/-! ### internal/stringslite.Index: function 193 -/
abbrev internal_stringslite_Index.R : Type := Den [.int .i64]
def internal_stringslite_Index.sig : Sig := ⟨2, ⟨[], [(0, .l (.dat (.str))), (1, .l (.dat (.str)))]⟩, [.str, .str], ⟨[], [(0, .l (.dat (.int .i64)))]⟩, [.int .i64]⟩
abbrev internal_stringslite_Index.Tab : Type := (Den [.str, .str, .int .i64, .bool] → Option internal_stringslite_Index.R) × Unit
def internal_stringslite_Index.start (m : Nat) (t : internal_stringslite_Index.Tab) (x0 : ByteArray) (x1 : ByteArray) : Option internal_stringslite_Index.R :=
  cond ((sLen x1) == (0 : Int)) (t.1 (x0, x1, (sLen x1), true, ())) (t.1 (x0, x1, (sLen x1), (sEq x1 x0), ()))
def internal_stringslite_Index.b0 (m : Nat) (t : internal_stringslite_Index.Tab) (a0 : ByteArray) (a1 : ByteArray) (a2 : Int) (a3 : Bool) : Option internal_stringslite_Index.R :=
  cond a3 (some ((0 : Int), ())) (cond (a2 == (1 : Int)) (cond (decide ((0 : Int) ≤ (0 : Int))) (cond (decide ((0 : Int) < sLen a1)) (Option.bind (internal_stringslite_IndexByte m (a0, (byteAt a1 (0 : Int)), ())) fun r1 => some (r1.1, ())) none) none) (cond (decide (a2 ≥ (sLen a0))) (some ((-1 : Int), ())) (none)))
def internal_stringslite_Index.tab (m : Nat) : Nat → internal_stringslite_Index.Tab
  | 0 => (fun _ => none, ())
  | k + 1 => (fun x => internal_stringslite_Index.b0 m (internal_stringslite_Index.tab m k) x.1 x.2.1 x.2.2.1 x.2.2.2.1, ())
def internal_stringslite_Index (m : Nat) (x : Den [.str, .str]) : Option internal_stringslite_Index.R := internal_stringslite_Index.start m (internal_stringslite_Index.tab m m) x.1 x.2.1
def internal_stringslite_Index.cons (m : Nat) : List (Nat × Contract) := [(198, ⟨internal_stringslite_IndexByte.sig, internal_stringslite_IndexByte m⟩)]
def internal_stringslite_Index.cuts (m : Nat) : List (CutF (Den internal_stringslite_Index.sig.us)) := [⟨[true, false, false, true, true], 57, ⟨[], [(0, .l (.dat (.str))), (1, .l (.dat (.str))), (5, .l (.dat (.int .i64))), (16, .l (.dat (.bool)))]⟩, [.str, .str, .int .i64, .bool], fun k => (internal_stringslite_Index.tab m k).1⟩]
theorem internal_stringslite_Index.eq0 (m k : Nat) (x : Den [.str, .str, .int .i64, .bool]) : (internal_stringslite_Index.tab m (k + 1)).1 x = runF ⟨lookΓ Γl, lookC (internal_stringslite_Index.cons m), false⟩ Tryz.f193 internal_stringslite_Index.sig (internal_stringslite_Index.cuts m) k [true, false, false, true, true] ⟨[], [(0, .l (.dat (.str))), (1, .l (.dat (.str))), (5, .l (.dat (.int .i64))), (16, .l (.dat (.bool)))]⟩ [.str, .str, .int .i64, .bool] x := by kernel_rfl
theorem internal_stringslite_Index.eq (m : Nat) (x : Den internal_stringslite_Index.sig.ts) : internal_stringslite_Index m x = startF ⟨lookΓ Γl, lookC (internal_stringslite_Index.cons m), false⟩ Tryz.f193 internal_stringslite_Index.sig (internal_stringslite_Index.cuts m) m x := by kernel_rfl
theorem internal_stringslite_Index.ok (m : Nat) : Meets Tryz.prog 193 internal_stringslite_Index.sig (internal_stringslite_Index m) :=
  fn_is (cx_is tyOk mixed (l := internal_stringslite_Index.cons m) ⟨internal_stringslite_IndexByte.ok m, trivial⟩) (fn := Tryz.f193) Tryz.func193 (by kernel_rfl) (cl := internal_stringslite_Index.cuts m) ⟨⟨by kernel_rfl, fun _ => rfl, fun k x => internal_stringslite_Index.eq0 m k x⟩, trivial⟩ (k := m) (internal_stringslite_Index.eq m)

/-! ### strings.Index: function 178 -/
abbrev strings_Index.R : Type := Den [.int .i64]
def strings_Index.sig : Sig := ⟨2, ⟨[], [(0, .l (.dat (.str))), (1, .l (.dat (.str)))]⟩, [.str, .str], ⟨[], [(0, .l (.dat (.int .i64)))]⟩, [.int .i64]⟩
abbrev strings_Index.Tab : Type := Unit
def strings_Index.start (m : Nat) (t : strings_Index.Tab) (x0 : ByteArray) (x1 : ByteArray) : Option strings_Index.R :=
  Option.bind (internal_stringslite_Index m (x0, x1, ())) fun r1 => some (r1.1, ())
def strings_Index.tab (m : Nat) : Nat → strings_Index.Tab
  | 0 => (())
  | k + 1 => (())
def strings_Index (m : Nat) (x : Den [.str, .str]) : Option strings_Index.R := strings_Index.start m (strings_Index.tab m m) x.1 x.2.1
def strings_Index.cons (m : Nat) : List (Nat × Contract) := [(193, ⟨internal_stringslite_Index.sig, internal_stringslite_Index m⟩)]
def strings_Index.cuts (m : Nat) : List (CutF (Den strings_Index.sig.us)) := []
theorem strings_Index.eq (m : Nat) (x : Den strings_Index.sig.ts) : strings_Index m x = startF ⟨lookΓ Γl, lookC (strings_Index.cons m), false⟩ Tryz.f178 strings_Index.sig (strings_Index.cuts m) m x := by kernel_rfl
theorem strings_Index.ok (m : Nat) : Meets Tryz.prog 178 strings_Index.sig (strings_Index m) :=
  fn_is (cx_is tyOk mixed (l := strings_Index.cons m) ⟨internal_stringslite_Index.ok m, trivial⟩) (fn := Tryz.f178) Tryz.func178 (by kernel_rfl) (cl := strings_Index.cuts m) trivial (k := m) (strings_Index.eq m)

/-! ### strings.Count: function 177 -/
abbrev strings_Count.R : Type := Den [.int .i64]
def strings_Count.sig : Sig := ⟨2, ⟨[], [(0, .l (.dat (.str))), (1, .l (.dat (.str)))]⟩, [.str, .str], ⟨[], [(0, .l (.dat (.int .i64)))]⟩, [.int .i64]⟩
abbrev strings_Count.Tab : Type := (Den [.str, .str, .int .i64] → Option strings_Count.R) × Unit
def strings_Count.start (m : Nat) (t : strings_Count.Tab) (x0 : ByteArray) (x1 : ByteArray) : Option strings_Count.R :=
  cond ((sLen x1) == (0 : Int)) (none) (cond ((sLen x1) == (1 : Int)) (cond (decide ((0 : Int) ≤ (0 : Int))) (cond (decide ((0 : Int) < sLen x1)) (Option.bind (internal_bytealg_CountString m (x0, (byteAt x1 (0 : Int)), ())) fun r1 => some (r1.1, ())) none) none) (t.1 (x0, x1, (0 : Int), ())))
def strings_Count.b0 (m : Nat) (t : strings_Count.Tab) (a0 : ByteArray) (a1 : ByteArray) (a2 : Int) : Option strings_Count.R :=
  Option.bind (strings_Index m (a0, a1, ())) fun r1 => cond (r1.1 == (-1 : Int)) (some (a2, ())) (cond (decide ((0 : Int) ≤ (w64 (r1.1 + (sLen a1))))) (cond (decide ((w64 (r1.1 + (sLen a1))) ≤ (ByteArray.size a0 : Int))) (lett ((cutS a0 (Int.toNat (w64 (r1.1 + (sLen a1)))) (ByteArray.size a0)) : ByteArray) fun v2 => t.1 (v2, a1, (w64 (a2 + (1 : Int))), ())) none) none)
def strings_Count.tab (m : Nat) : Nat → strings_Count.Tab
  | 0 => (fun _ => none, ())
  | k + 1 => (fun x => strings_Count.b0 m (strings_Count.tab m k) x.1 x.2.1 x.2.2.1, ())
def strings_Count (m : Nat) (x : Den [.str, .str]) : Option strings_Count.R := strings_Count.start m (strings_Count.tab m m) x.1 x.2.1
def strings_Count.cons (m : Nat) : List (Nat × Contract) := [(192, ⟨internal_bytealg_CountString.sig, internal_bytealg_CountString m⟩), (178, ⟨strings_Index.sig, strings_Index m⟩)]
def strings_Count.cuts (m : Nat) : List (CutF (Den strings_Count.sig.us)) := [⟨[false, true, true, true, true], 62, ⟨[], [(0, .l (.dat (.str))), (1, .l (.dat (.str))), (5, .l (.dat (.int .i64)))]⟩, [.str, .str, .int .i64], fun k => (strings_Count.tab m k).1⟩]
theorem strings_Count.eq0 (m k : Nat) (x : Den [.str, .str, .int .i64]) : (strings_Count.tab m (k + 1)).1 x = runF ⟨lookΓ Γl, lookC (strings_Count.cons m), false⟩ Tryz.f177 strings_Count.sig (strings_Count.cuts m) k [false, true, true, true, true] ⟨[], [(0, .l (.dat (.str))), (1, .l (.dat (.str))), (5, .l (.dat (.int .i64)))]⟩ [.str, .str, .int .i64] x := by kernel_rfl
theorem strings_Count.eq (m : Nat) (x : Den strings_Count.sig.ts) : strings_Count m x = startF ⟨lookΓ Γl, lookC (strings_Count.cons m), false⟩ Tryz.f177 strings_Count.sig (strings_Count.cuts m) m x := by kernel_rfl
theorem strings_Count.ok (m : Nat) : Meets Tryz.prog 177 strings_Count.sig (strings_Count m) :=
  fn_is (cx_is tyOk mixed (l := strings_Count.cons m) ⟨internal_bytealg_CountString.ok m, strings_Index.ok m, trivial⟩) (fn := Tryz.f177) Tryz.func177 (by kernel_rfl) (cl := strings_Count.cuts m) ⟨⟨by kernel_rfl, fun _ => rfl, fun k x => strings_Count.eq0 m k x⟩, trivial⟩ (k := m) (strings_Count.eq m)

/-! ### strings.genSplit: function 148 -/
abbrev strings_genSplit.R : Type := Den [.list (.str)]
def strings_genSplit.sig : Sig := ⟨4, ⟨[], [(0, .l (.dat (.str))), (1, .l (.dat (.str))), (2, .l (.dat (.int .i64))), (3, .l (.dat (.int .i64)))]⟩, [.str, .str, .int .i64, .int .i64], ⟨[], [(0, .l (.dat (.list (.str))))]⟩, [.list (.str)]⟩
abbrev strings_genSplit.Tab : Type := (Den [.list (.str), .str, .str, .int .i64, .int .i64, .int .i64] → Option strings_genSplit.R) × (Den [.str, .str, .int .i64, .int .i64] → Option strings_genSplit.R) × Unit
def strings_genSplit.start (m : Nat) (t : strings_genSplit.Tab) (x0 : ByteArray) (x1 : ByteArray) (x2 : Int) (x3 : Int) : Option strings_genSplit.R :=
  cond (x3 == (0 : Int)) (some ([], ())) (cond (sEq x1 ByteArray.empty) (none) (cond (decide (x3 < (0 : Int))) (Option.bind (strings_Count m (x0, x1, ())) fun r1 => t.2.1 (x0, x1, x2, (w64 (r1.1 + (1 : Int))), ())) (t.2.1 (x0, x1, x2, x3, ()))))
def strings_genSplit.b0 (m : Nat) (t : strings_genSplit.Tab) (a0 : List ByteArray) (a1 : ByteArray) (a2 : ByteArray) (a3 : Int) (a4 : Int) (a5 : Int) : Option strings_genSplit.R :=
  cond (decide (a5 < a4)) (Option.bind (strings_Index m (a1, a2, ())) fun r1 => cond (decide (r1.1 < (0 : Int))) (cond (decide ((0 : Int) ≤ a5)) (cond (decide (a5 < lLen a0)) (cond (decide ((0 : Int) ≤ (w64 (a5 + (1 : Int))))) (cond (decide ((w64 (a5 + (1 : Int))) ≤ ((List.length (List.set a0 (Int.toNat a5) a1)) : Int))) (lett ((List.take (Int.toNat (w64 (a5 + (1 : Int)))) (List.set a0 (Int.toNat a5) a1)) : List ByteArray) fun v2 => some (v2, ())) none) none) none) none) (cond (decide ((0 : Int) ≤ (w64 (r1.1 + a3)))) (cond (decide ((w64 (r1.1 + a3)) ≤ (ByteArray.size a1 : Int))) (lett ((cutS a1 0 (Int.toNat (w64 (r1.1 + a3)))) : ByteArray) fun v3 => cond (decide ((0 : Int) ≤ a5)) (cond (decide (a5 < lLen a0)) (cond (decide ((0 : Int) ≤ (w64 (r1.1 + (sLen a2))))) (cond (decide ((w64 (r1.1 + (sLen a2))) ≤ (ByteArray.size a1 : Int))) (lett ((cutS a1 (Int.toNat (w64 (r1.1 + (sLen a2)))) (ByteArray.size a1)) : ByteArray) fun v4 => t.1 ((List.set a0 (Int.toNat a5) v3), v4, a2, a3, a4, (w64 (a5 + (1 : Int))), ())) none) none) none) none) none) none)) (cond (decide ((0 : Int) ≤ a5)) (cond (decide (a5 < lLen a0)) (cond (decide ((0 : Int) ≤ (w64 (a5 + (1 : Int))))) (cond (decide ((w64 (a5 + (1 : Int))) ≤ ((List.length (List.set a0 (Int.toNat a5) a1)) : Int))) (lett ((List.take (Int.toNat (w64 (a5 + (1 : Int)))) (List.set a0 (Int.toNat a5) a1)) : List ByteArray) fun v5 => some (v5, ())) none) none) none) none)
def strings_genSplit.b1 (m : Nat) (t : strings_genSplit.Tab) (a0 : ByteArray) (a1 : ByteArray) (a2 : Int) (a3 : Int) : Option strings_genSplit.R :=
  cond (decide ((0 : Int) ≤ (minI a3 (w64 ((sLen a0) + (1 : Int)))))) (cond (decide (Int.toNat (minI a3 (w64 ((sLen a0) + (1 : Int)))) ≤ apCap)) (lett ((List.replicate (Int.toNat (minI a3 (w64 ((sLen a0) + (1 : Int))))) ByteArray.empty) : List ByteArray) fun v1 => lett ((w64 ((minI a3 (w64 ((sLen a0) + (1 : Int)))) - (1 : Int))) : Int) fun v2 => t.1 (v1, a0, a1, a2, v2, (0 : Int), ())) none) none
def strings_genSplit.tab (m : Nat) : Nat → strings_genSplit.Tab
  | 0 => (fun _ => none, fun _ => none, ())
  | k + 1 => (fun x => strings_genSplit.b0 m (strings_genSplit.tab m k) x.1 x.2.1 x.2.2.1 x.2.2.2.1 x.2.2.2.2.1 x.2.2.2.2.2.1, fun x => strings_genSplit.b1 m (strings_genSplit.tab m k) x.1 x.2.1 x.2.2.1 x.2.2.2.1, ())
def strings_genSplit (m : Nat) (x : Den [.str, .str, .int .i64, .int .i64]) : Option strings_genSplit.R := strings_genSplit.start m (strings_genSplit.tab m m) x.1 x.2.1 x.2.2.1 x.2.2.2.1
def strings_genSplit.cons (m : Nat) : List (Nat × Contract) := [(177, ⟨strings_Count.sig, strings_Count m⟩), (178, ⟨strings_Index.sig, strings_Index m⟩)]
def strings_genSplit.cuts (m : Nat) : List (CutF (Den strings_genSplit.sig.us)) := [⟨[false, false, true, true, true, true, true, true, true, true], 2044, ⟨[.row true (.str)], [(0, .l (.dat (.str))), (1, .l (.dat (.str))), (2, .l (.dat (.int .i64))), (3, .l (.dat (.int .i64))), (9, .l (.sl 0)), (10, .l (.dat (.int .i64)))]⟩, [.list (.str), .str, .str, .int .i64, .int .i64, .int .i64], fun k => (strings_genSplit.tab m k).1⟩,
  ⟨[true, true, true, true], 31, ⟨[], [(0, .l (.dat (.str))), (1, .l (.dat (.str))), (2, .l (.dat (.int .i64))), (3, .l (.dat (.int .i64)))]⟩, [.str, .str, .int .i64, .int .i64], fun k => (strings_genSplit.tab m k).2.1⟩]
theorem strings_genSplit.eq0 (m k : Nat) (x : Den [.list (.str), .str, .str, .int .i64, .int .i64, .int .i64]) : (strings_genSplit.tab m (k + 1)).1 x = runF ⟨lookΓ Γl, lookC (strings_genSplit.cons m), false⟩ Tryz.f148 strings_genSplit.sig (strings_genSplit.cuts m) k [false, false, true, true, true, true, true, true, true, true] ⟨[.row true (.str)], [(0, .l (.dat (.str))), (1, .l (.dat (.str))), (2, .l (.dat (.int .i64))), (3, .l (.dat (.int .i64))), (9, .l (.sl 0)), (10, .l (.dat (.int .i64)))]⟩ [.list (.str), .str, .str, .int .i64, .int .i64, .int .i64] x := by kernel_rfl
theorem strings_genSplit.eq1 (m k : Nat) (x : Den [.str, .str, .int .i64, .int .i64]) : (strings_genSplit.tab m (k + 1)).2.1 x = runF ⟨lookΓ Γl, lookC (strings_genSplit.cons m), false⟩ Tryz.f148 strings_genSplit.sig (strings_genSplit.cuts m) k [true, true, true, true] ⟨[], [(0, .l (.dat (.str))), (1, .l (.dat (.str))), (2, .l (.dat (.int .i64))), (3, .l (.dat (.int .i64)))]⟩ [.str, .str, .int .i64, .int .i64] x := by kernel_rfl
theorem strings_genSplit.eq (m : Nat) (x : Den strings_genSplit.sig.ts) : strings_genSplit m x = startF ⟨lookΓ Γl, lookC (strings_genSplit.cons m), false⟩ Tryz.f148 strings_genSplit.sig (strings_genSplit.cuts m) m x := by kernel_rfl
theorem strings_genSplit.ok (m : Nat) : Meets Tryz.prog 148 strings_genSplit.sig (strings_genSplit m) :=
  fn_is (cx_is tyOk mixed (l := strings_genSplit.cons m) ⟨strings_Count.ok m, strings_Index.ok m, trivial⟩) (fn := Tryz.f148) Tryz.func148 (by kernel_rfl) (cl := strings_genSplit.cuts m) ⟨⟨by kernel_rfl, fun _ => rfl, fun k x => strings_genSplit.eq0 m k x⟩, ⟨by kernel_rfl, fun _ => rfl, fun k x => strings_genSplit.eq1 m k x⟩, trivial⟩ (k := m) (strings_genSplit.eq m)

/-! ### strings.Split: function 125 -/
abbrev strings_Split.R : Type := Den [.list (.str)]
def strings_Split.sig : Sig := ⟨2, ⟨[], [(0, .l (.dat (.str))), (1, .l (.dat (.str)))]⟩, [.str, .str], ⟨[], [(0, .l (.dat (.list (.str))))]⟩, [.list (.str)]⟩
abbrev strings_Split.Tab : Type := Unit
def strings_Split.start (m : Nat) (t : strings_Split.Tab) (x0 : ByteArray) (x1 : ByteArray) : Option strings_Split.R :=
  Option.bind (strings_genSplit m (x0, x1, (0 : Int), (-1 : Int), ())) fun r1 => some (r1.1, ())
def strings_Split.tab (m : Nat) : Nat → strings_Split.Tab
  | 0 => (())
  | k + 1 => (())
def strings_Split (m : Nat) (x : Den [.str, .str]) : Option strings_Split.R := strings_Split.start m (strings_Split.tab m m) x.1 x.2.1
def strings_Split.cons (m : Nat) : List (Nat × Contract) := [(148, ⟨strings_genSplit.sig, strings_genSplit m⟩)]
def strings_Split.cuts (m : Nat) : List (CutF (Den strings_Split.sig.us)) := []
theorem strings_Split.eq (m : Nat) (x : Den strings_Split.sig.ts) : strings_Split m x = startF ⟨lookΓ Γl, lookC (strings_Split.cons m), false⟩ Tryz.f125 strings_Split.sig (strings_Split.cuts m) m x := by kernel_rfl
theorem strings_Split.ok (m : Nat) : Meets Tryz.prog 125 strings_Split.sig (strings_Split m) :=
  fn_is (cx_is tyOk mixed (l := strings_Split.cons m) ⟨strings_genSplit.ok m, trivial⟩) (fn := Tryz.f125) Tryz.func125 (by kernel_rfl) (cl := strings_Split.cuts m) trivial (k := m) (strings_Split.eq m)

/-! ### loop.example/stemma/impl.PathOk$1: function 126 -/
abbrev impl_PathOk_1.R : Type := Den [.bool]
def impl_PathOk_1.sig : Sig := ⟨1, ⟨[], [(0, .l (.dat (.str)))]⟩, [.str], ⟨[], [(0, .l (.dat (.bool)))]⟩, [.bool]⟩
abbrev impl_PathOk_1.Tab : Type := Unit
def impl_PathOk_1.start (m : Nat) (t : impl_PathOk_1.Tab) (x0 : ByteArray) : Option impl_PathOk_1.R :=
  Option.bind (impl_nameOk m (x0, ())) fun r1 => some ((!r1.1), ())
def impl_PathOk_1.tab (m : Nat) : Nat → impl_PathOk_1.Tab
  | 0 => (())
  | k + 1 => (())
def impl_PathOk_1 (m : Nat) (x : Den [.str]) : Option impl_PathOk_1.R := impl_PathOk_1.start m (impl_PathOk_1.tab m m) x.1
def impl_PathOk_1.cons (m : Nat) : List (Nat × Contract) := [(39, ⟨impl_nameOk.sig, impl_nameOk m⟩)]
def impl_PathOk_1.cuts (m : Nat) : List (CutF (Den impl_PathOk_1.sig.us)) := []
theorem impl_PathOk_1.eq (m : Nat) (x : Den impl_PathOk_1.sig.ts) : impl_PathOk_1 m x = startF ⟨lookΓ Γl, lookC (impl_PathOk_1.cons m), false⟩ Tryz.f126 impl_PathOk_1.sig (impl_PathOk_1.cuts m) m x := by kernel_rfl
theorem impl_PathOk_1.ok (m : Nat) : Meets Tryz.prog 126 impl_PathOk_1.sig (impl_PathOk_1 m) :=
  fn_is (cx_is tyOk mixed (l := impl_PathOk_1.cons m) ⟨impl_nameOk.ok m, trivial⟩) (fn := Tryz.f126) Tryz.func126 (by kernel_rfl) (cl := impl_PathOk_1.cuts m) trivial (k := m) (impl_PathOk_1.eq m)

/-! ### slices.IndexFunc[[]string,string]: function 112 -/
abbrev slices_IndexFunc_string_of_impl_PathOk_1.R : Type := Den [.int .i64]
def slices_IndexFunc_string_of_impl_PathOk_1.sig : Sig := ⟨2, ⟨[], [(0, .l (.dat (.list (.str)))), (1, .l (.fn 126 []))]⟩, [.list (.str)], ⟨[], [(0, .l (.dat (.int .i64)))]⟩, [.int .i64]⟩
abbrev slices_IndexFunc_string_of_impl_PathOk_1.Tab : Type := (Den [.list (.str), .int .i64, .int .i64] → Option slices_IndexFunc_string_of_impl_PathOk_1.R) × Unit
def slices_IndexFunc_string_of_impl_PathOk_1.start (m : Nat) (t : slices_IndexFunc_string_of_impl_PathOk_1.Tab) (x0 : List ByteArray) : Option slices_IndexFunc_string_of_impl_PathOk_1.R :=
  t.1 (x0, (lLen x0), (0 : Int), ())
def slices_IndexFunc_string_of_impl_PathOk_1.b0 (m : Nat) (t : slices_IndexFunc_string_of_impl_PathOk_1.Tab) (a0 : List ByteArray) (a1 : Int) (a2 : Int) : Option slices_IndexFunc_string_of_impl_PathOk_1.R :=
  cond (decide (a2 < a1)) (cond (decide ((0 : Int) ≤ a2)) (cond (decide (a2 < lLen a0)) (Option.bind (impl_PathOk_1 m ((getL a0 a2 ByteArray.empty), ())) fun r1 => cond r1.1 (some (a2, ())) (t.1 (a0, a1, (w64 (a2 + (1 : Int))), ()))) none) none) (some ((-1 : Int), ()))
def slices_IndexFunc_string_of_impl_PathOk_1.tab (m : Nat) : Nat → slices_IndexFunc_string_of_impl_PathOk_1.Tab
  | 0 => (fun _ => none, ())
  | k + 1 => (fun x => slices_IndexFunc_string_of_impl_PathOk_1.b0 m (slices_IndexFunc_string_of_impl_PathOk_1.tab m k) x.1 x.2.1 x.2.2.1, ())
def slices_IndexFunc_string_of_impl_PathOk_1 (m : Nat) (x : Den [.list (.str)]) : Option slices_IndexFunc_string_of_impl_PathOk_1.R := slices_IndexFunc_string_of_impl_PathOk_1.start m (slices_IndexFunc_string_of_impl_PathOk_1.tab m m) x.1
def slices_IndexFunc_string_of_impl_PathOk_1.cons (m : Nat) : List (Nat × Contract) := [(126, ⟨impl_PathOk_1.sig, impl_PathOk_1 m⟩)]
def slices_IndexFunc_string_of_impl_PathOk_1.cuts (m : Nat) : List (CutF (Den slices_IndexFunc_string_of_impl_PathOk_1.sig.us)) := [⟨[false, true, false, true], 26, ⟨[], [(0, .l (.dat (.list (.str)))), (1, .l (.fn 126 [])), (7, .l (.dat (.int .i64))), (8, .l (.dat (.int .i64)))]⟩, [.list (.str), .int .i64, .int .i64], fun k => (slices_IndexFunc_string_of_impl_PathOk_1.tab m k).1⟩]
theorem slices_IndexFunc_string_of_impl_PathOk_1.eq0 (m k : Nat) (x : Den [.list (.str), .int .i64, .int .i64]) : (slices_IndexFunc_string_of_impl_PathOk_1.tab m (k + 1)).1 x = runF ⟨lookΓ Γl, lookC (slices_IndexFunc_string_of_impl_PathOk_1.cons m), false⟩ Tryz.f112 slices_IndexFunc_string_of_impl_PathOk_1.sig (slices_IndexFunc_string_of_impl_PathOk_1.cuts m) k [false, true, false, true] ⟨[], [(0, .l (.dat (.list (.str)))), (1, .l (.fn 126 [])), (7, .l (.dat (.int .i64))), (8, .l (.dat (.int .i64)))]⟩ [.list (.str), .int .i64, .int .i64] x := by kernel_rfl
theorem slices_IndexFunc_string_of_impl_PathOk_1.eq (m : Nat) (x : Den slices_IndexFunc_string_of_impl_PathOk_1.sig.ts) : slices_IndexFunc_string_of_impl_PathOk_1 m x = startF ⟨lookΓ Γl, lookC (slices_IndexFunc_string_of_impl_PathOk_1.cons m), false⟩ Tryz.f112 slices_IndexFunc_string_of_impl_PathOk_1.sig (slices_IndexFunc_string_of_impl_PathOk_1.cuts m) m x := by kernel_rfl
theorem slices_IndexFunc_string_of_impl_PathOk_1.ok (m : Nat) : Meets Tryz.prog 112 slices_IndexFunc_string_of_impl_PathOk_1.sig (slices_IndexFunc_string_of_impl_PathOk_1 m) :=
  fn_is (cx_is tyOk mixed (l := slices_IndexFunc_string_of_impl_PathOk_1.cons m) ⟨impl_PathOk_1.ok m, trivial⟩) (fn := Tryz.f112) Tryz.func112 (by kernel_rfl) (cl := slices_IndexFunc_string_of_impl_PathOk_1.cuts m) ⟨⟨by kernel_rfl, fun _ => rfl, fun k x => slices_IndexFunc_string_of_impl_PathOk_1.eq0 m k x⟩, trivial⟩ (k := m) (slices_IndexFunc_string_of_impl_PathOk_1.eq m)

/-! ### slices.ContainsFunc[[]string,string]: function 79 -/
abbrev slices_ContainsFunc_string_of_impl_PathOk_1.R : Type := Den [.bool]
def slices_ContainsFunc_string_of_impl_PathOk_1.sig : Sig := ⟨2, ⟨[], [(0, .l (.dat (.list (.str)))), (1, .l (.fn 126 []))]⟩, [.list (.str)], ⟨[], [(0, .l (.dat (.bool)))]⟩, [.bool]⟩
abbrev slices_ContainsFunc_string_of_impl_PathOk_1.Tab : Type := Unit
def slices_ContainsFunc_string_of_impl_PathOk_1.start (m : Nat) (t : slices_ContainsFunc_string_of_impl_PathOk_1.Tab) (x0 : List ByteArray) : Option slices_ContainsFunc_string_of_impl_PathOk_1.R :=
  Option.bind (slices_IndexFunc_string_of_impl_PathOk_1 m (x0, ())) fun r1 => some ((decide (r1.1 ≥ (0 : Int))), ())
def slices_ContainsFunc_string_of_impl_PathOk_1.tab (m : Nat) : Nat → slices_ContainsFunc_string_of_impl_PathOk_1.Tab
  | 0 => (())
  | k + 1 => (())
def slices_ContainsFunc_string_of_impl_PathOk_1 (m : Nat) (x : Den [.list (.str)]) : Option slices_ContainsFunc_string_of_impl_PathOk_1.R := slices_ContainsFunc_string_of_impl_PathOk_1.start m (slices_ContainsFunc_string_of_impl_PathOk_1.tab m m) x.1
def slices_ContainsFunc_string_of_impl_PathOk_1.cons (m : Nat) : List (Nat × Contract) := [(112, ⟨slices_IndexFunc_string_of_impl_PathOk_1.sig, slices_IndexFunc_string_of_impl_PathOk_1 m⟩)]
def slices_ContainsFunc_string_of_impl_PathOk_1.cuts (m : Nat) : List (CutF (Den slices_ContainsFunc_string_of_impl_PathOk_1.sig.us)) := []
theorem slices_ContainsFunc_string_of_impl_PathOk_1.eq (m : Nat) (x : Den slices_ContainsFunc_string_of_impl_PathOk_1.sig.ts) : slices_ContainsFunc_string_of_impl_PathOk_1 m x = startF ⟨lookΓ Γl, lookC (slices_ContainsFunc_string_of_impl_PathOk_1.cons m), false⟩ Tryz.f79 slices_ContainsFunc_string_of_impl_PathOk_1.sig (slices_ContainsFunc_string_of_impl_PathOk_1.cuts m) m x := by kernel_rfl
theorem slices_ContainsFunc_string_of_impl_PathOk_1.ok (m : Nat) : Meets Tryz.prog 79 slices_ContainsFunc_string_of_impl_PathOk_1.sig (slices_ContainsFunc_string_of_impl_PathOk_1 m) :=
  fn_is (cx_is tyOk mixed (l := slices_ContainsFunc_string_of_impl_PathOk_1.cons m) ⟨slices_IndexFunc_string_of_impl_PathOk_1.ok m, trivial⟩) (fn := Tryz.f79) Tryz.func79 (by kernel_rfl) (cl := slices_ContainsFunc_string_of_impl_PathOk_1.cuts m) trivial (k := m) (slices_ContainsFunc_string_of_impl_PathOk_1.eq m)

/-! ### loop.example/stemma/impl.PathOk: function 98 -/
abbrev impl_PathOk.R : Type := Den [.bool]
def impl_PathOk.sig : Sig := ⟨1, ⟨[], [(0, .l (.dat (.str)))]⟩, [.str], ⟨[], [(0, .l (.dat (.bool)))]⟩, [.bool]⟩
abbrev impl_PathOk.Tab : Type := Unit
def impl_PathOk.start (m : Nat) (t : impl_PathOk.Tab) (x0 : ByteArray) : Option impl_PathOk.R :=
  Option.bind (strings_Split m (x0, s_2f, ())) fun r1 => cond (decide ((lLen r1.1) ≤ (3 : Int))) (Option.bind (slices_ContainsFunc_string_of_impl_PathOk_1 m (r1.1, ())) fun r2 => some ((!r2.1), ())) (some (false, ()))
def impl_PathOk.tab (m : Nat) : Nat → impl_PathOk.Tab
  | 0 => (())
  | k + 1 => (())
def impl_PathOk (m : Nat) (x : Den [.str]) : Option impl_PathOk.R := impl_PathOk.start m (impl_PathOk.tab m m) x.1
def impl_PathOk.cons (m : Nat) : List (Nat × Contract) := [(125, ⟨strings_Split.sig, strings_Split m⟩), (79, ⟨slices_ContainsFunc_string_of_impl_PathOk_1.sig, slices_ContainsFunc_string_of_impl_PathOk_1 m⟩)]
def impl_PathOk.cuts (m : Nat) : List (CutF (Den impl_PathOk.sig.us)) := []
theorem impl_PathOk.eq (m : Nat) (x : Den impl_PathOk.sig.ts) : impl_PathOk m x = startF ⟨lookΓ Γl, lookC (impl_PathOk.cons m), false⟩ Tryz.f98 impl_PathOk.sig (impl_PathOk.cuts m) m x := by kernel_rfl
theorem impl_PathOk.ok (m : Nat) : Meets Tryz.prog 98 impl_PathOk.sig (impl_PathOk m) :=
  fn_is (cx_is tyOk mixed (l := impl_PathOk.cons m) ⟨strings_Split.ok m, slices_ContainsFunc_string_of_impl_PathOk_1.ok m, trivial⟩) (fn := Tryz.f98) Tryz.func98 (by kernel_rfl) (cl := impl_PathOk.cuts m) trivial (k := m) (impl_PathOk.eq m)

/-! ### loop.example/stemma/impl.lineOk: function 128 -/
abbrev impl_lineOk.R : Type := Den [.bool]
def impl_lineOk.sig : Sig := ⟨1, ⟨[], [(0, .l (.dat (.str)))]⟩, [.str], ⟨[], [(0, .l (.dat (.bool)))]⟩, [.bool]⟩
abbrev impl_lineOk.Tab : Type := (Den [.str, .int .i64, .int .i64] → Option impl_lineOk.R) × Unit
def impl_lineOk.start (m : Nat) (t : impl_lineOk.Tab) (x0 : ByteArray) : Option impl_lineOk.R :=
  t.1 (x0, (sLen x0), (0 : Int), ())
def impl_lineOk.b0 (m : Nat) (t : impl_lineOk.Tab) (a0 : ByteArray) (a1 : Int) (a2 : Int) : Option impl_lineOk.R :=
  cond (decide (a2 < a1)) (cond (decide ((0 : Int) ≤ a2)) (cond (decide (a2 < sLen a0)) (cond (decide ((byteAt a0 a2) < (32 : Int))) (some (false, ())) (cond (decide ((0 : Int) ≤ a2)) (cond (decide (a2 < sLen a0)) (cond (decide ((byteAt a0 a2) > (126 : Int))) (some (false, ())) (t.1 (a0, a1, (w64 (a2 + (1 : Int))), ()))) none) none)) none) none) (some ((decide ((sLen a0) ≤ (12 : Int))), ()))
def impl_lineOk.tab (m : Nat) : Nat → impl_lineOk.Tab
  | 0 => (fun _ => none, ())
  | k + 1 => (fun x => impl_lineOk.b0 m (impl_lineOk.tab m k) x.1 x.2.1 x.2.2.1, ())
def impl_lineOk (m : Nat) (x : Den [.str]) : Option impl_lineOk.R := impl_lineOk.start m (impl_lineOk.tab m m) x.1
def impl_lineOk.cons (m : Nat) : List (Nat × Contract) := []
def impl_lineOk.cuts (m : Nat) : List (CutF (Den impl_lineOk.sig.us)) := [⟨[false, true, false, true], 26, ⟨[], [(0, .l (.dat (.str))), (5, .l (.dat (.int .i64))), (6, .l (.dat (.int .i64)))]⟩, [.str, .int .i64, .int .i64], fun k => (impl_lineOk.tab m k).1⟩]
theorem impl_lineOk.eq0 (m k : Nat) (x : Den [.str, .int .i64, .int .i64]) : (impl_lineOk.tab m (k + 1)).1 x = runF ⟨lookΓ Γl, lookC (impl_lineOk.cons m), false⟩ Tryz.f128 impl_lineOk.sig (impl_lineOk.cuts m) k [false, true, false, true] ⟨[], [(0, .l (.dat (.str))), (5, .l (.dat (.int .i64))), (6, .l (.dat (.int .i64)))]⟩ [.str, .int .i64, .int .i64] x := by kernel_rfl
theorem impl_lineOk.eq (m : Nat) (x : Den impl_lineOk.sig.ts) : impl_lineOk m x = startF ⟨lookΓ Γl, lookC (impl_lineOk.cons m), false⟩ Tryz.f128 impl_lineOk.sig (impl_lineOk.cuts m) m x := by kernel_rfl
theorem impl_lineOk.ok (m : Nat) : Meets Tryz.prog 128 impl_lineOk.sig (impl_lineOk m) :=
  fn_is (cx_is tyOk mixed (l := impl_lineOk.cons m) trivial) (fn := Tryz.f128) Tryz.func128 (by kernel_rfl) (cl := impl_lineOk.cuts m) ⟨⟨by kernel_rfl, fun _ => rfl, fun k x => impl_lineOk.eq0 m k x⟩, trivial⟩ (k := m) (impl_lineOk.eq m)

/-! ### loop.example/stemma/impl.TextOk$1: function 127 -/
abbrev impl_TextOk_1.R : Type := Den [.bool]
def impl_TextOk_1.sig : Sig := ⟨1, ⟨[], [(0, .l (.dat (.str)))]⟩, [.str], ⟨[], [(0, .l (.dat (.bool)))]⟩, [.bool]⟩
abbrev impl_TextOk_1.Tab : Type := Unit
def impl_TextOk_1.start (m : Nat) (t : impl_TextOk_1.Tab) (x0 : ByteArray) : Option impl_TextOk_1.R :=
  Option.bind (impl_lineOk m (x0, ())) fun r1 => some ((!r1.1), ())
def impl_TextOk_1.tab (m : Nat) : Nat → impl_TextOk_1.Tab
  | 0 => (())
  | k + 1 => (())
def impl_TextOk_1 (m : Nat) (x : Den [.str]) : Option impl_TextOk_1.R := impl_TextOk_1.start m (impl_TextOk_1.tab m m) x.1
def impl_TextOk_1.cons (m : Nat) : List (Nat × Contract) := [(128, ⟨impl_lineOk.sig, impl_lineOk m⟩)]
def impl_TextOk_1.cuts (m : Nat) : List (CutF (Den impl_TextOk_1.sig.us)) := []
theorem impl_TextOk_1.eq (m : Nat) (x : Den impl_TextOk_1.sig.ts) : impl_TextOk_1 m x = startF ⟨lookΓ Γl, lookC (impl_TextOk_1.cons m), false⟩ Tryz.f127 impl_TextOk_1.sig (impl_TextOk_1.cuts m) m x := by kernel_rfl
theorem impl_TextOk_1.ok (m : Nat) : Meets Tryz.prog 127 impl_TextOk_1.sig (impl_TextOk_1 m) :=
  fn_is (cx_is tyOk mixed (l := impl_TextOk_1.cons m) ⟨impl_lineOk.ok m, trivial⟩) (fn := Tryz.f127) Tryz.func127 (by kernel_rfl) (cl := impl_TextOk_1.cuts m) trivial (k := m) (impl_TextOk_1.eq m)

/-! ### slices.IndexFunc[[]string,string]: function 112 -/
abbrev slices_IndexFunc_string_of_impl_TextOk_1.R : Type := Den [.int .i64]
def slices_IndexFunc_string_of_impl_TextOk_1.sig : Sig := ⟨2, ⟨[], [(0, .l (.dat (.list (.str)))), (1, .l (.fn 127 []))]⟩, [.list (.str)], ⟨[], [(0, .l (.dat (.int .i64)))]⟩, [.int .i64]⟩
abbrev slices_IndexFunc_string_of_impl_TextOk_1.Tab : Type := (Den [.list (.str), .int .i64, .int .i64] → Option slices_IndexFunc_string_of_impl_TextOk_1.R) × Unit
def slices_IndexFunc_string_of_impl_TextOk_1.start (m : Nat) (t : slices_IndexFunc_string_of_impl_TextOk_1.Tab) (x0 : List ByteArray) : Option slices_IndexFunc_string_of_impl_TextOk_1.R :=
  t.1 (x0, (lLen x0), (0 : Int), ())
def slices_IndexFunc_string_of_impl_TextOk_1.b0 (m : Nat) (t : slices_IndexFunc_string_of_impl_TextOk_1.Tab) (a0 : List ByteArray) (a1 : Int) (a2 : Int) : Option slices_IndexFunc_string_of_impl_TextOk_1.R :=
  cond (decide (a2 < a1)) (cond (decide ((0 : Int) ≤ a2)) (cond (decide (a2 < lLen a0)) (Option.bind (impl_TextOk_1 m ((getL a0 a2 ByteArray.empty), ())) fun r1 => cond r1.1 (some (a2, ())) (t.1 (a0, a1, (w64 (a2 + (1 : Int))), ()))) none) none) (some ((-1 : Int), ()))
def slices_IndexFunc_string_of_impl_TextOk_1.tab (m : Nat) : Nat → slices_IndexFunc_string_of_impl_TextOk_1.Tab
  | 0 => (fun _ => none, ())
  | k + 1 => (fun x => slices_IndexFunc_string_of_impl_TextOk_1.b0 m (slices_IndexFunc_string_of_impl_TextOk_1.tab m k) x.1 x.2.1 x.2.2.1, ())
def slices_IndexFunc_string_of_impl_TextOk_1 (m : Nat) (x : Den [.list (.str)]) : Option slices_IndexFunc_string_of_impl_TextOk_1.R := slices_IndexFunc_string_of_impl_TextOk_1.start m (slices_IndexFunc_string_of_impl_TextOk_1.tab m m) x.1
def slices_IndexFunc_string_of_impl_TextOk_1.cons (m : Nat) : List (Nat × Contract) := [(127, ⟨impl_TextOk_1.sig, impl_TextOk_1 m⟩)]
def slices_IndexFunc_string_of_impl_TextOk_1.cuts (m : Nat) : List (CutF (Den slices_IndexFunc_string_of_impl_TextOk_1.sig.us)) := [⟨[false, true, false, true], 26, ⟨[], [(0, .l (.dat (.list (.str)))), (1, .l (.fn 127 [])), (7, .l (.dat (.int .i64))), (8, .l (.dat (.int .i64)))]⟩, [.list (.str), .int .i64, .int .i64], fun k => (slices_IndexFunc_string_of_impl_TextOk_1.tab m k).1⟩]
theorem slices_IndexFunc_string_of_impl_TextOk_1.eq0 (m k : Nat) (x : Den [.list (.str), .int .i64, .int .i64]) : (slices_IndexFunc_string_of_impl_TextOk_1.tab m (k + 1)).1 x = runF ⟨lookΓ Γl, lookC (slices_IndexFunc_string_of_impl_TextOk_1.cons m), false⟩ Tryz.f112 slices_IndexFunc_string_of_impl_TextOk_1.sig (slices_IndexFunc_string_of_impl_TextOk_1.cuts m) k [false, true, false, true] ⟨[], [(0, .l (.dat (.list (.str)))), (1, .l (.fn 127 [])), (7, .l (.dat (.int .i64))), (8, .l (.dat (.int .i64)))]⟩ [.list (.str), .int .i64, .int .i64] x := by kernel_rfl
theorem slices_IndexFunc_string_of_impl_TextOk_1.eq (m : Nat) (x : Den slices_IndexFunc_string_of_impl_TextOk_1.sig.ts) : slices_IndexFunc_string_of_impl_TextOk_1 m x = startF ⟨lookΓ Γl, lookC (slices_IndexFunc_string_of_impl_TextOk_1.cons m), false⟩ Tryz.f112 slices_IndexFunc_string_of_impl_TextOk_1.sig (slices_IndexFunc_string_of_impl_TextOk_1.cuts m) m x := by kernel_rfl
theorem slices_IndexFunc_string_of_impl_TextOk_1.ok (m : Nat) : Meets Tryz.prog 112 slices_IndexFunc_string_of_impl_TextOk_1.sig (slices_IndexFunc_string_of_impl_TextOk_1 m) :=
  fn_is (cx_is tyOk mixed (l := slices_IndexFunc_string_of_impl_TextOk_1.cons m) ⟨impl_TextOk_1.ok m, trivial⟩) (fn := Tryz.f112) Tryz.func112 (by kernel_rfl) (cl := slices_IndexFunc_string_of_impl_TextOk_1.cuts m) ⟨⟨by kernel_rfl, fun _ => rfl, fun k x => slices_IndexFunc_string_of_impl_TextOk_1.eq0 m k x⟩, trivial⟩ (k := m) (slices_IndexFunc_string_of_impl_TextOk_1.eq m)

/-! ### slices.ContainsFunc[[]string,string]: function 79 -/
abbrev slices_ContainsFunc_string_of_impl_TextOk_1.R : Type := Den [.bool]
def slices_ContainsFunc_string_of_impl_TextOk_1.sig : Sig := ⟨2, ⟨[], [(0, .l (.dat (.list (.str)))), (1, .l (.fn 127 []))]⟩, [.list (.str)], ⟨[], [(0, .l (.dat (.bool)))]⟩, [.bool]⟩
abbrev slices_ContainsFunc_string_of_impl_TextOk_1.Tab : Type := Unit
def slices_ContainsFunc_string_of_impl_TextOk_1.start (m : Nat) (t : slices_ContainsFunc_string_of_impl_TextOk_1.Tab) (x0 : List ByteArray) : Option slices_ContainsFunc_string_of_impl_TextOk_1.R :=
  Option.bind (slices_IndexFunc_string_of_impl_TextOk_1 m (x0, ())) fun r1 => some ((decide (r1.1 ≥ (0 : Int))), ())
def slices_ContainsFunc_string_of_impl_TextOk_1.tab (m : Nat) : Nat → slices_ContainsFunc_string_of_impl_TextOk_1.Tab
  | 0 => (())
  | k + 1 => (())
def slices_ContainsFunc_string_of_impl_TextOk_1 (m : Nat) (x : Den [.list (.str)]) : Option slices_ContainsFunc_string_of_impl_TextOk_1.R := slices_ContainsFunc_string_of_impl_TextOk_1.start m (slices_ContainsFunc_string_of_impl_TextOk_1.tab m m) x.1
def slices_ContainsFunc_string_of_impl_TextOk_1.cons (m : Nat) : List (Nat × Contract) := [(112, ⟨slices_IndexFunc_string_of_impl_TextOk_1.sig, slices_IndexFunc_string_of_impl_TextOk_1 m⟩)]
def slices_ContainsFunc_string_of_impl_TextOk_1.cuts (m : Nat) : List (CutF (Den slices_ContainsFunc_string_of_impl_TextOk_1.sig.us)) := []
theorem slices_ContainsFunc_string_of_impl_TextOk_1.eq (m : Nat) (x : Den slices_ContainsFunc_string_of_impl_TextOk_1.sig.ts) : slices_ContainsFunc_string_of_impl_TextOk_1 m x = startF ⟨lookΓ Γl, lookC (slices_ContainsFunc_string_of_impl_TextOk_1.cons m), false⟩ Tryz.f79 slices_ContainsFunc_string_of_impl_TextOk_1.sig (slices_ContainsFunc_string_of_impl_TextOk_1.cuts m) m x := by kernel_rfl
theorem slices_ContainsFunc_string_of_impl_TextOk_1.ok (m : Nat) : Meets Tryz.prog 79 slices_ContainsFunc_string_of_impl_TextOk_1.sig (slices_ContainsFunc_string_of_impl_TextOk_1 m) :=
  fn_is (cx_is tyOk mixed (l := slices_ContainsFunc_string_of_impl_TextOk_1.cons m) ⟨slices_IndexFunc_string_of_impl_TextOk_1.ok m, trivial⟩) (fn := Tryz.f79) Tryz.func79 (by kernel_rfl) (cl := slices_ContainsFunc_string_of_impl_TextOk_1.cuts m) trivial (k := m) (slices_ContainsFunc_string_of_impl_TextOk_1.eq m)

/-! ### loop.example/stemma/impl.TextOk: function 99 -/
abbrev impl_TextOk.R : Type := Den [.bool]
def impl_TextOk.sig : Sig := ⟨1, ⟨[], [(0, .l (.dat (.list (.str))))]⟩, [.list (.str)], ⟨[], [(0, .l (.dat (.bool)))]⟩, [.bool]⟩
abbrev impl_TextOk.Tab : Type := Unit
def impl_TextOk.start (m : Nat) (t : impl_TextOk.Tab) (x0 : List ByteArray) : Option impl_TextOk.R :=
  cond (decide ((lLen x0) ≤ (10 : Int))) (Option.bind (slices_ContainsFunc_string_of_impl_TextOk_1 m (x0, ())) fun r1 => some ((!r1.1), ())) (some (false, ()))
def impl_TextOk.tab (m : Nat) : Nat → impl_TextOk.Tab
  | 0 => (())
  | k + 1 => (())
def impl_TextOk (m : Nat) (x : Den [.list (.str)]) : Option impl_TextOk.R := impl_TextOk.start m (impl_TextOk.tab m m) x.1
def impl_TextOk.cons (m : Nat) : List (Nat × Contract) := [(79, ⟨slices_ContainsFunc_string_of_impl_TextOk_1.sig, slices_ContainsFunc_string_of_impl_TextOk_1 m⟩)]
def impl_TextOk.cuts (m : Nat) : List (CutF (Den impl_TextOk.sig.us)) := []
theorem impl_TextOk.eq (m : Nat) (x : Den impl_TextOk.sig.ts) : impl_TextOk m x = startF ⟨lookΓ Γl, lookC (impl_TextOk.cons m), false⟩ Tryz.f99 impl_TextOk.sig (impl_TextOk.cuts m) m x := by kernel_rfl
theorem impl_TextOk.ok (m : Nat) : Meets Tryz.prog 99 impl_TextOk.sig (impl_TextOk m) :=
  fn_is (cx_is tyOk mixed (l := impl_TextOk.cons m) ⟨slices_ContainsFunc_string_of_impl_TextOk_1.ok m, trivial⟩) (fn := Tryz.f99) Tryz.func99 (by kernel_rfl) (cl := impl_TextOk.cuts m) trivial (k := m) (impl_TextOk.eq m)

/-! ### internal/stringslite.HasPrefix: function 149 -/
abbrev internal_stringslite_HasPrefix.R : Type := Den [.bool]
def internal_stringslite_HasPrefix.sig : Sig := ⟨2, ⟨[], [(0, .l (.dat (.str))), (1, .l (.dat (.str)))]⟩, [.str, .str], ⟨[], [(0, .l (.dat (.bool)))]⟩, [.bool]⟩
abbrev internal_stringslite_HasPrefix.Tab : Type := Unit
def internal_stringslite_HasPrefix.start (m : Nat) (t : internal_stringslite_HasPrefix.Tab) (x0 : ByteArray) (x1 : ByteArray) : Option internal_stringslite_HasPrefix.R :=
  cond (decide ((sLen x0) ≥ (sLen x1))) (cond (decide ((0 : Int) ≤ (sLen x1))) (cond (decide ((sLen x1) ≤ (ByteArray.size x0 : Int))) (lett ((sEq (cutS x0 0 (Int.toNat (sLen x1))) x1) : Bool) fun v1 => some (v1, ())) none) none) (some (false, ()))
def internal_stringslite_HasPrefix.tab (m : Nat) : Nat → internal_stringslite_HasPrefix.Tab
  | 0 => (())
  | k + 1 => (())
def internal_stringslite_HasPrefix (m : Nat) (x : Den [.str, .str]) : Option internal_stringslite_HasPrefix.R := internal_stringslite_HasPrefix.start m (internal_stringslite_HasPrefix.tab m m) x.1 x.2.1
def internal_stringslite_HasPrefix.cons (m : Nat) : List (Nat × Contract) := []
def internal_stringslite_HasPrefix.cuts (m : Nat) : List (CutF (Den internal_stringslite_HasPrefix.sig.us)) := []
theorem internal_stringslite_HasPrefix.eq (m : Nat) (x : Den internal_stringslite_HasPrefix.sig.ts) : internal_stringslite_HasPrefix m x = startF ⟨lookΓ Γl, lookC (internal_stringslite_HasPrefix.cons m), false⟩ Tryz.f149 internal_stringslite_HasPrefix.sig (internal_stringslite_HasPrefix.cuts m) m x := by kernel_rfl
theorem internal_stringslite_HasPrefix.ok (m : Nat) : Meets Tryz.prog 149 internal_stringslite_HasPrefix.sig (internal_stringslite_HasPrefix m) :=
  fn_is (cx_is tyOk mixed (l := internal_stringslite_HasPrefix.cons m) trivial) (fn := Tryz.f149) Tryz.func149 (by kernel_rfl) (cl := internal_stringslite_HasPrefix.cuts m) trivial (k := m) (internal_stringslite_HasPrefix.eq m)

/-! ### strings.HasPrefix: function 130 -/
abbrev strings_HasPrefix.R : Type := Den [.bool]
def strings_HasPrefix.sig : Sig := ⟨2, ⟨[], [(0, .l (.dat (.str))), (1, .l (.dat (.str)))]⟩, [.str, .str], ⟨[], [(0, .l (.dat (.bool)))]⟩, [.bool]⟩
abbrev strings_HasPrefix.Tab : Type := Unit
def strings_HasPrefix.start (m : Nat) (t : strings_HasPrefix.Tab) (x0 : ByteArray) (x1 : ByteArray) : Option strings_HasPrefix.R :=
  Option.bind (internal_stringslite_HasPrefix m (x0, x1, ())) fun r1 => some (r1.1, ())
def strings_HasPrefix.tab (m : Nat) : Nat → strings_HasPrefix.Tab
  | 0 => (())
  | k + 1 => (())
def strings_HasPrefix (m : Nat) (x : Den [.str, .str]) : Option strings_HasPrefix.R := strings_HasPrefix.start m (strings_HasPrefix.tab m m) x.1 x.2.1
def strings_HasPrefix.cons (m : Nat) : List (Nat × Contract) := [(149, ⟨internal_stringslite_HasPrefix.sig, internal_stringslite_HasPrefix m⟩)]
def strings_HasPrefix.cuts (m : Nat) : List (CutF (Den strings_HasPrefix.sig.us)) := []
theorem strings_HasPrefix.eq (m : Nat) (x : Den strings_HasPrefix.sig.ts) : strings_HasPrefix m x = startF ⟨lookΓ Γl, lookC (strings_HasPrefix.cons m), false⟩ Tryz.f130 strings_HasPrefix.sig (strings_HasPrefix.cuts m) m x := by kernel_rfl
theorem strings_HasPrefix.ok (m : Nat) : Meets Tryz.prog 130 strings_HasPrefix.sig (strings_HasPrefix m) :=
  fn_is (cx_is tyOk mixed (l := strings_HasPrefix.cons m) ⟨internal_stringslite_HasPrefix.ok m, trivial⟩) (fn := Tryz.f130) Tryz.func130 (by kernel_rfl) (cl := strings_HasPrefix.cuts m) trivial (k := m) (strings_HasPrefix.eq m)

/-! ### loop.example/stemma/impl.PathIn: function 102 -/
abbrev impl_PathIn.R : Type := Den [.bool]
def impl_PathIn.sig : Sig := ⟨2, ⟨[], [(0, .l (.dat (.str))), (1, .l (.dat (.str)))]⟩, [.str, .str], ⟨[], [(0, .l (.dat (.bool)))]⟩, [.bool]⟩
abbrev impl_PathIn.Tab : Type := Unit
def impl_PathIn.start (m : Nat) (t : impl_PathIn.Tab) (x0 : ByteArray) (x1 : ByteArray) : Option impl_PathIn.R :=
  Option.bind (impl_PathOk m (x0, ())) fun r1 => cond r1.1 (Option.bind (impl_PathOk m (x1, ())) fun r2 => cond r2.1 (cond (decide (ByteArray.size x0 + ByteArray.size s_2f ≤ cap)) (Option.bind (strings_HasPrefix m (x1, (ByteArray.append x0 s_2f), ())) fun r3 => some (r3.1, ())) none) (some (false, ()))) (some (false, ()))
def impl_PathIn.tab (m : Nat) : Nat → impl_PathIn.Tab
  | 0 => (())
  | k + 1 => (())
def impl_PathIn (m : Nat) (x : Den [.str, .str]) : Option impl_PathIn.R := impl_PathIn.start m (impl_PathIn.tab m m) x.1 x.2.1
def impl_PathIn.cons (m : Nat) : List (Nat × Contract) := [(98, ⟨impl_PathOk.sig, impl_PathOk m⟩), (130, ⟨strings_HasPrefix.sig, strings_HasPrefix m⟩)]
def impl_PathIn.cuts (m : Nat) : List (CutF (Den impl_PathIn.sig.us)) := []
theorem impl_PathIn.eq (m : Nat) (x : Den impl_PathIn.sig.ts) : impl_PathIn m x = startF ⟨lookΓ Γl, lookC (impl_PathIn.cons m), false⟩ Tryz.f102 impl_PathIn.sig (impl_PathIn.cuts m) m x := by kernel_rfl
theorem impl_PathIn.ok (m : Nat) : Meets Tryz.prog 102 impl_PathIn.sig (impl_PathIn m) :=
  fn_is (cx_is tyOk mixed (l := impl_PathIn.cons m) ⟨impl_PathOk.ok m, strings_HasPrefix.ok m, trivial⟩) (fn := Tryz.f102) Tryz.func102 (by kernel_rfl) (cl := impl_PathIn.cuts m) trivial (k := m) (impl_PathIn.eq m)

/-! ### loop.example/stemma/impl.TreeOk$1: function 101 -/
abbrev impl_TreeOk_1_v0.R : Type := Den [.str, .list (.str), .bool]
def impl_TreeOk_1_v0.sig : Sig := ⟨2, ⟨[.box [.dat (.str), .dat (.list (.str))]], [(0, .agg [.dat (.str), .dat (.list (.str))]), (1, .l (.ptr 0 0))]⟩, [.str, .list (.str), .str, .list (.str)], ⟨[.box [.dat (.str), .dat (.list (.str))]], [(0, .l (.dat (.bool)))]⟩, [.str, .list (.str), .bool]⟩
abbrev impl_TreeOk_1_v0.Tab : Type := Unit
def impl_TreeOk_1_v0.start (m : Nat) (t : impl_TreeOk_1_v0.Tab) (x0 : ByteArray) (x1 : List ByteArray) (x2 : ByteArray) (x3 : List ByteArray) : Option impl_TreeOk_1_v0.R :=
  Option.bind (impl_PathIn m (x2, x0, ())) fun r1 => some (x0, x1, r1.1, ())
def impl_TreeOk_1_v0.tab (m : Nat) : Nat → impl_TreeOk_1_v0.Tab
  | 0 => (())
  | k + 1 => (())
def impl_TreeOk_1_v0 (m : Nat) (x : Den [.str, .list (.str), .str, .list (.str)]) : Option impl_TreeOk_1_v0.R := impl_TreeOk_1_v0.start m (impl_TreeOk_1_v0.tab m m) x.1 x.2.1 x.2.2.1 x.2.2.2.1
def impl_TreeOk_1_v0.cons (m : Nat) : List (Nat × Contract) := [(102, ⟨impl_PathIn.sig, impl_PathIn m⟩)]
def impl_TreeOk_1_v0.cuts (m : Nat) : List (CutF (Den impl_TreeOk_1_v0.sig.us)) := []
theorem impl_TreeOk_1_v0.eq (m : Nat) (x : Den impl_TreeOk_1_v0.sig.ts) : impl_TreeOk_1_v0 m x = startF ⟨lookΓ Γl, lookC (impl_TreeOk_1_v0.cons m), false⟩ Tryz.f101 impl_TreeOk_1_v0.sig (impl_TreeOk_1_v0.cuts m) m x := by kernel_rfl
theorem impl_TreeOk_1_v0.ok (m : Nat) : Meets Tryz.prog 101 impl_TreeOk_1_v0.sig (impl_TreeOk_1_v0 m) :=
  fn_is (cx_is tyOk mixed (l := impl_TreeOk_1_v0.cons m) ⟨impl_PathIn.ok m, trivial⟩) (fn := Tryz.f101) Tryz.func101 (by kernel_rfl) (cl := impl_TreeOk_1_v0.cuts m) trivial (k := m) (impl_TreeOk_1_v0.eq m)

/-! ### slices.IndexFunc[[]loop.example/stemma/impl.File,loop.example/stemma/impl.File]: function 129 -/
abbrev slices_IndexFunc_File_of_impl_TreeOk_1.R : Type := Den [.str, .list (.str), .int .i64]
def slices_IndexFunc_File_of_impl_TreeOk_1.sig : Sig := ⟨2, ⟨[.box [.dat (.str), .dat (.list (.str))]], [(0, .l (.dat (.list (.pair (.str) (.list (.str)))))), (1, .l (.fn 101 [0]))]⟩, [.str, .list (.str), .list (.pair (.str) (.list (.str)))], ⟨[.box [.dat (.str), .dat (.list (.str))]], [(0, .l (.dat (.int .i64)))]⟩, [.str, .list (.str), .int .i64]⟩
abbrev slices_IndexFunc_File_of_impl_TreeOk_1.Tab : Type := (Den [.str, .list (.str), .list (.pair (.str) (.list (.str))), .int .i64, .int .i64] → Option slices_IndexFunc_File_of_impl_TreeOk_1.R) × Unit
def slices_IndexFunc_File_of_impl_TreeOk_1.start (m : Nat) (t : slices_IndexFunc_File_of_impl_TreeOk_1.Tab) (x0 : ByteArray) (x1 : List ByteArray) (x2 : List (ByteArray × List ByteArray)) : Option slices_IndexFunc_File_of_impl_TreeOk_1.R :=
  t.1 (x0, x1, x2, (lLen x2), (0 : Int), ())
def slices_IndexFunc_File_of_impl_TreeOk_1.b0 (m : Nat) (t : slices_IndexFunc_File_of_impl_TreeOk_1.Tab) (a0 : ByteArray) (a1 : List ByteArray) (a2 : List (ByteArray × List ByteArray)) (a3 : Int) (a4 : Int) : Option slices_IndexFunc_File_of_impl_TreeOk_1.R :=
  cond (decide (a4 < a3)) (cond (decide ((0 : Int) ≤ a4)) (cond (decide (a4 < lLen a2)) (lett ((getL a2 a4 (ByteArray.empty, ([] : List ByteArray))) : ByteArray × List ByteArray) fun v1 => Option.bind (impl_TreeOk_1_v0 m (a0, a1, v1.1, v1.2, ())) fun r2 => cond r2.2.2.1 (some (r2.1, r2.2.1, a4, ())) (t.1 (r2.1, r2.2.1, a2, a3, (w64 (a4 + (1 : Int))), ()))) none) none) (some (a0, a1, (-1 : Int), ()))
def slices_IndexFunc_File_of_impl_TreeOk_1.tab (m : Nat) : Nat → slices_IndexFunc_File_of_impl_TreeOk_1.Tab
  | 0 => (fun _ => none, ())
  | k + 1 => (fun x => slices_IndexFunc_File_of_impl_TreeOk_1.b0 m (slices_IndexFunc_File_of_impl_TreeOk_1.tab m k) x.1 x.2.1 x.2.2.1 x.2.2.2.1 x.2.2.2.2.1, ())
def slices_IndexFunc_File_of_impl_TreeOk_1 (m : Nat) (x : Den [.str, .list (.str), .list (.pair (.str) (.list (.str)))]) : Option slices_IndexFunc_File_of_impl_TreeOk_1.R := slices_IndexFunc_File_of_impl_TreeOk_1.start m (slices_IndexFunc_File_of_impl_TreeOk_1.tab m m) x.1 x.2.1 x.2.2.1
def slices_IndexFunc_File_of_impl_TreeOk_1.cons (m : Nat) : List (Nat × Contract) := [(101, ⟨impl_TreeOk_1_v0.sig, impl_TreeOk_1_v0 m⟩)]
def slices_IndexFunc_File_of_impl_TreeOk_1.cuts (m : Nat) : List (CutF (Den slices_IndexFunc_File_of_impl_TreeOk_1.sig.us)) := [⟨[false, true, false, true], 26, ⟨[.box [.dat (.str), .dat (.list (.str))]], [(0, .l (.dat (.list (.pair (.str) (.list (.str)))))), (1, .l (.fn 101 [0])), (7, .l (.dat (.int .i64))), (8, .l (.dat (.int .i64)))]⟩, [.str, .list (.str), .list (.pair (.str) (.list (.str))), .int .i64, .int .i64], fun k => (slices_IndexFunc_File_of_impl_TreeOk_1.tab m k).1⟩]
theorem slices_IndexFunc_File_of_impl_TreeOk_1.eq0 (m k : Nat) (x : Den [.str, .list (.str), .list (.pair (.str) (.list (.str))), .int .i64, .int .i64]) : (slices_IndexFunc_File_of_impl_TreeOk_1.tab m (k + 1)).1 x = runF ⟨lookΓ Γl, lookC (slices_IndexFunc_File_of_impl_TreeOk_1.cons m), false⟩ Tryz.f129 slices_IndexFunc_File_of_impl_TreeOk_1.sig (slices_IndexFunc_File_of_impl_TreeOk_1.cuts m) k [false, true, false, true] ⟨[.box [.dat (.str), .dat (.list (.str))]], [(0, .l (.dat (.list (.pair (.str) (.list (.str)))))), (1, .l (.fn 101 [0])), (7, .l (.dat (.int .i64))), (8, .l (.dat (.int .i64)))]⟩ [.str, .list (.str), .list (.pair (.str) (.list (.str))), .int .i64, .int .i64] x := by kernel_rfl
theorem slices_IndexFunc_File_of_impl_TreeOk_1.eq (m : Nat) (x : Den slices_IndexFunc_File_of_impl_TreeOk_1.sig.ts) : slices_IndexFunc_File_of_impl_TreeOk_1 m x = startF ⟨lookΓ Γl, lookC (slices_IndexFunc_File_of_impl_TreeOk_1.cons m), false⟩ Tryz.f129 slices_IndexFunc_File_of_impl_TreeOk_1.sig (slices_IndexFunc_File_of_impl_TreeOk_1.cuts m) m x := by kernel_rfl
theorem slices_IndexFunc_File_of_impl_TreeOk_1.ok (m : Nat) : Meets Tryz.prog 129 slices_IndexFunc_File_of_impl_TreeOk_1.sig (slices_IndexFunc_File_of_impl_TreeOk_1 m) :=
  fn_is (cx_is tyOk mixed (l := slices_IndexFunc_File_of_impl_TreeOk_1.cons m) ⟨impl_TreeOk_1_v0.ok m, trivial⟩) (fn := Tryz.f129) Tryz.func129 (by kernel_rfl) (cl := slices_IndexFunc_File_of_impl_TreeOk_1.cuts m) ⟨⟨by kernel_rfl, fun _ => rfl, fun k x => slices_IndexFunc_File_of_impl_TreeOk_1.eq0 m k x⟩, trivial⟩ (k := m) (slices_IndexFunc_File_of_impl_TreeOk_1.eq m)

/-! ### slices.ContainsFunc[[]loop.example/stemma/impl.File,loop.example/stemma/impl.File]: function 100 -/
abbrev slices_ContainsFunc_File_of_impl_TreeOk_1.R : Type := Den [.str, .list (.str), .bool]
def slices_ContainsFunc_File_of_impl_TreeOk_1.sig : Sig := ⟨2, ⟨[.box [.dat (.str), .dat (.list (.str))]], [(0, .l (.dat (.list (.pair (.str) (.list (.str)))))), (1, .l (.fn 101 [0]))]⟩, [.str, .list (.str), .list (.pair (.str) (.list (.str)))], ⟨[.box [.dat (.str), .dat (.list (.str))]], [(0, .l (.dat (.bool)))]⟩, [.str, .list (.str), .bool]⟩
abbrev slices_ContainsFunc_File_of_impl_TreeOk_1.Tab : Type := Unit
def slices_ContainsFunc_File_of_impl_TreeOk_1.start (m : Nat) (t : slices_ContainsFunc_File_of_impl_TreeOk_1.Tab) (x0 : ByteArray) (x1 : List ByteArray) (x2 : List (ByteArray × List ByteArray)) : Option slices_ContainsFunc_File_of_impl_TreeOk_1.R :=
  Option.bind (slices_IndexFunc_File_of_impl_TreeOk_1 m (x0, x1, x2, ())) fun r1 => some (r1.1, r1.2.1, (decide (r1.2.2.1 ≥ (0 : Int))), ())
def slices_ContainsFunc_File_of_impl_TreeOk_1.tab (m : Nat) : Nat → slices_ContainsFunc_File_of_impl_TreeOk_1.Tab
  | 0 => (())
  | k + 1 => (())
def slices_ContainsFunc_File_of_impl_TreeOk_1 (m : Nat) (x : Den [.str, .list (.str), .list (.pair (.str) (.list (.str)))]) : Option slices_ContainsFunc_File_of_impl_TreeOk_1.R := slices_ContainsFunc_File_of_impl_TreeOk_1.start m (slices_ContainsFunc_File_of_impl_TreeOk_1.tab m m) x.1 x.2.1 x.2.2.1
def slices_ContainsFunc_File_of_impl_TreeOk_1.cons (m : Nat) : List (Nat × Contract) := [(129, ⟨slices_IndexFunc_File_of_impl_TreeOk_1.sig, slices_IndexFunc_File_of_impl_TreeOk_1 m⟩)]
def slices_ContainsFunc_File_of_impl_TreeOk_1.cuts (m : Nat) : List (CutF (Den slices_ContainsFunc_File_of_impl_TreeOk_1.sig.us)) := []
theorem slices_ContainsFunc_File_of_impl_TreeOk_1.eq (m : Nat) (x : Den slices_ContainsFunc_File_of_impl_TreeOk_1.sig.ts) : slices_ContainsFunc_File_of_impl_TreeOk_1 m x = startF ⟨lookΓ Γl, lookC (slices_ContainsFunc_File_of_impl_TreeOk_1.cons m), false⟩ Tryz.f100 slices_ContainsFunc_File_of_impl_TreeOk_1.sig (slices_ContainsFunc_File_of_impl_TreeOk_1.cuts m) m x := by kernel_rfl
theorem slices_ContainsFunc_File_of_impl_TreeOk_1.ok (m : Nat) : Meets Tryz.prog 100 slices_ContainsFunc_File_of_impl_TreeOk_1.sig (slices_ContainsFunc_File_of_impl_TreeOk_1 m) :=
  fn_is (cx_is tyOk mixed (l := slices_ContainsFunc_File_of_impl_TreeOk_1.cons m) ⟨slices_IndexFunc_File_of_impl_TreeOk_1.ok m, trivial⟩) (fn := Tryz.f100) Tryz.func100 (by kernel_rfl) (cl := slices_ContainsFunc_File_of_impl_TreeOk_1.cuts m) trivial (k := m) (slices_ContainsFunc_File_of_impl_TreeOk_1.eq m)

/-! ### loop.example/stemma/impl.TreeOk: function 71 -/
abbrev impl_TreeOk.R : Type := Den [.bool]
def impl_TreeOk.sig : Sig := ⟨1, ⟨[], [(0, .l (.dat (.list (.pair (.str) (.list (.str))))))]⟩, [.list (.pair (.str) (.list (.str)))], ⟨[], [(0, .l (.dat (.bool)))]⟩, [.bool]⟩
abbrev impl_TreeOk.Tab : Type := (Den [.list (.pair (.str) (.list (.str))), .list (.pair (.str) (.list (.str))), .int .i64, .int .i64] → Option impl_TreeOk.R) × (Den [.str, .list (.str), .list (.pair (.str) (.list (.str))), .int .i64, .list (.pair (.str) (.list (.str))), .int .i64, .int .i64, .bool] → Option impl_TreeOk.R) × Unit
def impl_TreeOk.start (m : Nat) (t : impl_TreeOk.Tab) (x0 : List (ByteArray × List ByteArray)) : Option impl_TreeOk.R :=
  t.1 (x0, x0, (lLen x0), (0 : Int), ())
def impl_TreeOk.b0 (m : Nat) (t : impl_TreeOk.Tab) (a0 : List (ByteArray × List ByteArray)) (a1 : List (ByteArray × List ByteArray)) (a2 : Int) (a3 : Int) : Option impl_TreeOk.R :=
  cond (decide (a3 < a2)) (cond (decide ((0 : Int) ≤ a3)) (cond (decide (a3 < lLen a1)) (lett ((getL a1 a3 (ByteArray.empty, ([] : List ByteArray))) : ByteArray × List ByteArray) fun v1 => Option.bind (impl_PathOk m (v1.1, ())) fun r2 => cond (!r2.1) (t.2.1 (v1.1, v1.2, a0, a3, a1, a2, a3, true, ())) (Option.bind (impl_TextOk m (v1.2, ())) fun r3 => cond (!r3.1) (t.2.1 (v1.1, v1.2, a0, a3, a1, a2, a3, true, ())) (cond (decide (a3 > (0 : Int))) (cond (decide ((0 : Int) ≤ (w64 (a3 - (1 : Int))))) (cond (decide ((w64 (a3 - (1 : Int))) < lLen a0)) (lett ((getL a0 (w64 (a3 - (1 : Int))) (ByteArray.empty, ([] : List ByteArray))) : ByteArray × List ByteArray) fun v4 => t.2.1 (v1.1, v1.2, a0, a3, a1, a2, a3, (!sLt v4.1 v1.1), ())) none) none) (t.2.1 (v1.1, v1.2, a0, a3, a1, a2, a3, false, ()))))) none) none) (some ((decide ((lLen a0) ≤ (8 : Int))), ()))
def impl_TreeOk.b1 (m : Nat) (t : impl_TreeOk.Tab) (a0 : ByteArray) (a1 : List ByteArray) (a2 : List (ByteArray × List ByteArray)) (a3 : Int) (a4 : List (ByteArray × List ByteArray)) (a5 : Int) (a6 : Int) (a7 : Bool) : Option impl_TreeOk.R :=
  cond a7 (some (false, ())) (cond (decide ((0 : Int) ≤ a3)) (cond (decide (a3 ≤ (List.length a2 : Int))) (Option.bind (slices_ContainsFunc_File_of_impl_TreeOk_1 m (a0, a1, (cutL a2 0 (Int.toNat a3)), ())) fun r1 => cond r1.2.2.1 (some (false, ())) (t.1 (a2, a4, a5, (w64 (a6 + (1 : Int))), ()))) none) none)
def impl_TreeOk.tab (m : Nat) : Nat → impl_TreeOk.Tab
  | 0 => (fun _ => none, fun _ => none, ())
  | k + 1 => (fun x => impl_TreeOk.b0 m (impl_TreeOk.tab m k) x.1 x.2.1 x.2.2.1 x.2.2.2.1, fun x => impl_TreeOk.b1 m (impl_TreeOk.tab m k) x.1 x.2.1 x.2.2.1 x.2.2.2.1 x.2.2.2.2.1 x.2.2.2.2.2.1 x.2.2.2.2.2.2.1 x.2.2.2.2.2.2.2.1, ())
def impl_TreeOk (m : Nat) (x : Den [.list (.pair (.str) (.list (.str)))]) : Option impl_TreeOk.R := impl_TreeOk.start m (impl_TreeOk.tab m m) x.1
def impl_TreeOk.cons (m : Nat) : List (Nat × Contract) := [(98, ⟨impl_PathOk.sig, impl_PathOk m⟩), (99, ⟨impl_TextOk.sig, impl_TextOk m⟩), (100, ⟨slices_ContainsFunc_File_of_impl_TreeOk_1.sig, slices_ContainsFunc_File_of_impl_TreeOk_1 m⟩)]
def impl_TreeOk.cuts (m : Nat) : List (CutF (Den impl_TreeOk.sig.us)) := [⟨[false, true, false, true], 26, ⟨[], [(0, .l (.dat (.list (.pair (.str) (.list (.str)))))), (5, .l (.dat (.list (.pair (.str) (.list (.str)))))), (6, .l (.dat (.int .i64))), (7, .l (.dat (.int .i64)))]⟩, [.list (.pair (.str) (.list (.str))), .list (.pair (.str) (.list (.str))), .int .i64, .int .i64], fun k => (impl_TreeOk.tab m k).1⟩,
  ⟨[true, false, true, false, false, true, true, false, false, true, false, true], 6757, ⟨[.box [.dat (.str), .dat (.list (.str))]], [(0, .l (.dat (.list (.pair (.str) (.list (.str)))))), (3, .l (.dat (.int .i64))), (4, .l (.ptr 0 0)), (5, .l (.dat (.list (.pair (.str) (.list (.str)))))), (6, .l (.dat (.int .i64))), (7, .l (.dat (.int .i64))), (36, .l (.dat (.bool)))]⟩, [.str, .list (.str), .list (.pair (.str) (.list (.str))), .int .i64, .list (.pair (.str) (.list (.str))), .int .i64, .int .i64, .bool], fun k => (impl_TreeOk.tab m k).2.1⟩]
theorem impl_TreeOk.eq0 (m k : Nat) (x : Den [.list (.pair (.str) (.list (.str))), .list (.pair (.str) (.list (.str))), .int .i64, .int .i64]) : (impl_TreeOk.tab m (k + 1)).1 x = runF ⟨lookΓ Γl, lookC (impl_TreeOk.cons m), false⟩ Tryz.f71 impl_TreeOk.sig (impl_TreeOk.cuts m) k [false, true, false, true] ⟨[], [(0, .l (.dat (.list (.pair (.str) (.list (.str)))))), (5, .l (.dat (.list (.pair (.str) (.list (.str)))))), (6, .l (.dat (.int .i64))), (7, .l (.dat (.int .i64)))]⟩ [.list (.pair (.str) (.list (.str))), .list (.pair (.str) (.list (.str))), .int .i64, .int .i64] x := by kernel_rfl
theorem impl_TreeOk.eq1 (m k : Nat) (x : Den [.str, .list (.str), .list (.pair (.str) (.list (.str))), .int .i64, .list (.pair (.str) (.list (.str))), .int .i64, .int .i64, .bool]) : (impl_TreeOk.tab m (k + 1)).2.1 x = runF ⟨lookΓ Γl, lookC (impl_TreeOk.cons m), false⟩ Tryz.f71 impl_TreeOk.sig (impl_TreeOk.cuts m) k [true, false, true, false, false, true, true, false, false, true, false, true] ⟨[.box [.dat (.str), .dat (.list (.str))]], [(0, .l (.dat (.list (.pair (.str) (.list (.str)))))), (3, .l (.dat (.int .i64))), (4, .l (.ptr 0 0)), (5, .l (.dat (.list (.pair (.str) (.list (.str)))))), (6, .l (.dat (.int .i64))), (7, .l (.dat (.int .i64))), (36, .l (.dat (.bool)))]⟩ [.str, .list (.str), .list (.pair (.str) (.list (.str))), .int .i64, .list (.pair (.str) (.list (.str))), .int .i64, .int .i64, .bool] x := by kernel_rfl
theorem impl_TreeOk.eq (m : Nat) (x : Den impl_TreeOk.sig.ts) : impl_TreeOk m x = startF ⟨lookΓ Γl, lookC (impl_TreeOk.cons m), false⟩ Tryz.f71 impl_TreeOk.sig (impl_TreeOk.cuts m) m x := by kernel_rfl
theorem impl_TreeOk.ok (m : Nat) : Meets Tryz.prog 71 impl_TreeOk.sig (impl_TreeOk m) :=
  fn_is (cx_is tyOk mixed (l := impl_TreeOk.cons m) ⟨impl_PathOk.ok m, impl_TextOk.ok m, slices_ContainsFunc_File_of_impl_TreeOk_1.ok m, trivial⟩) (fn := Tryz.f71) Tryz.func71 (by kernel_rfl) (cl := impl_TreeOk.cuts m) ⟨⟨by kernel_rfl, fun _ => rfl, fun k x => impl_TreeOk.eq0 m k x⟩, ⟨by kernel_rfl, fun _ => rfl, fun k x => impl_TreeOk.eq1 m k x⟩, trivial⟩ (k := m) (impl_TreeOk.eq m)

/-! ### loop.example/stemma/impl.commitOk: function 69 -/
abbrev impl_commitOk.R : Type := Den [.bool]
def impl_commitOk.sig : Sig := ⟨2, ⟨[], [(0, .agg [.dat (.list (.int .i64)), .dat (.str), .dat (.list (.pair (.str) (.list (.str))))]), (1, .l (.dat (.int .i64)))]⟩, [.list (.int .i64), .str, .list (.pair (.str) (.list (.str))), .int .i64], ⟨[], [(0, .l (.dat (.bool)))]⟩, [.bool]⟩
abbrev impl_commitOk.Tab : Type := (Den [.list (.int .i64), .str, .list (.pair (.str) (.list (.str))), .int .i64, .list (.int .i64), .int .i64, .int .i64] → Option impl_commitOk.R) × Unit
def impl_commitOk.start (m : Nat) (t : impl_commitOk.Tab) (x0 : List Int) (x1 : ByteArray) (x2 : List (ByteArray × List ByteArray)) (x3 : Int) : Option impl_commitOk.R :=
  t.1 (x0, x1, x2, x3, x0, (lLen x0), (0 : Int), ())
def impl_commitOk.b0 (m : Nat) (t : impl_commitOk.Tab) (a0 : List Int) (a1 : ByteArray) (a2 : List (ByteArray × List ByteArray)) (a3 : Int) (a4 : List Int) (a5 : Int) (a6 : Int) : Option impl_commitOk.R :=
  cond (decide (a6 < a5)) (cond (decide ((0 : Int) ≤ a6)) (cond (decide (a6 < lLen a4)) (Option.bind (impl_within m ((getL a4 a6 (0 : Int)), (0 : Int), (w64 (a3 - (1 : Int))), ())) fun r1 => cond (!r1.1) (some (false, ())) (cond (decide ((0 : Int) ≤ a6)) (cond (decide (a6 ≤ (List.length a0 : Int))) (Option.bind (slices_Contains_int m ((cutL a0 0 (Int.toNat a6)), (getL a4 a6 (0 : Int)), ())) fun r2 => cond r2.1 (some (false, ())) (t.1 (a0, a1, a2, a3, a4, a5, (w64 (a6 + (1 : Int))), ()))) none) none)) none) none) (cond (decide ((lLen a0) ≤ (2 : Int))) (Option.bind (impl_nameOk m (a1, ())) fun r3 => cond r3.1 (Option.bind (impl_TreeOk m (a2, ())) fun r4 => some (r4.1, ())) (some (false, ()))) (some (false, ())))
def impl_commitOk.tab (m : Nat) : Nat → impl_commitOk.Tab
  | 0 => (fun _ => none, ())
  | k + 1 => (fun x => impl_commitOk.b0 m (impl_commitOk.tab m k) x.1 x.2.1 x.2.2.1 x.2.2.2.1 x.2.2.2.2.1 x.2.2.2.2.2.1 x.2.2.2.2.2.2.1, ())
def impl_commitOk (m : Nat) (x : Den [.list (.int .i64), .str, .list (.pair (.str) (.list (.str))), .int .i64]) : Option impl_commitOk.R := impl_commitOk.start m (impl_commitOk.tab m m) x.1 x.2.1 x.2.2.1 x.2.2.2.1
def impl_commitOk.cons (m : Nat) : List (Nat × Contract) := [(78, ⟨impl_within.sig, impl_within m⟩), (97, ⟨slices_Contains_int.sig, slices_Contains_int m⟩), (39, ⟨impl_nameOk.sig, impl_nameOk m⟩), (71, ⟨impl_TreeOk.sig, impl_TreeOk m⟩)]
def impl_commitOk.cuts (m : Nat) : List (CutF (Den impl_commitOk.sig.us)) := [⟨[false, true, false, true], 26, ⟨[.box [.dat (.list (.int .i64)), .dat (.str), .dat (.list (.pair (.str) (.list (.str))))]], [(1, .l (.dat (.int .i64))), (2, .l (.ptr 0 0)), (8, .l (.dat (.list (.int .i64)))), (9, .l (.dat (.int .i64))), (10, .l (.dat (.int .i64)))]⟩, [.list (.int .i64), .str, .list (.pair (.str) (.list (.str))), .int .i64, .list (.int .i64), .int .i64, .int .i64], fun k => (impl_commitOk.tab m k).1⟩]
theorem impl_commitOk.eq0 (m k : Nat) (x : Den [.list (.int .i64), .str, .list (.pair (.str) (.list (.str))), .int .i64, .list (.int .i64), .int .i64, .int .i64]) : (impl_commitOk.tab m (k + 1)).1 x = runF ⟨lookΓ Γl, lookC (impl_commitOk.cons m), false⟩ Tryz.f69 impl_commitOk.sig (impl_commitOk.cuts m) k [false, true, false, true] ⟨[.box [.dat (.list (.int .i64)), .dat (.str), .dat (.list (.pair (.str) (.list (.str))))]], [(1, .l (.dat (.int .i64))), (2, .l (.ptr 0 0)), (8, .l (.dat (.list (.int .i64)))), (9, .l (.dat (.int .i64))), (10, .l (.dat (.int .i64)))]⟩ [.list (.int .i64), .str, .list (.pair (.str) (.list (.str))), .int .i64, .list (.int .i64), .int .i64, .int .i64] x := by kernel_rfl
theorem impl_commitOk.eq (m : Nat) (x : Den impl_commitOk.sig.ts) : impl_commitOk m x = startF ⟨lookΓ Γl, lookC (impl_commitOk.cons m), false⟩ Tryz.f69 impl_commitOk.sig (impl_commitOk.cuts m) m x := by kernel_rfl
theorem impl_commitOk.ok (m : Nat) : Meets Tryz.prog 69 impl_commitOk.sig (impl_commitOk m) :=
  fn_is (cx_is tyOk mixed (l := impl_commitOk.cons m) ⟨impl_within.ok m, slices_Contains_int.ok m, impl_nameOk.ok m, impl_TreeOk.ok m, trivial⟩) (fn := Tryz.f69) Tryz.func69 (by kernel_rfl) (cl := impl_commitOk.cuts m) ⟨⟨by kernel_rfl, fun _ => rfl, fun k x => impl_commitOk.eq0 m k x⟩, trivial⟩ (k := m) (impl_commitOk.eq m)

/-! ### loop.example/stemma/impl.headsOk: function 70 -/
abbrev impl_headsOk.R : Type := Den [.bool]
def impl_headsOk.sig : Sig := ⟨2, ⟨[], [(0, .l (.dat (.list (.pair (.str) (.int .i64))))), (1, .l (.dat (.int .i64)))]⟩, [.list (.pair (.str) (.int .i64)), .int .i64], ⟨[], [(0, .l (.dat (.bool)))]⟩, [.bool]⟩
abbrev impl_headsOk.Tab : Type := (Den [.list (.pair (.str) (.int .i64)), .int .i64, .list (.pair (.str) (.int .i64)), .int .i64, .int .i64] → Option impl_headsOk.R) × (Den [.list (.pair (.str) (.int .i64)), .int .i64, .list (.pair (.str) (.int .i64)), .int .i64, .int .i64, .bool] → Option impl_headsOk.R) × Unit
def impl_headsOk.start (m : Nat) (t : impl_headsOk.Tab) (x0 : List (ByteArray × Int)) (x1 : Int) : Option impl_headsOk.R :=
  t.1 (x0, x1, x0, (lLen x0), (0 : Int), ())
def impl_headsOk.b0 (m : Nat) (t : impl_headsOk.Tab) (a0 : List (ByteArray × Int)) (a1 : Int) (a2 : List (ByteArray × Int)) (a3 : Int) (a4 : Int) : Option impl_headsOk.R :=
  cond (decide (a4 < a3)) (cond (decide ((0 : Int) ≤ a4)) (cond (decide (a4 < lLen a2)) (lett ((getL a2 a4 (ByteArray.empty, (0 : Int))) : ByteArray × Int) fun v1 => Option.bind (impl_nameOk m (v1.1, ())) fun r2 => cond (!r2.1) (t.2.1 (a0, a1, a2, a3, a4, true, ())) (Option.bind (impl_within m (v1.2, (0 : Int), (w64 (a1 - (1 : Int))), ())) fun r3 => cond (!r3.1) (t.2.1 (a0, a1, a2, a3, a4, true, ())) (cond (decide (a4 > (0 : Int))) (cond (decide ((0 : Int) ≤ (w64 (a4 - (1 : Int))))) (cond (decide ((w64 (a4 - (1 : Int))) < lLen a0)) (lett ((getL a0 (w64 (a4 - (1 : Int))) (ByteArray.empty, (0 : Int))) : ByteArray × Int) fun v4 => t.2.1 (a0, a1, a2, a3, a4, (!sLt v4.1 v1.1), ())) none) none) (t.2.1 (a0, a1, a2, a3, a4, false, ()))))) none) none) (some ((decide ((lLen a0) ≤ (5 : Int))), ()))
def impl_headsOk.b1 (m : Nat) (t : impl_headsOk.Tab) (a0 : List (ByteArray × Int)) (a1 : Int) (a2 : List (ByteArray × Int)) (a3 : Int) (a4 : Int) (a5 : Bool) : Option impl_headsOk.R :=
  cond a5 (some (false, ())) (t.1 (a0, a1, a2, a3, (w64 (a4 + (1 : Int))), ()))
def impl_headsOk.tab (m : Nat) : Nat → impl_headsOk.Tab
  | 0 => (fun _ => none, fun _ => none, ())
  | k + 1 => (fun x => impl_headsOk.b0 m (impl_headsOk.tab m k) x.1 x.2.1 x.2.2.1 x.2.2.2.1 x.2.2.2.2.1, fun x => impl_headsOk.b1 m (impl_headsOk.tab m k) x.1 x.2.1 x.2.2.1 x.2.2.2.1 x.2.2.2.2.1 x.2.2.2.2.2.1, ())
def impl_headsOk (m : Nat) (x : Den [.list (.pair (.str) (.int .i64)), .int .i64]) : Option impl_headsOk.R := impl_headsOk.start m (impl_headsOk.tab m m) x.1 x.2.1
def impl_headsOk.cons (m : Nat) : List (Nat × Contract) := [(39, ⟨impl_nameOk.sig, impl_nameOk m⟩), (78, ⟨impl_within.sig, impl_within m⟩)]
def impl_headsOk.cuts (m : Nat) : List (CutF (Den impl_headsOk.sig.us)) := [⟨[false, true, false, true], 26, ⟨[], [(0, .l (.dat (.list (.pair (.str) (.int .i64))))), (1, .l (.dat (.int .i64))), (7, .l (.dat (.list (.pair (.str) (.int .i64))))), (8, .l (.dat (.int .i64))), (9, .l (.dat (.int .i64)))]⟩, [.list (.pair (.str) (.int .i64)), .int .i64, .list (.pair (.str) (.int .i64)), .int .i64, .int .i64], fun k => (impl_headsOk.tab m k).1⟩,
  ⟨[true, true, false, false, true, true, false, false, true, false, true], 3379, ⟨[], [(0, .l (.dat (.list (.pair (.str) (.int .i64))))), (1, .l (.dat (.int .i64))), (7, .l (.dat (.list (.pair (.str) (.int .i64))))), (8, .l (.dat (.int .i64))), (9, .l (.dat (.int .i64))), (40, .l (.dat (.bool)))]⟩, [.list (.pair (.str) (.int .i64)), .int .i64, .list (.pair (.str) (.int .i64)), .int .i64, .int .i64, .bool], fun k => (impl_headsOk.tab m k).2.1⟩]
theorem impl_headsOk.eq0 (m k : Nat) (x : Den [.list (.pair (.str) (.int .i64)), .int .i64, .list (.pair (.str) (.int .i64)), .int .i64, .int .i64]) : (impl_headsOk.tab m (k + 1)).1 x = runF ⟨lookΓ Γl, lookC (impl_headsOk.cons m), false⟩ Tryz.f70 impl_headsOk.sig (impl_headsOk.cuts m) k [false, true, false, true] ⟨[], [(0, .l (.dat (.list (.pair (.str) (.int .i64))))), (1, .l (.dat (.int .i64))), (7, .l (.dat (.list (.pair (.str) (.int .i64))))), (8, .l (.dat (.int .i64))), (9, .l (.dat (.int .i64)))]⟩ [.list (.pair (.str) (.int .i64)), .int .i64, .list (.pair (.str) (.int .i64)), .int .i64, .int .i64] x := by kernel_rfl
theorem impl_headsOk.eq1 (m k : Nat) (x : Den [.list (.pair (.str) (.int .i64)), .int .i64, .list (.pair (.str) (.int .i64)), .int .i64, .int .i64, .bool]) : (impl_headsOk.tab m (k + 1)).2.1 x = runF ⟨lookΓ Γl, lookC (impl_headsOk.cons m), false⟩ Tryz.f70 impl_headsOk.sig (impl_headsOk.cuts m) k [true, true, false, false, true, true, false, false, true, false, true] ⟨[], [(0, .l (.dat (.list (.pair (.str) (.int .i64))))), (1, .l (.dat (.int .i64))), (7, .l (.dat (.list (.pair (.str) (.int .i64))))), (8, .l (.dat (.int .i64))), (9, .l (.dat (.int .i64))), (40, .l (.dat (.bool)))]⟩ [.list (.pair (.str) (.int .i64)), .int .i64, .list (.pair (.str) (.int .i64)), .int .i64, .int .i64, .bool] x := by kernel_rfl
theorem impl_headsOk.eq (m : Nat) (x : Den impl_headsOk.sig.ts) : impl_headsOk m x = startF ⟨lookΓ Γl, lookC (impl_headsOk.cons m), false⟩ Tryz.f70 impl_headsOk.sig (impl_headsOk.cuts m) m x := by kernel_rfl
theorem impl_headsOk.ok (m : Nat) : Meets Tryz.prog 70 impl_headsOk.sig (impl_headsOk m) :=
  fn_is (cx_is tyOk mixed (l := impl_headsOk.cons m) ⟨impl_nameOk.ok m, impl_within.ok m, trivial⟩) (fn := Tryz.f70) Tryz.func70 (by kernel_rfl) (cl := impl_headsOk.cuts m) ⟨⟨by kernel_rfl, fun _ => rfl, fun k x => impl_headsOk.eq0 m k x⟩, ⟨by kernel_rfl, fun _ => rfl, fun k x => impl_headsOk.eq1 m k x⟩, trivial⟩ (k := m) (impl_headsOk.eq m)

/-! ### loop.example/stemma/impl.RepoOk: function 31 -/
abbrev impl_RepoOk.R : Type := Den [.bool]
def impl_RepoOk.sig : Sig := ⟨1, ⟨[], [(0, .agg [.dat (.list (.pair (.list (.int .i64)) (.pair (.str) (.list (.pair (.str) (.list (.str))))))), .dat (.list (.pair (.str) (.int .i64)))])]⟩, [.list (.pair (.list (.int .i64)) (.pair (.str) (.list (.pair (.str) (.list (.str)))))), .list (.pair (.str) (.int .i64))], ⟨[], [(0, .l (.dat (.bool)))]⟩, [.bool]⟩
abbrev impl_RepoOk.Tab : Type := (Den [.list (.pair (.list (.int .i64)) (.pair (.str) (.list (.pair (.str) (.list (.str)))))), .list (.pair (.str) (.int .i64)), .list (.pair (.list (.int .i64)) (.pair (.str) (.list (.pair (.str) (.list (.str)))))), .int .i64, .int .i64] → Option impl_RepoOk.R) × Unit
def impl_RepoOk.start (m : Nat) (t : impl_RepoOk.Tab) (x0 : List (List Int × ByteArray × List (ByteArray × List ByteArray))) (x1 : List (ByteArray × Int)) : Option impl_RepoOk.R :=
  t.1 (x0, x1, x0, (lLen x0), (0 : Int), ())
def impl_RepoOk.b0 (m : Nat) (t : impl_RepoOk.Tab) (a0 : List (List Int × ByteArray × List (ByteArray × List ByteArray))) (a1 : List (ByteArray × Int)) (a2 : List (List Int × ByteArray × List (ByteArray × List ByteArray))) (a3 : Int) (a4 : Int) : Option impl_RepoOk.R :=
  cond (decide (a4 < a3)) (cond (decide ((0 : Int) ≤ a4)) (cond (decide (a4 < lLen a2)) (lett ((getL a2 a4 (([] : List Int), ByteArray.empty, ([] : List (ByteArray × List ByteArray)))) : List Int × ByteArray × List (ByteArray × List ByteArray)) fun v1 => cond (a4 == (16 : Int)) (some (false, ())) (Option.bind (impl_commitOk m (v1.1, v1.2.1, v1.2.2, a4, ())) fun r2 => cond (!r2.1) (some (false, ())) (t.1 (a0, a1, a2, a3, (w64 (a4 + (1 : Int))), ())))) none) none) (Option.bind (impl_headsOk m (a1, (lLen a0), ())) fun r3 => some (r3.1, ()))
def impl_RepoOk.tab (m : Nat) : Nat → impl_RepoOk.Tab
  | 0 => (fun _ => none, ())
  | k + 1 => (fun x => impl_RepoOk.b0 m (impl_RepoOk.tab m k) x.1 x.2.1 x.2.2.1 x.2.2.2.1 x.2.2.2.2.1, ())
def impl_RepoOk (m : Nat) (x : Den [.list (.pair (.list (.int .i64)) (.pair (.str) (.list (.pair (.str) (.list (.str)))))), .list (.pair (.str) (.int .i64))]) : Option impl_RepoOk.R := impl_RepoOk.start m (impl_RepoOk.tab m m) x.1 x.2.1
def impl_RepoOk.cons (m : Nat) : List (Nat × Contract) := [(69, ⟨impl_commitOk.sig, impl_commitOk m⟩), (70, ⟨impl_headsOk.sig, impl_headsOk m⟩)]
def impl_RepoOk.cuts (m : Nat) : List (CutF (Den impl_RepoOk.sig.us)) := [⟨[false, true, false, true], 26, ⟨[.box [.dat (.list (.pair (.list (.int .i64)) (.pair (.str) (.list (.pair (.str) (.list (.str))))))), .dat (.list (.pair (.str) (.int .i64)))]], [(1, .l (.ptr 0 0)), (6, .l (.dat (.list (.pair (.list (.int .i64)) (.pair (.str) (.list (.pair (.str) (.list (.str))))))))), (7, .l (.dat (.int .i64))), (8, .l (.dat (.int .i64)))]⟩, [.list (.pair (.list (.int .i64)) (.pair (.str) (.list (.pair (.str) (.list (.str)))))), .list (.pair (.str) (.int .i64)), .list (.pair (.list (.int .i64)) (.pair (.str) (.list (.pair (.str) (.list (.str)))))), .int .i64, .int .i64], fun k => (impl_RepoOk.tab m k).1⟩]
theorem impl_RepoOk.eq0 (m k : Nat) (x : Den [.list (.pair (.list (.int .i64)) (.pair (.str) (.list (.pair (.str) (.list (.str)))))), .list (.pair (.str) (.int .i64)), .list (.pair (.list (.int .i64)) (.pair (.str) (.list (.pair (.str) (.list (.str)))))), .int .i64, .int .i64]) : (impl_RepoOk.tab m (k + 1)).1 x = runF ⟨lookΓ Γl, lookC (impl_RepoOk.cons m), false⟩ Tryz.f31 impl_RepoOk.sig (impl_RepoOk.cuts m) k [false, true, false, true] ⟨[.box [.dat (.list (.pair (.list (.int .i64)) (.pair (.str) (.list (.pair (.str) (.list (.str))))))), .dat (.list (.pair (.str) (.int .i64)))]], [(1, .l (.ptr 0 0)), (6, .l (.dat (.list (.pair (.list (.int .i64)) (.pair (.str) (.list (.pair (.str) (.list (.str))))))))), (7, .l (.dat (.int .i64))), (8, .l (.dat (.int .i64)))]⟩ [.list (.pair (.list (.int .i64)) (.pair (.str) (.list (.pair (.str) (.list (.str)))))), .list (.pair (.str) (.int .i64)), .list (.pair (.list (.int .i64)) (.pair (.str) (.list (.pair (.str) (.list (.str)))))), .int .i64, .int .i64] x := by kernel_rfl
theorem impl_RepoOk.eq (m : Nat) (x : Den impl_RepoOk.sig.ts) : impl_RepoOk m x = startF ⟨lookΓ Γl, lookC (impl_RepoOk.cons m), false⟩ Tryz.f31 impl_RepoOk.sig (impl_RepoOk.cuts m) m x := by kernel_rfl
theorem impl_RepoOk.ok (m : Nat) : Meets Tryz.prog 31 impl_RepoOk.sig (impl_RepoOk m) :=
  fn_is (cx_is tyOk mixed (l := impl_RepoOk.cons m) ⟨impl_commitOk.ok m, impl_headsOk.ok m, trivial⟩) (fn := Tryz.f31) Tryz.func31 (by kernel_rfl) (cl := impl_RepoOk.cuts m) ⟨⟨by kernel_rfl, fun _ => rfl, fun k x => impl_RepoOk.eq0 m k x⟩, trivial⟩ (k := m) (impl_RepoOk.eq m)

/-! ### internal/strconv.small: function 137 -/
abbrev internal_strconv_small.R : Type := Den [.str]
def internal_strconv_small.sig : Sig := ⟨1, ⟨[], [(0, .l (.dat (.int .i64)))]⟩, [.int .i64], ⟨[], [(0, .l (.dat (.str)))]⟩, [.str]⟩
abbrev internal_strconv_small.Tab : Type := Unit
def internal_strconv_small.start (m : Nat) (t : internal_strconv_small.Tab) (x0 : Int) : Option internal_strconv_small.R :=
  cond (decide (x0 < (10 : Int))) (cond (decide ((0 : Int) ≤ (w64 (x0 + (1 : Int))))) (cond (decide ((w64 (x0 + (1 : Int))) ≤ (ByteArray.size s_30313233343536373839616263646566_36 : Int))) (cond (decide ((0 : Int) ≤ x0)) (cond (decide (x0 ≤ (w64 (x0 + (1 : Int))))) (lett ((cutS s_30313233343536373839616263646566_36 (Int.toNat x0) (Int.toNat (w64 (x0 + (1 : Int))))) : ByteArray) fun v1 => some (v1, ())) none) none) none) none) (lett ((w64 ((w64 (x0 * (2 : Int))) + (2 : Int))) : Int) fun v2 => cond (decide ((0 : Int) ≤ v2)) (cond (decide (v2 ≤ (ByteArray.size s_30303031303230333034303530363037_200 : Int))) (cond (decide ((0 : Int) ≤ (w64 (x0 * (2 : Int))))) (cond (decide ((w64 (x0 * (2 : Int))) ≤ v2)) (lett ((cutS s_30303031303230333034303530363037_200 (Int.toNat (w64 (x0 * (2 : Int)))) (Int.toNat v2)) : ByteArray) fun v3 => some (v3, ())) none) none) none) none)
def internal_strconv_small.tab (m : Nat) : Nat → internal_strconv_small.Tab
  | 0 => (())
  | k + 1 => (())
def internal_strconv_small (m : Nat) (x : Den [.int .i64]) : Option internal_strconv_small.R := internal_strconv_small.start m (internal_strconv_small.tab m m) x.1
def internal_strconv_small.cons (m : Nat) : List (Nat × Contract) := []
def internal_strconv_small.cuts (m : Nat) : List (CutF (Den internal_strconv_small.sig.us)) := []
theorem internal_strconv_small.eq (m : Nat) (x : Den internal_strconv_small.sig.ts) : internal_strconv_small m x = startF ⟨lookΓ Γl, lookC (internal_strconv_small.cons m), false⟩ Tryz.f137 internal_strconv_small.sig (internal_strconv_small.cuts m) m x := by kernel_rfl
theorem internal_strconv_small.ok (m : Nat) : Meets Tryz.prog 137 internal_strconv_small.sig (internal_strconv_small m) :=
  fn_is (cx_is tyOk mixed (l := internal_strconv_small.cons m) trivial) (fn := Tryz.f137) Tryz.func137 (by kernel_rfl) (cl := internal_strconv_small.cuts m) trivial (k := m) (internal_strconv_small.eq m)

/-! ### internal/strconv.FormatInt: function 117 -/
abbrev internal_strconv_FormatInt.R : Type := Den [.str]
def internal_strconv_FormatInt.sig : Sig := ⟨2, ⟨[], [(0, .l (.dat (.int .i64))), (1, .l (.dat (.int .i64)))]⟩, [.int .i64, .int .i64], ⟨[], [(0, .l (.dat (.str)))]⟩, [.str]⟩
abbrev internal_strconv_FormatInt.Tab : Type := (Den [.int .i64] → Option internal_strconv_FormatInt.R) × Unit
def internal_strconv_FormatInt.start (m : Nat) (t : internal_strconv_FormatInt.Tab) (x0 : Int) (x1 : Int) : Option internal_strconv_FormatInt.R :=
  cond (x1 == (10 : Int)) (cond (decide ((0 : Int) ≤ x0)) (cond (decide (x0 < (100 : Int))) (Option.bind (internal_strconv_small m (x0, ())) fun r1 => some (r1.1, ())) (t.1 (x0, ()))) (t.1 (x0, ()))) (none)
def internal_strconv_FormatInt.b0 (m : Nat) (t : internal_strconv_FormatInt.Tab) (a0 : Int) : Option internal_strconv_FormatInt.R :=
  none
def internal_strconv_FormatInt.tab (m : Nat) : Nat → internal_strconv_FormatInt.Tab
  | 0 => (fun _ => none, ())
  | k + 1 => (fun x => internal_strconv_FormatInt.b0 m (internal_strconv_FormatInt.tab m k) x.1, ())
def internal_strconv_FormatInt (m : Nat) (x : Den [.int .i64, .int .i64]) : Option internal_strconv_FormatInt.R := internal_strconv_FormatInt.start m (internal_strconv_FormatInt.tab m m) x.1 x.2.1
def internal_strconv_FormatInt.cons (m : Nat) : List (Nat × Contract) := [(137, ⟨internal_strconv_small.sig, internal_strconv_small m⟩)]
def internal_strconv_FormatInt.cuts (m : Nat) : List (CutF (Den internal_strconv_FormatInt.sig.us)) := [⟨[true, false, true, false, true], 53, ⟨[], [(0, .l (.dat (.int .i64)))]⟩, [.int .i64], fun k => (internal_strconv_FormatInt.tab m k).1⟩]
theorem internal_strconv_FormatInt.eq0 (m k : Nat) (x : Den [.int .i64]) : (internal_strconv_FormatInt.tab m (k + 1)).1 x = runF ⟨lookΓ Γl, lookC (internal_strconv_FormatInt.cons m), false⟩ Tryz.f117 internal_strconv_FormatInt.sig (internal_strconv_FormatInt.cuts m) k [true, false, true, false, true] ⟨[], [(0, .l (.dat (.int .i64)))]⟩ [.int .i64] x := by kernel_rfl
theorem internal_strconv_FormatInt.eq (m : Nat) (x : Den internal_strconv_FormatInt.sig.ts) : internal_strconv_FormatInt m x = startF ⟨lookΓ Γl, lookC (internal_strconv_FormatInt.cons m), false⟩ Tryz.f117 internal_strconv_FormatInt.sig (internal_strconv_FormatInt.cuts m) m x := by kernel_rfl
theorem internal_strconv_FormatInt.ok (m : Nat) : Meets Tryz.prog 117 internal_strconv_FormatInt.sig (internal_strconv_FormatInt m) :=
  fn_is (cx_is tyOk mixed (l := internal_strconv_FormatInt.cons m) ⟨internal_strconv_small.ok m, trivial⟩) (fn := Tryz.f117) Tryz.func117 (by kernel_rfl) (cl := internal_strconv_FormatInt.cuts m) ⟨⟨by kernel_rfl, fun _ => rfl, fun k x => internal_strconv_FormatInt.eq0 m k x⟩, trivial⟩ (k := m) (internal_strconv_FormatInt.eq m)

/-! ### internal/strconv.Itoa: function 87 -/
abbrev internal_strconv_Itoa.R : Type := Den [.str]
def internal_strconv_Itoa.sig : Sig := ⟨1, ⟨[], [(0, .l (.dat (.int .i64)))]⟩, [.int .i64], ⟨[], [(0, .l (.dat (.str)))]⟩, [.str]⟩
abbrev internal_strconv_Itoa.Tab : Type := Unit
def internal_strconv_Itoa.start (m : Nat) (t : internal_strconv_Itoa.Tab) (x0 : Int) : Option internal_strconv_Itoa.R :=
  Option.bind (internal_strconv_FormatInt m (x0, (10 : Int), ())) fun r1 => some (r1.1, ())
def internal_strconv_Itoa.tab (m : Nat) : Nat → internal_strconv_Itoa.Tab
  | 0 => (())
  | k + 1 => (())
def internal_strconv_Itoa (m : Nat) (x : Den [.int .i64]) : Option internal_strconv_Itoa.R := internal_strconv_Itoa.start m (internal_strconv_Itoa.tab m m) x.1
def internal_strconv_Itoa.cons (m : Nat) : List (Nat × Contract) := [(117, ⟨internal_strconv_FormatInt.sig, internal_strconv_FormatInt m⟩)]
def internal_strconv_Itoa.cuts (m : Nat) : List (CutF (Den internal_strconv_Itoa.sig.us)) := []
theorem internal_strconv_Itoa.eq (m : Nat) (x : Den internal_strconv_Itoa.sig.ts) : internal_strconv_Itoa m x = startF ⟨lookΓ Γl, lookC (internal_strconv_Itoa.cons m), false⟩ Tryz.f87 internal_strconv_Itoa.sig (internal_strconv_Itoa.cuts m) m x := by kernel_rfl
theorem internal_strconv_Itoa.ok (m : Nat) : Meets Tryz.prog 87 internal_strconv_Itoa.sig (internal_strconv_Itoa m) :=
  fn_is (cx_is tyOk mixed (l := internal_strconv_Itoa.cons m) ⟨internal_strconv_FormatInt.ok m, trivial⟩) (fn := Tryz.f87) Tryz.func87 (by kernel_rfl) (cl := internal_strconv_Itoa.cuts m) trivial (k := m) (internal_strconv_Itoa.eq m)

/-! ### strconv.Itoa: function 46 -/
abbrev strconv_Itoa.R : Type := Den [.str]
def strconv_Itoa.sig : Sig := ⟨1, ⟨[], [(0, .l (.dat (.int .i64)))]⟩, [.int .i64], ⟨[], [(0, .l (.dat (.str)))]⟩, [.str]⟩
abbrev strconv_Itoa.Tab : Type := Unit
def strconv_Itoa.start (m : Nat) (t : strconv_Itoa.Tab) (x0 : Int) : Option strconv_Itoa.R :=
  Option.bind (internal_strconv_Itoa m (x0, ())) fun r1 => some (r1.1, ())
def strconv_Itoa.tab (m : Nat) : Nat → strconv_Itoa.Tab
  | 0 => (())
  | k + 1 => (())
def strconv_Itoa (m : Nat) (x : Den [.int .i64]) : Option strconv_Itoa.R := strconv_Itoa.start m (strconv_Itoa.tab m m) x.1
def strconv_Itoa.cons (m : Nat) : List (Nat × Contract) := [(87, ⟨internal_strconv_Itoa.sig, internal_strconv_Itoa m⟩)]
def strconv_Itoa.cuts (m : Nat) : List (CutF (Den strconv_Itoa.sig.us)) := []
theorem strconv_Itoa.eq (m : Nat) (x : Den strconv_Itoa.sig.ts) : strconv_Itoa m x = startF ⟨lookΓ Γl, lookC (strconv_Itoa.cons m), false⟩ Tryz.f46 strconv_Itoa.sig (strconv_Itoa.cuts m) m x := by kernel_rfl
theorem strconv_Itoa.ok (m : Nat) : Meets Tryz.prog 46 strconv_Itoa.sig (strconv_Itoa m) :=
  fn_is (cx_is tyOk mixed (l := strconv_Itoa.cons m) ⟨internal_strconv_Itoa.ok m, trivial⟩) (fn := Tryz.f46) Tryz.func46 (by kernel_rfl) (cl := strconv_Itoa.cuts m) trivial (k := m) (strconv_Itoa.eq m)

/-! ### loop.example/stemma/impl.TreePut: function 47 -/
abbrev impl_TreePut.R : Type := Den [.str]
def impl_TreePut.sig : Sig := ⟨1, ⟨[], [(0, .l (.dat (.list (.pair (.str) (.list (.str))))))]⟩, [.list (.pair (.str) (.list (.str)))], ⟨[], [(0, .l (.dat (.str)))]⟩, [.str]⟩
abbrev impl_TreePut.Tab : Type := (Den [.str, .list (.pair (.str) (.list (.str))), .int .i64, .int .i64] → Option impl_TreePut.R) × (Den [.str, .list (.pair (.str) (.list (.str))), .int .i64, .int .i64, .list (.str), .int .i64, .int .i64] → Option impl_TreePut.R) × Unit
def impl_TreePut.start (m : Nat) (t : impl_TreePut.Tab) (x0 : List (ByteArray × List ByteArray)) : Option impl_TreePut.R :=
  Option.bind (impl_TreeOk m (x0, ())) fun r1 => cond (!r1.1) (some (ByteArray.empty, ())) (t.1 (ByteArray.empty, x0, (lLen x0), (0 : Int), ()))
def impl_TreePut.b0 (m : Nat) (t : impl_TreePut.Tab) (a0 : ByteArray) (a1 : List (ByteArray × List ByteArray)) (a2 : Int) (a3 : Int) : Option impl_TreePut.R :=
  cond (decide (a3 < a2)) (cond (decide ((0 : Int) ≤ a3)) (cond (decide (a3 < lLen a1)) (lett ((getL a1 a3 (ByteArray.empty, ([] : List ByteArray))) : ByteArray × List ByteArray) fun v1 => cond (decide (ByteArray.size s_66696c6520 + ByteArray.size v1.1 ≤ cap)) (cond (decide (ByteArray.size (ByteArray.append s_66696c6520 v1.1) + ByteArray.size s_20 ≤ cap)) (lett ((ByteArray.append (ByteArray.append s_66696c6520 v1.1) s_20) : ByteArray) fun v2 => Option.bind (strconv_Itoa m ((lLen v1.2), ())) fun r3 => cond (decide (ByteArray.size v2 + ByteArray.size r3.1 ≤ cap)) (cond (decide (ByteArray.size (ByteArray.append v2 r3.1) + ByteArray.size s_0a ≤ cap)) (lett ((ByteArray.append (ByteArray.append v2 r3.1) s_0a) : ByteArray) fun v4 => cond (decide (ByteArray.size a0 + ByteArray.size v4 ≤ cap)) (t.2.1 ((ByteArray.append a0 v4), a1, a2, a3, v1.2, (lLen v1.2), (0 : Int), ())) none) none) none) none) none) none) none) (some (a0, ()))
def impl_TreePut.b1 (m : Nat) (t : impl_TreePut.Tab) (a0 : ByteArray) (a1 : List (ByteArray × List ByteArray)) (a2 : Int) (a3 : Int) (a4 : List ByteArray) (a5 : Int) (a6 : Int) : Option impl_TreePut.R :=
  cond (decide (a6 < a5)) (cond (decide ((0 : Int) ≤ a6)) (cond (decide (a6 < lLen a4)) (cond (decide (ByteArray.size (getL a4 a6 ByteArray.empty) + ByteArray.size s_0a ≤ cap)) (lett ((ByteArray.append (getL a4 a6 ByteArray.empty) s_0a) : ByteArray) fun v1 => cond (decide (ByteArray.size a0 + ByteArray.size v1 ≤ cap)) (t.2.1 ((ByteArray.append a0 v1), a1, a2, a3, a4, a5, (w64 (a6 + (1 : Int))), ())) none) none) none) none) (t.1 (a0, a1, a2, (w64 (a3 + (1 : Int))), ()))
def impl_TreePut.tab (m : Nat) : Nat → impl_TreePut.Tab
  | 0 => (fun _ => none, fun _ => none, ())
  | k + 1 => (fun x => impl_TreePut.b0 m (impl_TreePut.tab m k) x.1 x.2.1 x.2.2.1 x.2.2.2.1, fun x => impl_TreePut.b1 m (impl_TreePut.tab m k) x.1 x.2.1 x.2.2.1 x.2.2.2.1 x.2.2.2.2.1 x.2.2.2.2.2.1 x.2.2.2.2.2.2.1, ())
def impl_TreePut (m : Nat) (x : Den [.list (.pair (.str) (.list (.str)))]) : Option impl_TreePut.R := impl_TreePut.start m (impl_TreePut.tab m m) x.1
def impl_TreePut.cons (m : Nat) : List (Nat × Contract) := [(71, ⟨impl_TreeOk.sig, impl_TreeOk m⟩), (46, ⟨strconv_Itoa.sig, strconv_Itoa m⟩)]
def impl_TreePut.cuts (m : Nat) : List (CutF (Den impl_TreePut.sig.us)) := [⟨[false, true, false, true, true, true], 122, ⟨[], [(3, .l (.dat (.str))), (11, .l (.dat (.list (.pair (.str) (.list (.str)))))), (12, .l (.dat (.int .i64))), (13, .l (.dat (.int .i64)))]⟩, [.str, .list (.pair (.str) (.list (.str))), .int .i64, .int .i64], fun k => (impl_TreePut.tab m k).1⟩,
  ⟨[false, true, true, true, false, false, true, true, false, false, true, false, true, true, true], 62670, ⟨[], [(3, .l (.dat (.str))), (11, .l (.dat (.list (.pair (.str) (.list (.str)))))), (12, .l (.dat (.int .i64))), (13, .l (.dat (.int .i64))), (30, .l (.dat (.list (.str)))), (31, .l (.dat (.int .i64))), (32, .l (.dat (.int .i64)))]⟩, [.str, .list (.pair (.str) (.list (.str))), .int .i64, .int .i64, .list (.str), .int .i64, .int .i64], fun k => (impl_TreePut.tab m k).2.1⟩]
theorem impl_TreePut.eq0 (m k : Nat) (x : Den [.str, .list (.pair (.str) (.list (.str))), .int .i64, .int .i64]) : (impl_TreePut.tab m (k + 1)).1 x = runF ⟨lookΓ Γl, lookC (impl_TreePut.cons m), false⟩ Tryz.f47 impl_TreePut.sig (impl_TreePut.cuts m) k [false, true, false, true, true, true] ⟨[], [(3, .l (.dat (.str))), (11, .l (.dat (.list (.pair (.str) (.list (.str)))))), (12, .l (.dat (.int .i64))), (13, .l (.dat (.int .i64)))]⟩ [.str, .list (.pair (.str) (.list (.str))), .int .i64, .int .i64] x := by kernel_rfl
theorem impl_TreePut.eq1 (m k : Nat) (x : Den [.str, .list (.pair (.str) (.list (.str))), .int .i64, .int .i64, .list (.str), .int .i64, .int .i64]) : (impl_TreePut.tab m (k + 1)).2.1 x = runF ⟨lookΓ Γl, lookC (impl_TreePut.cons m), false⟩ Tryz.f47 impl_TreePut.sig (impl_TreePut.cuts m) k [false, true, true, true, false, false, true, true, false, false, true, false, true, true, true] ⟨[], [(3, .l (.dat (.str))), (11, .l (.dat (.list (.pair (.str) (.list (.str)))))), (12, .l (.dat (.int .i64))), (13, .l (.dat (.int .i64))), (30, .l (.dat (.list (.str)))), (31, .l (.dat (.int .i64))), (32, .l (.dat (.int .i64)))]⟩ [.str, .list (.pair (.str) (.list (.str))), .int .i64, .int .i64, .list (.str), .int .i64, .int .i64] x := by kernel_rfl
theorem impl_TreePut.eq (m : Nat) (x : Den impl_TreePut.sig.ts) : impl_TreePut m x = startF ⟨lookΓ Γl, lookC (impl_TreePut.cons m), false⟩ Tryz.f47 impl_TreePut.sig (impl_TreePut.cuts m) m x := by kernel_rfl
theorem impl_TreePut.ok (m : Nat) : Meets Tryz.prog 47 impl_TreePut.sig (impl_TreePut m) :=
  fn_is (cx_is tyOk mixed (l := impl_TreePut.cons m) ⟨impl_TreeOk.ok m, strconv_Itoa.ok m, trivial⟩) (fn := Tryz.f47) Tryz.func47 (by kernel_rfl) (cl := impl_TreePut.cuts m) ⟨⟨by kernel_rfl, fun _ => rfl, fun k x => impl_TreePut.eq0 m k x⟩, ⟨by kernel_rfl, fun _ => rfl, fun k x => impl_TreePut.eq1 m k x⟩, trivial⟩ (k := m) (impl_TreePut.eq m)

/-! ### loop.example/stemma/impl.RepoPut: function 18 -/
abbrev impl_RepoPut.R : Type := Den [.str]
def impl_RepoPut.sig : Sig := ⟨1, ⟨[], [(0, .agg [.dat (.list (.pair (.list (.int .i64)) (.pair (.str) (.list (.pair (.str) (.list (.str))))))), .dat (.list (.pair (.str) (.int .i64)))])]⟩, [.list (.pair (.list (.int .i64)) (.pair (.str) (.list (.pair (.str) (.list (.str)))))), .list (.pair (.str) (.int .i64))], ⟨[], [(0, .l (.dat (.str)))]⟩, [.str]⟩
abbrev impl_RepoPut.Tab : Type := (Den [.list (.pair (.list (.int .i64)) (.pair (.str) (.list (.pair (.str) (.list (.str)))))), .list (.pair (.str) (.int .i64)), .str, .list (.pair (.list (.int .i64)) (.pair (.str) (.list (.pair (.str) (.list (.str)))))), .int .i64, .int .i64] → Option impl_RepoPut.R) × (Den [.list (.pair (.list (.int .i64)) (.pair (.str) (.list (.pair (.str) (.list (.str)))))), .list (.pair (.str) (.int .i64)), .list (.int .i64), .str, .list (.pair (.str) (.list (.str))), .str, .list (.pair (.list (.int .i64)) (.pair (.str) (.list (.pair (.str) (.list (.str)))))), .int .i64, .int .i64, .list (.int .i64), .int .i64, .int .i64] → Option impl_RepoPut.R) × (Den [.str, .list (.pair (.str) (.int .i64)), .int .i64, .int .i64] → Option impl_RepoPut.R) × Unit
def impl_RepoPut.start (m : Nat) (t : impl_RepoPut.Tab) (x0 : List (List Int × ByteArray × List (ByteArray × List ByteArray))) (x1 : List (ByteArray × Int)) : Option impl_RepoPut.R :=
  Option.bind (impl_RepoOk m (x0, x1, ())) fun r1 => cond (!r1.1) (some (ByteArray.empty, ())) (t.1 (x0, x1, ByteArray.empty, x0, (lLen x0), (0 : Int), ()))
def impl_RepoPut.b0 (m : Nat) (t : impl_RepoPut.Tab) (a0 : List (List Int × ByteArray × List (ByteArray × List ByteArray))) (a1 : List (ByteArray × Int)) (a2 : ByteArray) (a3 : List (List Int × ByteArray × List (ByteArray × List ByteArray))) (a4 : Int) (a5 : Int) : Option impl_RepoPut.R :=
  cond (decide (a5 < a4)) (cond (decide ((0 : Int) ≤ a5)) (cond (decide (a5 < lLen a3)) (lett ((getL a3 a5 (([] : List Int), ByteArray.empty, ([] : List (ByteArray × List ByteArray)))) : List Int × ByteArray × List (ByteArray × List ByteArray)) fun v1 => cond (decide (ByteArray.size s_636f6d6d697420 + ByteArray.size v1.2.1 ≤ cap)) (lett ((ByteArray.append s_636f6d6d697420 v1.2.1) : ByteArray) fun v2 => cond (decide (ByteArray.size a2 + ByteArray.size v2 ≤ cap)) (t.2.1 (a0, a1, v1.1, v1.2.1, v1.2.2, (ByteArray.append a2 v2), a3, a4, a5, v1.1, (lLen v1.1), (0 : Int), ())) none) none) none) none) (t.2.2.1 (a2, a1, (lLen a1), (0 : Int), ()))
def impl_RepoPut.b1 (m : Nat) (t : impl_RepoPut.Tab) (a0 : List (List Int × ByteArray × List (ByteArray × List ByteArray))) (a1 : List (ByteArray × Int)) (a2 : List Int) (a3 : ByteArray) (a4 : List (ByteArray × List ByteArray)) (a5 : ByteArray) (a6 : List (List Int × ByteArray × List (ByteArray × List ByteArray))) (a7 : Int) (a8 : Int) (a9 : List Int) (a10 : Int) (a11 : Int) : Option impl_RepoPut.R :=
  cond (decide (a11 < a10)) (cond (decide ((0 : Int) ≤ a11)) (cond (decide (a11 < lLen a9)) (Option.bind (strconv_Itoa m ((getL a9 a11 (0 : Int)), ())) fun r1 => cond (decide (ByteArray.size s_20 + ByteArray.size r1.1 ≤ cap)) (cond (decide (ByteArray.size a5 + ByteArray.size (ByteArray.append s_20 r1.1) ≤ cap)) (lett ((ByteArray.append a5 (ByteArray.append s_20 r1.1)) : ByteArray) fun v2 => t.2.1 (a0, a1, a2, a3, a4, v2, a6, a7, a8, a9, a10, (w64 (a11 + (1 : Int))), ())) none) none) none) none) (Option.bind (impl_TreePut m (a4, ())) fun r3 => cond (decide (ByteArray.size s_0a + ByteArray.size r3.1 ≤ cap)) (cond (decide (ByteArray.size a5 + ByteArray.size (ByteArray.append s_0a r3.1) ≤ cap)) (lett ((ByteArray.append a5 (ByteArray.append s_0a r3.1)) : ByteArray) fun v4 => t.1 (a0, a1, v4, a6, a7, (w64 (a8 + (1 : Int))), ())) none) none)
def impl_RepoPut.b2 (m : Nat) (t : impl_RepoPut.Tab) (a0 : ByteArray) (a1 : List (ByteArray × Int)) (a2 : Int) (a3 : Int) : Option impl_RepoPut.R :=
  cond (decide (a3 < a2)) (cond (decide ((0 : Int) ≤ a3)) (cond (decide (a3 < lLen a1)) (lett ((getL a1 a3 (ByteArray.empty, (0 : Int))) : ByteArray × Int) fun v1 => cond (decide (ByteArray.size s_6272616e636820 + ByteArray.size v1.1 ≤ cap)) (cond (decide (ByteArray.size (ByteArray.append s_6272616e636820 v1.1) + ByteArray.size s_20 ≤ cap)) (lett ((ByteArray.append (ByteArray.append s_6272616e636820 v1.1) s_20) : ByteArray) fun v2 => Option.bind (strconv_Itoa m (v1.2, ())) fun r3 => cond (decide (ByteArray.size v2 + ByteArray.size r3.1 ≤ cap)) (cond (decide (ByteArray.size (ByteArray.append v2 r3.1) + ByteArray.size s_0a ≤ cap)) (lett ((ByteArray.append (ByteArray.append v2 r3.1) s_0a) : ByteArray) fun v4 => cond (decide (ByteArray.size a0 + ByteArray.size v4 ≤ cap)) (t.2.2.1 ((ByteArray.append a0 v4), a1, a2, (w64 (a3 + (1 : Int))), ())) none) none) none) none) none) none) none) (some (a0, ()))
def impl_RepoPut.tab (m : Nat) : Nat → impl_RepoPut.Tab
  | 0 => (fun _ => none, fun _ => none, fun _ => none, ())
  | k + 1 => (fun x => impl_RepoPut.b0 m (impl_RepoPut.tab m k) x.1 x.2.1 x.2.2.1 x.2.2.2.1 x.2.2.2.2.1 x.2.2.2.2.2.1, fun x => impl_RepoPut.b1 m (impl_RepoPut.tab m k) x.1 x.2.1 x.2.2.1 x.2.2.2.1 x.2.2.2.2.1 x.2.2.2.2.2.1 x.2.2.2.2.2.2.1 x.2.2.2.2.2.2.2.1 x.2.2.2.2.2.2.2.2.1 x.2.2.2.2.2.2.2.2.2.1 x.2.2.2.2.2.2.2.2.2.2.1 x.2.2.2.2.2.2.2.2.2.2.2.1, fun x => impl_RepoPut.b2 m (impl_RepoPut.tab m k) x.1 x.2.1 x.2.2.1 x.2.2.2.1, ())
def impl_RepoPut (m : Nat) (x : Den [.list (.pair (.list (.int .i64)) (.pair (.str) (.list (.pair (.str) (.list (.str)))))), .list (.pair (.str) (.int .i64))]) : Option impl_RepoPut.R := impl_RepoPut.start m (impl_RepoPut.tab m m) x.1 x.2.1
def impl_RepoPut.cons (m : Nat) : List (Nat × Contract) := [(31, ⟨impl_RepoOk.sig, impl_RepoOk m⟩), (46, ⟨strconv_Itoa.sig, strconv_Itoa m⟩), (47, ⟨impl_TreePut.sig, impl_TreePut m⟩)]
def impl_RepoPut.cuts (m : Nat) : List (CutF (Den impl_RepoPut.sig.us)) := [⟨[false, true, false, true, true, true], 122, ⟨[.box [.dat (.list (.pair (.list (.int .i64)) (.pair (.str) (.list (.pair (.str) (.list (.str))))))), .dat (.list (.pair (.str) (.int .i64)))]], [(1, .l (.ptr 0 0)), (3, .l (.dat (.str))), (14, .l (.dat (.list (.pair (.list (.int .i64)) (.pair (.str) (.list (.pair (.str) (.list (.str))))))))), (15, .l (.dat (.int .i64))), (16, .l (.dat (.int .i64)))]⟩, [.list (.pair (.list (.int .i64)) (.pair (.str) (.list (.pair (.str) (.list (.str)))))), .list (.pair (.str) (.int .i64)), .str, .list (.pair (.list (.int .i64)) (.pair (.str) (.list (.pair (.str) (.list (.str)))))), .int .i64, .int .i64], fun k => (impl_RepoPut.tab m k).1⟩,
  ⟨[false, true, false, true, true, false, false, true, true, false, false, true, false, true, true, true], 125338, ⟨[.box [.dat (.list (.pair (.list (.int .i64)) (.pair (.str) (.list (.pair (.str) (.list (.str))))))), .dat (.list (.pair (.str) (.int .i64)))], .box [.dat (.list (.int .i64)), .dat (.str), .dat (.list (.pair (.str) (.list (.str))))]], [(1, .l (.ptr 0 0)), (3, .l (.dat (.str))), (5, .l (.ptr 1 0)), (14, .l (.dat (.list (.pair (.list (.int .i64)) (.pair (.str) (.list (.pair (.str) (.list (.str))))))))), (15, .l (.dat (.int .i64))), (16, .l (.dat (.int .i64))), (26, .l (.dat (.list (.int .i64)))), (27, .l (.dat (.int .i64))), (28, .l (.dat (.int .i64)))]⟩, [.list (.pair (.list (.int .i64)) (.pair (.str) (.list (.pair (.str) (.list (.str)))))), .list (.pair (.str) (.int .i64)), .list (.int .i64), .str, .list (.pair (.str) (.list (.str))), .str, .list (.pair (.list (.int .i64)) (.pair (.str) (.list (.pair (.str) (.list (.str)))))), .int .i64, .int .i64, .list (.int .i64), .int .i64, .int .i64], fun k => (impl_RepoPut.tab m k).2.1⟩,
  ⟨[false, true, false, true, true, true, true], 250, ⟨[], [(3, .l (.dat (.str))), (46, .l (.dat (.list (.pair (.str) (.int .i64))))), (47, .l (.dat (.int .i64))), (48, .l (.dat (.int .i64)))]⟩, [.str, .list (.pair (.str) (.int .i64)), .int .i64, .int .i64], fun k => (impl_RepoPut.tab m k).2.2.1⟩]
theorem impl_RepoPut.eq0 (m k : Nat) (x : Den [.list (.pair (.list (.int .i64)) (.pair (.str) (.list (.pair (.str) (.list (.str)))))), .list (.pair (.str) (.int .i64)), .str, .list (.pair (.list (.int .i64)) (.pair (.str) (.list (.pair (.str) (.list (.str)))))), .int .i64, .int .i64]) : (impl_RepoPut.tab m (k + 1)).1 x = runF ⟨lookΓ Γl, lookC (impl_RepoPut.cons m), false⟩ Tryz.f18 impl_RepoPut.sig (impl_RepoPut.cuts m) k [false, true, false, true, true, true] ⟨[.box [.dat (.list (.pair (.list (.int .i64)) (.pair (.str) (.list (.pair (.str) (.list (.str))))))), .dat (.list (.pair (.str) (.int .i64)))]], [(1, .l (.ptr 0 0)), (3, .l (.dat (.str))), (14, .l (.dat (.list (.pair (.list (.int .i64)) (.pair (.str) (.list (.pair (.str) (.list (.str))))))))), (15, .l (.dat (.int .i64))), (16, .l (.dat (.int .i64)))]⟩ [.list (.pair (.list (.int .i64)) (.pair (.str) (.list (.pair (.str) (.list (.str)))))), .list (.pair (.str) (.int .i64)), .str, .list (.pair (.list (.int .i64)) (.pair (.str) (.list (.pair (.str) (.list (.str)))))), .int .i64, .int .i64] x := by kernel_rfl
theorem impl_RepoPut.eq1 (m k : Nat) (x : Den [.list (.pair (.list (.int .i64)) (.pair (.str) (.list (.pair (.str) (.list (.str)))))), .list (.pair (.str) (.int .i64)), .list (.int .i64), .str, .list (.pair (.str) (.list (.str))), .str, .list (.pair (.list (.int .i64)) (.pair (.str) (.list (.pair (.str) (.list (.str)))))), .int .i64, .int .i64, .list (.int .i64), .int .i64, .int .i64]) : (impl_RepoPut.tab m (k + 1)).2.1 x = runF ⟨lookΓ Γl, lookC (impl_RepoPut.cons m), false⟩ Tryz.f18 impl_RepoPut.sig (impl_RepoPut.cuts m) k [false, true, false, true, true, false, false, true, true, false, false, true, false, true, true, true] ⟨[.box [.dat (.list (.pair (.list (.int .i64)) (.pair (.str) (.list (.pair (.str) (.list (.str))))))), .dat (.list (.pair (.str) (.int .i64)))], .box [.dat (.list (.int .i64)), .dat (.str), .dat (.list (.pair (.str) (.list (.str))))]], [(1, .l (.ptr 0 0)), (3, .l (.dat (.str))), (5, .l (.ptr 1 0)), (14, .l (.dat (.list (.pair (.list (.int .i64)) (.pair (.str) (.list (.pair (.str) (.list (.str))))))))), (15, .l (.dat (.int .i64))), (16, .l (.dat (.int .i64))), (26, .l (.dat (.list (.int .i64)))), (27, .l (.dat (.int .i64))), (28, .l (.dat (.int .i64)))]⟩ [.list (.pair (.list (.int .i64)) (.pair (.str) (.list (.pair (.str) (.list (.str)))))), .list (.pair (.str) (.int .i64)), .list (.int .i64), .str, .list (.pair (.str) (.list (.str))), .str, .list (.pair (.list (.int .i64)) (.pair (.str) (.list (.pair (.str) (.list (.str)))))), .int .i64, .int .i64, .list (.int .i64), .int .i64, .int .i64] x := by kernel_rfl
theorem impl_RepoPut.eq2 (m k : Nat) (x : Den [.str, .list (.pair (.str) (.int .i64)), .int .i64, .int .i64]) : (impl_RepoPut.tab m (k + 1)).2.2.1 x = runF ⟨lookΓ Γl, lookC (impl_RepoPut.cons m), false⟩ Tryz.f18 impl_RepoPut.sig (impl_RepoPut.cuts m) k [false, true, false, true, true, true, true] ⟨[], [(3, .l (.dat (.str))), (46, .l (.dat (.list (.pair (.str) (.int .i64))))), (47, .l (.dat (.int .i64))), (48, .l (.dat (.int .i64)))]⟩ [.str, .list (.pair (.str) (.int .i64)), .int .i64, .int .i64] x := by kernel_rfl
theorem impl_RepoPut.eq (m : Nat) (x : Den impl_RepoPut.sig.ts) : impl_RepoPut m x = startF ⟨lookΓ Γl, lookC (impl_RepoPut.cons m), false⟩ Tryz.f18 impl_RepoPut.sig (impl_RepoPut.cuts m) m x := by kernel_rfl
theorem impl_RepoPut.ok (m : Nat) : Meets Tryz.prog 18 impl_RepoPut.sig (impl_RepoPut m) :=
  fn_is (cx_is tyOk mixed (l := impl_RepoPut.cons m) ⟨impl_RepoOk.ok m, strconv_Itoa.ok m, impl_TreePut.ok m, trivial⟩) (fn := Tryz.f18) Tryz.func18 (by kernel_rfl) (cl := impl_RepoPut.cuts m) ⟨⟨by kernel_rfl, fun _ => rfl, fun k x => impl_RepoPut.eq0 m k x⟩, ⟨by kernel_rfl, fun _ => rfl, fun k x => impl_RepoPut.eq1 m k x⟩, ⟨by kernel_rfl, fun _ => rfl, fun k x => impl_RepoPut.eq2 m k x⟩, trivial⟩ (k := m) (impl_RepoPut.eq m)

/-! ### loop.example/stemma/laws.eqIntS: function 12 -/
abbrev laws_eqIntS.R : Type := Den [.bool]
def laws_eqIntS.sig : Sig := ⟨2, ⟨[], [(0, .l (.dat (.sp (.int .i64)))), (1, .l (.dat (.sp (.int .i64))))]⟩, [.sp (.int .i64), .sp (.int .i64)], ⟨[], [(0, .l (.dat (.bool)))]⟩, [.bool]⟩
abbrev laws_eqIntS.Tab : Type := (Den [.sp (.int .i64), .sp (.int .i64), .int .i64] → Option laws_eqIntS.R) × Unit
def laws_eqIntS.start (m : Nat) (t : laws_eqIntS.Tab) (x0 : List Int × Nat) (x1 : List Int × Nat) : Option laws_eqIntS.R :=
  cond ((x0.2 : Int) != (x1.2 : Int)) (some (false, ())) (t.1 (x0, x1, (0 : Int), ()))
def laws_eqIntS.b0 (m : Nat) (t : laws_eqIntS.Tab) (a0 : List Int × Nat) (a1 : List Int × Nat) (a2 : Int) : Option laws_eqIntS.R :=
  cond (decide (a2 < (a0.2 : Int))) (cond (decide ((0 : Int) ≤ a2)) (cond (decide (a2 < (a0.2 : Int))) (cond (decide ((0 : Int) ≤ a2)) (cond (decide (a2 < (a1.2 : Int))) (lett (((getL a0.1 a2 (0 : Int)) != (getL a1.1 a2 (0 : Int))) : Bool) fun v1 => cond v1 (some (false, ())) (t.1 (a0, a1, (w64 (a2 + (1 : Int))), ()))) none) none) none) none) (some (true, ()))
def laws_eqIntS.tab (m : Nat) : Nat → laws_eqIntS.Tab
  | 0 => (fun _ => none, ())
  | k + 1 => (fun x => laws_eqIntS.b0 m (laws_eqIntS.tab m k) x.1 x.2.1 x.2.2.1, ())
def laws_eqIntS (m : Nat) (x : Den [.sp (.int .i64), .sp (.int .i64)]) : Option laws_eqIntS.R := laws_eqIntS.start m (laws_eqIntS.tab m m) x.1 x.2.1
def laws_eqIntS.cons (m : Nat) : List (Nat × Contract) := []
def laws_eqIntS.cuts (m : Nat) : List (CutF (Den laws_eqIntS.sig.us)) := [⟨[false, true, false, true, true], 58, ⟨[], [(0, .l (.dat (.sp (.int .i64)))), (1, .l (.dat (.sp (.int .i64)))), (5, .l (.dat (.int .i64)))]⟩, [.sp (.int .i64), .sp (.int .i64), .int .i64], fun k => (laws_eqIntS.tab m k).1⟩]
theorem laws_eqIntS.eq0 (m k : Nat) (x : Den [.sp (.int .i64), .sp (.int .i64), .int .i64]) : (laws_eqIntS.tab m (k + 1)).1 x = runF ⟨lookΓ Γs, lookC (laws_eqIntS.cons m), false⟩ Tryz.f12 laws_eqIntS.sig (laws_eqIntS.cuts m) k [false, true, false, true, true] ⟨[], [(0, .l (.dat (.sp (.int .i64)))), (1, .l (.dat (.sp (.int .i64)))), (5, .l (.dat (.int .i64)))]⟩ [.sp (.int .i64), .sp (.int .i64), .int .i64] x := by kernel_rfl
theorem laws_eqIntS.eq (m : Nat) (x : Den laws_eqIntS.sig.ts) : laws_eqIntS m x = startF ⟨lookΓ Γs, lookC (laws_eqIntS.cons m), false⟩ Tryz.f12 laws_eqIntS.sig (laws_eqIntS.cuts m) m x := by kernel_rfl
theorem laws_eqIntS.ok (m : Nat) : Meets Tryz.prog 12 laws_eqIntS.sig (laws_eqIntS m) :=
  fn_is (cx_is tyOks mixed (l := laws_eqIntS.cons m) trivial) (fn := Tryz.f12) Tryz.func12 (by kernel_rfl) (cl := laws_eqIntS.cuts m) ⟨⟨by kernel_rfl, fun _ => rfl, fun k x => laws_eqIntS.eq0 m k x⟩, trivial⟩ (k := m) (laws_eqIntS.eq m)

/-! ### loop.example/stemma/laws.intactIntS: function 113 -/
abbrev laws_intactIntS.R : Type := Den [.bool]
def laws_intactIntS.sig : Sig := ⟨2, ⟨[], [(0, .l (.dat (.sp (.int .i64)))), (1, .l (.dat (.sp (.int .i64))))]⟩, [.sp (.int .i64), .sp (.int .i64)], ⟨[], [(0, .l (.dat (.bool)))]⟩, [.bool]⟩
abbrev laws_intactIntS.Tab : Type := Unit
def laws_intactIntS.start (m : Nat) (t : laws_intactIntS.Tab) (x0 : List Int × Nat) (x1 : List Int × Nat) : Option laws_intactIntS.R :=
  Option.bind (laws_roomBehind m ((x1.2 : Int), ())) fun r1 => cond ((x0.2 : Int) == (x1.2 : Int)) (cond (decide ((0 : Int) ≤ (w64 ((x1.2 : Int) + r1.1)))) (cond (decide ((w64 ((x1.2 : Int) + r1.1)) ≤ ((List.length x0.1) : Int))) (lett ((cutL x0.1 0 (Int.toNat (w64 ((x1.2 : Int) + r1.1)))) : List Int) fun v2 => cond (decide ((0 : Int) ≤ (w64 ((x1.2 : Int) + r1.1)))) (cond (decide ((w64 ((x1.2 : Int) + r1.1)) ≤ ((List.length x1.1) : Int))) (lett ((cutL x1.1 0 (Int.toNat (w64 ((x1.2 : Int) + r1.1)))) : List Int) fun v3 => Option.bind (laws_eqIntS m ((v2, (List.length v2)), (v3, (List.length v3)), ())) fun r4 => some (r4.1, ())) none) none) none) none) (some (false, ()))
def laws_intactIntS.tab (m : Nat) : Nat → laws_intactIntS.Tab
  | 0 => (())
  | k + 1 => (())
def laws_intactIntS (m : Nat) (x : Den [.sp (.int .i64), .sp (.int .i64)]) : Option laws_intactIntS.R := laws_intactIntS.start m (laws_intactIntS.tab m m) x.1 x.2.1
def laws_intactIntS.cons (m : Nat) : List (Nat × Contract) := [(50, ⟨laws_roomBehind.sig, laws_roomBehind m⟩), (12, ⟨laws_eqIntS.sig, laws_eqIntS m⟩)]
def laws_intactIntS.cuts (m : Nat) : List (CutF (Den laws_intactIntS.sig.us)) := []
theorem laws_intactIntS.eq (m : Nat) (x : Den laws_intactIntS.sig.ts) : laws_intactIntS m x = startF ⟨lookΓ Γs, lookC (laws_intactIntS.cons m), false⟩ Tryz.f113 laws_intactIntS.sig (laws_intactIntS.cuts m) m x := by kernel_rfl
theorem laws_intactIntS.ok (m : Nat) : Meets Tryz.prog 113 laws_intactIntS.sig (laws_intactIntS m) :=
  fn_is (cx_is tyOks mixed (l := laws_intactIntS.cons m) ⟨laws_roomBehind.ok m, laws_eqIntS.ok m, trivial⟩) (fn := Tryz.f113) Tryz.func113 (by kernel_rfl) (cl := laws_intactIntS.cuts m) trivial (k := m) (laws_intactIntS.eq m)

/-! ### loop.example/stemma/laws.eqStringS: function 179 -/
abbrev laws_eqStringS.R : Type := Den [.bool]
def laws_eqStringS.sig : Sig := ⟨2, ⟨[], [(0, .l (.dat (.sp (.str)))), (1, .l (.dat (.sp (.str))))]⟩, [.sp (.str), .sp (.str)], ⟨[], [(0, .l (.dat (.bool)))]⟩, [.bool]⟩
abbrev laws_eqStringS.Tab : Type := (Den [.sp (.str), .sp (.str), .int .i64] → Option laws_eqStringS.R) × Unit
def laws_eqStringS.start (m : Nat) (t : laws_eqStringS.Tab) (x0 : List ByteArray × Nat) (x1 : List ByteArray × Nat) : Option laws_eqStringS.R :=
  cond ((x0.2 : Int) != (x1.2 : Int)) (some (false, ())) (t.1 (x0, x1, (0 : Int), ()))
def laws_eqStringS.b0 (m : Nat) (t : laws_eqStringS.Tab) (a0 : List ByteArray × Nat) (a1 : List ByteArray × Nat) (a2 : Int) : Option laws_eqStringS.R :=
  cond (decide (a2 < (a0.2 : Int))) (cond (decide ((0 : Int) ≤ a2)) (cond (decide (a2 < (a0.2 : Int))) (cond (decide ((0 : Int) ≤ a2)) (cond (decide (a2 < (a1.2 : Int))) (lett ((!sEq (getL a0.1 a2 ByteArray.empty) (getL a1.1 a2 ByteArray.empty)) : Bool) fun v1 => cond v1 (some (false, ())) (t.1 (a0, a1, (w64 (a2 + (1 : Int))), ()))) none) none) none) none) (some (true, ()))
def laws_eqStringS.tab (m : Nat) : Nat → laws_eqStringS.Tab
  | 0 => (fun _ => none, ())
  | k + 1 => (fun x => laws_eqStringS.b0 m (laws_eqStringS.tab m k) x.1 x.2.1 x.2.2.1, ())
def laws_eqStringS (m : Nat) (x : Den [.sp (.str), .sp (.str)]) : Option laws_eqStringS.R := laws_eqStringS.start m (laws_eqStringS.tab m m) x.1 x.2.1
def laws_eqStringS.cons (m : Nat) : List (Nat × Contract) := []
def laws_eqStringS.cuts (m : Nat) : List (CutF (Den laws_eqStringS.sig.us)) := [⟨[false, true, false, true, true], 58, ⟨[], [(0, .l (.dat (.sp (.str)))), (1, .l (.dat (.sp (.str)))), (5, .l (.dat (.int .i64)))]⟩, [.sp (.str), .sp (.str), .int .i64], fun k => (laws_eqStringS.tab m k).1⟩]
theorem laws_eqStringS.eq0 (m k : Nat) (x : Den [.sp (.str), .sp (.str), .int .i64]) : (laws_eqStringS.tab m (k + 1)).1 x = runF ⟨lookΓ Γs, lookC (laws_eqStringS.cons m), false⟩ Tryz.f179 laws_eqStringS.sig (laws_eqStringS.cuts m) k [false, true, false, true, true] ⟨[], [(0, .l (.dat (.sp (.str)))), (1, .l (.dat (.sp (.str)))), (5, .l (.dat (.int .i64)))]⟩ [.sp (.str), .sp (.str), .int .i64] x := by kernel_rfl
theorem laws_eqStringS.eq (m : Nat) (x : Den laws_eqStringS.sig.ts) : laws_eqStringS m x = startF ⟨lookΓ Γs, lookC (laws_eqStringS.cons m), false⟩ Tryz.f179 laws_eqStringS.sig (laws_eqStringS.cuts m) m x := by kernel_rfl
theorem laws_eqStringS.ok (m : Nat) : Meets Tryz.prog 179 laws_eqStringS.sig (laws_eqStringS m) :=
  fn_is (cx_is tyOks mixed (l := laws_eqStringS.cons m) trivial) (fn := Tryz.f179) Tryz.func179 (by kernel_rfl) (cl := laws_eqStringS.cuts m) ⟨⟨by kernel_rfl, fun _ => rfl, fun k x => laws_eqStringS.eq0 m k x⟩, trivial⟩ (k := m) (laws_eqStringS.eq m)

/-! ### loop.example/stemma/laws.intactStringS: function 152 -/
abbrev laws_intactStringS.R : Type := Den [.bool]
def laws_intactStringS.sig : Sig := ⟨2, ⟨[], [(0, .l (.dat (.sp (.str)))), (1, .l (.dat (.sp (.str))))]⟩, [.sp (.str), .sp (.str)], ⟨[], [(0, .l (.dat (.bool)))]⟩, [.bool]⟩
abbrev laws_intactStringS.Tab : Type := Unit
def laws_intactStringS.start (m : Nat) (t : laws_intactStringS.Tab) (x0 : List ByteArray × Nat) (x1 : List ByteArray × Nat) : Option laws_intactStringS.R :=
  Option.bind (laws_roomBehind m ((x1.2 : Int), ())) fun r1 => cond ((x0.2 : Int) == (x1.2 : Int)) (cond (decide ((0 : Int) ≤ (w64 ((x1.2 : Int) + r1.1)))) (cond (decide ((w64 ((x1.2 : Int) + r1.1)) ≤ ((List.length x0.1) : Int))) (lett ((cutL x0.1 0 (Int.toNat (w64 ((x1.2 : Int) + r1.1)))) : List ByteArray) fun v2 => cond (decide ((0 : Int) ≤ (w64 ((x1.2 : Int) + r1.1)))) (cond (decide ((w64 ((x1.2 : Int) + r1.1)) ≤ ((List.length x1.1) : Int))) (lett ((cutL x1.1 0 (Int.toNat (w64 ((x1.2 : Int) + r1.1)))) : List ByteArray) fun v3 => Option.bind (laws_eqStringS m ((v2, (List.length v2)), (v3, (List.length v3)), ())) fun r4 => some (r4.1, ())) none) none) none) none) (some (false, ()))
def laws_intactStringS.tab (m : Nat) : Nat → laws_intactStringS.Tab
  | 0 => (())
  | k + 1 => (())
def laws_intactStringS (m : Nat) (x : Den [.sp (.str), .sp (.str)]) : Option laws_intactStringS.R := laws_intactStringS.start m (laws_intactStringS.tab m m) x.1 x.2.1
def laws_intactStringS.cons (m : Nat) : List (Nat × Contract) := [(50, ⟨laws_roomBehind.sig, laws_roomBehind m⟩), (179, ⟨laws_eqStringS.sig, laws_eqStringS m⟩)]
def laws_intactStringS.cuts (m : Nat) : List (CutF (Den laws_intactStringS.sig.us)) := []
theorem laws_intactStringS.eq (m : Nat) (x : Den laws_intactStringS.sig.ts) : laws_intactStringS m x = startF ⟨lookΓ Γs, lookC (laws_intactStringS.cons m), false⟩ Tryz.f152 laws_intactStringS.sig (laws_intactStringS.cuts m) m x := by kernel_rfl
theorem laws_intactStringS.ok (m : Nat) : Meets Tryz.prog 152 laws_intactStringS.sig (laws_intactStringS m) :=
  fn_is (cx_is tyOks mixed (l := laws_intactStringS.cons m) ⟨laws_roomBehind.ok m, laws_eqStringS.ok m, trivial⟩) (fn := Tryz.f152) Tryz.func152 (by kernel_rfl) (cl := laws_intactStringS.cuts m) trivial (k := m) (laws_intactStringS.eq m)

/-! ### loop.example/stemma/laws.intactFile: function 135 -/
abbrev laws_intactFile.R : Type := Den [.bool]
def laws_intactFile.sig : Sig := ⟨2, ⟨[], [(0, .agg [.dat (.str), .dat (.sp (.str))]), (1, .agg [.dat (.str), .dat (.sp (.str))])]⟩, [.str, .sp (.str), .str, .sp (.str)], ⟨[], [(0, .l (.dat (.bool)))]⟩, [.bool]⟩
abbrev laws_intactFile.Tab : Type := Unit
def laws_intactFile.start (m : Nat) (t : laws_intactFile.Tab) (x0 : ByteArray) (x1 : List ByteArray × Nat) (x2 : ByteArray) (x3 : List ByteArray × Nat) : Option laws_intactFile.R :=
  cond (!sEq x0 x2) (some (false, ())) (Option.bind (laws_intactStringS m (x1, x3, ())) fun r1 => cond (!r1.1) (some (false, ())) (some (true, ())))
def laws_intactFile.tab (m : Nat) : Nat → laws_intactFile.Tab
  | 0 => (())
  | k + 1 => (())
def laws_intactFile (m : Nat) (x : Den [.str, .sp (.str), .str, .sp (.str)]) : Option laws_intactFile.R := laws_intactFile.start m (laws_intactFile.tab m m) x.1 x.2.1 x.2.2.1 x.2.2.2.1
def laws_intactFile.cons (m : Nat) : List (Nat × Contract) := [(152, ⟨laws_intactStringS.sig, laws_intactStringS m⟩)]
def laws_intactFile.cuts (m : Nat) : List (CutF (Den laws_intactFile.sig.us)) := []
theorem laws_intactFile.eq (m : Nat) (x : Den laws_intactFile.sig.ts) : laws_intactFile m x = startF ⟨lookΓ Γs, lookC (laws_intactFile.cons m), false⟩ Tryz.f135 laws_intactFile.sig (laws_intactFile.cuts m) m x := by kernel_rfl
theorem laws_intactFile.ok (m : Nat) : Meets Tryz.prog 135 laws_intactFile.sig (laws_intactFile m) :=
  fn_is (cx_is tyOks mixed (l := laws_intactFile.cons m) ⟨laws_intactStringS.ok m, trivial⟩) (fn := Tryz.f135) Tryz.func135 (by kernel_rfl) (cl := laws_intactFile.cuts m) trivial (k := m) (laws_intactFile.eq m)

/-! ### loop.example/stemma/laws.eqFile: function 153 -/
abbrev laws_eqFile.R : Type := Den [.bool]
def laws_eqFile.sig : Sig := ⟨2, ⟨[], [(0, .agg [.dat (.str), .dat (.sp (.str))]), (1, .agg [.dat (.str), .dat (.sp (.str))])]⟩, [.str, .sp (.str), .str, .sp (.str)], ⟨[], [(0, .l (.dat (.bool)))]⟩, [.bool]⟩
abbrev laws_eqFile.Tab : Type := Unit
def laws_eqFile.start (m : Nat) (t : laws_eqFile.Tab) (x0 : ByteArray) (x1 : List ByteArray × Nat) (x2 : ByteArray) (x3 : List ByteArray × Nat) : Option laws_eqFile.R :=
  cond (!sEq x0 x2) (some (false, ())) (Option.bind (laws_eqStringS m (x1, x3, ())) fun r1 => cond (!r1.1) (some (false, ())) (some (true, ())))
def laws_eqFile.tab (m : Nat) : Nat → laws_eqFile.Tab
  | 0 => (())
  | k + 1 => (())
def laws_eqFile (m : Nat) (x : Den [.str, .sp (.str), .str, .sp (.str)]) : Option laws_eqFile.R := laws_eqFile.start m (laws_eqFile.tab m m) x.1 x.2.1 x.2.2.1 x.2.2.2.1
def laws_eqFile.cons (m : Nat) : List (Nat × Contract) := [(179, ⟨laws_eqStringS.sig, laws_eqStringS m⟩)]
def laws_eqFile.cuts (m : Nat) : List (CutF (Den laws_eqFile.sig.us)) := []
theorem laws_eqFile.eq (m : Nat) (x : Den laws_eqFile.sig.ts) : laws_eqFile m x = startF ⟨lookΓ Γs, lookC (laws_eqFile.cons m), false⟩ Tryz.f153 laws_eqFile.sig (laws_eqFile.cuts m) m x := by kernel_rfl
theorem laws_eqFile.ok (m : Nat) : Meets Tryz.prog 153 laws_eqFile.sig (laws_eqFile m) :=
  fn_is (cx_is tyOks mixed (l := laws_eqFile.cons m) ⟨laws_eqStringS.ok m, trivial⟩) (fn := Tryz.f153) Tryz.func153 (by kernel_rfl) (cl := laws_eqFile.cuts m) trivial (k := m) (laws_eqFile.eq m)

/-! ### loop.example/stemma/laws.eqFileS: function 136 -/
abbrev laws_eqFileS.R : Type := Den [.bool]
def laws_eqFileS.sig : Sig := ⟨2, ⟨[], [(0, .l (.dat (.sp (.pair (.str) (.sp (.str)))))), (1, .l (.dat (.sp (.pair (.str) (.sp (.str))))))]⟩, [.sp (.pair (.str) (.sp (.str))), .sp (.pair (.str) (.sp (.str)))], ⟨[], [(0, .l (.dat (.bool)))]⟩, [.bool]⟩
abbrev laws_eqFileS.Tab : Type := (Den [.sp (.pair (.str) (.sp (.str))), .sp (.pair (.str) (.sp (.str))), .int .i64] → Option laws_eqFileS.R) × Unit
def laws_eqFileS.start (m : Nat) (t : laws_eqFileS.Tab) (x0 : List (ByteArray × (List ByteArray × Nat)) × Nat) (x1 : List (ByteArray × (List ByteArray × Nat)) × Nat) : Option laws_eqFileS.R :=
  cond ((x0.2 : Int) != (x1.2 : Int)) (some (false, ())) (t.1 (x0, x1, (0 : Int), ()))
def laws_eqFileS.b0 (m : Nat) (t : laws_eqFileS.Tab) (a0 : List (ByteArray × (List ByteArray × Nat)) × Nat) (a1 : List (ByteArray × (List ByteArray × Nat)) × Nat) (a2 : Int) : Option laws_eqFileS.R :=
  cond (decide (a2 < (a0.2 : Int))) (cond (decide ((0 : Int) ≤ a2)) (cond (decide (a2 < (a0.2 : Int))) (lett ((getL a0.1 a2 (ByteArray.empty, ([] : List ByteArray), (0 : Nat))) : ByteArray × (List ByteArray × Nat)) fun v1 => cond (decide ((0 : Int) ≤ a2)) (cond (decide (a2 < (a1.2 : Int))) (lett ((getL a1.1 a2 (ByteArray.empty, ([] : List ByteArray), (0 : Nat))) : ByteArray × (List ByteArray × Nat)) fun v2 => Option.bind (laws_eqFile m (v1.1, v1.2, v2.1, v2.2, ())) fun r3 => cond (!r3.1) (some (false, ())) (t.1 (a0, a1, (w64 (a2 + (1 : Int))), ()))) none) none) none) none) (some (true, ()))
def laws_eqFileS.tab (m : Nat) : Nat → laws_eqFileS.Tab
  | 0 => (fun _ => none, ())
  | k + 1 => (fun x => laws_eqFileS.b0 m (laws_eqFileS.tab m k) x.1 x.2.1 x.2.2.1, ())
def laws_eqFileS (m : Nat) (x : Den [.sp (.pair (.str) (.sp (.str))), .sp (.pair (.str) (.sp (.str)))]) : Option laws_eqFileS.R := laws_eqFileS.start m (laws_eqFileS.tab m m) x.1 x.2.1
def laws_eqFileS.cons (m : Nat) : List (Nat × Contract) := [(153, ⟨laws_eqFile.sig, laws_eqFile m⟩)]
def laws_eqFileS.cuts (m : Nat) : List (CutF (Den laws_eqFileS.sig.us)) := [⟨[false, true, false, true, true], 58, ⟨[], [(0, .l (.dat (.sp (.pair (.str) (.sp (.str)))))), (1, .l (.dat (.sp (.pair (.str) (.sp (.str)))))), (5, .l (.dat (.int .i64)))]⟩, [.sp (.pair (.str) (.sp (.str))), .sp (.pair (.str) (.sp (.str))), .int .i64], fun k => (laws_eqFileS.tab m k).1⟩]
theorem laws_eqFileS.eq0 (m k : Nat) (x : Den [.sp (.pair (.str) (.sp (.str))), .sp (.pair (.str) (.sp (.str))), .int .i64]) : (laws_eqFileS.tab m (k + 1)).1 x = runF ⟨lookΓ Γs, lookC (laws_eqFileS.cons m), false⟩ Tryz.f136 laws_eqFileS.sig (laws_eqFileS.cuts m) k [false, true, false, true, true] ⟨[], [(0, .l (.dat (.sp (.pair (.str) (.sp (.str)))))), (1, .l (.dat (.sp (.pair (.str) (.sp (.str)))))), (5, .l (.dat (.int .i64)))]⟩ [.sp (.pair (.str) (.sp (.str))), .sp (.pair (.str) (.sp (.str))), .int .i64] x := by kernel_rfl
theorem laws_eqFileS.eq (m : Nat) (x : Den laws_eqFileS.sig.ts) : laws_eqFileS m x = startF ⟨lookΓ Γs, lookC (laws_eqFileS.cons m), false⟩ Tryz.f136 laws_eqFileS.sig (laws_eqFileS.cuts m) m x := by kernel_rfl
theorem laws_eqFileS.ok (m : Nat) : Meets Tryz.prog 136 laws_eqFileS.sig (laws_eqFileS m) :=
  fn_is (cx_is tyOks mixed (l := laws_eqFileS.cons m) ⟨laws_eqFile.ok m, trivial⟩) (fn := Tryz.f136) Tryz.func136 (by kernel_rfl) (cl := laws_eqFileS.cuts m) ⟨⟨by kernel_rfl, fun _ => rfl, fun k x => laws_eqFileS.eq0 m k x⟩, trivial⟩ (k := m) (laws_eqFileS.eq m)

/-! ### loop.example/stemma/laws.intactFileS: function 114 -/
abbrev laws_intactFileS.R : Type := Den [.bool]
def laws_intactFileS.sig : Sig := ⟨2, ⟨[], [(0, .l (.dat (.sp (.pair (.str) (.sp (.str)))))), (1, .l (.dat (.sp (.pair (.str) (.sp (.str))))))]⟩, [.sp (.pair (.str) (.sp (.str))), .sp (.pair (.str) (.sp (.str)))], ⟨[], [(0, .l (.dat (.bool)))]⟩, [.bool]⟩
abbrev laws_intactFileS.Tab : Type := (Den [.sp (.pair (.str) (.sp (.str))), .sp (.pair (.str) (.sp (.str))), .int .i64, .int .i64] → Option laws_intactFileS.R) × Unit
def laws_intactFileS.start (m : Nat) (t : laws_intactFileS.Tab) (x0 : List (ByteArray × (List ByteArray × Nat)) × Nat) (x1 : List (ByteArray × (List ByteArray × Nat)) × Nat) : Option laws_intactFileS.R :=
  Option.bind (laws_roomBehind m ((x1.2 : Int), ())) fun r1 => cond ((x0.2 : Int) != (x1.2 : Int)) (some (false, ())) (t.1 (x0, x1, (w64 ((x1.2 : Int) + r1.1)), (0 : Int), ()))
def laws_intactFileS.b0 (m : Nat) (t : laws_intactFileS.Tab) (a0 : List (ByteArray × (List ByteArray × Nat)) × Nat) (a1 : List (ByteArray × (List ByteArray × Nat)) × Nat) (a2 : Int) (a3 : Int) : Option laws_intactFileS.R :=
  cond (decide (a3 < (a1.2 : Int))) (cond (decide ((0 : Int) ≤ a3)) (cond (decide (a3 < (a0.2 : Int))) (lett ((getL a0.1 a3 (ByteArray.empty, ([] : List ByteArray), (0 : Nat))) : ByteArray × (List ByteArray × Nat)) fun v1 => cond (decide ((0 : Int) ≤ a3)) (cond (decide (a3 < (a1.2 : Int))) (lett ((getL a1.1 a3 (ByteArray.empty, ([] : List ByteArray), (0 : Nat))) : ByteArray × (List ByteArray × Nat)) fun v2 => Option.bind (laws_intactFile m (v1.1, v1.2, v2.1, v2.2, ())) fun r3 => cond (!r3.1) (some (false, ())) (t.1 (a0, a1, a2, (w64 (a3 + (1 : Int))), ()))) none) none) none) none) (cond (decide ((0 : Int) ≤ a2)) (cond (decide (a2 ≤ ((List.length a0.1) : Int))) (cond (decide ((0 : Int) ≤ (a1.2 : Int))) (cond (decide ((a1.2 : Int) ≤ a2)) (lett ((cutL a0.1 (Int.toNat (a1.2 : Int)) (Int.toNat a2)) : List (ByteArray × (List ByteArray × Nat))) fun v4 => cond (decide ((0 : Int) ≤ a2)) (cond (decide (a2 ≤ ((List.length a1.1) : Int))) (cond (decide ((0 : Int) ≤ (a1.2 : Int))) (cond (decide ((a1.2 : Int) ≤ a2)) (lett ((cutL a1.1 (Int.toNat (a1.2 : Int)) (Int.toNat a2)) : List (ByteArray × (List ByteArray × Nat))) fun v5 => Option.bind (laws_eqFileS m ((v4, (List.length v4)), (v5, (List.length v5)), ())) fun r6 => some (r6.1, ())) none) none) none) none) none) none) none) none)
def laws_intactFileS.tab (m : Nat) : Nat → laws_intactFileS.Tab
  | 0 => (fun _ => none, ())
  | k + 1 => (fun x => laws_intactFileS.b0 m (laws_intactFileS.tab m k) x.1 x.2.1 x.2.2.1 x.2.2.2.1, ())
def laws_intactFileS (m : Nat) (x : Den [.sp (.pair (.str) (.sp (.str))), .sp (.pair (.str) (.sp (.str)))]) : Option laws_intactFileS.R := laws_intactFileS.start m (laws_intactFileS.tab m m) x.1 x.2.1
def laws_intactFileS.cons (m : Nat) : List (Nat × Contract) := [(50, ⟨laws_roomBehind.sig, laws_roomBehind m⟩), (135, ⟨laws_intactFile.sig, laws_intactFile m⟩), (136, ⟨laws_eqFileS.sig, laws_eqFileS m⟩)]
def laws_intactFileS.cuts (m : Nat) : List (CutF (Den laws_intactFileS.sig.us)) := [⟨[false, true, false, true, true, true], 122, ⟨[], [(0, .l (.dat (.sp (.pair (.str) (.sp (.str)))))), (1, .l (.dat (.sp (.pair (.str) (.sp (.str)))))), (5, .l (.dat (.int .i64))), (6, .l (.dat (.int .i64)))]⟩, [.sp (.pair (.str) (.sp (.str))), .sp (.pair (.str) (.sp (.str))), .int .i64, .int .i64], fun k => (laws_intactFileS.tab m k).1⟩]
theorem laws_intactFileS.eq0 (m k : Nat) (x : Den [.sp (.pair (.str) (.sp (.str))), .sp (.pair (.str) (.sp (.str))), .int .i64, .int .i64]) : (laws_intactFileS.tab m (k + 1)).1 x = runF ⟨lookΓ Γs, lookC (laws_intactFileS.cons m), false⟩ Tryz.f114 laws_intactFileS.sig (laws_intactFileS.cuts m) k [false, true, false, true, true, true] ⟨[], [(0, .l (.dat (.sp (.pair (.str) (.sp (.str)))))), (1, .l (.dat (.sp (.pair (.str) (.sp (.str)))))), (5, .l (.dat (.int .i64))), (6, .l (.dat (.int .i64)))]⟩ [.sp (.pair (.str) (.sp (.str))), .sp (.pair (.str) (.sp (.str))), .int .i64, .int .i64] x := by kernel_rfl
theorem laws_intactFileS.eq (m : Nat) (x : Den laws_intactFileS.sig.ts) : laws_intactFileS m x = startF ⟨lookΓ Γs, lookC (laws_intactFileS.cons m), false⟩ Tryz.f114 laws_intactFileS.sig (laws_intactFileS.cuts m) m x := by kernel_rfl
theorem laws_intactFileS.ok (m : Nat) : Meets Tryz.prog 114 laws_intactFileS.sig (laws_intactFileS m) :=
  fn_is (cx_is tyOks mixed (l := laws_intactFileS.cons m) ⟨laws_roomBehind.ok m, laws_intactFile.ok m, laws_eqFileS.ok m, trivial⟩) (fn := Tryz.f114) Tryz.func114 (by kernel_rfl) (cl := laws_intactFileS.cuts m) ⟨⟨by kernel_rfl, fun _ => rfl, fun k x => laws_intactFileS.eq0 m k x⟩, trivial⟩ (k := m) (laws_intactFileS.eq m)

/-! ### loop.example/stemma/laws.intactCommit: function 82 -/
abbrev laws_intactCommit.R : Type := Den [.bool]
def laws_intactCommit.sig : Sig := ⟨2, ⟨[], [(0, .agg [.dat (.sp (.int .i64)), .dat (.str), .dat (.sp (.pair (.str) (.sp (.str))))]), (1, .agg [.dat (.sp (.int .i64)), .dat (.str), .dat (.sp (.pair (.str) (.sp (.str))))])]⟩, [.sp (.int .i64), .str, .sp (.pair (.str) (.sp (.str))), .sp (.int .i64), .str, .sp (.pair (.str) (.sp (.str)))], ⟨[], [(0, .l (.dat (.bool)))]⟩, [.bool]⟩
abbrev laws_intactCommit.Tab : Type := Unit
def laws_intactCommit.start (m : Nat) (t : laws_intactCommit.Tab) (x0 : List Int × Nat) (x1 : ByteArray) (x2 : List (ByteArray × (List ByteArray × Nat)) × Nat) (x3 : List Int × Nat) (x4 : ByteArray) (x5 : List (ByteArray × (List ByteArray × Nat)) × Nat) : Option laws_intactCommit.R :=
  Option.bind (laws_intactIntS m (x0, x3, ())) fun r1 => cond (!r1.1) (some (false, ())) (cond (!sEq x1 x4) (some (false, ())) (Option.bind (laws_intactFileS m (x2, x5, ())) fun r2 => cond (!r2.1) (some (false, ())) (some (true, ()))))
def laws_intactCommit.tab (m : Nat) : Nat → laws_intactCommit.Tab
  | 0 => (())
  | k + 1 => (())
def laws_intactCommit (m : Nat) (x : Den [.sp (.int .i64), .str, .sp (.pair (.str) (.sp (.str))), .sp (.int .i64), .str, .sp (.pair (.str) (.sp (.str)))]) : Option laws_intactCommit.R := laws_intactCommit.start m (laws_intactCommit.tab m m) x.1 x.2.1 x.2.2.1 x.2.2.2.1 x.2.2.2.2.1 x.2.2.2.2.2.1
def laws_intactCommit.cons (m : Nat) : List (Nat × Contract) := [(113, ⟨laws_intactIntS.sig, laws_intactIntS m⟩), (114, ⟨laws_intactFileS.sig, laws_intactFileS m⟩)]
def laws_intactCommit.cuts (m : Nat) : List (CutF (Den laws_intactCommit.sig.us)) := []
theorem laws_intactCommit.eq (m : Nat) (x : Den laws_intactCommit.sig.ts) : laws_intactCommit m x = startF ⟨lookΓ Γs, lookC (laws_intactCommit.cons m), false⟩ Tryz.f82 laws_intactCommit.sig (laws_intactCommit.cuts m) m x := by kernel_rfl
theorem laws_intactCommit.ok (m : Nat) : Meets Tryz.prog 82 laws_intactCommit.sig (laws_intactCommit m) :=
  fn_is (cx_is tyOks mixed (l := laws_intactCommit.cons m) ⟨laws_intactIntS.ok m, laws_intactFileS.ok m, trivial⟩) (fn := Tryz.f82) Tryz.func82 (by kernel_rfl) (cl := laws_intactCommit.cuts m) trivial (k := m) (laws_intactCommit.eq m)

/-! ### loop.example/stemma/laws.eqCommit: function 115 -/
abbrev laws_eqCommit.R : Type := Den [.bool]
def laws_eqCommit.sig : Sig := ⟨2, ⟨[], [(0, .agg [.dat (.sp (.int .i64)), .dat (.str), .dat (.sp (.pair (.str) (.sp (.str))))]), (1, .agg [.dat (.sp (.int .i64)), .dat (.str), .dat (.sp (.pair (.str) (.sp (.str))))])]⟩, [.sp (.int .i64), .str, .sp (.pair (.str) (.sp (.str))), .sp (.int .i64), .str, .sp (.pair (.str) (.sp (.str)))], ⟨[], [(0, .l (.dat (.bool)))]⟩, [.bool]⟩
abbrev laws_eqCommit.Tab : Type := Unit
def laws_eqCommit.start (m : Nat) (t : laws_eqCommit.Tab) (x0 : List Int × Nat) (x1 : ByteArray) (x2 : List (ByteArray × (List ByteArray × Nat)) × Nat) (x3 : List Int × Nat) (x4 : ByteArray) (x5 : List (ByteArray × (List ByteArray × Nat)) × Nat) : Option laws_eqCommit.R :=
  Option.bind (laws_eqIntS m (x0, x3, ())) fun r1 => cond (!r1.1) (some (false, ())) (cond (!sEq x1 x4) (some (false, ())) (Option.bind (laws_eqFileS m (x2, x5, ())) fun r2 => cond (!r2.1) (some (false, ())) (some (true, ()))))
def laws_eqCommit.tab (m : Nat) : Nat → laws_eqCommit.Tab
  | 0 => (())
  | k + 1 => (())
def laws_eqCommit (m : Nat) (x : Den [.sp (.int .i64), .str, .sp (.pair (.str) (.sp (.str))), .sp (.int .i64), .str, .sp (.pair (.str) (.sp (.str)))]) : Option laws_eqCommit.R := laws_eqCommit.start m (laws_eqCommit.tab m m) x.1 x.2.1 x.2.2.1 x.2.2.2.1 x.2.2.2.2.1 x.2.2.2.2.2.1
def laws_eqCommit.cons (m : Nat) : List (Nat × Contract) := [(12, ⟨laws_eqIntS.sig, laws_eqIntS m⟩), (136, ⟨laws_eqFileS.sig, laws_eqFileS m⟩)]
def laws_eqCommit.cuts (m : Nat) : List (CutF (Den laws_eqCommit.sig.us)) := []
theorem laws_eqCommit.eq (m : Nat) (x : Den laws_eqCommit.sig.ts) : laws_eqCommit m x = startF ⟨lookΓ Γs, lookC (laws_eqCommit.cons m), false⟩ Tryz.f115 laws_eqCommit.sig (laws_eqCommit.cuts m) m x := by kernel_rfl
theorem laws_eqCommit.ok (m : Nat) : Meets Tryz.prog 115 laws_eqCommit.sig (laws_eqCommit m) :=
  fn_is (cx_is tyOks mixed (l := laws_eqCommit.cons m) ⟨laws_eqIntS.ok m, laws_eqFileS.ok m, trivial⟩) (fn := Tryz.f115) Tryz.func115 (by kernel_rfl) (cl := laws_eqCommit.cuts m) trivial (k := m) (laws_eqCommit.eq m)

end
end Go.Sx.Tryz
