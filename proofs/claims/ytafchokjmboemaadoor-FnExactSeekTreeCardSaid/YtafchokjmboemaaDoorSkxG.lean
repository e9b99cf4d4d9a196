/- The functions that FnExactSeekTree reaches, as plain Lean functions, and that the program's functions do what these say: no condition. Printed by wip/gen/sx.py. -/
import Derived.Test.YtafchokjmboemaaDoorSxD
import Derived.Test.YtafchokjmboemaaDoorChecked
namespace Go.Sx.Tryd
open Go Go.Proofs Go.Sx
set_option linter.unusedVariables false
noncomputable section
def Γl : List (Nat × TI) := [(3, ⟨1, 8, false, .int .i64, some (.int .i64)⟩),
  (5, ⟨1, 1, false, .int .u8, some (.int .u8)⟩),
  (9, ⟨1, 16, false, .str, some (.str)⟩),
  (22, ⟨1, 24, false, .slice 53, some (.list (.pair (.str) (.list (.str))))⟩),
  (24, ⟨1, 24, false, .slice 9, some (.list (.str))⟩),
  (26, ⟨1, 24, false, .slice 55, some (.list (.pair (.str) (.list (.str))))⟩),
  (43, ⟨1, 8, false, .other, none⟩),
  (53, ⟨2, 40, true, .struct [(9, 0), (24, 1)], some (.pair (.str) (.list (.str)))⟩),
  (55, ⟨2, 40, true, .struct [(9, 0), (24, 1)], some (.pair (.str) (.list (.str)))⟩),
  (64, ⟨1, 8, false, .other, none⟩)]
theorem tyOk : TyOk Tryd.prog (lookΓ Γl) := tyOk_of (by kernel_rfl)
def Γs : List (Nat × TI) := [(3, ⟨1, 8, false, .int .i64, some (.int .i64)⟩),
  (4, ⟨1, 1, false, .bool, some (.bool)⟩),
  (5, ⟨1, 1, false, .int .u8, some (.int .u8)⟩),
  (9, ⟨1, 16, false, .str, some (.str)⟩),
  (22, ⟨1, 24, false, .slice 53, some (.sp (.pair (.str) (.sp (.str))))⟩),
  (24, ⟨1, 24, false, .slice 9, some (.sp (.str))⟩),
  (26, ⟨1, 24, false, .slice 55, some (.sp (.pair (.str) (.sp (.str))))⟩),
  (39, ⟨1, 24, false, .slice 5, some (.sp (.int .u8))⟩),
  (53, ⟨2, 40, true, .struct [(9, 0), (24, 1)], some (.pair (.str) (.sp (.str)))⟩),
  (55, ⟨2, 40, true, .struct [(9, 0), (24, 1)], some (.pair (.str) (.sp (.str)))⟩)]
theorem tyOks : TyOk Tryd.prog (lookΓ Γs) := tyOk_of (by kernel_rfl)
theorem mixed : Tryd.prog.follows .mixedOrders = true := by kernel_rfl
def s_7e73706172657e : ByteArray := ⟨#[126, 115, 112, 97, 114, 101, 126]⟩
def s_2f : ByteArray := ⟨#[47]⟩
def s_6d30 : ByteArray := ⟨#[109, 48]⟩
def s_6d : ByteArray := ⟨#[109]⟩
/-! ### loop.example/stemma/laws.szStringS: function 19 -/
abbrev laws_szStringS.R : Type := Den [.int .i64]
def laws_szStringS.sig : Sig := ⟨2, ⟨[], [(0, .l (.dat (.sp (.str)))), (1, .l (.dat (.int .i64)))]⟩, [.sp (.str), .int .i64], ⟨[], [(0, .l (.dat (.int .i64)))]⟩, [.int .i64]⟩
abbrev laws_szStringS.Tab : Type := (Den [.sp (.str), .int .i64, .int .i64] → Option laws_szStringS.R) × Unit
def laws_szStringS.start (m : Nat) (t : laws_szStringS.Tab) (x0 : List ByteArray × Nat) (x1 : Int) : Option laws_szStringS.R :=
  lett ((decide ((w64 (x1 - (x0.2 : Int))) < (0 : Int))) : Bool) fun v1 => cond v1 (some ((-1 : Int), ())) (t.1 (x0, (w64 (x1 - (x0.2 : Int))), (0 : Int), ()))
def laws_szStringS.b0 (m : Nat) (t : laws_szStringS.Tab) (a0 : List ByteArray × Nat) (a1 : Int) (a2 : Int) : Option laws_szStringS.R :=
  cond (decide (a2 < (a0.2 : Int))) (cond (decide ((0 : Int) ≤ a2)) (cond (decide (a2 < (a0.2 : Int))) (lett ((w64 (a1 - (sLen (getL a0.1 a2 ByteArray.empty)))) : Int) fun v1 => cond (decide (v1 < (0 : Int))) (some ((-1 : Int), ())) (t.1 (a0, v1, (w64 (a2 + (1 : Int))), ()))) none) none) (some (a1, ()))
def laws_szStringS.tab (m : Nat) : Nat → laws_szStringS.Tab
  | 0 => (fun _ => none, ())
  | k + 1 => (fun x => laws_szStringS.b0 m (laws_szStringS.tab m k) x.1 x.2.1 x.2.2.1, ())
def laws_szStringS (m : Nat) (x : Den [.sp (.str), .int .i64]) : Option laws_szStringS.R := laws_szStringS.start m (laws_szStringS.tab m m) x.1 x.2.1
def laws_szStringS.cons (m : Nat) : List (Nat × Contract) := []
def laws_szStringS.cuts (m : Nat) : List (CutF (Den laws_szStringS.sig.us)) := [⟨[false, true, false, true, true, true], 122, ⟨[], [(0, .l (.dat (.sp (.str)))), (1, .l (.dat (.int .i64))), (5, .l (.dat (.int .i64)))]⟩, [.sp (.str), .int .i64, .int .i64], fun k => (laws_szStringS.tab m k).1⟩]
theorem laws_szStringS.eq0 (m k : Nat) (x : Den [.sp (.str), .int .i64, .int .i64]) : (laws_szStringS.tab m (k + 1)).1 x = runF ⟨lookΓ Γs, lookC (laws_szStringS.cons m), false⟩ Tryd.f19 laws_szStringS.sig (laws_szStringS.cuts m) k [false, true, false, true, true, true] ⟨[], [(0, .l (.dat (.sp (.str)))), (1, .l (.dat (.int .i64))), (5, .l (.dat (.int .i64)))]⟩ [.sp (.str), .int .i64, .int .i64] x := by kernel_rfl
theorem laws_szStringS.eq (m : Nat) (x : Den laws_szStringS.sig.ts) : laws_szStringS m x = startF ⟨lookΓ Γs, lookC (laws_szStringS.cons m), false⟩ Tryd.f19 laws_szStringS.sig (laws_szStringS.cuts m) m x := by kernel_rfl
theorem laws_szStringS.ok (m : Nat) : Meets Tryd.prog 19 laws_szStringS.sig (laws_szStringS m) :=
  fn_is (cx_is tyOks mixed (l := laws_szStringS.cons m) trivial) (fn := Tryd.f19) Tryd.func19 (by kernel_rfl) (cl := laws_szStringS.cuts m) ⟨⟨by kernel_rfl, fun _ => rfl, fun k x => laws_szStringS.eq0 m k x⟩, trivial⟩ (k := m) (laws_szStringS.eq m)

/-! ### loop.example/stemma/laws.szFile: function 40 -/
abbrev laws_szFile.R : Type := Den [.int .i64]
def laws_szFile.sig : Sig := ⟨2, ⟨[], [(0, .agg [.dat (.str), .dat (.sp (.str))]), (1, .l (.dat (.int .i64)))]⟩, [.str, .sp (.str), .int .i64], ⟨[], [(0, .l (.dat (.int .i64)))]⟩, [.int .i64]⟩
abbrev laws_szFile.Tab : Type := Unit
def laws_szFile.start (m : Nat) (t : laws_szFile.Tab) (x0 : ByteArray) (x1 : List ByteArray × Nat) (x2 : Int) : Option laws_szFile.R :=
  lett ((decide ((w64 (x2 - (sLen x0))) < (0 : Int))) : Bool) fun v1 => cond v1 (some ((-1 : Int), ())) (Option.bind (laws_szStringS m (x1, (w64 (x2 - (sLen x0))), ())) fun r2 => cond (decide (r2.1 < (0 : Int))) (some ((-1 : Int), ())) (some (r2.1, ())))
def laws_szFile.tab (m : Nat) : Nat → laws_szFile.Tab
  | 0 => (())
  | k + 1 => (())
def laws_szFile (m : Nat) (x : Den [.str, .sp (.str), .int .i64]) : Option laws_szFile.R := laws_szFile.start m (laws_szFile.tab m m) x.1 x.2.1 x.2.2.1
def laws_szFile.cons (m : Nat) : List (Nat × Contract) := [(19, ⟨laws_szStringS.sig, laws_szStringS m⟩)]
def laws_szFile.cuts (m : Nat) : List (CutF (Den laws_szFile.sig.us)) := []
theorem laws_szFile.eq (m : Nat) (x : Den laws_szFile.sig.ts) : laws_szFile m x = startF ⟨lookΓ Γs, lookC (laws_szFile.cons m), false⟩ Tryd.f40 laws_szFile.sig (laws_szFile.cuts m) m x := by kernel_rfl
theorem laws_szFile.ok (m : Nat) : Meets Tryd.prog 40 laws_szFile.sig (laws_szFile m) :=
  fn_is (cx_is tyOks mixed (l := laws_szFile.cons m) ⟨laws_szStringS.ok m, trivial⟩) (fn := Tryd.f40) Tryd.func40 (by kernel_rfl) (cl := laws_szFile.cuts m) trivial (k := m) (laws_szFile.eq m)

/-! ### loop.example/stemma/laws.szFileS: function 10 -/
abbrev laws_szFileS.R : Type := Den [.int .i64]
def laws_szFileS.sig : Sig := ⟨2, ⟨[], [(0, .l (.dat (.sp (.pair (.str) (.sp (.str)))))), (1, .l (.dat (.int .i64)))]⟩, [.sp (.pair (.str) (.sp (.str))), .int .i64], ⟨[], [(0, .l (.dat (.int .i64)))]⟩, [.int .i64]⟩
abbrev laws_szFileS.Tab : Type := (Den [.sp (.pair (.str) (.sp (.str))), .int .i64, .int .i64] → Option laws_szFileS.R) × Unit
def laws_szFileS.start (m : Nat) (t : laws_szFileS.Tab) (x0 : List (ByteArray × (List ByteArray × Nat)) × Nat) (x1 : Int) : Option laws_szFileS.R :=
  lett ((decide ((w64 (x1 - (x0.2 : Int))) < (0 : Int))) : Bool) fun v1 => cond v1 (some ((-1 : Int), ())) (t.1 (x0, (w64 (x1 - (x0.2 : Int))), (0 : Int), ()))
def laws_szFileS.b0 (m : Nat) (t : laws_szFileS.Tab) (a0 : List (ByteArray × (List ByteArray × Nat)) × Nat) (a1 : Int) (a2 : Int) : Option laws_szFileS.R :=
  cond (decide (a2 < (a0.2 : Int))) (cond (decide ((0 : Int) ≤ a2)) (cond (decide (a2 < (a0.2 : Int))) (lett ((getL a0.1 a2 (ByteArray.empty, ([] : List ByteArray), (0 : Nat))) : ByteArray × (List ByteArray × Nat)) fun v1 => Option.bind (laws_szFile m (v1.1, v1.2, a1, ())) fun r2 => cond (decide (r2.1 < (0 : Int))) (some ((-1 : Int), ())) (t.1 (a0, r2.1, (w64 (a2 + (1 : Int))), ()))) none) none) (some (a1, ()))
def laws_szFileS.tab (m : Nat) : Nat → laws_szFileS.Tab
  | 0 => (fun _ => none, ())
  | k + 1 => (fun x => laws_szFileS.b0 m (laws_szFileS.tab m k) x.1 x.2.1 x.2.2.1, ())
def laws_szFileS (m : Nat) (x : Den [.sp (.pair (.str) (.sp (.str))), .int .i64]) : Option laws_szFileS.R := laws_szFileS.start m (laws_szFileS.tab m m) x.1 x.2.1
def laws_szFileS.cons (m : Nat) : List (Nat × Contract) := [(40, ⟨laws_szFile.sig, laws_szFile m⟩)]
def laws_szFileS.cuts (m : Nat) : List (CutF (Den laws_szFileS.sig.us)) := [⟨[false, true, false, true, true, true], 122, ⟨[], [(0, .l (.dat (.sp (.pair (.str) (.sp (.str)))))), (1, .l (.dat (.int .i64))), (5, .l (.dat (.int .i64)))]⟩, [.sp (.pair (.str) (.sp (.str))), .int .i64, .int .i64], fun k => (laws_szFileS.tab m k).1⟩]
theorem laws_szFileS.eq0 (m k : Nat) (x : Den [.sp (.pair (.str) (.sp (.str))), .int .i64, .int .i64]) : (laws_szFileS.tab m (k + 1)).1 x = runF ⟨lookΓ Γs, lookC (laws_szFileS.cons m), false⟩ Tryd.f10 laws_szFileS.sig (laws_szFileS.cuts m) k [false, true, false, true, true, true] ⟨[], [(0, .l (.dat (.sp (.pair (.str) (.sp (.str)))))), (1, .l (.dat (.int .i64))), (5, .l (.dat (.int .i64)))]⟩ [.sp (.pair (.str) (.sp (.str))), .int .i64, .int .i64] x := by kernel_rfl
theorem laws_szFileS.eq (m : Nat) (x : Den laws_szFileS.sig.ts) : laws_szFileS m x = startF ⟨lookΓ Γs, lookC (laws_szFileS.cons m), false⟩ Tryd.f10 laws_szFileS.sig (laws_szFileS.cuts m) m x := by kernel_rfl
theorem laws_szFileS.ok (m : Nat) : Meets Tryd.prog 10 laws_szFileS.sig (laws_szFileS m) :=
  fn_is (cx_is tyOks mixed (l := laws_szFileS.cons m) ⟨laws_szFile.ok m, trivial⟩) (fn := Tryd.f10) Tryd.func10 (by kernel_rfl) (cl := laws_szFileS.cuts m) ⟨⟨by kernel_rfl, fun _ => rfl, fun k x => laws_szFileS.eq0 m k x⟩, trivial⟩ (k := m) (laws_szFileS.eq m)

/-! ### loop.example/stemma/laws.roomBehind: function 44 -/
abbrev laws_roomBehind.R : Type := Den [.int .i64]
def laws_roomBehind.sig : Sig := ⟨1, ⟨[], [(0, .l (.dat (.int .i64)))]⟩, [.int .i64], ⟨[], [(0, .l (.dat (.int .i64)))]⟩, [.int .i64]⟩
abbrev laws_roomBehind.Tab : Type := Unit
def laws_roomBehind.start (m : Nat) (t : laws_roomBehind.Tab) (x0 : Int) : Option laws_roomBehind.R :=
  cond ((6 : Int) == 0) none (cond ((Int.tmod x0 (6 : Int)) == (5 : Int)) (some ((0 : Int), ())) (cond ((3 : Int) == 0) none (cond ((Int.tmod x0 (3 : Int)) == (0 : Int)) (some ((1 : Int), ())) (some (x0, ())))))
def laws_roomBehind.tab (m : Nat) : Nat → laws_roomBehind.Tab
  | 0 => (())
  | k + 1 => (())
def laws_roomBehind (m : Nat) (x : Den [.int .i64]) : Option laws_roomBehind.R := laws_roomBehind.start m (laws_roomBehind.tab m m) x.1
def laws_roomBehind.cons (m : Nat) : List (Nat × Contract) := []
def laws_roomBehind.cuts (m : Nat) : List (CutF (Den laws_roomBehind.sig.us)) := []
theorem laws_roomBehind.eq (m : Nat) (x : Den laws_roomBehind.sig.ts) : laws_roomBehind m x = startF ⟨lookΓ Γs, lookC (laws_roomBehind.cons m), false⟩ Tryd.f44 laws_roomBehind.sig (laws_roomBehind.cuts m) m x := by kernel_rfl
theorem laws_roomBehind.ok (m : Nat) : Meets Tryd.prog 44 laws_roomBehind.sig (laws_roomBehind m) :=
  fn_is (cx_is tyOks mixed (l := laws_roomBehind.cons m) trivial) (fn := Tryd.f44) Tryd.func44 (by kernel_rfl) (cl := laws_roomBehind.cuts m) trivial (k := m) (laws_roomBehind.eq m)

/-! ### loop.example/stemma/laws.toStringS: function 21 -/
abbrev laws_toStringS.R : Type := Den [.list (.str), .int .i64]
def laws_toStringS.sig : Sig := ⟨2, ⟨[], [(0, .l (.dat (.sp (.str)))), (1, .l (.dat (.bool)))]⟩, [.sp (.str), .bool], ⟨[.row true (.str)], [(0, .l (.slv 0))]⟩, [.list (.str), .int .i64]⟩
abbrev laws_toStringS.Tab : Type := (Den [.list (.str), .sp (.str), .int .i64] → Option laws_toStringS.R) × (Den [.list (.str), .sp (.str), .int .i64] → Option laws_toStringS.R) × (Den [.sp (.str)] → Option laws_toStringS.R) × Unit
def laws_toStringS.start (m : Nat) (t : laws_toStringS.Tab) (x0 : List ByteArray × Nat) (x1 : Bool) : Option laws_toStringS.R :=
  cond x1 (cond ((x0.2 : Int) == (0 : Int)) (some ([], ((List.length ([] : List ByteArray) : Nat) : Int), ())) (t.2.2.1 (x0, ()))) (t.2.2.1 (x0, ()))
def laws_toStringS.b0 (m : Nat) (t : laws_toStringS.Tab) (a0 : List ByteArray) (a1 : List ByteArray × Nat) (a2 : Int) : Option laws_toStringS.R :=
  cond (decide (a2 < (a1.2 : Int))) (cond (decide ((0 : Int) ≤ a2)) (cond (decide (a2 < (a1.2 : Int))) (cond (decide ((0 : Int) ≤ a2)) (cond (decide (a2 < lLen a0)) (t.1 ((List.set a0 (Int.toNat a2) (getL a1.1 a2 ByteArray.empty)), a1, (w64 (a2 + (1 : Int))), ())) none) none) none) none) (t.2.1 (a0, a1, (a1.2 : Int), ()))
def laws_toStringS.b1 (m : Nat) (t : laws_toStringS.Tab) (a0 : List ByteArray) (a1 : List ByteArray × Nat) (a2 : Int) : Option laws_toStringS.R :=
  cond (decide (a2 < (lLen a0))) (cond (decide ((0 : Int) ≤ a2)) (cond (decide (a2 < lLen a0)) (t.2.1 ((List.set a0 (Int.toNat a2) s_7e73706172657e), a1, (w64 (a2 + (1 : Int))), ())) none) none) (cond (decide ((0 : Int) ≤ (a1.2 : Int))) (cond (decide ((a1.2 : Int) ≤ ((List.length a0) : Int))) (some (a0, ((Int.toNat (a1.2 : Int)) : Int), ())) none) none)
def laws_toStringS.b2 (m : Nat) (t : laws_toStringS.Tab) (a0 : List ByteArray × Nat) : Option laws_toStringS.R :=
  Option.bind (laws_roomBehind m ((a0.2 : Int), ())) fun r1 => cond (decide ((0 : Int) ≤ (w64 ((a0.2 : Int) + r1.1)))) (cond (decide (Int.toNat (w64 ((a0.2 : Int) + r1.1)) ≤ apCap)) (lett ((List.replicate (Int.toNat (w64 ((a0.2 : Int) + r1.1))) ByteArray.empty) : List ByteArray) fun v2 => t.1 (v2, a0, (0 : Int), ())) none) none
def laws_toStringS.tab (m : Nat) : Nat → laws_toStringS.Tab
  | 0 => (fun _ => none, fun _ => none, fun _ => none, ())
  | k + 1 => (fun x => laws_toStringS.b0 m (laws_toStringS.tab m k) x.1 x.2.1 x.2.2.1, fun x => laws_toStringS.b1 m (laws_toStringS.tab m k) x.1 x.2.1 x.2.2.1, fun x => laws_toStringS.b2 m (laws_toStringS.tab m k) x.1, ())
def laws_toStringS (m : Nat) (x : Den [.sp (.str), .bool]) : Option laws_toStringS.R := laws_toStringS.start m (laws_toStringS.tab m m) x.1 x.2.1
def laws_toStringS.cons (m : Nat) : List (Nat × Contract) := [(44, ⟨laws_roomBehind.sig, laws_roomBehind m⟩)]
def laws_toStringS.cuts (m : Nat) : List (CutF (Den laws_toStringS.sig.us)) := [⟨[false, true, false, true, true, true], 122, ⟨[.row true (.str)], [(0, .l (.dat (.sp (.str)))), (5, .l (.sl 0)), (6, .l (.dat (.int .i64)))]⟩, [.list (.str), .sp (.str), .int .i64], fun k => (laws_toStringS.tab m k).1⟩,
  ⟨[false, true, false, true, true, true, true], 250, ⟨[.row true (.str)], [(0, .l (.dat (.sp (.str)))), (5, .l (.sl 0)), (7, .l (.dat (.int .i64)))]⟩, [.list (.str), .sp (.str), .int .i64], fun k => (laws_toStringS.tab m k).2.1⟩,
  ⟨[true, true], 7, ⟨[], [(0, .l (.dat (.sp (.str))))]⟩, [.sp (.str)], fun k => (laws_toStringS.tab m k).2.2.1⟩]
theorem laws_toStringS.eq0 (m k : Nat) (x : Den [.list (.str), .sp (.str), .int .i64]) : (laws_toStringS.tab m (k + 1)).1 x = runF ⟨lookΓ Γs, lookC (laws_toStringS.cons m), false⟩ Tryd.f21 laws_toStringS.sig (laws_toStringS.cuts m) k [false, true, false, true, true, true] ⟨[.row true (.str)], [(0, .l (.dat (.sp (.str)))), (5, .l (.sl 0)), (6, .l (.dat (.int .i64)))]⟩ [.list (.str), .sp (.str), .int .i64] x := by kernel_rfl
theorem laws_toStringS.eq1 (m k : Nat) (x : Den [.list (.str), .sp (.str), .int .i64]) : (laws_toStringS.tab m (k + 1)).2.1 x = runF ⟨lookΓ Γs, lookC (laws_toStringS.cons m), false⟩ Tryd.f21 laws_toStringS.sig (laws_toStringS.cuts m) k [false, true, false, true, true, true, true] ⟨[.row true (.str)], [(0, .l (.dat (.sp (.str)))), (5, .l (.sl 0)), (7, .l (.dat (.int .i64)))]⟩ [.list (.str), .sp (.str), .int .i64] x := by kernel_rfl
theorem laws_toStringS.eq2 (m k : Nat) (x : Den [.sp (.str)]) : (laws_toStringS.tab m (k + 1)).2.2.1 x = runF ⟨lookΓ Γs, lookC (laws_toStringS.cons m), false⟩ Tryd.f21 laws_toStringS.sig (laws_toStringS.cuts m) k [true, true] ⟨[], [(0, .l (.dat (.sp (.str))))]⟩ [.sp (.str)] x := by kernel_rfl
theorem laws_toStringS.eq (m : Nat) (x : Den laws_toStringS.sig.ts) : laws_toStringS m x = startF ⟨lookΓ Γs, lookC (laws_toStringS.cons m), false⟩ Tryd.f21 laws_toStringS.sig (laws_toStringS.cuts m) m x := by kernel_rfl
theorem laws_toStringS.ok (m : Nat) : Meets Tryd.prog 21 laws_toStringS.sig (laws_toStringS m) :=
  fn_is (cx_is tyOks mixed (l := laws_toStringS.cons m) ⟨laws_roomBehind.ok m, trivial⟩) (fn := Tryd.f21) Tryd.func21 (by kernel_rfl) (cl := laws_toStringS.cuts m) ⟨⟨by kernel_rfl, fun _ => rfl, fun k x => laws_toStringS.eq0 m k x⟩, ⟨by kernel_rfl, fun _ => rfl, fun k x => laws_toStringS.eq1 m k x⟩, ⟨by kernel_rfl, fun _ => rfl, fun k x => laws_toStringS.eq2 m k x⟩, trivial⟩ (k := m) (laws_toStringS.eq m)

/-! ### loop.example/stemma/laws.toFile: function 45 -/
abbrev laws_toFile.R : Type := Den [.list (.str), .str, .int .i64]
def laws_toFile.sig : Sig := ⟨2, ⟨[], [(0, .agg [.dat (.str), .dat (.sp (.str))]), (1, .l (.dat (.bool)))]⟩, [.str, .sp (.str), .bool], ⟨[.row true (.str)], [(0, .agg [.dat (.str), .slv 0])]⟩, [.list (.str), .str, .int .i64]⟩
abbrev laws_toFile.Tab : Type := Unit
def laws_toFile.start (m : Nat) (t : laws_toFile.Tab) (x0 : ByteArray) (x1 : List ByteArray × Nat) (x2 : Bool) : Option laws_toFile.R :=
  Option.bind (laws_toStringS m (x1, x2, ())) fun r1 => some (r1.1, x0, ((Int.toNat r1.2.1) : Int), ())
def laws_toFile.tab (m : Nat) : Nat → laws_toFile.Tab
  | 0 => (())
  | k + 1 => (())
def laws_toFile (m : Nat) (x : Den [.str, .sp (.str), .bool]) : Option laws_toFile.R := laws_toFile.start m (laws_toFile.tab m m) x.1 x.2.1 x.2.2.1
def laws_toFile.cons (m : Nat) : List (Nat × Contract) := [(21, ⟨laws_toStringS.sig, laws_toStringS m⟩)]
def laws_toFile.cuts (m : Nat) : List (CutF (Den laws_toFile.sig.us)) := []
theorem laws_toFile.eq (m : Nat) (x : Den laws_toFile.sig.ts) : laws_toFile m x = startF ⟨lookΓ Γs, lookC (laws_toFile.cons m), false⟩ Tryd.f45 laws_toFile.sig (laws_toFile.cuts m) m x := by kernel_rfl
theorem laws_toFile.ok (m : Nat) : Meets Tryd.prog 45 laws_toFile.sig (laws_toFile m) :=
  fn_is (cx_is tyOks mixed (l := laws_toFile.cons m) ⟨laws_toStringS.ok m, trivial⟩) (fn := Tryd.f45) Tryd.func45 (by kernel_rfl) (cl := laws_toFile.cuts m) trivial (k := m) (laws_toFile.eq m)

/-! ### loop.example/stemma/laws.fillerFile: function 46 -/
abbrev laws_fillerFile.R : Type := Den [.list (.str), .str]
def laws_fillerFile.sig : Sig := ⟨0, ⟨[], []⟩, [], ⟨[.row true (.str)], [(0, .agg [.dat (.str), .sl 0])]⟩, [.list (.str), .str]⟩
abbrev laws_fillerFile.Tab : Type := Unit
def laws_fillerFile.start (m : Nat) (t : laws_fillerFile.Tab) : Option laws_fillerFile.R :=
  some ([s_7e73706172657e], s_7e73706172657e, ())
def laws_fillerFile.tab (m : Nat) : Nat → laws_fillerFile.Tab
  | 0 => (())
  | k + 1 => (())
def laws_fillerFile (m : Nat) (x : Den []) : Option laws_fillerFile.R := laws_fillerFile.start m (laws_fillerFile.tab m m)
def laws_fillerFile.cons (m : Nat) : List (Nat × Contract) := []
def laws_fillerFile.cuts (m : Nat) : List (CutF (Den laws_fillerFile.sig.us)) := []
theorem laws_fillerFile.eq (m : Nat) (x : Den laws_fillerFile.sig.ts) : laws_fillerFile m x = startF ⟨lookΓ Γs, lookC (laws_fillerFile.cons m), false⟩ Tryd.f46 laws_fillerFile.sig (laws_fillerFile.cuts m) m x := by kernel_rfl
theorem laws_fillerFile.ok (m : Nat) : Meets Tryd.prog 46 laws_fillerFile.sig (laws_fillerFile m) :=
  fn_is (cx_is tyOks mixed (l := laws_fillerFile.cons m) trivial) (fn := Tryd.f46) Tryd.func46 (by kernel_rfl) (cl := laws_fillerFile.cuts m) trivial (k := m) (laws_fillerFile.eq m)

/-! ### loop.example/stemma/laws.toFileS: function 12 -/
abbrev laws_toFileS.R : Type := Den [.list (.pair (.str) (.sp (.str))), .int .i64]
def laws_toFileS.sig : Sig := ⟨2, ⟨[], [(0, .l (.dat (.sp (.pair (.str) (.sp (.str)))))), (1, .l (.dat (.bool)))]⟩, [.sp (.pair (.str) (.sp (.str))), .bool], ⟨[.row true (.pair (.str) (.sp (.str)))], [(0, .l (.slv 0))]⟩, [.list (.pair (.str) (.sp (.str))), .int .i64]⟩
abbrev laws_toFileS.Tab : Type := (Den [.list (.pair (.str) (.sp (.str))), .sp (.pair (.str) (.sp (.str))), .bool, .int .i64] → Option laws_toFileS.R) × (Den [.list (.pair (.str) (.sp (.str))), .sp (.pair (.str) (.sp (.str))), .int .i64] → Option laws_toFileS.R) × (Den [.sp (.pair (.str) (.sp (.str))), .bool] → Option laws_toFileS.R) × Unit
def laws_toFileS.start (m : Nat) (t : laws_toFileS.Tab) (x0 : List (ByteArray × (List ByteArray × Nat)) × Nat) (x1 : Bool) : Option laws_toFileS.R :=
  cond x1 (cond ((x0.2 : Int) == (0 : Int)) (some ([], ((List.length ([] : List (ByteArray × (List ByteArray × Nat))) : Nat) : Int), ())) (t.2.2.1 (x0, x1, ()))) (t.2.2.1 (x0, x1, ()))
def laws_toFileS.b0 (m : Nat) (t : laws_toFileS.Tab) (a0 : List (ByteArray × (List ByteArray × Nat))) (a1 : List (ByteArray × (List ByteArray × Nat)) × Nat) (a2 : Bool) (a3 : Int) : Option laws_toFileS.R :=
  cond (decide (a3 < (a1.2 : Int))) (cond (decide ((0 : Int) ≤ a3)) (cond (decide (a3 < (a1.2 : Int))) (lett ((getL a1.1 a3 (ByteArray.empty, ([] : List ByteArray), (0 : Nat))) : ByteArray × (List ByteArray × Nat)) fun v1 => Option.bind (laws_toFile m (v1.1, v1.2, a2, ())) fun r2 => cond (decide ((0 : Int) ≤ a3)) (cond (decide (a3 < lLen a0)) (lett ((List.set a0 (Int.toNat a3) (r2.2.1, r2.1, (Int.toNat r2.2.2.1))) : List (ByteArray × (List ByteArray × Nat))) fun v3 => t.1 (v3, a1, a2, (w64 (a3 + (1 : Int))), ())) none) none) none) none) (t.2.1 (a0, a1, (a1.2 : Int), ()))
def laws_toFileS.b1 (m : Nat) (t : laws_toFileS.Tab) (a0 : List (ByteArray × (List ByteArray × Nat))) (a1 : List (ByteArray × (List ByteArray × Nat)) × Nat) (a2 : Int) : Option laws_toFileS.R :=
  cond (decide (a2 < (lLen a0))) (Option.bind (laws_fillerFile m (())) fun r1 => cond (decide ((0 : Int) ≤ a2)) (cond (decide (a2 < lLen a0)) (lett ((List.set a0 (Int.toNat a2) (r1.2.1, r1.1, (List.length r1.1))) : List (ByteArray × (List ByteArray × Nat))) fun v2 => t.2.1 (v2, a1, (w64 (a2 + (1 : Int))), ())) none) none) (cond (decide ((0 : Int) ≤ (a1.2 : Int))) (cond (decide ((a1.2 : Int) ≤ ((List.length a0) : Int))) (some (a0, ((Int.toNat (a1.2 : Int)) : Int), ())) none) none)
def laws_toFileS.b2 (m : Nat) (t : laws_toFileS.Tab) (a0 : List (ByteArray × (List ByteArray × Nat)) × Nat) (a1 : Bool) : Option laws_toFileS.R :=
  Option.bind (laws_roomBehind m ((a0.2 : Int), ())) fun r1 => cond (decide ((0 : Int) ≤ (w64 ((a0.2 : Int) + r1.1)))) (cond (decide (Int.toNat (w64 ((a0.2 : Int) + r1.1)) ≤ apCap)) (lett ((List.replicate (Int.toNat (w64 ((a0.2 : Int) + r1.1))) (ByteArray.empty, ([] : List ByteArray), (0 : Nat))) : List (ByteArray × (List ByteArray × Nat))) fun v2 => t.1 (v2, a0, a1, (0 : Int), ())) none) none
def laws_toFileS.tab (m : Nat) : Nat → laws_toFileS.Tab
  | 0 => (fun _ => none, fun _ => none, fun _ => none, ())
  | k + 1 => (fun x => laws_toFileS.b0 m (laws_toFileS.tab m k) x.1 x.2.1 x.2.2.1 x.2.2.2.1, fun x => laws_toFileS.b1 m (laws_toFileS.tab m k) x.1 x.2.1 x.2.2.1, fun x => laws_toFileS.b2 m (laws_toFileS.tab m k) x.1 x.2.1, ())
def laws_toFileS (m : Nat) (x : Den [.sp (.pair (.str) (.sp (.str))), .bool]) : Option laws_toFileS.R := laws_toFileS.start m (laws_toFileS.tab m m) x.1 x.2.1
def laws_toFileS.cons (m : Nat) : List (Nat × Contract) := [(45, ⟨laws_toFile.sig, laws_toFile m⟩), (46, ⟨laws_fillerFile.sig, laws_fillerFile m⟩), (44, ⟨laws_roomBehind.sig, laws_roomBehind m⟩)]
def laws_toFileS.cuts (m : Nat) : List (CutF (Den laws_toFileS.sig.us)) := [⟨[false, true, false, true, true, true], 122, ⟨[.row true (.pair (.str) (.sp (.str)))], [(0, .l (.dat (.sp (.pair (.str) (.sp (.str)))))), (1, .l (.dat (.bool))), (5, .l (.sl 0)), (6, .l (.dat (.int .i64)))]⟩, [.list (.pair (.str) (.sp (.str))), .sp (.pair (.str) (.sp (.str))), .bool, .int .i64], fun k => (laws_toFileS.tab m k).1⟩,
  ⟨[false, true, false, true, true, true, true], 250, ⟨[.row true (.pair (.str) (.sp (.str)))], [(0, .l (.dat (.sp (.pair (.str) (.sp (.str)))))), (5, .l (.sl 0)), (7, .l (.dat (.int .i64)))]⟩, [.list (.pair (.str) (.sp (.str))), .sp (.pair (.str) (.sp (.str))), .int .i64], fun k => (laws_toFileS.tab m k).2.1⟩,
  ⟨[true, true], 7, ⟨[], [(0, .l (.dat (.sp (.pair (.str) (.sp (.str)))))), (1, .l (.dat (.bool)))]⟩, [.sp (.pair (.str) (.sp (.str))), .bool], fun k => (laws_toFileS.tab m k).2.2.1⟩]
theorem laws_toFileS.eq0 (m k : Nat) (x : Den [.list (.pair (.str) (.sp (.str))), .sp (.pair (.str) (.sp (.str))), .bool, .int .i64]) : (laws_toFileS.tab m (k + 1)).1 x = runF ⟨lookΓ Γs, lookC (laws_toFileS.cons m), false⟩ Tryd.f12 laws_toFileS.sig (laws_toFileS.cuts m) k [false, true, false, true, true, true] ⟨[.row true (.pair (.str) (.sp (.str)))], [(0, .l (.dat (.sp (.pair (.str) (.sp (.str)))))), (1, .l (.dat (.bool))), (5, .l (.sl 0)), (6, .l (.dat (.int .i64)))]⟩ [.list (.pair (.str) (.sp (.str))), .sp (.pair (.str) (.sp (.str))), .bool, .int .i64] x := by kernel_rfl
theorem laws_toFileS.eq1 (m k : Nat) (x : Den [.list (.pair (.str) (.sp (.str))), .sp (.pair (.str) (.sp (.str))), .int .i64]) : (laws_toFileS.tab m (k + 1)).2.1 x = runF ⟨lookΓ Γs, lookC (laws_toFileS.cons m), false⟩ Tryd.f12 laws_toFileS.sig (laws_toFileS.cuts m) k [false, true, false, true, true, true, true] ⟨[.row true (.pair (.str) (.sp (.str)))], [(0, .l (.dat (.sp (.pair (.str) (.sp (.str)))))), (5, .l (.sl 0)), (7, .l (.dat (.int .i64)))]⟩ [.list (.pair (.str) (.sp (.str))), .sp (.pair (.str) (.sp (.str))), .int .i64] x := by kernel_rfl
theorem laws_toFileS.eq2 (m k : Nat) (x : Den [.sp (.pair (.str) (.sp (.str))), .bool]) : (laws_toFileS.tab m (k + 1)).2.2.1 x = runF ⟨lookΓ Γs, lookC (laws_toFileS.cons m), false⟩ Tryd.f12 laws_toFileS.sig (laws_toFileS.cuts m) k [true, true] ⟨[], [(0, .l (.dat (.sp (.pair (.str) (.sp (.str)))))), (1, .l (.dat (.bool)))]⟩ [.sp (.pair (.str) (.sp (.str))), .bool] x := by kernel_rfl
theorem laws_toFileS.eq (m : Nat) (x : Den laws_toFileS.sig.ts) : laws_toFileS m x = startF ⟨lookΓ Γs, lookC (laws_toFileS.cons m), false⟩ Tryd.f12 laws_toFileS.sig (laws_toFileS.cuts m) m x := by kernel_rfl
theorem laws_toFileS.ok (m : Nat) : Meets Tryd.prog 12 laws_toFileS.sig (laws_toFileS m) :=
  fn_is (cx_is tyOks mixed (l := laws_toFileS.cons m) ⟨laws_toFile.ok m, laws_fillerFile.ok m, laws_roomBehind.ok m, trivial⟩) (fn := Tryd.f12) Tryd.func12 (by kernel_rfl) (cl := laws_toFileS.cuts m) ⟨⟨by kernel_rfl, fun _ => rfl, fun k x => laws_toFileS.eq0 m k x⟩, ⟨by kernel_rfl, fun _ => rfl, fun k x => laws_toFileS.eq1 m k x⟩, ⟨by kernel_rfl, fun _ => rfl, fun k x => laws_toFileS.eq2 m k x⟩, trivial⟩ (k := m) (laws_toFileS.eq m)

/-! ### loop.example/stemma/spec.l1Cut: function 76 -/
abbrev spec_l1Cut.R : Type := Den [.list (.str)]
def spec_l1Cut.sig : Sig := ⟨3, ⟨[], [(0, .l (.dat (.str))), (1, .l (.dat (.int .u8))), (2, .l (.dat (.int .i64)))]⟩, [.str, .int .u8, .int .i64], ⟨[], [(0, .l (.dat (.list (.str))))]⟩, [.list (.str)]⟩
abbrev spec_l1Cut.Tab : Type := (Den [.list (.str), .str, .int .u8, .int .i64, .int .i64, .int .i64] → Option spec_l1Cut.R) × Unit
def spec_l1Cut.start (m : Nat) (t : spec_l1Cut.Tab) (x0 : ByteArray) (x1 : Int) (x2 : Int) : Option spec_l1Cut.R :=
  t.1 ([], x0, x1, x2, (0 : Int), (0 : Int), ())
def spec_l1Cut.b0 (m : Nat) (t : spec_l1Cut.Tab) (a0 : List ByteArray) (a1 : ByteArray) (a2 : Int) (a3 : Int) (a4 : Int) (a5 : Int) : Option spec_l1Cut.R :=
  cond (decide (a5 < (sLen a1))) (cond (decide ((lLen a0) < a3)) (cond (decide ((0 : Int) ≤ a5)) (cond (decide (a5 < sLen a1)) (cond ((byteAt a1 a5) == a2) (cond (decide ((0 : Int) ≤ a5)) (cond (decide (a5 ≤ (ByteArray.size a1 : Int))) (cond (decide ((0 : Int) ≤ a4)) (cond (decide (a4 ≤ a5)) (cond (decide (List.length a0 + List.length ([(cutS a1 (Int.toNat a4) (Int.toNat a5))] : List ByteArray) ≤ apCap)) (lett ((List.append a0 ([(cutS a1 (Int.toNat a4) (Int.toNat a5))] : List ByteArray)) : List ByteArray) fun v1 => t.1 (v1, a1, a2, a3, (w64 (a5 + (1 : Int))), (w64 (a5 + (1 : Int))), ())) none) none) none) none) none) (t.1 (a0, a1, a2, a3, a4, (w64 (a5 + (1 : Int))), ()))) none) none) (cond (decide ((0 : Int) ≤ a4)) (cond (decide (a4 ≤ (ByteArray.size a1 : Int))) (lett ((cutS a1 (Int.toNat a4) (ByteArray.size a1)) : ByteArray) fun v2 => cond (decide (List.length a0 + List.length ([v2] : List ByteArray) ≤ apCap)) (some ((List.append a0 ([v2] : List ByteArray)), ())) none) none) none)) (cond (decide ((0 : Int) ≤ a4)) (cond (decide (a4 ≤ (ByteArray.size a1 : Int))) (lett ((cutS a1 (Int.toNat a4) (ByteArray.size a1)) : ByteArray) fun v3 => cond (decide (List.length a0 + List.length ([v3] : List ByteArray) ≤ apCap)) (some ((List.append a0 ([v3] : List ByteArray)), ())) none) none) none)
def spec_l1Cut.tab (m : Nat) : Nat → spec_l1Cut.Tab
  | 0 => (fun _ => none, ())
  | k + 1 => (fun x => spec_l1Cut.b0 m (spec_l1Cut.tab m k) x.1 x.2.1 x.2.2.1 x.2.2.2.1 x.2.2.2.2.1 x.2.2.2.2.2.1, ())
def spec_l1Cut (m : Nat) (x : Den [.str, .int .u8, .int .i64]) : Option spec_l1Cut.R := spec_l1Cut.start m (spec_l1Cut.tab m m) x.1 x.2.1 x.2.2.1
def spec_l1Cut.cons (m : Nat) : List (Nat × Contract) := []
def spec_l1Cut.cuts (m : Nat) : List (CutF (Den spec_l1Cut.sig.us)) := [⟨[false, true, false, true, true, true], 122, ⟨[.row true (.str)], [(0, .l (.dat (.str))), (1, .l (.dat (.int .u8))), (2, .l (.dat (.int .i64))), (7, .l (.sl 0)), (8, .l (.dat (.int .i64))), (9, .l (.dat (.int .i64)))]⟩, [.list (.str), .str, .int .u8, .int .i64, .int .i64, .int .i64], fun k => (spec_l1Cut.tab m k).1⟩]
theorem spec_l1Cut.eq0 (m k : Nat) (x : Den [.list (.str), .str, .int .u8, .int .i64, .int .i64, .int .i64]) : (spec_l1Cut.tab m (k + 1)).1 x = runF ⟨lookΓ Γl, lookC (spec_l1Cut.cons m), false⟩ Tryd.f76 spec_l1Cut.sig (spec_l1Cut.cuts m) k [false, true, false, true, true, true] ⟨[.row true (.str)], [(0, .l (.dat (.str))), (1, .l (.dat (.int .u8))), (2, .l (.dat (.int .i64))), (7, .l (.sl 0)), (8, .l (.dat (.int .i64))), (9, .l (.dat (.int .i64)))]⟩ [.list (.str), .str, .int .u8, .int .i64, .int .i64, .int .i64] x := by kernel_rfl
theorem spec_l1Cut.eq (m : Nat) (x : Den spec_l1Cut.sig.ts) : spec_l1Cut m x = startF ⟨lookΓ Γl, lookC (spec_l1Cut.cons m), false⟩ Tryd.f76 spec_l1Cut.sig (spec_l1Cut.cuts m) m x := by kernel_rfl
theorem spec_l1Cut.ok (m : Nat) : Meets Tryd.prog 76 spec_l1Cut.sig (spec_l1Cut m) :=
  fn_is (cx_is tyOk mixed (l := spec_l1Cut.cons m) trivial) (fn := Tryd.f76) Tryd.func76 (by kernel_rfl) (cl := spec_l1Cut.cuts m) ⟨⟨by kernel_rfl, fun _ => rfl, fun k x => spec_l1Cut.eq0 m k x⟩, trivial⟩ (k := m) (spec_l1Cut.eq m)

/-! ### loop.example/stemma/spec.l1In: function 85 -/
abbrev spec_l1In.R : Type := Den [.bool]
def spec_l1In.sig : Sig := ⟨3, ⟨[], [(0, .l (.dat (.int .i64))), (1, .l (.dat (.int .i64))), (2, .l (.dat (.int .i64)))]⟩, [.int .i64, .int .i64, .int .i64], ⟨[], [(0, .l (.dat (.bool)))]⟩, [.bool]⟩
abbrev spec_l1In.Tab : Type := Unit
def spec_l1In.start (m : Nat) (t : spec_l1In.Tab) (x0 : Int) (x1 : Int) (x2 : Int) : Option spec_l1In.R :=
  cond (decide (x0 ≥ x1)) (some ((decide (x0 ≤ x2)), ())) (some (false, ()))
def spec_l1In.tab (m : Nat) : Nat → spec_l1In.Tab
  | 0 => (())
  | k + 1 => (())
def spec_l1In (m : Nat) (x : Den [.int .i64, .int .i64, .int .i64]) : Option spec_l1In.R := spec_l1In.start m (spec_l1In.tab m m) x.1 x.2.1 x.2.2.1
def spec_l1In.cons (m : Nat) : List (Nat × Contract) := []
def spec_l1In.cuts (m : Nat) : List (CutF (Den spec_l1In.sig.us)) := []
theorem spec_l1In.eq (m : Nat) (x : Den spec_l1In.sig.ts) : spec_l1In m x = startF ⟨lookΓ Γl, lookC (spec_l1In.cons m), false⟩ Tryd.f85 spec_l1In.sig (spec_l1In.cuts m) m x := by kernel_rfl
theorem spec_l1In.ok (m : Nat) : Meets Tryd.prog 85 spec_l1In.sig (spec_l1In m) :=
  fn_is (cx_is tyOk mixed (l := spec_l1In.cons m) trivial) (fn := Tryd.f85) Tryd.func85 (by kernel_rfl) (cl := spec_l1In.cuts m) trivial (k := m) (spec_l1In.eq m)

/-! ### loop.example/stemma/spec.l4Name: function 42 -/
abbrev spec_l4Name.R : Type := Den [.bool]
def spec_l4Name.sig : Sig := ⟨1, ⟨[], [(0, .l (.dat (.str)))]⟩, [.str], ⟨[], [(0, .l (.dat (.bool)))]⟩, [.bool]⟩
abbrev spec_l4Name.Tab : Type := (Den [.str, .int .i64] → Option spec_l4Name.R) × (Den [.str, .int .i64, .bool] → Option spec_l4Name.R) × Unit
def spec_l4Name.start (m : Nat) (t : spec_l4Name.Tab) (x0 : ByteArray) : Option spec_l4Name.R :=
  t.1 (x0, (0 : Int), ())
def spec_l4Name.b0 (m : Nat) (t : spec_l4Name.Tab) (a0 : ByteArray) (a1 : Int) : Option spec_l4Name.R :=
  cond (decide (a1 < (sLen a0))) (cond (decide ((0 : Int) ≤ a1)) (cond (decide (a1 < sLen a0)) (cond (decide ((byteAt a0 a1) < (97 : Int))) (cond (decide ((0 : Int) ≤ a1)) (cond (decide (a1 < sLen a0)) (cond (decide ((byteAt a0 a1) < (48 : Int))) (t.2.1 (a0, a1, true, ())) (cond (decide ((0 : Int) ≤ a1)) (cond (decide (a1 < sLen a0)) (t.2.1 (a0, a1, (decide ((byteAt a0 a1) > (57 : Int))), ())) none) none)) none) none) (cond (decide ((0 : Int) ≤ a1)) (cond (decide (a1 < sLen a0)) (cond (decide ((byteAt a0 a1) > (122 : Int))) (cond (decide ((0 : Int) ≤ a1)) (cond (decide (a1 < sLen a0)) (cond (decide ((byteAt a0 a1) < (48 : Int))) (t.2.1 (a0, a1, true, ())) (cond (decide ((0 : Int) ≤ a1)) (cond (decide (a1 < sLen a0)) (t.2.1 (a0, a1, (decide ((byteAt a0 a1) > (57 : Int))), ())) none) none)) none) none) (t.2.1 (a0, a1, false, ()))) none) none)) none) none) (Option.bind (spec_l1In m ((sLen a0), (1 : Int), (6 : Int), ())) fun r1 => some (r1.1, ()))
def spec_l4Name.b1 (m : Nat) (t : spec_l4Name.Tab) (a0 : ByteArray) (a1 : Int) (a2 : Bool) : Option spec_l4Name.R :=
  cond a2 (some (false, ())) (t.1 (a0, (w64 (a1 + (1 : Int))), ()))
def spec_l4Name.tab (m : Nat) : Nat → spec_l4Name.Tab
  | 0 => (fun _ => none, fun _ => none, ())
  | k + 1 => (fun x => spec_l4Name.b0 m (spec_l4Name.tab m k) x.1 x.2.1, fun x => spec_l4Name.b1 m (spec_l4Name.tab m k) x.1 x.2.1 x.2.2.1, ())
def spec_l4Name (m : Nat) (x : Den [.str]) : Option spec_l4Name.R := spec_l4Name.start m (spec_l4Name.tab m m) x.1
def spec_l4Name.cons (m : Nat) : List (Nat × Contract) := [(85, ⟨spec_l1In.sig, spec_l1In m⟩)]
def spec_l4Name.cuts (m : Nat) : List (CutF (Den spec_l4Name.sig.us)) := [⟨[false, true, false, true], 26, ⟨[], [(0, .l (.dat (.str))), (3, .l (.dat (.int .i64)))]⟩, [.str, .int .i64], fun k => (spec_l4Name.tab m k).1⟩,
  ⟨[true, false, false, true, false, false, true, false, true], 841, ⟨[], [(0, .l (.dat (.str))), (3, .l (.dat (.int .i64))), (31, .l (.dat (.bool)))]⟩, [.str, .int .i64, .bool], fun k => (spec_l4Name.tab m k).2.1⟩]
theorem spec_l4Name.eq0 (m k : Nat) (x : Den [.str, .int .i64]) : (spec_l4Name.tab m (k + 1)).1 x = runF ⟨lookΓ Γl, lookC (spec_l4Name.cons m), false⟩ Tryd.f42 spec_l4Name.sig (spec_l4Name.cuts m) k [false, true, false, true] ⟨[], [(0, .l (.dat (.str))), (3, .l (.dat (.int .i64)))]⟩ [.str, .int .i64] x := by kernel_rfl
theorem spec_l4Name.eq1 (m k : Nat) (x : Den [.str, .int .i64, .bool]) : (spec_l4Name.tab m (k + 1)).2.1 x = runF ⟨lookΓ Γl, lookC (spec_l4Name.cons m), false⟩ Tryd.f42 spec_l4Name.sig (spec_l4Name.cuts m) k [true, false, false, true, false, false, true, false, true] ⟨[], [(0, .l (.dat (.str))), (3, .l (.dat (.int .i64))), (31, .l (.dat (.bool)))]⟩ [.str, .int .i64, .bool] x := by kernel_rfl
theorem spec_l4Name.eq (m : Nat) (x : Den spec_l4Name.sig.ts) : spec_l4Name m x = startF ⟨lookΓ Γl, lookC (spec_l4Name.cons m), false⟩ Tryd.f42 spec_l4Name.sig (spec_l4Name.cuts m) m x := by kernel_rfl
theorem spec_l4Name.ok (m : Nat) : Meets Tryd.prog 42 spec_l4Name.sig (spec_l4Name m) :=
  fn_is (cx_is tyOk mixed (l := spec_l4Name.cons m) ⟨spec_l1In.ok m, trivial⟩) (fn := Tryd.f42) Tryd.func42 (by kernel_rfl) (cl := spec_l4Name.cuts m) ⟨⟨by kernel_rfl, fun _ => rfl, fun k x => spec_l4Name.eq0 m k x⟩, ⟨by kernel_rfl, fun _ => rfl, fun k x => spec_l4Name.eq1 m k x⟩, trivial⟩ (k := m) (spec_l4Name.eq m)

/-! ### loop.example/stemma/spec.l4Path: function 82 -/
abbrev spec_l4Path.R : Type := Den [.bool]
def spec_l4Path.sig : Sig := ⟨1, ⟨[], [(0, .l (.dat (.str)))]⟩, [.str], ⟨[], [(0, .l (.dat (.bool)))]⟩, [.bool]⟩
abbrev spec_l4Path.Tab : Type := (Den [.list (.str), .int .i64] → Option spec_l4Path.R) × Unit
def spec_l4Path.start (m : Nat) (t : spec_l4Path.Tab) (x0 : ByteArray) : Option spec_l4Path.R :=
  Option.bind (spec_l1Cut m (x0, (47 : Int), (3 : Int), ())) fun r1 => t.1 (r1.1, (0 : Int), ())
def spec_l4Path.b0 (m : Nat) (t : spec_l4Path.Tab) (a0 : List ByteArray) (a1 : Int) : Option spec_l4Path.R :=
  cond (decide (a1 < (lLen a0))) (cond (decide ((0 : Int) ≤ a1)) (cond (decide (a1 < lLen a0)) (Option.bind (spec_l4Name m ((getL a0 a1 ByteArray.empty), ())) fun r1 => cond (!r1.1) (some (false, ())) (t.1 (a0, (w64 (a1 + (1 : Int))), ()))) none) none) (some ((decide ((lLen a0) ≤ (3 : Int))), ()))
def spec_l4Path.tab (m : Nat) : Nat → spec_l4Path.Tab
  | 0 => (fun _ => none, ())
  | k + 1 => (fun x => spec_l4Path.b0 m (spec_l4Path.tab m k) x.1 x.2.1, ())
def spec_l4Path (m : Nat) (x : Den [.str]) : Option spec_l4Path.R := spec_l4Path.start m (spec_l4Path.tab m m) x.1
def spec_l4Path.cons (m : Nat) : List (Nat × Contract) := [(76, ⟨spec_l1Cut.sig, spec_l1Cut m⟩), (42, ⟨spec_l4Name.sig, spec_l4Name m⟩)]
def spec_l4Path.cuts (m : Nat) : List (CutF (Den spec_l4Path.sig.us)) := [⟨[false, true, false, true, true], 58, ⟨[], [(3, .l (.dat (.list (.str)))), (4, .l (.dat (.int .i64)))]⟩, [.list (.str), .int .i64], fun k => (spec_l4Path.tab m k).1⟩]
theorem spec_l4Path.eq0 (m k : Nat) (x : Den [.list (.str), .int .i64]) : (spec_l4Path.tab m (k + 1)).1 x = runF ⟨lookΓ Γl, lookC (spec_l4Path.cons m), false⟩ Tryd.f82 spec_l4Path.sig (spec_l4Path.cuts m) k [false, true, false, true, true] ⟨[], [(3, .l (.dat (.list (.str)))), (4, .l (.dat (.int .i64)))]⟩ [.list (.str), .int .i64] x := by kernel_rfl
theorem spec_l4Path.eq (m : Nat) (x : Den spec_l4Path.sig.ts) : spec_l4Path m x = startF ⟨lookΓ Γl, lookC (spec_l4Path.cons m), false⟩ Tryd.f82 spec_l4Path.sig (spec_l4Path.cuts m) m x := by kernel_rfl
theorem spec_l4Path.ok (m : Nat) : Meets Tryd.prog 82 spec_l4Path.sig (spec_l4Path m) :=
  fn_is (cx_is tyOk mixed (l := spec_l4Path.cons m) ⟨spec_l1Cut.ok m, spec_l4Name.ok m, trivial⟩) (fn := Tryd.f82) Tryd.func82 (by kernel_rfl) (cl := spec_l4Path.cuts m) ⟨⟨by kernel_rfl, fun _ => rfl, fun k x => spec_l4Path.eq0 m k x⟩, trivial⟩ (k := m) (spec_l4Path.eq m)

/-! ### loop.example/stemma/spec.l1Line: function 115 -/
abbrev spec_l1Line.R : Type := Den [.bool]
def spec_l1Line.sig : Sig := ⟨1, ⟨[], [(0, .l (.dat (.str)))]⟩, [.str], ⟨[], [(0, .l (.dat (.bool)))]⟩, [.bool]⟩
abbrev spec_l1Line.Tab : Type := (Den [.str, .int .i64] → Option spec_l1Line.R) × Unit
def spec_l1Line.start (m : Nat) (t : spec_l1Line.Tab) (x0 : ByteArray) : Option spec_l1Line.R :=
  t.1 (x0, (0 : Int), ())
def spec_l1Line.b0 (m : Nat) (t : spec_l1Line.Tab) (a0 : ByteArray) (a1 : Int) : Option spec_l1Line.R :=
  cond (decide (a1 < (sLen a0))) (cond (decide ((0 : Int) ≤ a1)) (cond (decide (a1 < sLen a0)) (cond (decide ((byteAt a0 a1) < (32 : Int))) (some (false, ())) (cond (decide ((0 : Int) ≤ a1)) (cond (decide (a1 < sLen a0)) (cond (decide ((byteAt a0 a1) > (126 : Int))) (some (false, ())) (t.1 (a0, (w64 (a1 + (1 : Int))), ()))) none) none)) none) none) (some ((decide ((sLen a0) ≤ (12 : Int))), ()))
def spec_l1Line.tab (m : Nat) : Nat → spec_l1Line.Tab
  | 0 => (fun _ => none, ())
  | k + 1 => (fun x => spec_l1Line.b0 m (spec_l1Line.tab m k) x.1 x.2.1, ())
def spec_l1Line (m : Nat) (x : Den [.str]) : Option spec_l1Line.R := spec_l1Line.start m (spec_l1Line.tab m m) x.1
def spec_l1Line.cons (m : Nat) : List (Nat × Contract) := []
def spec_l1Line.cuts (m : Nat) : List (CutF (Den spec_l1Line.sig.us)) := [⟨[false, true, false, true], 26, ⟨[], [(0, .l (.dat (.str))), (3, .l (.dat (.int .i64)))]⟩, [.str, .int .i64], fun k => (spec_l1Line.tab m k).1⟩]
theorem spec_l1Line.eq0 (m k : Nat) (x : Den [.str, .int .i64]) : (spec_l1Line.tab m (k + 1)).1 x = runF ⟨lookΓ Γl, lookC (spec_l1Line.cons m), false⟩ Tryd.f115 spec_l1Line.sig (spec_l1Line.cuts m) k [false, true, false, true] ⟨[], [(0, .l (.dat (.str))), (3, .l (.dat (.int .i64)))]⟩ [.str, .int .i64] x := by kernel_rfl
theorem spec_l1Line.eq (m : Nat) (x : Den spec_l1Line.sig.ts) : spec_l1Line m x = startF ⟨lookΓ Γl, lookC (spec_l1Line.cons m), false⟩ Tryd.f115 spec_l1Line.sig (spec_l1Line.cuts m) m x := by kernel_rfl
theorem spec_l1Line.ok (m : Nat) : Meets Tryd.prog 115 spec_l1Line.sig (spec_l1Line m) :=
  fn_is (cx_is tyOk mixed (l := spec_l1Line.cons m) trivial) (fn := Tryd.f115) Tryd.func115 (by kernel_rfl) (cl := spec_l1Line.cuts m) ⟨⟨by kernel_rfl, fun _ => rfl, fun k x => spec_l1Line.eq0 m k x⟩, trivial⟩ (k := m) (spec_l1Line.eq m)

/-! ### loop.example/stemma/spec.l1Ok: function 83 -/
abbrev spec_l1Ok.R : Type := Den [.bool]
def spec_l1Ok.sig : Sig := ⟨1, ⟨[], [(0, .l (.dat (.list (.str))))]⟩, [.list (.str)], ⟨[], [(0, .l (.dat (.bool)))]⟩, [.bool]⟩
abbrev spec_l1Ok.Tab : Type := (Den [.list (.str), .int .i64] → Option spec_l1Ok.R) × Unit
def spec_l1Ok.start (m : Nat) (t : spec_l1Ok.Tab) (x0 : List ByteArray) : Option spec_l1Ok.R :=
  t.1 (x0, (0 : Int), ())
def spec_l1Ok.b0 (m : Nat) (t : spec_l1Ok.Tab) (a0 : List ByteArray) (a1 : Int) : Option spec_l1Ok.R :=
  cond (decide (a1 < (lLen a0))) (cond (decide ((0 : Int) ≤ a1)) (cond (decide (a1 < lLen a0)) (Option.bind (spec_l1Line m ((getL a0 a1 ByteArray.empty), ())) fun r1 => cond (!r1.1) (some (false, ())) (t.1 (a0, (w64 (a1 + (1 : Int))), ()))) none) none) (some ((decide ((lLen a0) ≤ (10 : Int))), ()))
def spec_l1Ok.tab (m : Nat) : Nat → spec_l1Ok.Tab
  | 0 => (fun _ => none, ())
  | k + 1 => (fun x => spec_l1Ok.b0 m (spec_l1Ok.tab m k) x.1 x.2.1, ())
def spec_l1Ok (m : Nat) (x : Den [.list (.str)]) : Option spec_l1Ok.R := spec_l1Ok.start m (spec_l1Ok.tab m m) x.1
def spec_l1Ok.cons (m : Nat) : List (Nat × Contract) := [(115, ⟨spec_l1Line.sig, spec_l1Line m⟩)]
def spec_l1Ok.cuts (m : Nat) : List (CutF (Den spec_l1Ok.sig.us)) := [⟨[false, true, false, true], 26, ⟨[], [(0, .l (.dat (.list (.str)))), (3, .l (.dat (.int .i64)))]⟩, [.list (.str), .int .i64], fun k => (spec_l1Ok.tab m k).1⟩]
theorem spec_l1Ok.eq0 (m k : Nat) (x : Den [.list (.str), .int .i64]) : (spec_l1Ok.tab m (k + 1)).1 x = runF ⟨lookΓ Γl, lookC (spec_l1Ok.cons m), false⟩ Tryd.f83 spec_l1Ok.sig (spec_l1Ok.cuts m) k [false, true, false, true] ⟨[], [(0, .l (.dat (.list (.str)))), (3, .l (.dat (.int .i64)))]⟩ [.list (.str), .int .i64] x := by kernel_rfl
theorem spec_l1Ok.eq (m : Nat) (x : Den spec_l1Ok.sig.ts) : spec_l1Ok m x = startF ⟨lookΓ Γl, lookC (spec_l1Ok.cons m), false⟩ Tryd.f83 spec_l1Ok.sig (spec_l1Ok.cuts m) m x := by kernel_rfl
theorem spec_l1Ok.ok (m : Nat) : Meets Tryd.prog 83 spec_l1Ok.sig (spec_l1Ok m) :=
  fn_is (cx_is tyOk mixed (l := spec_l1Ok.cons m) ⟨spec_l1Line.ok m, trivial⟩) (fn := Tryd.f83) Tryd.func83 (by kernel_rfl) (cl := spec_l1Ok.cuts m) ⟨⟨by kernel_rfl, fun _ => rfl, fun k x => spec_l1Ok.eq0 m k x⟩, trivial⟩ (k := m) (spec_l1Ok.eq m)

/-! ### loop.example/stemma/spec.l4In: function 84 -/
abbrev spec_l4In.R : Type := Den [.bool]
def spec_l4In.sig : Sig := ⟨2, ⟨[], [(0, .l (.dat (.str))), (1, .l (.dat (.str)))]⟩, [.str, .str], ⟨[], [(0, .l (.dat (.bool)))]⟩, [.bool]⟩
abbrev spec_l4In.Tab : Type := Unit
def spec_l4In.start (m : Nat) (t : spec_l4In.Tab) (x0 : ByteArray) (x1 : ByteArray) : Option spec_l4In.R :=
  cond (decide ((sLen x1) > (sLen x0))) (cond (decide ((0 : Int) ≤ (sLen x0))) (cond (decide ((sLen x0) ≤ (ByteArray.size x1 : Int))) (lett ((sEq (cutS x1 0 (Int.toNat (sLen x0))) x0) : Bool) fun v1 => cond v1 (cond (decide ((0 : Int) ≤ (sLen x0))) (cond (decide ((sLen x0) < sLen x1)) (some (((byteAt x1 (sLen x0)) == (47 : Int)), ())) none) none) (some (false, ()))) none) none) (some (false, ()))
def spec_l4In.tab (m : Nat) : Nat → spec_l4In.Tab
  | 0 => (())
  | k + 1 => (())
def spec_l4In (m : Nat) (x : Den [.str, .str]) : Option spec_l4In.R := spec_l4In.start m (spec_l4In.tab m m) x.1 x.2.1
def spec_l4In.cons (m : Nat) : List (Nat × Contract) := []
def spec_l4In.cuts (m : Nat) : List (CutF (Den spec_l4In.sig.us)) := []
theorem spec_l4In.eq (m : Nat) (x : Den spec_l4In.sig.ts) : spec_l4In m x = startF ⟨lookΓ Γl, lookC (spec_l4In.cons m), false⟩ Tryd.f84 spec_l4In.sig (spec_l4In.cuts m) m x := by kernel_rfl
theorem spec_l4In.ok (m : Nat) : Meets Tryd.prog 84 spec_l4In.sig (spec_l4In m) :=
  fn_is (cx_is tyOk mixed (l := spec_l4In.cons m) trivial) (fn := Tryd.f84) Tryd.func84 (by kernel_rfl) (cl := spec_l4In.cuts m) trivial (k := m) (spec_l4In.eq m)

/-! ### loop.example/stemma/spec.l4Ok: function 41 -/
abbrev spec_l4Ok.R : Type := Den [.bool]
def spec_l4Ok.sig : Sig := ⟨1, ⟨[], [(0, .l (.dat (.list (.pair (.str) (.list (.str))))))]⟩, [.list (.pair (.str) (.list (.str)))], ⟨[], [(0, .l (.dat (.bool)))]⟩, [.bool]⟩
abbrev spec_l4Ok.Tab : Type := (Den [.list (.pair (.str) (.list (.str))), .int .i64] → Option spec_l4Ok.R) × (Den [.list (.pair (.str) (.list (.str))), .int .i64, .int .i64] → Option spec_l4Ok.R) × (Den [.list (.pair (.str) (.list (.str))), .int .i64, .bool] → Option spec_l4Ok.R) × (Den [.list (.pair (.str) (.list (.str))), .int .i64] → Option spec_l4Ok.R) × Unit
def spec_l4Ok.start (m : Nat) (t : spec_l4Ok.Tab) (x0 : List (ByteArray × List ByteArray)) : Option spec_l4Ok.R :=
  t.1 (x0, (0 : Int), ())
def spec_l4Ok.b0 (m : Nat) (t : spec_l4Ok.Tab) (a0 : List (ByteArray × List ByteArray)) (a1 : Int) : Option spec_l4Ok.R :=
  cond (decide (a1 < (lLen a0))) (cond (decide ((0 : Int) ≤ a1)) (cond (decide (a1 < lLen a0)) (lett ((getL a0 a1 (ByteArray.empty, ([] : List ByteArray))) : ByteArray × List ByteArray) fun v1 => Option.bind (spec_l4Path m (v1.1, ())) fun r2 => cond (!r2.1) (t.2.2.1 (a0, a1, true, ())) (cond (decide ((0 : Int) ≤ a1)) (cond (decide (a1 < lLen a0)) (lett ((getL a0 a1 (ByteArray.empty, ([] : List ByteArray))) : ByteArray × List ByteArray) fun v3 => Option.bind (spec_l1Ok m (v3.2, ())) fun r4 => cond (!r4.1) (t.2.2.1 (a0, a1, true, ())) (cond (decide (a1 > (0 : Int))) (cond (decide ((0 : Int) ≤ a1)) (cond (decide (a1 < lLen a0)) (lett ((getL a0 a1 (ByteArray.empty, ([] : List ByteArray))) : ByteArray × List ByteArray) fun v5 => cond (decide ((0 : Int) ≤ (w64 (a1 - (1 : Int))))) (cond (decide ((w64 (a1 - (1 : Int))) < lLen a0)) (lett ((getL a0 (w64 (a1 - (1 : Int))) (ByteArray.empty, ([] : List ByteArray))) : ByteArray × List ByteArray) fun v6 => t.2.2.1 (a0, a1, (sLt v5.1 v6.1 || sEq v5.1 v6.1), ())) none) none) none) none) (t.2.2.1 (a0, a1, false, ())))) none) none)) none) none) (some ((decide ((lLen a0) ≤ (8 : Int))), ()))
def spec_l4Ok.b1 (m : Nat) (t : spec_l4Ok.Tab) (a0 : List (ByteArray × List ByteArray)) (a1 : Int) (a2 : Int) : Option spec_l4Ok.R :=
  cond (decide (a2 < (lLen a0))) (cond (decide ((0 : Int) ≤ a1)) (cond (decide (a1 < lLen a0)) (lett ((getL a0 a1 (ByteArray.empty, ([] : List ByteArray))) : ByteArray × List ByteArray) fun v1 => cond (decide ((0 : Int) ≤ a2)) (cond (decide (a2 < lLen a0)) (lett ((getL a0 a2 (ByteArray.empty, ([] : List ByteArray))) : ByteArray × List ByteArray) fun v2 => Option.bind (spec_l4In m (v1.1, v2.1, ())) fun r3 => cond r3.1 (some (false, ())) (t.2.1 (a0, a1, (w64 (a2 + (1 : Int))), ()))) none) none) none) none) (t.1 (a0, (w64 (a1 + (1 : Int))), ()))
def spec_l4Ok.b2 (m : Nat) (t : spec_l4Ok.Tab) (a0 : List (ByteArray × List ByteArray)) (a1 : Int) (a2 : Bool) : Option spec_l4Ok.R :=
  cond a2 (some (false, ())) (t.2.2.2.1 (a0, a1, ()))
def spec_l4Ok.b3 (m : Nat) (t : spec_l4Ok.Tab) (a0 : List (ByteArray × List ByteArray)) (a1 : Int) : Option spec_l4Ok.R :=
  t.2.1 (a0, a1, (0 : Int), ())
def spec_l4Ok.tab (m : Nat) : Nat → spec_l4Ok.Tab
  | 0 => (fun _ => none, fun _ => none, fun _ => none, fun _ => none, ())
  | k + 1 => (fun x => spec_l4Ok.b0 m (spec_l4Ok.tab m k) x.1 x.2.1, fun x => spec_l4Ok.b1 m (spec_l4Ok.tab m k) x.1 x.2.1 x.2.2.1, fun x => spec_l4Ok.b2 m (spec_l4Ok.tab m k) x.1 x.2.1 x.2.2.1, fun x => spec_l4Ok.b3 m (spec_l4Ok.tab m k) x.1 x.2.1, ())
def spec_l4Ok (m : Nat) (x : Den [.list (.pair (.str) (.list (.str)))]) : Option spec_l4Ok.R := spec_l4Ok.start m (spec_l4Ok.tab m m) x.1
def spec_l4Ok.cons (m : Nat) : List (Nat × Contract) := [(82, ⟨spec_l4Path.sig, spec_l4Path m⟩), (83, ⟨spec_l1Ok.sig, spec_l1Ok m⟩), (84, ⟨spec_l4In.sig, spec_l4In m⟩)]
def spec_l4Ok.cuts (m : Nat) : List (CutF (Den spec_l4Ok.sig.us)) := [⟨[false, true, false, true], 26, ⟨[], [(0, .l (.dat (.list (.pair (.str) (.list (.str)))))), (3, .l (.dat (.int .i64)))]⟩, [.list (.pair (.str) (.list (.str))), .int .i64], fun k => (spec_l4Ok.tab m k).1⟩,
  ⟨[false, true, true, false, false, true, false, false, true, false, true], 3366, ⟨[], [(0, .l (.dat (.list (.pair (.str) (.list (.str)))))), (3, .l (.dat (.int .i64))), (4, .l (.dat (.int .i64)))]⟩, [.list (.pair (.str) (.list (.str))), .int .i64, .int .i64], fun k => (spec_l4Ok.tab m k).2.1⟩,
  ⟨[true, false, false, false, true, false, false, true, false, true], 1681, ⟨[], [(0, .l (.dat (.list (.pair (.str) (.list (.str)))))), (3, .l (.dat (.int .i64))), (44, .l (.dat (.bool)))]⟩, [.list (.pair (.str) (.list (.str))), .int .i64, .bool], fun k => (spec_l4Ok.tab m k).2.2.1⟩,
  ⟨[true, false, false, true, false, false, true, false, true], 841, ⟨[], [(0, .l (.dat (.list (.pair (.str) (.list (.str)))))), (3, .l (.dat (.int .i64)))]⟩, [.list (.pair (.str) (.list (.str))), .int .i64], fun k => (spec_l4Ok.tab m k).2.2.2.1⟩]
theorem spec_l4Ok.eq0 (m k : Nat) (x : Den [.list (.pair (.str) (.list (.str))), .int .i64]) : (spec_l4Ok.tab m (k + 1)).1 x = runF ⟨lookΓ Γl, lookC (spec_l4Ok.cons m), false⟩ Tryd.f41 spec_l4Ok.sig (spec_l4Ok.cuts m) k [false, true, false, true] ⟨[], [(0, .l (.dat (.list (.pair (.str) (.list (.str)))))), (3, .l (.dat (.int .i64)))]⟩ [.list (.pair (.str) (.list (.str))), .int .i64] x := by kernel_rfl
theorem spec_l4Ok.eq1 (m k : Nat) (x : Den [.list (.pair (.str) (.list (.str))), .int .i64, .int .i64]) : (spec_l4Ok.tab m (k + 1)).2.1 x = runF ⟨lookΓ Γl, lookC (spec_l4Ok.cons m), false⟩ Tryd.f41 spec_l4Ok.sig (spec_l4Ok.cuts m) k [false, true, true, false, false, true, false, false, true, false, true] ⟨[], [(0, .l (.dat (.list (.pair (.str) (.list (.str)))))), (3, .l (.dat (.int .i64))), (4, .l (.dat (.int .i64)))]⟩ [.list (.pair (.str) (.list (.str))), .int .i64, .int .i64] x := by kernel_rfl
theorem spec_l4Ok.eq2 (m k : Nat) (x : Den [.list (.pair (.str) (.list (.str))), .int .i64, .bool]) : (spec_l4Ok.tab m (k + 1)).2.2.1 x = runF ⟨lookΓ Γl, lookC (spec_l4Ok.cons m), false⟩ Tryd.f41 spec_l4Ok.sig (spec_l4Ok.cuts m) k [true, false, false, false, true, false, false, true, false, true] ⟨[], [(0, .l (.dat (.list (.pair (.str) (.list (.str)))))), (3, .l (.dat (.int .i64))), (44, .l (.dat (.bool)))]⟩ [.list (.pair (.str) (.list (.str))), .int .i64, .bool] x := by kernel_rfl
theorem spec_l4Ok.eq3 (m k : Nat) (x : Den [.list (.pair (.str) (.list (.str))), .int .i64]) : (spec_l4Ok.tab m (k + 1)).2.2.2.1 x = runF ⟨lookΓ Γl, lookC (spec_l4Ok.cons m), false⟩ Tryd.f41 spec_l4Ok.sig (spec_l4Ok.cuts m) k [true, false, false, true, false, false, true, false, true] ⟨[], [(0, .l (.dat (.list (.pair (.str) (.list (.str)))))), (3, .l (.dat (.int .i64)))]⟩ [.list (.pair (.str) (.list (.str))), .int .i64] x := by kernel_rfl
theorem spec_l4Ok.eq (m : Nat) (x : Den spec_l4Ok.sig.ts) : spec_l4Ok m x = startF ⟨lookΓ Γl, lookC (spec_l4Ok.cons m), false⟩ Tryd.f41 spec_l4Ok.sig (spec_l4Ok.cuts m) m x := by kernel_rfl
theorem spec_l4Ok.ok (m : Nat) : Meets Tryd.prog 41 spec_l4Ok.sig (spec_l4Ok m) :=
  fn_is (cx_is tyOk mixed (l := spec_l4Ok.cons m) ⟨spec_l4Path.ok m, spec_l1Ok.ok m, spec_l4In.ok m, trivial⟩) (fn := Tryd.f41) Tryd.func41 (by kernel_rfl) (cl := spec_l4Ok.cuts m) ⟨⟨by kernel_rfl, fun _ => rfl, fun k x => spec_l4Ok.eq0 m k x⟩, ⟨by kernel_rfl, fun _ => rfl, fun k x => spec_l4Ok.eq1 m k x⟩, ⟨by kernel_rfl, fun _ => rfl, fun k x => spec_l4Ok.eq2 m k x⟩, ⟨by kernel_rfl, fun _ => rfl, fun k x => spec_l4Ok.eq3 m k x⟩, trivial⟩ (k := m) (spec_l4Ok.eq m)

/-! ### loop.example/stemma/spec.l22Has: function 86 -/
abbrev spec_l22Has.R : Type := Den [.bool]
def spec_l22Has.sig : Sig := ⟨2, ⟨[], [(0, .l (.dat (.str))), (1, .l (.dat (.str)))]⟩, [.str, .str], ⟨[], [(0, .l (.dat (.bool)))]⟩, [.bool]⟩
abbrev spec_l22Has.Tab : Type := (Den [.str, .str, .int .i64, .int .i64] → Option spec_l22Has.R) × (Den [.str, .str, .int .i64, .int .i64, .bool] → Option spec_l22Has.R) × (Den [.str, .str, .int .i64, .int .i64] → Option spec_l22Has.R) × Unit
def spec_l22Has.start (m : Nat) (t : spec_l22Has.Tab) (x0 : ByteArray) (x1 : ByteArray) : Option spec_l22Has.R :=
  t.1 (x0, x1, (0 : Int), (0 : Int), ())
def spec_l22Has.b0 (m : Nat) (t : spec_l22Has.Tab) (a0 : ByteArray) (a1 : ByteArray) (a2 : Int) (a3 : Int) : Option spec_l22Has.R :=
  cond (decide (a3 ≤ (sLen a0))) (cond (decide (a3 < (sLen a0))) (cond (decide ((0 : Int) ≤ a3)) (cond (decide (a3 < sLen a0)) (cond (decide ((byteAt a0 a3) ≥ (97 : Int))) (cond (decide ((0 : Int) ≤ a3)) (cond (decide (a3 < sLen a0)) (cond (decide ((byteAt a0 a3) ≤ (122 : Int))) (t.2.1 (a0, a1, a2, a3, true, ())) (cond (decide ((0 : Int) ≤ a3)) (cond (decide (a3 < sLen a0)) (cond (decide ((byteAt a0 a3) ≥ (48 : Int))) (cond (decide ((0 : Int) ≤ a3)) (cond (decide (a3 < sLen a0)) (t.2.1 (a0, a1, a2, a3, (decide ((byteAt a0 a3) ≤ (57 : Int))), ())) none) none) (t.2.1 (a0, a1, a2, a3, false, ()))) none) none)) none) none) (cond (decide ((0 : Int) ≤ a3)) (cond (decide (a3 < sLen a0)) (cond (decide ((byteAt a0 a3) ≥ (48 : Int))) (cond (decide ((0 : Int) ≤ a3)) (cond (decide (a3 < sLen a0)) (t.2.1 (a0, a1, a2, a3, (decide ((byteAt a0 a3) ≤ (57 : Int))), ())) none) none) (t.2.1 (a0, a1, a2, a3, false, ()))) none) none)) none) none) (t.2.1 (a0, a1, a2, a3, false, ()))) (some (false, ()))
def spec_l22Has.b1 (m : Nat) (t : spec_l22Has.Tab) (a0 : ByteArray) (a1 : ByteArray) (a2 : Int) (a3 : Int) (a4 : Bool) : Option spec_l22Has.R :=
  cond a4 (t.1 (a0, a1, a2, (w64 (a3 + (1 : Int))), ())) (t.2.2.1 (a0, a1, a2, a3, ()))
def spec_l22Has.b2 (m : Nat) (t : spec_l22Has.Tab) (a0 : ByteArray) (a1 : ByteArray) (a2 : Int) (a3 : Int) : Option spec_l22Has.R :=
  cond (decide ((0 : Int) ≤ a3)) (cond (decide (a3 ≤ (ByteArray.size a0 : Int))) (cond (decide ((0 : Int) ≤ a2)) (cond (decide (a2 ≤ a3)) (lett ((sEq (cutS a0 (Int.toNat a2) (Int.toNat a3)) a1) : Bool) fun v1 => cond v1 (some (true, ())) (t.1 (a0, a1, (w64 (a3 + (1 : Int))), (w64 (a3 + (1 : Int))), ()))) none) none) none) none
def spec_l22Has.tab (m : Nat) : Nat → spec_l22Has.Tab
  | 0 => (fun _ => none, fun _ => none, fun _ => none, ())
  | k + 1 => (fun x => spec_l22Has.b0 m (spec_l22Has.tab m k) x.1 x.2.1 x.2.2.1 x.2.2.2.1, fun x => spec_l22Has.b1 m (spec_l22Has.tab m k) x.1 x.2.1 x.2.2.1 x.2.2.2.1 x.2.2.2.2.1, fun x => spec_l22Has.b2 m (spec_l22Has.tab m k) x.1 x.2.1 x.2.2.1 x.2.2.2.1, ())
def spec_l22Has (m : Nat) (x : Den [.str, .str]) : Option spec_l22Has.R := spec_l22Has.start m (spec_l22Has.tab m m) x.1 x.2.1
def spec_l22Has.cons (m : Nat) : List (Nat × Contract) := []
def spec_l22Has.cuts (m : Nat) : List (CutF (Den spec_l22Has.sig.us)) := [⟨[false, true, false, true, true], 58, ⟨[], [(0, .l (.dat (.str))), (1, .l (.dat (.str))), (5, .l (.dat (.int .i64))), (6, .l (.dat (.int .i64)))]⟩, [.str, .str, .int .i64, .int .i64], fun k => (spec_l22Has.tab m k).1⟩,
  ⟨[true, false, false, false, true, false, false, true, false, true, true], 3729, ⟨[], [(0, .l (.dat (.str))), (1, .l (.dat (.str))), (5, .l (.dat (.int .i64))), (6, .l (.dat (.int .i64))), (40, .l (.dat (.bool)))]⟩, [.str, .str, .int .i64, .int .i64, .bool], fun k => (spec_l22Has.tab m k).2.1⟩,
  ⟨[true, false, false, true, false, false, true, false, true, true], 1865, ⟨[], [(0, .l (.dat (.str))), (1, .l (.dat (.str))), (5, .l (.dat (.int .i64))), (6, .l (.dat (.int .i64)))]⟩, [.str, .str, .int .i64, .int .i64], fun k => (spec_l22Has.tab m k).2.2.1⟩]
theorem spec_l22Has.eq0 (m k : Nat) (x : Den [.str, .str, .int .i64, .int .i64]) : (spec_l22Has.tab m (k + 1)).1 x = runF ⟨lookΓ Γl, lookC (spec_l22Has.cons m), false⟩ Tryd.f86 spec_l22Has.sig (spec_l22Has.cuts m) k [false, true, false, true, true] ⟨[], [(0, .l (.dat (.str))), (1, .l (.dat (.str))), (5, .l (.dat (.int .i64))), (6, .l (.dat (.int .i64)))]⟩ [.str, .str, .int .i64, .int .i64] x := by kernel_rfl
theorem spec_l22Has.eq1 (m k : Nat) (x : Den [.str, .str, .int .i64, .int .i64, .bool]) : (spec_l22Has.tab m (k + 1)).2.1 x = runF ⟨lookΓ Γl, lookC (spec_l22Has.cons m), false⟩ Tryd.f86 spec_l22Has.sig (spec_l22Has.cuts m) k [true, false, false, false, true, false, false, true, false, true, true] ⟨[], [(0, .l (.dat (.str))), (1, .l (.dat (.str))), (5, .l (.dat (.int .i64))), (6, .l (.dat (.int .i64))), (40, .l (.dat (.bool)))]⟩ [.str, .str, .int .i64, .int .i64, .bool] x := by kernel_rfl
theorem spec_l22Has.eq2 (m k : Nat) (x : Den [.str, .str, .int .i64, .int .i64]) : (spec_l22Has.tab m (k + 1)).2.2.1 x = runF ⟨lookΓ Γl, lookC (spec_l22Has.cons m), false⟩ Tryd.f86 spec_l22Has.sig (spec_l22Has.cuts m) k [true, false, false, true, false, false, true, false, true, true] ⟨[], [(0, .l (.dat (.str))), (1, .l (.dat (.str))), (5, .l (.dat (.int .i64))), (6, .l (.dat (.int .i64)))]⟩ [.str, .str, .int .i64, .int .i64] x := by kernel_rfl
theorem spec_l22Has.eq (m : Nat) (x : Den spec_l22Has.sig.ts) : spec_l22Has m x = startF ⟨lookΓ Γl, lookC (spec_l22Has.cons m), false⟩ Tryd.f86 spec_l22Has.sig (spec_l22Has.cuts m) m x := by kernel_rfl
theorem spec_l22Has.ok (m : Nat) : Meets Tryd.prog 86 spec_l22Has.sig (spec_l22Has m) :=
  fn_is (cx_is tyOk mixed (l := spec_l22Has.cons m) trivial) (fn := Tryd.f86) Tryd.func86 (by kernel_rfl) (cl := spec_l22Has.cuts m) ⟨⟨by kernel_rfl, fun _ => rfl, fun k x => spec_l22Has.eq0 m k x⟩, ⟨by kernel_rfl, fun _ => rfl, fun k x => spec_l22Has.eq1 m k x⟩, ⟨by kernel_rfl, fun _ => rfl, fun k x => spec_l22Has.eq2 m k x⟩, trivial⟩ (k := m) (spec_l22Has.eq m)

/-! ### loop.example/stemma/spec.l22Text: function 43 -/
abbrev spec_l22Text.R : Type := Den [.bool]
def spec_l22Text.sig : Sig := ⟨2, ⟨[], [(0, .l (.dat (.list (.str)))), (1, .l (.dat (.str)))]⟩, [.list (.str), .str], ⟨[], [(0, .l (.dat (.bool)))]⟩, [.bool]⟩
abbrev spec_l22Text.Tab : Type := (Den [.list (.str), .str, .int .i64] → Option spec_l22Text.R) × Unit
def spec_l22Text.start (m : Nat) (t : spec_l22Text.Tab) (x0 : List ByteArray) (x1 : ByteArray) : Option spec_l22Text.R :=
  t.1 (x0, x1, (0 : Int), ())
def spec_l22Text.b0 (m : Nat) (t : spec_l22Text.Tab) (a0 : List ByteArray) (a1 : ByteArray) (a2 : Int) : Option spec_l22Text.R :=
  cond (decide (a2 < (lLen a0))) (cond (decide ((0 : Int) ≤ a2)) (cond (decide (a2 < lLen a0)) (Option.bind (spec_l22Has m ((getL a0 a2 ByteArray.empty), a1, ())) fun r1 => cond r1.1 (some (true, ())) (t.1 (a0, a1, (w64 (a2 + (1 : Int))), ()))) none) none) (some (false, ()))
def spec_l22Text.tab (m : Nat) : Nat → spec_l22Text.Tab
  | 0 => (fun _ => none, ())
  | k + 1 => (fun x => spec_l22Text.b0 m (spec_l22Text.tab m k) x.1 x.2.1 x.2.2.1, ())
def spec_l22Text (m : Nat) (x : Den [.list (.str), .str]) : Option spec_l22Text.R := spec_l22Text.start m (spec_l22Text.tab m m) x.1 x.2.1
def spec_l22Text.cons (m : Nat) : List (Nat × Contract) := [(86, ⟨spec_l22Has.sig, spec_l22Has m⟩)]
def spec_l22Text.cuts (m : Nat) : List (CutF (Den spec_l22Text.sig.us)) := [⟨[false, true, false, true], 26, ⟨[], [(0, .l (.dat (.list (.str)))), (1, .l (.dat (.str))), (5, .l (.dat (.int .i64)))]⟩, [.list (.str), .str, .int .i64], fun k => (spec_l22Text.tab m k).1⟩]
theorem spec_l22Text.eq0 (m k : Nat) (x : Den [.list (.str), .str, .int .i64]) : (spec_l22Text.tab m (k + 1)).1 x = runF ⟨lookΓ Γl, lookC (spec_l22Text.cons m), false⟩ Tryd.f43 spec_l22Text.sig (spec_l22Text.cuts m) k [false, true, false, true] ⟨[], [(0, .l (.dat (.list (.str)))), (1, .l (.dat (.str))), (5, .l (.dat (.int .i64)))]⟩ [.list (.str), .str, .int .i64] x := by kernel_rfl
theorem spec_l22Text.eq (m : Nat) (x : Den spec_l22Text.sig.ts) : spec_l22Text m x = startF ⟨lookΓ Γl, lookC (spec_l22Text.cons m), false⟩ Tryd.f43 spec_l22Text.sig (spec_l22Text.cuts m) m x := by kernel_rfl
theorem spec_l22Text.ok (m : Nat) : Meets Tryd.prog 43 spec_l22Text.sig (spec_l22Text m) :=
  fn_is (cx_is tyOk mixed (l := spec_l22Text.cons m) ⟨spec_l22Has.ok m, trivial⟩) (fn := Tryd.f43) Tryd.func43 (by kernel_rfl) (cl := spec_l22Text.cuts m) ⟨⟨by kernel_rfl, fun _ => rfl, fun k x => spec_l22Text.eq0 m k x⟩, trivial⟩ (k := m) (spec_l22Text.eq m)

/-! ### loop.example/stemma/spec.SeekTree: function 11 -/
abbrev spec_SeekTree.R : Type := Den [.list (.str)]
def spec_SeekTree.sig : Sig := ⟨2, ⟨[], [(0, .l (.dat (.list (.pair (.str) (.list (.str)))))), (1, .l (.dat (.str)))]⟩, [.list (.pair (.str) (.list (.str))), .str], ⟨[], [(0, .l (.dat (.list (.str))))]⟩, [.list (.str)]⟩
abbrev spec_SeekTree.Tab : Type := (Den [.list (.str), .list (.pair (.str) (.list (.str))), .str, .int .i64] → Option spec_SeekTree.R) × Unit
def spec_SeekTree.start (m : Nat) (t : spec_SeekTree.Tab) (x0 : List (ByteArray × List ByteArray)) (x1 : ByteArray) : Option spec_SeekTree.R :=
  Option.bind (spec_l4Ok m (x0, ())) fun r1 => cond (!r1.1) (some ([], ())) (Option.bind (spec_l4Name m (x1, ())) fun r2 => cond (!r2.1) (some ([], ())) (t.1 ([], x0, x1, (0 : Int), ())))
def spec_SeekTree.b0 (m : Nat) (t : spec_SeekTree.Tab) (a0 : List ByteArray) (a1 : List (ByteArray × List ByteArray)) (a2 : ByteArray) (a3 : Int) : Option spec_SeekTree.R :=
  cond (decide (a3 < (lLen a1))) (cond (decide ((0 : Int) ≤ a3)) (cond (decide (a3 < lLen a1)) (lett ((getL a1 a3 (ByteArray.empty, ([] : List ByteArray))) : ByteArray × List ByteArray) fun v1 => Option.bind (spec_l22Text m (v1.2, a2, ())) fun r2 => cond r2.1 (cond (decide ((0 : Int) ≤ a3)) (cond (decide (a3 < lLen a1)) (lett ((getL a1 a3 (ByteArray.empty, ([] : List ByteArray))) : ByteArray × List ByteArray) fun v3 => cond (decide (List.length a0 + List.length ([v3.1] : List ByteArray) ≤ apCap)) (t.1 ((List.append a0 ([v3.1] : List ByteArray)), a1, a2, (w64 (a3 + (1 : Int))), ())) none) none) none) (t.1 (a0, a1, a2, (w64 (a3 + (1 : Int))), ()))) none) none) (some (a0, ()))
def spec_SeekTree.tab (m : Nat) : Nat → spec_SeekTree.Tab
  | 0 => (fun _ => none, ())
  | k + 1 => (fun x => spec_SeekTree.b0 m (spec_SeekTree.tab m k) x.1 x.2.1 x.2.2.1 x.2.2.2.1, ())
def spec_SeekTree (m : Nat) (x : Den [.list (.pair (.str) (.list (.str))), .str]) : Option spec_SeekTree.R := spec_SeekTree.start m (spec_SeekTree.tab m m) x.1 x.2.1
def spec_SeekTree.cons (m : Nat) : List (Nat × Contract) := [(41, ⟨spec_l4Ok.sig, spec_l4Ok m⟩), (42, ⟨spec_l4Name.sig, spec_l4Name m⟩), (43, ⟨spec_l22Text.sig, spec_l22Text m⟩)]
def spec_SeekTree.cuts (m : Nat) : List (CutF (Den spec_SeekTree.sig.us)) := [⟨[false, true, false, true, true, true], 122, ⟨[.row true (.str)], [(0, .l (.dat (.list (.pair (.str) (.list (.str)))))), (1, .l (.dat (.str))), (5, .l (.sl 0)), (6, .l (.dat (.int .i64)))]⟩, [.list (.str), .list (.pair (.str) (.list (.str))), .str, .int .i64], fun k => (spec_SeekTree.tab m k).1⟩]
theorem spec_SeekTree.eq0 (m k : Nat) (x : Den [.list (.str), .list (.pair (.str) (.list (.str))), .str, .int .i64]) : (spec_SeekTree.tab m (k + 1)).1 x = runF ⟨lookΓ Γl, lookC (spec_SeekTree.cons m), false⟩ Tryd.f11 spec_SeekTree.sig (spec_SeekTree.cuts m) k [false, true, false, true, true, true] ⟨[.row true (.str)], [(0, .l (.dat (.list (.pair (.str) (.list (.str)))))), (1, .l (.dat (.str))), (5, .l (.sl 0)), (6, .l (.dat (.int .i64)))]⟩ [.list (.str), .list (.pair (.str) (.list (.str))), .str, .int .i64] x := by kernel_rfl
theorem spec_SeekTree.eq (m : Nat) (x : Den spec_SeekTree.sig.ts) : spec_SeekTree m x = startF ⟨lookΓ Γl, lookC (spec_SeekTree.cons m), false⟩ Tryd.f11 spec_SeekTree.sig (spec_SeekTree.cuts m) m x := by kernel_rfl
theorem spec_SeekTree.ok (m : Nat) : Meets Tryd.prog 11 spec_SeekTree.sig (spec_SeekTree m) :=
  fn_is (cx_is tyOk mixed (l := spec_SeekTree.cons m) ⟨spec_l4Ok.ok m, spec_l4Name.ok m, spec_l22Text.ok m, trivial⟩) (fn := Tryd.f11) Tryd.func11 (by kernel_rfl) (cl := spec_SeekTree.cuts m) ⟨⟨by kernel_rfl, fun _ => rfl, fun k x => spec_SeekTree.eq0 m k x⟩, trivial⟩ (k := m) (spec_SeekTree.eq m)

/-! ### internal/bytealg.CountString: function 135 -/
def internal_bytealg_CountString.sig : Sig := cntByteSig
def internal_bytealg_CountString (m : Nat) (x : Den [.str, .int .u8]) : Option (Den [.int .i64]) := cntByteF x
theorem internal_bytealg_CountString.ok (m : Nat) : Meets Tryd.prog 135 internal_bytealg_CountString.sig (internal_bytealg_CountString m) := cntByte_meets (fn := Tryd.f135) Tryd.func135 (by kernel_rfl) (by kernel_rfl) (by kernel_rfl) (by kernel_rfl)

/-! ### internal/bytealg.IndexByteString: function 161 -/
def internal_bytealg_IndexByteString.sig : Sig := idxByteSig
def internal_bytealg_IndexByteString (m : Nat) (x : Den [.str, .int .u8]) : Option (Den [.int .i64]) := idxByteF x
theorem internal_bytealg_IndexByteString.ok (m : Nat) : Meets Tryd.prog 161 internal_bytealg_IndexByteString.sig (internal_bytealg_IndexByteString m) := idxByte_meets (fn := Tryd.f161) Tryd.func161 (by kernel_rfl) (by kernel_rfl) (by kernel_rfl) (by kernel_rfl)

/-! ### internal/stringslite.IndexByte: function 148 -/
abbrev internal_stringslite_IndexByte.R : Type := Den [.int .i64]
def internal_stringslite_IndexByte.sig : Sig := ⟨2, ⟨[], [(0, .l (.dat (.str))), (1, .l (.dat (.int .u8)))]⟩, [.str, .int .u8], ⟨[], [(0, .l (.dat (.int .i64)))]⟩, [.int .i64]⟩
abbrev internal_stringslite_IndexByte.Tab : Type := Unit
def internal_stringslite_IndexByte.start (m : Nat) (t : internal_stringslite_IndexByte.Tab) (x0 : ByteArray) (x1 : Int) : Option internal_stringslite_IndexByte.R :=
  Option.bind (internal_bytealg_IndexByteString m (x0, x1, ())) fun r1 => some (r1.1, ())
def internal_stringslite_IndexByte.tab (m : Nat) : Nat → internal_stringslite_IndexByte.Tab
  | 0 => (())
  | k + 1 => (())
def internal_stringslite_IndexByte (m : Nat) (x : Den [.str, .int .u8]) : Option internal_stringslite_IndexByte.R := internal_stringslite_IndexByte.start m (internal_stringslite_IndexByte.tab m m) x.1 x.2.1
def internal_stringslite_IndexByte.cons (m : Nat) : List (Nat × Contract) := [(161, ⟨internal_bytealg_IndexByteString.sig, internal_bytealg_IndexByteString m⟩)]
def internal_stringslite_IndexByte.cuts (m : Nat) : List (CutF (Den internal_stringslite_IndexByte.sig.us)) := []
theorem internal_stringslite_IndexByte.eq (m : Nat) (x : Den internal_stringslite_IndexByte.sig.ts) : internal_stringslite_IndexByte m x = startF ⟨lookΓ Γl, lookC (internal_stringslite_IndexByte.cons m), false⟩ Tryd.f148 internal_stringslite_IndexByte.sig (internal_stringslite_IndexByte.cuts m) m x := by kernel_rfl
theorem internal_stringslite_IndexByte.ok (m : Nat) : Meets Tryd.prog 148 internal_stringslite_IndexByte.sig (internal_stringslite_IndexByte m) :=
  fn_is (cx_is tyOk mixed (l := internal_stringslite_IndexByte.cons m) ⟨internal_bytealg_IndexByteString.ok m, trivial⟩) (fn := Tryd.f148) Tryd.func148 (by kernel_rfl) (cl := internal_stringslite_IndexByte.cuts m) trivial (k := m) (internal_stringslite_IndexByte.eq m)

/-! ### internal/stringslite.Index: function 136 -/
abbrev internal_stringslite_Index.R : Type := Den [.int .i64]
def internal_stringslite_Index.sig : Sig := ⟨2, ⟨[], [(0, .l (.dat (.str))), (1, .l (.dat (.str)))]⟩, [.str, .str], ⟨[], [(0, .l (.dat (.int .i64)))]⟩, [.int .i64]⟩
abbrev internal_stringslite_Index.Tab : Type := (Den [.str, .str, .int .i64, .bool] → Option internal_stringslite_Index.R) × Unit
def internal_stringslite_Index.start (m : Nat) (t : internal_stringslite_Index.Tab) (x0 : ByteArray) (x1 : ByteArray) : Option internal_stringslite_Index.R :=
  cond ((sLen x1) == (0 : Int)) (t.1 (x0, x1, (sLen x1), true, ())) (t.1 (x0, x1, (sLen x1), (sEq x1 x0), ()))
def internal_stringslite_Index.b0 (m : Nat) (t : internal_stringslite_Index.Tab) (a0 : ByteArray) (a1 : ByteArray) (a2 : Int) (a3 : Bool) : Option internal_stringslite_Index.R :=
  cond a3 (some ((0 : Int), ())) (cond (a2 == (1 : Int)) (cond (decide ((0 : Int) ≤ (0 : Int))) (cond (decide ((0 : Int) < sLen a1)) (Option.bind (internal_stringslite_IndexByte m (a0, (byteAt a1 (0 : Int)), ())) fun r1 => some (r1.1, ())) none) none) (cond (decide (a2 ≥ (sLen a0))) (some ((-1 : Int), ())) (none)))
def internal_stringslite_Index.tab (m : Nat) : Nat → internal_stringslite_Index.Tab
  | 0 => (fun _ => none, ())
  | k + 1 => (fun x => internal_stringslite_Index.b0 m (internal_stringslite_Index.tab m k) x.1 x.2.1 x.2.2.1 x.2.2.2.1, ())
def internal_stringslite_Index (m : Nat) (x : Den [.str, .str]) : Option internal_stringslite_Index.R := internal_stringslite_Index.start m (internal_stringslite_Index.tab m m) x.1 x.2.1
def internal_stringslite_Index.cons (m : Nat) : List (Nat × Contract) := [(148, ⟨internal_stringslite_IndexByte.sig, internal_stringslite_IndexByte m⟩)]
def internal_stringslite_Index.cuts (m : Nat) : List (CutF (Den internal_stringslite_Index.sig.us)) := [⟨[true, false, false, true, true], 57, ⟨[], [(0, .l (.dat (.str))), (1, .l (.dat (.str))), (5, .l (.dat (.int .i64))), (16, .l (.dat (.bool)))]⟩, [.str, .str, .int .i64, .bool], fun k => (internal_stringslite_Index.tab m k).1⟩]
theorem internal_stringslite_Index.eq0 (m k : Nat) (x : Den [.str, .str, .int .i64, .bool]) : (internal_stringslite_Index.tab m (k + 1)).1 x = runF ⟨lookΓ Γl, lookC (internal_stringslite_Index.cons m), false⟩ Tryd.f136 internal_stringslite_Index.sig (internal_stringslite_Index.cuts m) k [true, false, false, true, true] ⟨[], [(0, .l (.dat (.str))), (1, .l (.dat (.str))), (5, .l (.dat (.int .i64))), (16, .l (.dat (.bool)))]⟩ [.str, .str, .int .i64, .bool] x := by kernel_rfl
theorem internal_stringslite_Index.eq (m : Nat) (x : Den internal_stringslite_Index.sig.ts) : internal_stringslite_Index m x = startF ⟨lookΓ Γl, lookC (internal_stringslite_Index.cons m), false⟩ Tryd.f136 internal_stringslite_Index.sig (internal_stringslite_Index.cuts m) m x := by kernel_rfl
theorem internal_stringslite_Index.ok (m : Nat) : Meets Tryd.prog 136 internal_stringslite_Index.sig (internal_stringslite_Index m) :=
  fn_is (cx_is tyOk mixed (l := internal_stringslite_Index.cons m) ⟨internal_stringslite_IndexByte.ok m, trivial⟩) (fn := Tryd.f136) Tryd.func136 (by kernel_rfl) (cl := internal_stringslite_Index.cuts m) ⟨⟨by kernel_rfl, fun _ => rfl, fun k x => internal_stringslite_Index.eq0 m k x⟩, trivial⟩ (k := m) (internal_stringslite_Index.eq m)

/-! ### strings.Index: function 125 -/
abbrev strings_Index.R : Type := Den [.int .i64]
def strings_Index.sig : Sig := ⟨2, ⟨[], [(0, .l (.dat (.str))), (1, .l (.dat (.str)))]⟩, [.str, .str], ⟨[], [(0, .l (.dat (.int .i64)))]⟩, [.int .i64]⟩
abbrev strings_Index.Tab : Type := Unit
def strings_Index.start (m : Nat) (t : strings_Index.Tab) (x0 : ByteArray) (x1 : ByteArray) : Option strings_Index.R :=
  Option.bind (internal_stringslite_Index m (x0, x1, ())) fun r1 => some (r1.1, ())
def strings_Index.tab (m : Nat) : Nat → strings_Index.Tab
  | 0 => (())
  | k + 1 => (())
def strings_Index (m : Nat) (x : Den [.str, .str]) : Option strings_Index.R := strings_Index.start m (strings_Index.tab m m) x.1 x.2.1
def strings_Index.cons (m : Nat) : List (Nat × Contract) := [(136, ⟨internal_stringslite_Index.sig, internal_stringslite_Index m⟩)]
def strings_Index.cuts (m : Nat) : List (CutF (Den strings_Index.sig.us)) := []
theorem strings_Index.eq (m : Nat) (x : Den strings_Index.sig.ts) : strings_Index m x = startF ⟨lookΓ Γl, lookC (strings_Index.cons m), false⟩ Tryd.f125 strings_Index.sig (strings_Index.cuts m) m x := by kernel_rfl
theorem strings_Index.ok (m : Nat) : Meets Tryd.prog 125 strings_Index.sig (strings_Index m) :=
  fn_is (cx_is tyOk mixed (l := strings_Index.cons m) ⟨internal_stringslite_Index.ok m, trivial⟩) (fn := Tryd.f125) Tryd.func125 (by kernel_rfl) (cl := strings_Index.cuts m) trivial (k := m) (strings_Index.eq m)

/-! ### strings.Count: function 124 -/
abbrev strings_Count.R : Type := Den [.int .i64]
def strings_Count.sig : Sig := ⟨2, ⟨[], [(0, .l (.dat (.str))), (1, .l (.dat (.str)))]⟩, [.str, .str], ⟨[], [(0, .l (.dat (.int .i64)))]⟩, [.int .i64]⟩
abbrev strings_Count.Tab : Type := (Den [.str, .str, .int .i64] → Option strings_Count.R) × Unit
def strings_Count.start (m : Nat) (t : strings_Count.Tab) (x0 : ByteArray) (x1 : ByteArray) : Option strings_Count.R :=
  cond ((sLen x1) == (0 : Int)) (none) (cond ((sLen x1) == (1 : Int)) (cond (decide ((0 : Int) ≤ (0 : Int))) (cond (decide ((0 : Int) < sLen x1)) (Option.bind (internal_bytealg_CountString m (x0, (byteAt x1 (0 : Int)), ())) fun r1 => some (r1.1, ())) none) none) (t.1 (x0, x1, (0 : Int), ())))
def strings_Count.b0 (m : Nat) (t : strings_Count.Tab) (a0 : ByteArray) (a1 : ByteArray) (a2 : Int) : Option strings_Count.R :=
  Option.bind (strings_Index m (a0, a1, ())) fun r1 => cond (r1.1 == (-1 : Int)) (some (a2, ())) (cond (decide ((0 : Int) ≤ (w64 (r1.1 + (sLen a1))))) (cond (decide ((w64 (r1.1 + (sLen a1))) ≤ (ByteArray.size a0 : Int))) (lett ((cutS a0 (Int.toNat (w64 (r1.1 + (sLen a1)))) (ByteArray.size a0)) : ByteArray) fun v2 => t.1 (v2, a1, (w64 (a2 + (1 : Int))), ())) none) none)
def strings_Count.tab (m : Nat) : Nat → strings_Count.Tab
  | 0 => (fun _ => none, ())
  | k + 1 => (fun x => strings_Count.b0 m (strings_Count.tab m k) x.1 x.2.1 x.2.2.1, ())
def strings_Count (m : Nat) (x : Den [.str, .str]) : Option strings_Count.R := strings_Count.start m (strings_Count.tab m m) x.1 x.2.1
def strings_Count.cons (m : Nat) : List (Nat × Contract) := [(135, ⟨internal_bytealg_CountString.sig, internal_bytealg_CountString m⟩), (125, ⟨strings_Index.sig, strings_Index m⟩)]
def strings_Count.cuts (m : Nat) : List (CutF (Den strings_Count.sig.us)) := [⟨[false, true, true, true, true], 62, ⟨[], [(0, .l (.dat (.str))), (1, .l (.dat (.str))), (5, .l (.dat (.int .i64)))]⟩, [.str, .str, .int .i64], fun k => (strings_Count.tab m k).1⟩]
theorem strings_Count.eq0 (m k : Nat) (x : Den [.str, .str, .int .i64]) : (strings_Count.tab m (k + 1)).1 x = runF ⟨lookΓ Γl, lookC (strings_Count.cons m), false⟩ Tryd.f124 strings_Count.sig (strings_Count.cuts m) k [false, true, true, true, true] ⟨[], [(0, .l (.dat (.str))), (1, .l (.dat (.str))), (5, .l (.dat (.int .i64)))]⟩ [.str, .str, .int .i64] x := by kernel_rfl
theorem strings_Count.eq (m : Nat) (x : Den strings_Count.sig.ts) : strings_Count m x = startF ⟨lookΓ Γl, lookC (strings_Count.cons m), false⟩ Tryd.f124 strings_Count.sig (strings_Count.cuts m) m x := by kernel_rfl
theorem strings_Count.ok (m : Nat) : Meets Tryd.prog 124 strings_Count.sig (strings_Count m) :=
  fn_is (cx_is tyOk mixed (l := strings_Count.cons m) ⟨internal_bytealg_CountString.ok m, strings_Index.ok m, trivial⟩) (fn := Tryd.f124) Tryd.func124 (by kernel_rfl) (cl := strings_Count.cuts m) ⟨⟨by kernel_rfl, fun _ => rfl, fun k x => strings_Count.eq0 m k x⟩, trivial⟩ (k := m) (strings_Count.eq m)

/-! ### strings.genSplit: function 107 -/
abbrev strings_genSplit.R : Type := Den [.list (.str)]
def strings_genSplit.sig : Sig := ⟨4, ⟨[], [(0, .l (.dat (.str))), (1, .l (.dat (.str))), (2, .l (.dat (.int .i64))), (3, .l (.dat (.int .i64)))]⟩, [.str, .str, .int .i64, .int .i64], ⟨[], [(0, .l (.dat (.list (.str))))]⟩, [.list (.str)]⟩
abbrev strings_genSplit.Tab : Type := (Den [.list (.str), .str, .str, .int .i64, .int .i64, .int .i64] → Option strings_genSplit.R) × (Den [.str, .str, .int .i64, .int .i64] → Option strings_genSplit.R) × Unit
def strings_genSplit.start (m : Nat) (t : strings_genSplit.Tab) (x0 : ByteArray) (x1 : ByteArray) (x2 : Int) (x3 : Int) : Option strings_genSplit.R :=
  cond (x3 == (0 : Int)) (some ([], ())) (cond (sEq x1 ByteArray.empty) (none) (cond (decide (x3 < (0 : Int))) (Option.bind (strings_Count m (x0, x1, ())) fun r1 => t.2.1 (x0, x1, x2, (w64 (r1.1 + (1 : Int))), ())) (t.2.1 (x0, x1, x2, x3, ()))))
def strings_genSplit.b0 (m : Nat) (t : strings_genSplit.Tab) (a0 : List ByteArray) (a1 : ByteArray) (a2 : ByteArray) (a3 : Int) (a4 : Int) (a5 : Int) : Option strings_genSplit.R :=
  cond (decide (a5 < a4)) (Option.bind (strings_Index m (a1, a2, ())) fun r1 => cond (decide (r1.1 < (0 : Int))) (cond (decide ((0 : Int) ≤ a5)) (cond (decide (a5 < lLen a0)) (cond (decide ((0 : Int) ≤ (w64 (a5 + (1 : Int))))) (cond (decide ((w64 (a5 + (1 : Int))) ≤ ((List.length (List.set a0 (Int.toNat a5) a1)) : Int))) (lett ((List.take (Int.toNat (w64 (a5 + (1 : Int)))) (List.set a0 (Int.toNat a5) a1)) : List ByteArray) fun v2 => some (v2, ())) none) none) none) none) (cond (decide ((0 : Int) ≤ (w64 (r1.1 + a3)))) (cond (decide ((w64 (r1.1 + a3)) ≤ (ByteArray.size a1 : Int))) (lett ((cutS a1 0 (Int.toNat (w64 (r1.1 + a3)))) : ByteArray) fun v3 => cond (decide ((0 : Int) ≤ a5)) (cond (decide (a5 < lLen a0)) (cond (decide ((0 : Int) ≤ (w64 (r1.1 + (sLen a2))))) (cond (decide ((w64 (r1.1 + (sLen a2))) ≤ (ByteArray.size a1 : Int))) (lett ((cutS a1 (Int.toNat (w64 (r1.1 + (sLen a2)))) (ByteArray.size a1)) : ByteArray) fun v4 => t.1 ((List.set a0 (Int.toNat a5) v3), v4, a2, a3, a4, (w64 (a5 + (1 : Int))), ())) none) none) none) none) none) none)) (cond (decide ((0 : Int) ≤ a5)) (cond (decide (a5 < lLen a0)) (cond (decide ((0 : Int) ≤ (w64 (a5 + (1 : Int))))) (cond (decide ((w64 (a5 + (1 : Int))) ≤ ((List.length (List.set a0 (Int.toNat a5) a1)) : Int))) (lett ((List.take (Int.toNat (w64 (a5 + (1 : Int)))) (List.set a0 (Int.toNat a5) a1)) : List ByteArray) fun v5 => some (v5, ())) none) none) none) none)
def strings_genSplit.b1 (m : Nat) (t : strings_genSplit.Tab) (a0 : ByteArray) (a1 : ByteArray) (a2 : Int) (a3 : Int) : Option strings_genSplit.R :=
  cond (decide ((0 : Int) ≤ (minI a3 (w64 ((sLen a0) + (1 : Int)))))) (cond (decide (Int.toNat (minI a3 (w64 ((sLen a0) + (1 : Int)))) ≤ apCap)) (lett ((List.replicate (Int.toNat (minI a3 (w64 ((sLen a0) + (1 : Int))))) ByteArray.empty) : List ByteArray) fun v1 => lett ((w64 ((minI a3 (w64 ((sLen a0) + (1 : Int)))) - (1 : Int))) : Int) fun v2 => t.1 (v1, a0, a1, a2, v2, (0 : Int), ())) none) none
def strings_genSplit.tab (m : Nat) : Nat → strings_genSplit.Tab
  | 0 => (fun _ => none, fun _ => none, ())
  | k + 1 => (fun x => strings_genSplit.b0 m (strings_genSplit.tab m k) x.1 x.2.1 x.2.2.1 x.2.2.2.1 x.2.2.2.2.1 x.2.2.2.2.2.1, fun x => strings_genSplit.b1 m (strings_genSplit.tab m k) x.1 x.2.1 x.2.2.1 x.2.2.2.1, ())
def strings_genSplit (m : Nat) (x : Den [.str, .str, .int .i64, .int .i64]) : Option strings_genSplit.R := strings_genSplit.start m (strings_genSplit.tab m m) x.1 x.2.1 x.2.2.1 x.2.2.2.1
def strings_genSplit.cons (m : Nat) : List (Nat × Contract) := [(124, ⟨strings_Count.sig, strings_Count m⟩), (125, ⟨strings_Index.sig, strings_Index m⟩)]
def strings_genSplit.cuts (m : Nat) : List (CutF (Den strings_genSplit.sig.us)) := [⟨[false, false, true, true, true, true, true, true, true, true], 2044, ⟨[.row true (.str)], [(0, .l (.dat (.str))), (1, .l (.dat (.str))), (2, .l (.dat (.int .i64))), (3, .l (.dat (.int .i64))), (9, .l (.sl 0)), (10, .l (.dat (.int .i64)))]⟩, [.list (.str), .str, .str, .int .i64, .int .i64, .int .i64], fun k => (strings_genSplit.tab m k).1⟩,
  ⟨[true, true, true, true], 31, ⟨[], [(0, .l (.dat (.str))), (1, .l (.dat (.str))), (2, .l (.dat (.int .i64))), (3, .l (.dat (.int .i64)))]⟩, [.str, .str, .int .i64, .int .i64], fun k => (strings_genSplit.tab m k).2.1⟩]
theorem strings_genSplit.eq0 (m k : Nat) (x : Den [.list (.str), .str, .str, .int .i64, .int .i64, .int .i64]) : (strings_genSplit.tab m (k + 1)).1 x = runF ⟨lookΓ Γl, lookC (strings_genSplit.cons m), false⟩ Tryd.f107 strings_genSplit.sig (strings_genSplit.cuts m) k [false, false, true, true, true, true, true, true, true, true] ⟨[.row true (.str)], [(0, .l (.dat (.str))), (1, .l (.dat (.str))), (2, .l (.dat (.int .i64))), (3, .l (.dat (.int .i64))), (9, .l (.sl 0)), (10, .l (.dat (.int .i64)))]⟩ [.list (.str), .str, .str, .int .i64, .int .i64, .int .i64] x := by kernel_rfl
theorem strings_genSplit.eq1 (m k : Nat) (x : Den [.str, .str, .int .i64, .int .i64]) : (strings_genSplit.tab m (k + 1)).2.1 x = runF ⟨lookΓ Γl, lookC (strings_genSplit.cons m), false⟩ Tryd.f107 strings_genSplit.sig (strings_genSplit.cuts m) k [true, true, true, true] ⟨[], [(0, .l (.dat (.str))), (1, .l (.dat (.str))), (2, .l (.dat (.int .i64))), (3, .l (.dat (.int .i64)))]⟩ [.str, .str, .int .i64, .int .i64] x := by kernel_rfl
theorem strings_genSplit.eq (m : Nat) (x : Den strings_genSplit.sig.ts) : strings_genSplit m x = startF ⟨lookΓ Γl, lookC (strings_genSplit.cons m), false⟩ Tryd.f107 strings_genSplit.sig (strings_genSplit.cuts m) m x := by kernel_rfl
theorem strings_genSplit.ok (m : Nat) : Meets Tryd.prog 107 strings_genSplit.sig (strings_genSplit m) :=
  fn_is (cx_is tyOk mixed (l := strings_genSplit.cons m) ⟨strings_Count.ok m, strings_Index.ok m, trivial⟩) (fn := Tryd.f107) Tryd.func107 (by kernel_rfl) (cl := strings_genSplit.cuts m) ⟨⟨by kernel_rfl, fun _ => rfl, fun k x => strings_genSplit.eq0 m k x⟩, ⟨by kernel_rfl, fun _ => rfl, fun k x => strings_genSplit.eq1 m k x⟩, trivial⟩ (k := m) (strings_genSplit.eq m)

/-! ### strings.Split: function 72 -/
abbrev strings_Split.R : Type := Den [.list (.str)]
def strings_Split.sig : Sig := ⟨2, ⟨[], [(0, .l (.dat (.str))), (1, .l (.dat (.str)))]⟩, [.str, .str], ⟨[], [(0, .l (.dat (.list (.str))))]⟩, [.list (.str)]⟩
abbrev strings_Split.Tab : Type := Unit
def strings_Split.start (m : Nat) (t : strings_Split.Tab) (x0 : ByteArray) (x1 : ByteArray) : Option strings_Split.R :=
  Option.bind (strings_genSplit m (x0, x1, (0 : Int), (-1 : Int), ())) fun r1 => some (r1.1, ())
def strings_Split.tab (m : Nat) : Nat → strings_Split.Tab
  | 0 => (())
  | k + 1 => (())
def strings_Split (m : Nat) (x : Den [.str, .str]) : Option strings_Split.R := strings_Split.start m (strings_Split.tab m m) x.1 x.2.1
def strings_Split.cons (m : Nat) : List (Nat × Contract) := [(107, ⟨strings_genSplit.sig, strings_genSplit m⟩)]
def strings_Split.cuts (m : Nat) : List (CutF (Den strings_Split.sig.us)) := []
theorem strings_Split.eq (m : Nat) (x : Den strings_Split.sig.ts) : strings_Split m x = startF ⟨lookΓ Γl, lookC (strings_Split.cons m), false⟩ Tryd.f72 strings_Split.sig (strings_Split.cuts m) m x := by kernel_rfl
theorem strings_Split.ok (m : Nat) : Meets Tryd.prog 72 strings_Split.sig (strings_Split m) :=
  fn_is (cx_is tyOk mixed (l := strings_Split.cons m) ⟨strings_genSplit.ok m, trivial⟩) (fn := Tryd.f72) Tryd.func72 (by kernel_rfl) (cl := strings_Split.cuts m) trivial (k := m) (strings_Split.eq m)

/-! ### loop.example/stemma/impl.isNameByte: function 87 -/
abbrev impl_isNameByte.R : Type := Den [.bool]
def impl_isNameByte.sig : Sig := ⟨1, ⟨[], [(0, .l (.dat (.int .u8)))]⟩, [.int .u8], ⟨[], [(0, .l (.dat (.bool)))]⟩, [.bool]⟩
abbrev impl_isNameByte.Tab : Type := Unit
def impl_isNameByte.start (m : Nat) (t : impl_isNameByte.Tab) (x0 : Int) : Option impl_isNameByte.R :=
  cond (decide (x0 ≥ (97 : Int))) (cond (decide (x0 ≤ (122 : Int))) (some (true, ())) (cond (decide (x0 ≥ (48 : Int))) (some ((decide (x0 ≤ (57 : Int))), ())) (some (false, ())))) (cond (decide (x0 ≥ (48 : Int))) (some ((decide (x0 ≤ (57 : Int))), ())) (some (false, ())))
def impl_isNameByte.tab (m : Nat) : Nat → impl_isNameByte.Tab
  | 0 => (())
  | k + 1 => (())
def impl_isNameByte (m : Nat) (x : Den [.int .u8]) : Option impl_isNameByte.R := impl_isNameByte.start m (impl_isNameByte.tab m m) x.1
def impl_isNameByte.cons (m : Nat) : List (Nat × Contract) := []
def impl_isNameByte.cuts (m : Nat) : List (CutF (Den impl_isNameByte.sig.us)) := []
theorem impl_isNameByte.eq (m : Nat) (x : Den impl_isNameByte.sig.ts) : impl_isNameByte m x = startF ⟨lookΓ Γl, lookC (impl_isNameByte.cons m), false⟩ Tryd.f87 impl_isNameByte.sig (impl_isNameByte.cuts m) m x := by kernel_rfl
theorem impl_isNameByte.ok (m : Nat) : Meets Tryd.prog 87 impl_isNameByte.sig (impl_isNameByte m) :=
  fn_is (cx_is tyOk mixed (l := impl_isNameByte.cons m) trivial) (fn := Tryd.f87) Tryd.func87 (by kernel_rfl) (cl := impl_isNameByte.cuts m) trivial (k := m) (impl_isNameByte.eq m)

/-! ### loop.example/stemma/impl.within: function 88 -/
abbrev impl_within.R : Type := Den [.bool]
def impl_within.sig : Sig := ⟨3, ⟨[], [(0, .l (.dat (.int .i64))), (1, .l (.dat (.int .i64))), (2, .l (.dat (.int .i64)))]⟩, [.int .i64, .int .i64, .int .i64], ⟨[], [(0, .l (.dat (.bool)))]⟩, [.bool]⟩
abbrev impl_within.Tab : Type := Unit
def impl_within.start (m : Nat) (t : impl_within.Tab) (x0 : Int) (x1 : Int) (x2 : Int) : Option impl_within.R :=
  cond (decide (x0 ≥ x1)) (some ((decide (x0 ≤ x2)), ())) (some (false, ()))
def impl_within.tab (m : Nat) : Nat → impl_within.Tab
  | 0 => (())
  | k + 1 => (())
def impl_within (m : Nat) (x : Den [.int .i64, .int .i64, .int .i64]) : Option impl_within.R := impl_within.start m (impl_within.tab m m) x.1 x.2.1 x.2.2.1
def impl_within.cons (m : Nat) : List (Nat × Contract) := []
def impl_within.cuts (m : Nat) : List (CutF (Den impl_within.sig.us)) := []
theorem impl_within.eq (m : Nat) (x : Den impl_within.sig.ts) : impl_within m x = startF ⟨lookΓ Γl, lookC (impl_within.cons m), false⟩ Tryd.f88 impl_within.sig (impl_within.cuts m) m x := by kernel_rfl
theorem impl_within.ok (m : Nat) : Meets Tryd.prog 88 impl_within.sig (impl_within m) :=
  fn_is (cx_is tyOk mixed (l := impl_within.cons m) trivial) (fn := Tryd.f88) Tryd.func88 (by kernel_rfl) (cl := impl_within.cuts m) trivial (k := m) (impl_within.eq m)

/-! ### loop.example/stemma/impl.nameOk: function 47 -/
abbrev impl_nameOk.R : Type := Den [.bool]
def impl_nameOk.sig : Sig := ⟨1, ⟨[], [(0, .l (.dat (.str)))]⟩, [.str], ⟨[], [(0, .l (.dat (.bool)))]⟩, [.bool]⟩
abbrev impl_nameOk.Tab : Type := (Den [.str, .int .i64, .int .i64] → Option impl_nameOk.R) × Unit
def impl_nameOk.start (m : Nat) (t : impl_nameOk.Tab) (x0 : ByteArray) : Option impl_nameOk.R :=
  t.1 (x0, (sLen x0), (0 : Int), ())
def impl_nameOk.b0 (m : Nat) (t : impl_nameOk.Tab) (a0 : ByteArray) (a1 : Int) (a2 : Int) : Option impl_nameOk.R :=
  cond (decide (a2 < a1)) (cond (decide ((0 : Int) ≤ a2)) (cond (decide (a2 < sLen a0)) (Option.bind (impl_isNameByte m ((byteAt a0 a2), ())) fun r1 => cond (!r1.1) (some (false, ())) (t.1 (a0, a1, (w64 (a2 + (1 : Int))), ()))) none) none) (Option.bind (impl_within m ((sLen a0), (1 : Int), (6 : Int), ())) fun r2 => some (r2.1, ()))
def impl_nameOk.tab (m : Nat) : Nat → impl_nameOk.Tab
  | 0 => (fun _ => none, ())
  | k + 1 => (fun x => impl_nameOk.b0 m (impl_nameOk.tab m k) x.1 x.2.1 x.2.2.1, ())
def impl_nameOk (m : Nat) (x : Den [.str]) : Option impl_nameOk.R := impl_nameOk.start m (impl_nameOk.tab m m) x.1
def impl_nameOk.cons (m : Nat) : List (Nat × Contract) := [(87, ⟨impl_isNameByte.sig, impl_isNameByte m⟩), (88, ⟨impl_within.sig, impl_within m⟩)]
def impl_nameOk.cuts (m : Nat) : List (CutF (Den impl_nameOk.sig.us)) := [⟨[false, true, false, true], 26, ⟨[], [(0, .l (.dat (.str))), (5, .l (.dat (.int .i64))), (6, .l (.dat (.int .i64)))]⟩, [.str, .int .i64, .int .i64], fun k => (impl_nameOk.tab m k).1⟩]
theorem impl_nameOk.eq0 (m k : Nat) (x : Den [.str, .int .i64, .int .i64]) : (impl_nameOk.tab m (k + 1)).1 x = runF ⟨lookΓ Γl, lookC (impl_nameOk.cons m), false⟩ Tryd.f47 impl_nameOk.sig (impl_nameOk.cuts m) k [false, true, false, true] ⟨[], [(0, .l (.dat (.str))), (5, .l (.dat (.int .i64))), (6, .l (.dat (.int .i64)))]⟩ [.str, .int .i64, .int .i64] x := by kernel_rfl
theorem impl_nameOk.eq (m : Nat) (x : Den impl_nameOk.sig.ts) : impl_nameOk m x = startF ⟨lookΓ Γl, lookC (impl_nameOk.cons m), false⟩ Tryd.f47 impl_nameOk.sig (impl_nameOk.cuts m) m x := by kernel_rfl
theorem impl_nameOk.ok (m : Nat) : Meets Tryd.prog 47 impl_nameOk.sig (impl_nameOk m) :=
  fn_is (cx_is tyOk mixed (l := impl_nameOk.cons m) ⟨impl_isNameByte.ok m, impl_within.ok m, trivial⟩) (fn := Tryd.f47) Tryd.func47 (by kernel_rfl) (cl := impl_nameOk.cuts m) ⟨⟨by kernel_rfl, fun _ => rfl, fun k x => impl_nameOk.eq0 m k x⟩, trivial⟩ (k := m) (impl_nameOk.eq m)

/-! ### loop.example/stemma/impl.PathOk$1: function 74 -/
abbrev impl_PathOk_1.R : Type := Den [.bool]
def impl_PathOk_1.sig : Sig := ⟨1, ⟨[], [(0, .l (.dat (.str)))]⟩, [.str], ⟨[], [(0, .l (.dat (.bool)))]⟩, [.bool]⟩
abbrev impl_PathOk_1.Tab : Type := Unit
def impl_PathOk_1.start (m : Nat) (t : impl_PathOk_1.Tab) (x0 : ByteArray) : Option impl_PathOk_1.R :=
  Option.bind (impl_nameOk m (x0, ())) fun r1 => some ((!r1.1), ())
def impl_PathOk_1.tab (m : Nat) : Nat → impl_PathOk_1.Tab
  | 0 => (())
  | k + 1 => (())
def impl_PathOk_1 (m : Nat) (x : Den [.str]) : Option impl_PathOk_1.R := impl_PathOk_1.start m (impl_PathOk_1.tab m m) x.1
def impl_PathOk_1.cons (m : Nat) : List (Nat × Contract) := [(47, ⟨impl_nameOk.sig, impl_nameOk m⟩)]
def impl_PathOk_1.cuts (m : Nat) : List (CutF (Den impl_PathOk_1.sig.us)) := []
theorem impl_PathOk_1.eq (m : Nat) (x : Den impl_PathOk_1.sig.ts) : impl_PathOk_1 m x = startF ⟨lookΓ Γl, lookC (impl_PathOk_1.cons m), false⟩ Tryd.f74 impl_PathOk_1.sig (impl_PathOk_1.cuts m) m x := by kernel_rfl
theorem impl_PathOk_1.ok (m : Nat) : Meets Tryd.prog 74 impl_PathOk_1.sig (impl_PathOk_1 m) :=
  fn_is (cx_is tyOk mixed (l := impl_PathOk_1.cons m) ⟨impl_nameOk.ok m, trivial⟩) (fn := Tryd.f74) Tryd.func74 (by kernel_rfl) (cl := impl_PathOk_1.cuts m) trivial (k := m) (impl_PathOk_1.eq m)

/-! ### slices.IndexFunc[[]string,string]: function 108 -/
abbrev slices_IndexFunc_string_of_impl_PathOk_1.R : Type := Den [.int .i64]
def slices_IndexFunc_string_of_impl_PathOk_1.sig : Sig := ⟨2, ⟨[], [(0, .l (.dat (.list (.str)))), (1, .l (.fn 74 []))]⟩, [.list (.str)], ⟨[], [(0, .l (.dat (.int .i64)))]⟩, [.int .i64]⟩
abbrev slices_IndexFunc_string_of_impl_PathOk_1.Tab : Type := (Den [.list (.str), .int .i64, .int .i64] → Option slices_IndexFunc_string_of_impl_PathOk_1.R) × Unit
def slices_IndexFunc_string_of_impl_PathOk_1.start (m : Nat) (t : slices_IndexFunc_string_of_impl_PathOk_1.Tab) (x0 : List ByteArray) : Option slices_IndexFunc_string_of_impl_PathOk_1.R :=
  t.1 (x0, (lLen x0), (0 : Int), ())
def slices_IndexFunc_string_of_impl_PathOk_1.b0 (m : Nat) (t : slices_IndexFunc_string_of_impl_PathOk_1.Tab) (a0 : List ByteArray) (a1 : Int) (a2 : Int) : Option slices_IndexFunc_string_of_impl_PathOk_1.R :=
  cond (decide (a2 < a1)) (cond (decide ((0 : Int) ≤ a2)) (cond (decide (a2 < lLen a0)) (Option.bind (impl_PathOk_1 m ((getL a0 a2 ByteArray.empty), ())) fun r1 => cond r1.1 (some (a2, ())) (t.1 (a0, a1, (w64 (a2 + (1 : Int))), ()))) none) none) (some ((-1 : Int), ()))
def slices_IndexFunc_string_of_impl_PathOk_1.tab (m : Nat) : Nat → slices_IndexFunc_string_of_impl_PathOk_1.Tab
  | 0 => (fun _ => none, ())
  | k + 1 => (fun x => slices_IndexFunc_string_of_impl_PathOk_1.b0 m (slices_IndexFunc_string_of_impl_PathOk_1.tab m k) x.1 x.2.1 x.2.2.1, ())
def slices_IndexFunc_string_of_impl_PathOk_1 (m : Nat) (x : Den [.list (.str)]) : Option slices_IndexFunc_string_of_impl_PathOk_1.R := slices_IndexFunc_string_of_impl_PathOk_1.start m (slices_IndexFunc_string_of_impl_PathOk_1.tab m m) x.1
def slices_IndexFunc_string_of_impl_PathOk_1.cons (m : Nat) : List (Nat × Contract) := [(74, ⟨impl_PathOk_1.sig, impl_PathOk_1 m⟩)]
def slices_IndexFunc_string_of_impl_PathOk_1.cuts (m : Nat) : List (CutF (Den slices_IndexFunc_string_of_impl_PathOk_1.sig.us)) := [⟨[false, true, false, true], 26, ⟨[], [(0, .l (.dat (.list (.str)))), (1, .l (.fn 74 [])), (7, .l (.dat (.int .i64))), (8, .l (.dat (.int .i64)))]⟩, [.list (.str), .int .i64, .int .i64], fun k => (slices_IndexFunc_string_of_impl_PathOk_1.tab m k).1⟩]
theorem slices_IndexFunc_string_of_impl_PathOk_1.eq0 (m k : Nat) (x : Den [.list (.str), .int .i64, .int .i64]) : (slices_IndexFunc_string_of_impl_PathOk_1.tab m (k + 1)).1 x = runF ⟨lookΓ Γl, lookC (slices_IndexFunc_string_of_impl_PathOk_1.cons m), false⟩ Tryd.f108 slices_IndexFunc_string_of_impl_PathOk_1.sig (slices_IndexFunc_string_of_impl_PathOk_1.cuts m) k [false, true, false, true] ⟨[], [(0, .l (.dat (.list (.str)))), (1, .l (.fn 74 [])), (7, .l (.dat (.int .i64))), (8, .l (.dat (.int .i64)))]⟩ [.list (.str), .int .i64, .int .i64] x := by kernel_rfl
theorem slices_IndexFunc_string_of_impl_PathOk_1.eq (m : Nat) (x : Den slices_IndexFunc_string_of_impl_PathOk_1.sig.ts) : slices_IndexFunc_string_of_impl_PathOk_1 m x = startF ⟨lookΓ Γl, lookC (slices_IndexFunc_string_of_impl_PathOk_1.cons m), false⟩ Tryd.f108 slices_IndexFunc_string_of_impl_PathOk_1.sig (slices_IndexFunc_string_of_impl_PathOk_1.cuts m) m x := by kernel_rfl
theorem slices_IndexFunc_string_of_impl_PathOk_1.ok (m : Nat) : Meets Tryd.prog 108 slices_IndexFunc_string_of_impl_PathOk_1.sig (slices_IndexFunc_string_of_impl_PathOk_1 m) :=
  fn_is (cx_is tyOk mixed (l := slices_IndexFunc_string_of_impl_PathOk_1.cons m) ⟨impl_PathOk_1.ok m, trivial⟩) (fn := Tryd.f108) Tryd.func108 (by kernel_rfl) (cl := slices_IndexFunc_string_of_impl_PathOk_1.cuts m) ⟨⟨by kernel_rfl, fun _ => rfl, fun k x => slices_IndexFunc_string_of_impl_PathOk_1.eq0 m k x⟩, trivial⟩ (k := m) (slices_IndexFunc_string_of_impl_PathOk_1.eq m)

/-! ### slices.ContainsFunc[[]string,string]: function 73 -/
abbrev slices_ContainsFunc_string_of_impl_PathOk_1.R : Type := Den [.bool]
def slices_ContainsFunc_string_of_impl_PathOk_1.sig : Sig := ⟨2, ⟨[], [(0, .l (.dat (.list (.str)))), (1, .l (.fn 74 []))]⟩, [.list (.str)], ⟨[], [(0, .l (.dat (.bool)))]⟩, [.bool]⟩
abbrev slices_ContainsFunc_string_of_impl_PathOk_1.Tab : Type := Unit
def slices_ContainsFunc_string_of_impl_PathOk_1.start (m : Nat) (t : slices_ContainsFunc_string_of_impl_PathOk_1.Tab) (x0 : List ByteArray) : Option slices_ContainsFunc_string_of_impl_PathOk_1.R :=
  Option.bind (slices_IndexFunc_string_of_impl_PathOk_1 m (x0, ())) fun r1 => some ((decide (r1.1 ≥ (0 : Int))), ())
def slices_ContainsFunc_string_of_impl_PathOk_1.tab (m : Nat) : Nat → slices_ContainsFunc_string_of_impl_PathOk_1.Tab
  | 0 => (())
  | k + 1 => (())
def slices_ContainsFunc_string_of_impl_PathOk_1 (m : Nat) (x : Den [.list (.str)]) : Option slices_ContainsFunc_string_of_impl_PathOk_1.R := slices_ContainsFunc_string_of_impl_PathOk_1.start m (slices_ContainsFunc_string_of_impl_PathOk_1.tab m m) x.1
def slices_ContainsFunc_string_of_impl_PathOk_1.cons (m : Nat) : List (Nat × Contract) := [(108, ⟨slices_IndexFunc_string_of_impl_PathOk_1.sig, slices_IndexFunc_string_of_impl_PathOk_1 m⟩)]
def slices_ContainsFunc_string_of_impl_PathOk_1.cuts (m : Nat) : List (CutF (Den slices_ContainsFunc_string_of_impl_PathOk_1.sig.us)) := []
theorem slices_ContainsFunc_string_of_impl_PathOk_1.eq (m : Nat) (x : Den slices_ContainsFunc_string_of_impl_PathOk_1.sig.ts) : slices_ContainsFunc_string_of_impl_PathOk_1 m x = startF ⟨lookΓ Γl, lookC (slices_ContainsFunc_string_of_impl_PathOk_1.cons m), false⟩ Tryd.f73 slices_ContainsFunc_string_of_impl_PathOk_1.sig (slices_ContainsFunc_string_of_impl_PathOk_1.cuts m) m x := by kernel_rfl
theorem slices_ContainsFunc_string_of_impl_PathOk_1.ok (m : Nat) : Meets Tryd.prog 73 slices_ContainsFunc_string_of_impl_PathOk_1.sig (slices_ContainsFunc_string_of_impl_PathOk_1 m) :=
  fn_is (cx_is tyOk mixed (l := slices_ContainsFunc_string_of_impl_PathOk_1.cons m) ⟨slices_IndexFunc_string_of_impl_PathOk_1.ok m, trivial⟩) (fn := Tryd.f73) Tryd.func73 (by kernel_rfl) (cl := slices_ContainsFunc_string_of_impl_PathOk_1.cuts m) trivial (k := m) (slices_ContainsFunc_string_of_impl_PathOk_1.eq m)

/-! ### loop.example/stemma/impl.PathOk: function 31 -/
abbrev impl_PathOk.R : Type := Den [.bool]
def impl_PathOk.sig : Sig := ⟨1, ⟨[], [(0, .l (.dat (.str)))]⟩, [.str], ⟨[], [(0, .l (.dat (.bool)))]⟩, [.bool]⟩
abbrev impl_PathOk.Tab : Type := Unit
def impl_PathOk.start (m : Nat) (t : impl_PathOk.Tab) (x0 : ByteArray) : Option impl_PathOk.R :=
  Option.bind (strings_Split m (x0, s_2f, ())) fun r1 => cond (decide ((lLen r1.1) ≤ (3 : Int))) (Option.bind (slices_ContainsFunc_string_of_impl_PathOk_1 m (r1.1, ())) fun r2 => some ((!r2.1), ())) (some (false, ()))
def impl_PathOk.tab (m : Nat) : Nat → impl_PathOk.Tab
  | 0 => (())
  | k + 1 => (())
def impl_PathOk (m : Nat) (x : Den [.str]) : Option impl_PathOk.R := impl_PathOk.start m (impl_PathOk.tab m m) x.1
def impl_PathOk.cons (m : Nat) : List (Nat × Contract) := [(72, ⟨strings_Split.sig, strings_Split m⟩), (73, ⟨slices_ContainsFunc_string_of_impl_PathOk_1.sig, slices_ContainsFunc_string_of_impl_PathOk_1 m⟩)]
def impl_PathOk.cuts (m : Nat) : List (CutF (Den impl_PathOk.sig.us)) := []
theorem impl_PathOk.eq (m : Nat) (x : Den impl_PathOk.sig.ts) : impl_PathOk m x = startF ⟨lookΓ Γl, lookC (impl_PathOk.cons m), false⟩ Tryd.f31 impl_PathOk.sig (impl_PathOk.cuts m) m x := by kernel_rfl
theorem impl_PathOk.ok (m : Nat) : Meets Tryd.prog 31 impl_PathOk.sig (impl_PathOk m) :=
  fn_is (cx_is tyOk mixed (l := impl_PathOk.cons m) ⟨strings_Split.ok m, slices_ContainsFunc_string_of_impl_PathOk_1.ok m, trivial⟩) (fn := Tryd.f31) Tryd.func31 (by kernel_rfl) (cl := impl_PathOk.cuts m) trivial (k := m) (impl_PathOk.eq m)

/-! ### loop.example/stemma/impl.lineOk: function 105 -/
abbrev impl_lineOk.R : Type := Den [.bool]
def impl_lineOk.sig : Sig := ⟨1, ⟨[], [(0, .l (.dat (.str)))]⟩, [.str], ⟨[], [(0, .l (.dat (.bool)))]⟩, [.bool]⟩
abbrev impl_lineOk.Tab : Type := (Den [.str, .int .i64, .int .i64] → Option impl_lineOk.R) × Unit
def impl_lineOk.start (m : Nat) (t : impl_lineOk.Tab) (x0 : ByteArray) : Option impl_lineOk.R :=
  t.1 (x0, (sLen x0), (0 : Int), ())
def impl_lineOk.b0 (m : Nat) (t : impl_lineOk.Tab) (a0 : ByteArray) (a1 : Int) (a2 : Int) : Option impl_lineOk.R :=
  cond (decide (a2 < a1)) (cond (decide ((0 : Int) ≤ a2)) (cond (decide (a2 < sLen a0)) (cond (decide ((byteAt a0 a2) < (32 : Int))) (some (false, ())) (cond (decide ((0 : Int) ≤ a2)) (cond (decide (a2 < sLen a0)) (cond (decide ((byteAt a0 a2) > (126 : Int))) (some (false, ())) (t.1 (a0, a1, (w64 (a2 + (1 : Int))), ()))) none) none)) none) none) (some ((decide ((sLen a0) ≤ (12 : Int))), ()))
def impl_lineOk.tab (m : Nat) : Nat → impl_lineOk.Tab
  | 0 => (fun _ => none, ())
  | k + 1 => (fun x => impl_lineOk.b0 m (impl_lineOk.tab m k) x.1 x.2.1 x.2.2.1, ())
def impl_lineOk (m : Nat) (x : Den [.str]) : Option impl_lineOk.R := impl_lineOk.start m (impl_lineOk.tab m m) x.1
def impl_lineOk.cons (m : Nat) : List (Nat × Contract) := []
def impl_lineOk.cuts (m : Nat) : List (CutF (Den impl_lineOk.sig.us)) := [⟨[false, true, false, true], 26, ⟨[], [(0, .l (.dat (.str))), (5, .l (.dat (.int .i64))), (6, .l (.dat (.int .i64)))]⟩, [.str, .int .i64, .int .i64], fun k => (impl_lineOk.tab m k).1⟩]
theorem impl_lineOk.eq0 (m k : Nat) (x : Den [.str, .int .i64, .int .i64]) : (impl_lineOk.tab m (k + 1)).1 x = runF ⟨lookΓ Γl, lookC (impl_lineOk.cons m), false⟩ Tryd.f105 impl_lineOk.sig (impl_lineOk.cuts m) k [false, true, false, true] ⟨[], [(0, .l (.dat (.str))), (5, .l (.dat (.int .i64))), (6, .l (.dat (.int .i64)))]⟩ [.str, .int .i64, .int .i64] x := by kernel_rfl
theorem impl_lineOk.eq (m : Nat) (x : Den impl_lineOk.sig.ts) : impl_lineOk m x = startF ⟨lookΓ Γl, lookC (impl_lineOk.cons m), false⟩ Tryd.f105 impl_lineOk.sig (impl_lineOk.cuts m) m x := by kernel_rfl
theorem impl_lineOk.ok (m : Nat) : Meets Tryd.prog 105 impl_lineOk.sig (impl_lineOk m) :=
  fn_is (cx_is tyOk mixed (l := impl_lineOk.cons m) trivial) (fn := Tryd.f105) Tryd.func105 (by kernel_rfl) (cl := impl_lineOk.cuts m) ⟨⟨by kernel_rfl, fun _ => rfl, fun k x => impl_lineOk.eq0 m k x⟩, trivial⟩ (k := m) (impl_lineOk.eq m)

/-! ### loop.example/stemma/impl.TextOk$1: function 104 -/
abbrev impl_TextOk_1.R : Type := Den [.bool]
def impl_TextOk_1.sig : Sig := ⟨1, ⟨[], [(0, .l (.dat (.str)))]⟩, [.str], ⟨[], [(0, .l (.dat (.bool)))]⟩, [.bool]⟩
abbrev impl_TextOk_1.Tab : Type := Unit
def impl_TextOk_1.start (m : Nat) (t : impl_TextOk_1.Tab) (x0 : ByteArray) : Option impl_TextOk_1.R :=
  Option.bind (impl_lineOk m (x0, ())) fun r1 => some ((!r1.1), ())
def impl_TextOk_1.tab (m : Nat) : Nat → impl_TextOk_1.Tab
  | 0 => (())
  | k + 1 => (())
def impl_TextOk_1 (m : Nat) (x : Den [.str]) : Option impl_TextOk_1.R := impl_TextOk_1.start m (impl_TextOk_1.tab m m) x.1
def impl_TextOk_1.cons (m : Nat) : List (Nat × Contract) := [(105, ⟨impl_lineOk.sig, impl_lineOk m⟩)]
def impl_TextOk_1.cuts (m : Nat) : List (CutF (Den impl_TextOk_1.sig.us)) := []
theorem impl_TextOk_1.eq (m : Nat) (x : Den impl_TextOk_1.sig.ts) : impl_TextOk_1 m x = startF ⟨lookΓ Γl, lookC (impl_TextOk_1.cons m), false⟩ Tryd.f104 impl_TextOk_1.sig (impl_TextOk_1.cuts m) m x := by kernel_rfl
theorem impl_TextOk_1.ok (m : Nat) : Meets Tryd.prog 104 impl_TextOk_1.sig (impl_TextOk_1 m) :=
  fn_is (cx_is tyOk mixed (l := impl_TextOk_1.cons m) ⟨impl_lineOk.ok m, trivial⟩) (fn := Tryd.f104) Tryd.func104 (by kernel_rfl) (cl := impl_TextOk_1.cuts m) trivial (k := m) (impl_TextOk_1.eq m)

/-! ### slices.IndexFunc[[]string,string]: function 108 -/
abbrev slices_IndexFunc_string_of_impl_TextOk_1.R : Type := Den [.int .i64]
def slices_IndexFunc_string_of_impl_TextOk_1.sig : Sig := ⟨2, ⟨[], [(0, .l (.dat (.list (.str)))), (1, .l (.fn 104 []))]⟩, [.list (.str)], ⟨[], [(0, .l (.dat (.int .i64)))]⟩, [.int .i64]⟩
abbrev slices_IndexFunc_string_of_impl_TextOk_1.Tab : Type := (Den [.list (.str), .int .i64, .int .i64] → Option slices_IndexFunc_string_of_impl_TextOk_1.R) × Unit
def slices_IndexFunc_string_of_impl_TextOk_1.start (m : Nat) (t : slices_IndexFunc_string_of_impl_TextOk_1.Tab) (x0 : List ByteArray) : Option slices_IndexFunc_string_of_impl_TextOk_1.R :=
  t.1 (x0, (lLen x0), (0 : Int), ())
def slices_IndexFunc_string_of_impl_TextOk_1.b0 (m : Nat) (t : slices_IndexFunc_string_of_impl_TextOk_1.Tab) (a0 : List ByteArray) (a1 : Int) (a2 : Int) : Option slices_IndexFunc_string_of_impl_TextOk_1.R :=
  cond (decide (a2 < a1)) (cond (decide ((0 : Int) ≤ a2)) (cond (decide (a2 < lLen a0)) (Option.bind (impl_TextOk_1 m ((getL a0 a2 ByteArray.empty), ())) fun r1 => cond r1.1 (some (a2, ())) (t.1 (a0, a1, (w64 (a2 + (1 : Int))), ()))) none) none) (some ((-1 : Int), ()))
def slices_IndexFunc_string_of_impl_TextOk_1.tab (m : Nat) : Nat → slices_IndexFunc_string_of_impl_TextOk_1.Tab
  | 0 => (fun _ => none, ())
  | k + 1 => (fun x => slices_IndexFunc_string_of_impl_TextOk_1.b0 m (slices_IndexFunc_string_of_impl_TextOk_1.tab m k) x.1 x.2.1 x.2.2.1, ())
def slices_IndexFunc_string_of_impl_TextOk_1 (m : Nat) (x : Den [.list (.str)]) : Option slices_IndexFunc_string_of_impl_TextOk_1.R := slices_IndexFunc_string_of_impl_TextOk_1.start m (slices_IndexFunc_string_of_impl_TextOk_1.tab m m) x.1
def slices_IndexFunc_string_of_impl_TextOk_1.cons (m : Nat) : List (Nat × Contract) := [(104, ⟨impl_TextOk_1.sig, impl_TextOk_1 m⟩)]
def slices_IndexFunc_string_of_impl_TextOk_1.cuts (m : Nat) : List (CutF (Den slices_IndexFunc_string_of_impl_TextOk_1.sig.us)) := [⟨[false, true, false, true], 26, ⟨[], [(0, .l (.dat (.list (.str)))), (1, .l (.fn 104 [])), (7, .l (.dat (.int .i64))), (8, .l (.dat (.int .i64)))]⟩, [.list (.str), .int .i64, .int .i64], fun k => (slices_IndexFunc_string_of_impl_TextOk_1.tab m k).1⟩]
theorem slices_IndexFunc_string_of_impl_TextOk_1.eq0 (m k : Nat) (x : Den [.list (.str), .int .i64, .int .i64]) : (slices_IndexFunc_string_of_impl_TextOk_1.tab m (k + 1)).1 x = runF ⟨lookΓ Γl, lookC (slices_IndexFunc_string_of_impl_TextOk_1.cons m), false⟩ Tryd.f108 slices_IndexFunc_string_of_impl_TextOk_1.sig (slices_IndexFunc_string_of_impl_TextOk_1.cuts m) k [false, true, false, true] ⟨[], [(0, .l (.dat (.list (.str)))), (1, .l (.fn 104 [])), (7, .l (.dat (.int .i64))), (8, .l (.dat (.int .i64)))]⟩ [.list (.str), .int .i64, .int .i64] x := by kernel_rfl
theorem slices_IndexFunc_string_of_impl_TextOk_1.eq (m : Nat) (x : Den slices_IndexFunc_string_of_impl_TextOk_1.sig.ts) : slices_IndexFunc_string_of_impl_TextOk_1 m x = startF ⟨lookΓ Γl, lookC (slices_IndexFunc_string_of_impl_TextOk_1.cons m), false⟩ Tryd.f108 slices_IndexFunc_string_of_impl_TextOk_1.sig (slices_IndexFunc_string_of_impl_TextOk_1.cuts m) m x := by kernel_rfl
theorem slices_IndexFunc_string_of_impl_TextOk_1.ok (m : Nat) : Meets Tryd.prog 108 slices_IndexFunc_string_of_impl_TextOk_1.sig (slices_IndexFunc_string_of_impl_TextOk_1 m) :=
  fn_is (cx_is tyOk mixed (l := slices_IndexFunc_string_of_impl_TextOk_1.cons m) ⟨impl_TextOk_1.ok m, trivial⟩) (fn := Tryd.f108) Tryd.func108 (by kernel_rfl) (cl := slices_IndexFunc_string_of_impl_TextOk_1.cuts m) ⟨⟨by kernel_rfl, fun _ => rfl, fun k x => slices_IndexFunc_string_of_impl_TextOk_1.eq0 m k x⟩, trivial⟩ (k := m) (slices_IndexFunc_string_of_impl_TextOk_1.eq m)

/-! ### slices.ContainsFunc[[]string,string]: function 73 -/
abbrev slices_ContainsFunc_string_of_impl_TextOk_1.R : Type := Den [.bool]
def slices_ContainsFunc_string_of_impl_TextOk_1.sig : Sig := ⟨2, ⟨[], [(0, .l (.dat (.list (.str)))), (1, .l (.fn 104 []))]⟩, [.list (.str)], ⟨[], [(0, .l (.dat (.bool)))]⟩, [.bool]⟩
abbrev slices_ContainsFunc_string_of_impl_TextOk_1.Tab : Type := Unit
def slices_ContainsFunc_string_of_impl_TextOk_1.start (m : Nat) (t : slices_ContainsFunc_string_of_impl_TextOk_1.Tab) (x0 : List ByteArray) : Option slices_ContainsFunc_string_of_impl_TextOk_1.R :=
  Option.bind (slices_IndexFunc_string_of_impl_TextOk_1 m (x0, ())) fun r1 => some ((decide (r1.1 ≥ (0 : Int))), ())
def slices_ContainsFunc_string_of_impl_TextOk_1.tab (m : Nat) : Nat → slices_ContainsFunc_string_of_impl_TextOk_1.Tab
  | 0 => (())
  | k + 1 => (())
def slices_ContainsFunc_string_of_impl_TextOk_1 (m : Nat) (x : Den [.list (.str)]) : Option slices_ContainsFunc_string_of_impl_TextOk_1.R := slices_ContainsFunc_string_of_impl_TextOk_1.start m (slices_ContainsFunc_string_of_impl_TextOk_1.tab m m) x.1
def slices_ContainsFunc_string_of_impl_TextOk_1.cons (m : Nat) : List (Nat × Contract) := [(108, ⟨slices_IndexFunc_string_of_impl_TextOk_1.sig, slices_IndexFunc_string_of_impl_TextOk_1 m⟩)]
def slices_ContainsFunc_string_of_impl_TextOk_1.cuts (m : Nat) : List (CutF (Den slices_ContainsFunc_string_of_impl_TextOk_1.sig.us)) := []
theorem slices_ContainsFunc_string_of_impl_TextOk_1.eq (m : Nat) (x : Den slices_ContainsFunc_string_of_impl_TextOk_1.sig.ts) : slices_ContainsFunc_string_of_impl_TextOk_1 m x = startF ⟨lookΓ Γl, lookC (slices_ContainsFunc_string_of_impl_TextOk_1.cons m), false⟩ Tryd.f73 slices_ContainsFunc_string_of_impl_TextOk_1.sig (slices_ContainsFunc_string_of_impl_TextOk_1.cuts m) m x := by kernel_rfl
theorem slices_ContainsFunc_string_of_impl_TextOk_1.ok (m : Nat) : Meets Tryd.prog 73 slices_ContainsFunc_string_of_impl_TextOk_1.sig (slices_ContainsFunc_string_of_impl_TextOk_1 m) :=
  fn_is (cx_is tyOk mixed (l := slices_ContainsFunc_string_of_impl_TextOk_1.cons m) ⟨slices_IndexFunc_string_of_impl_TextOk_1.ok m, trivial⟩) (fn := Tryd.f73) Tryd.func73 (by kernel_rfl) (cl := slices_ContainsFunc_string_of_impl_TextOk_1.cuts m) trivial (k := m) (slices_ContainsFunc_string_of_impl_TextOk_1.eq m)

/-! ### loop.example/stemma/impl.TextOk: function 69 -/
abbrev impl_TextOk.R : Type := Den [.bool]
def impl_TextOk.sig : Sig := ⟨1, ⟨[], [(0, .l (.dat (.list (.str))))]⟩, [.list (.str)], ⟨[], [(0, .l (.dat (.bool)))]⟩, [.bool]⟩
abbrev impl_TextOk.Tab : Type := Unit
def impl_TextOk.start (m : Nat) (t : impl_TextOk.Tab) (x0 : List ByteArray) : Option impl_TextOk.R :=
  cond (decide ((lLen x0) ≤ (10 : Int))) (Option.bind (slices_ContainsFunc_string_of_impl_TextOk_1 m (x0, ())) fun r1 => some ((!r1.1), ())) (some (false, ()))
def impl_TextOk.tab (m : Nat) : Nat → impl_TextOk.Tab
  | 0 => (())
  | k + 1 => (())
def impl_TextOk (m : Nat) (x : Den [.list (.str)]) : Option impl_TextOk.R := impl_TextOk.start m (impl_TextOk.tab m m) x.1
def impl_TextOk.cons (m : Nat) : List (Nat × Contract) := [(73, ⟨slices_ContainsFunc_string_of_impl_TextOk_1.sig, slices_ContainsFunc_string_of_impl_TextOk_1 m⟩)]
def impl_TextOk.cuts (m : Nat) : List (CutF (Den impl_TextOk.sig.us)) := []
theorem impl_TextOk.eq (m : Nat) (x : Den impl_TextOk.sig.ts) : impl_TextOk m x = startF ⟨lookΓ Γl, lookC (impl_TextOk.cons m), false⟩ Tryd.f69 impl_TextOk.sig (impl_TextOk.cuts m) m x := by kernel_rfl
theorem impl_TextOk.ok (m : Nat) : Meets Tryd.prog 69 impl_TextOk.sig (impl_TextOk m) :=
  fn_is (cx_is tyOk mixed (l := impl_TextOk.cons m) ⟨slices_ContainsFunc_string_of_impl_TextOk_1.ok m, trivial⟩) (fn := Tryd.f69) Tryd.func69 (by kernel_rfl) (cl := impl_TextOk.cuts m) trivial (k := m) (impl_TextOk.eq m)

/-! ### internal/stringslite.HasPrefix: function 122 -/
abbrev internal_stringslite_HasPrefix.R : Type := Den [.bool]
def internal_stringslite_HasPrefix.sig : Sig := ⟨2, ⟨[], [(0, .l (.dat (.str))), (1, .l (.dat (.str)))]⟩, [.str, .str], ⟨[], [(0, .l (.dat (.bool)))]⟩, [.bool]⟩
abbrev internal_stringslite_HasPrefix.Tab : Type := Unit
def internal_stringslite_HasPrefix.start (m : Nat) (t : internal_stringslite_HasPrefix.Tab) (x0 : ByteArray) (x1 : ByteArray) : Option internal_stringslite_HasPrefix.R :=
  cond (decide ((sLen x0) ≥ (sLen x1))) (cond (decide ((0 : Int) ≤ (sLen x1))) (cond (decide ((sLen x1) ≤ (ByteArray.size x0 : Int))) (lett ((sEq (cutS x0 0 (Int.toNat (sLen x1))) x1) : Bool) fun v1 => some (v1, ())) none) none) (some (false, ()))
def internal_stringslite_HasPrefix.tab (m : Nat) : Nat → internal_stringslite_HasPrefix.Tab
  | 0 => (())
  | k + 1 => (())
def internal_stringslite_HasPrefix (m : Nat) (x : Den [.str, .str]) : Option internal_stringslite_HasPrefix.R := internal_stringslite_HasPrefix.start m (internal_stringslite_HasPrefix.tab m m) x.1 x.2.1
def internal_stringslite_HasPrefix.cons (m : Nat) : List (Nat × Contract) := []
def internal_stringslite_HasPrefix.cuts (m : Nat) : List (CutF (Den internal_stringslite_HasPrefix.sig.us)) := []
theorem internal_stringslite_HasPrefix.eq (m : Nat) (x : Den internal_stringslite_HasPrefix.sig.ts) : internal_stringslite_HasPrefix m x = startF ⟨lookΓ Γl, lookC (internal_stringslite_HasPrefix.cons m), false⟩ Tryd.f122 internal_stringslite_HasPrefix.sig (internal_stringslite_HasPrefix.cuts m) m x := by kernel_rfl
theorem internal_stringslite_HasPrefix.ok (m : Nat) : Meets Tryd.prog 122 internal_stringslite_HasPrefix.sig (internal_stringslite_HasPrefix m) :=
  fn_is (cx_is tyOk mixed (l := internal_stringslite_HasPrefix.cons m) trivial) (fn := Tryd.f122) Tryd.func122 (by kernel_rfl) (cl := internal_stringslite_HasPrefix.cuts m) trivial (k := m) (internal_stringslite_HasPrefix.eq m)

/-! ### strings.HasPrefix: function 106 -/
abbrev strings_HasPrefix.R : Type := Den [.bool]
def strings_HasPrefix.sig : Sig := ⟨2, ⟨[], [(0, .l (.dat (.str))), (1, .l (.dat (.str)))]⟩, [.str, .str], ⟨[], [(0, .l (.dat (.bool)))]⟩, [.bool]⟩
abbrev strings_HasPrefix.Tab : Type := Unit
def strings_HasPrefix.start (m : Nat) (t : strings_HasPrefix.Tab) (x0 : ByteArray) (x1 : ByteArray) : Option strings_HasPrefix.R :=
  Option.bind (internal_stringslite_HasPrefix m (x0, x1, ())) fun r1 => some (r1.1, ())
def strings_HasPrefix.tab (m : Nat) : Nat → strings_HasPrefix.Tab
  | 0 => (())
  | k + 1 => (())
def strings_HasPrefix (m : Nat) (x : Den [.str, .str]) : Option strings_HasPrefix.R := strings_HasPrefix.start m (strings_HasPrefix.tab m m) x.1 x.2.1
def strings_HasPrefix.cons (m : Nat) : List (Nat × Contract) := [(122, ⟨internal_stringslite_HasPrefix.sig, internal_stringslite_HasPrefix m⟩)]
def strings_HasPrefix.cuts (m : Nat) : List (CutF (Den strings_HasPrefix.sig.us)) := []
theorem strings_HasPrefix.eq (m : Nat) (x : Den strings_HasPrefix.sig.ts) : strings_HasPrefix m x = startF ⟨lookΓ Γl, lookC (strings_HasPrefix.cons m), false⟩ Tryd.f106 strings_HasPrefix.sig (strings_HasPrefix.cuts m) m x := by kernel_rfl
theorem strings_HasPrefix.ok (m : Nat) : Meets Tryd.prog 106 strings_HasPrefix.sig (strings_HasPrefix m) :=
  fn_is (cx_is tyOk mixed (l := strings_HasPrefix.cons m) ⟨internal_stringslite_HasPrefix.ok m, trivial⟩) (fn := Tryd.f106) Tryd.func106 (by kernel_rfl) (cl := strings_HasPrefix.cuts m) trivial (k := m) (strings_HasPrefix.eq m)

/-! ### loop.example/stemma/impl.PathIn: function 71 -/
abbrev impl_PathIn.R : Type := Den [.bool]
def impl_PathIn.sig : Sig := ⟨2, ⟨[], [(0, .l (.dat (.str))), (1, .l (.dat (.str)))]⟩, [.str, .str], ⟨[], [(0, .l (.dat (.bool)))]⟩, [.bool]⟩
abbrev impl_PathIn.Tab : Type := Unit
def impl_PathIn.start (m : Nat) (t : impl_PathIn.Tab) (x0 : ByteArray) (x1 : ByteArray) : Option impl_PathIn.R :=
  Option.bind (impl_PathOk m (x0, ())) fun r1 => cond r1.1 (Option.bind (impl_PathOk m (x1, ())) fun r2 => cond r2.1 (cond (decide (ByteArray.size x0 + ByteArray.size s_2f ≤ cap)) (Option.bind (strings_HasPrefix m (x1, (ByteArray.append x0 s_2f), ())) fun r3 => some (r3.1, ())) none) (some (false, ()))) (some (false, ()))
def impl_PathIn.tab (m : Nat) : Nat → impl_PathIn.Tab
  | 0 => (())
  | k + 1 => (())
def impl_PathIn (m : Nat) (x : Den [.str, .str]) : Option impl_PathIn.R := impl_PathIn.start m (impl_PathIn.tab m m) x.1 x.2.1
def impl_PathIn.cons (m : Nat) : List (Nat × Contract) := [(31, ⟨impl_PathOk.sig, impl_PathOk m⟩), (106, ⟨strings_HasPrefix.sig, strings_HasPrefix m⟩)]
def impl_PathIn.cuts (m : Nat) : List (CutF (Den impl_PathIn.sig.us)) := []
theorem impl_PathIn.eq (m : Nat) (x : Den impl_PathIn.sig.ts) : impl_PathIn m x = startF ⟨lookΓ Γl, lookC (impl_PathIn.cons m), false⟩ Tryd.f71 impl_PathIn.sig (impl_PathIn.cuts m) m x := by kernel_rfl
theorem impl_PathIn.ok (m : Nat) : Meets Tryd.prog 71 impl_PathIn.sig (impl_PathIn m) :=
  fn_is (cx_is tyOk mixed (l := impl_PathIn.cons m) ⟨impl_PathOk.ok m, strings_HasPrefix.ok m, trivial⟩) (fn := Tryd.f71) Tryd.func71 (by kernel_rfl) (cl := impl_PathIn.cuts m) trivial (k := m) (impl_PathIn.eq m)

/-! ### loop.example/stemma/impl.TreeOk$1: function 70 -/
abbrev impl_TreeOk_1_v0.R : Type := Den [.str, .list (.str), .bool]
def impl_TreeOk_1_v0.sig : Sig := ⟨2, ⟨[.box [.dat (.str), .dat (.list (.str))]], [(0, .agg [.dat (.str), .dat (.list (.str))]), (1, .l (.ptr 0 0))]⟩, [.str, .list (.str), .str, .list (.str)], ⟨[.box [.dat (.str), .dat (.list (.str))]], [(0, .l (.dat (.bool)))]⟩, [.str, .list (.str), .bool]⟩
abbrev impl_TreeOk_1_v0.Tab : Type := Unit
def impl_TreeOk_1_v0.start (m : Nat) (t : impl_TreeOk_1_v0.Tab) (x0 : ByteArray) (x1 : List ByteArray) (x2 : ByteArray) (x3 : List ByteArray) : Option impl_TreeOk_1_v0.R :=
  Option.bind (impl_PathIn m (x2, x0, ())) fun r1 => some (x0, x1, r1.1, ())
def impl_TreeOk_1_v0.tab (m : Nat) : Nat → impl_TreeOk_1_v0.Tab
  | 0 => (())
  | k + 1 => (())
def impl_TreeOk_1_v0 (m : Nat) (x : Den [.str, .list (.str), .str, .list (.str)]) : Option impl_TreeOk_1_v0.R := impl_TreeOk_1_v0.start m (impl_TreeOk_1_v0.tab m m) x.1 x.2.1 x.2.2.1 x.2.2.2.1
def impl_TreeOk_1_v0.cons (m : Nat) : List (Nat × Contract) := [(71, ⟨impl_PathIn.sig, impl_PathIn m⟩)]
def impl_TreeOk_1_v0.cuts (m : Nat) : List (CutF (Den impl_TreeOk_1_v0.sig.us)) := []
theorem impl_TreeOk_1_v0.eq (m : Nat) (x : Den impl_TreeOk_1_v0.sig.ts) : impl_TreeOk_1_v0 m x = startF ⟨lookΓ Γl, lookC (impl_TreeOk_1_v0.cons m), false⟩ Tryd.f70 impl_TreeOk_1_v0.sig (impl_TreeOk_1_v0.cuts m) m x := by kernel_rfl
theorem impl_TreeOk_1_v0.ok (m : Nat) : Meets Tryd.prog 70 impl_TreeOk_1_v0.sig (impl_TreeOk_1_v0 m) :=
  fn_is (cx_is tyOk mixed (l := impl_TreeOk_1_v0.cons m) ⟨impl_PathIn.ok m, trivial⟩) (fn := Tryd.f70) Tryd.func70 (by kernel_rfl) (cl := impl_TreeOk_1_v0.cuts m) trivial (k := m) (impl_TreeOk_1_v0.eq m)

/-! ### slices.IndexFunc[[]loop.example/stemma/impl.File,loop.example/stemma/impl.File]: function 92 -/
abbrev slices_IndexFunc_File_of_impl_TreeOk_1.R : Type := Den [.str, .list (.str), .int .i64]
def slices_IndexFunc_File_of_impl_TreeOk_1.sig : Sig := ⟨2, ⟨[.box [.dat (.str), .dat (.list (.str))]], [(0, .l (.dat (.list (.pair (.str) (.list (.str)))))), (1, .l (.fn 70 [0]))]⟩, [.str, .list (.str), .list (.pair (.str) (.list (.str)))], ⟨[.box [.dat (.str), .dat (.list (.str))]], [(0, .l (.dat (.int .i64)))]⟩, [.str, .list (.str), .int .i64]⟩
abbrev slices_IndexFunc_File_of_impl_TreeOk_1.Tab : Type := (Den [.str, .list (.str), .list (.pair (.str) (.list (.str))), .int .i64, .int .i64] → Option slices_IndexFunc_File_of_impl_TreeOk_1.R) × Unit
def slices_IndexFunc_File_of_impl_TreeOk_1.start (m : Nat) (t : slices_IndexFunc_File_of_impl_TreeOk_1.Tab) (x0 : ByteArray) (x1 : List ByteArray) (x2 : List (ByteArray × List ByteArray)) : Option slices_IndexFunc_File_of_impl_TreeOk_1.R :=
  t.1 (x0, x1, x2, (lLen x2), (0 : Int), ())
def slices_IndexFunc_File_of_impl_TreeOk_1.b0 (m : Nat) (t : slices_IndexFunc_File_of_impl_TreeOk_1.Tab) (a0 : ByteArray) (a1 : List ByteArray) (a2 : List (ByteArray × List ByteArray)) (a3 : Int) (a4 : Int) : Option slices_IndexFunc_File_of_impl_TreeOk_1.R :=
  cond (decide (a4 < a3)) (cond (decide ((0 : Int) ≤ a4)) (cond (decide (a4 < lLen a2)) (lett ((getL a2 a4 (ByteArray.empty, ([] : List ByteArray))) : ByteArray × List ByteArray) fun v1 => Option.bind (impl_TreeOk_1_v0 m (a0, a1, v1.1, v1.2, ())) fun r2 => cond r2.2.2.1 (some (r2.1, r2.2.1, a4, ())) (t.1 (r2.1, r2.2.1, a2, a3, (w64 (a4 + (1 : Int))), ()))) none) none) (some (a0, a1, (-1 : Int), ()))
def slices_IndexFunc_File_of_impl_TreeOk_1.tab (m : Nat) : Nat → slices_IndexFunc_File_of_impl_TreeOk_1.Tab
  | 0 => (fun _ => none, ())
  | k + 1 => (fun x => slices_IndexFunc_File_of_impl_TreeOk_1.b0 m (slices_IndexFunc_File_of_impl_TreeOk_1.tab m k) x.1 x.2.1 x.2.2.1 x.2.2.2.1 x.2.2.2.2.1, ())
def slices_IndexFunc_File_of_impl_TreeOk_1 (m : Nat) (x : Den [.str, .list (.str), .list (.pair (.str) (.list (.str)))]) : Option slices_IndexFunc_File_of_impl_TreeOk_1.R := slices_IndexFunc_File_of_impl_TreeOk_1.start m (slices_IndexFunc_File_of_impl_TreeOk_1.tab m m) x.1 x.2.1 x.2.2.1
def slices_IndexFunc_File_of_impl_TreeOk_1.cons (m : Nat) : List (Nat × Contract) := [(70, ⟨impl_TreeOk_1_v0.sig, impl_TreeOk_1_v0 m⟩)]
def slices_IndexFunc_File_of_impl_TreeOk_1.cuts (m : Nat) : List (CutF (Den slices_IndexFunc_File_of_impl_TreeOk_1.sig.us)) := [⟨[false, true, false, true], 26, ⟨[.box [.dat (.str), .dat (.list (.str))]], [(0, .l (.dat (.list (.pair (.str) (.list (.str)))))), (1, .l (.fn 70 [0])), (7, .l (.dat (.int .i64))), (8, .l (.dat (.int .i64)))]⟩, [.str, .list (.str), .list (.pair (.str) (.list (.str))), .int .i64, .int .i64], fun k => (slices_IndexFunc_File_of_impl_TreeOk_1.tab m k).1⟩]
theorem slices_IndexFunc_File_of_impl_TreeOk_1.eq0 (m k : Nat) (x : Den [.str, .list (.str), .list (.pair (.str) (.list (.str))), .int .i64, .int .i64]) : (slices_IndexFunc_File_of_impl_TreeOk_1.tab m (k + 1)).1 x = runF ⟨lookΓ Γl, lookC (slices_IndexFunc_File_of_impl_TreeOk_1.cons m), false⟩ Tryd.f92 slices_IndexFunc_File_of_impl_TreeOk_1.sig (slices_IndexFunc_File_of_impl_TreeOk_1.cuts m) k [false, true, false, true] ⟨[.box [.dat (.str), .dat (.list (.str))]], [(0, .l (.dat (.list (.pair (.str) (.list (.str)))))), (1, .l (.fn 70 [0])), (7, .l (.dat (.int .i64))), (8, .l (.dat (.int .i64)))]⟩ [.str, .list (.str), .list (.pair (.str) (.list (.str))), .int .i64, .int .i64] x := by kernel_rfl
theorem slices_IndexFunc_File_of_impl_TreeOk_1.eq (m : Nat) (x : Den slices_IndexFunc_File_of_impl_TreeOk_1.sig.ts) : slices_IndexFunc_File_of_impl_TreeOk_1 m x = startF ⟨lookΓ Γl, lookC (slices_IndexFunc_File_of_impl_TreeOk_1.cons m), false⟩ Tryd.f92 slices_IndexFunc_File_of_impl_TreeOk_1.sig (slices_IndexFunc_File_of_impl_TreeOk_1.cuts m) m x := by kernel_rfl
theorem slices_IndexFunc_File_of_impl_TreeOk_1.ok (m : Nat) : Meets Tryd.prog 92 slices_IndexFunc_File_of_impl_TreeOk_1.sig (slices_IndexFunc_File_of_impl_TreeOk_1 m) :=
  fn_is (cx_is tyOk mixed (l := slices_IndexFunc_File_of_impl_TreeOk_1.cons m) ⟨impl_TreeOk_1_v0.ok m, trivial⟩) (fn := Tryd.f92) Tryd.func92 (by kernel_rfl) (cl := slices_IndexFunc_File_of_impl_TreeOk_1.cuts m) ⟨⟨by kernel_rfl, fun _ => rfl, fun k x => slices_IndexFunc_File_of_impl_TreeOk_1.eq0 m k x⟩, trivial⟩ (k := m) (slices_IndexFunc_File_of_impl_TreeOk_1.eq m)

/-! ### slices.ContainsFunc[[]loop.example/stemma/impl.File,loop.example/stemma/impl.File]: function 61 -/
abbrev slices_ContainsFunc_File_of_impl_TreeOk_1.R : Type := Den [.str, .list (.str), .bool]
def slices_ContainsFunc_File_of_impl_TreeOk_1.sig : Sig := ⟨2, ⟨[.box [.dat (.str), .dat (.list (.str))]], [(0, .l (.dat (.list (.pair (.str) (.list (.str)))))), (1, .l (.fn 70 [0]))]⟩, [.str, .list (.str), .list (.pair (.str) (.list (.str)))], ⟨[.box [.dat (.str), .dat (.list (.str))]], [(0, .l (.dat (.bool)))]⟩, [.str, .list (.str), .bool]⟩
abbrev slices_ContainsFunc_File_of_impl_TreeOk_1.Tab : Type := Unit
def slices_ContainsFunc_File_of_impl_TreeOk_1.start (m : Nat) (t : slices_ContainsFunc_File_of_impl_TreeOk_1.Tab) (x0 : ByteArray) (x1 : List ByteArray) (x2 : List (ByteArray × List ByteArray)) : Option slices_ContainsFunc_File_of_impl_TreeOk_1.R :=
  Option.bind (slices_IndexFunc_File_of_impl_TreeOk_1 m (x0, x1, x2, ())) fun r1 => some (r1.1, r1.2.1, (decide (r1.2.2.1 ≥ (0 : Int))), ())
def slices_ContainsFunc_File_of_impl_TreeOk_1.tab (m : Nat) : Nat → slices_ContainsFunc_File_of_impl_TreeOk_1.Tab
  | 0 => (())
  | k + 1 => (())
def slices_ContainsFunc_File_of_impl_TreeOk_1 (m : Nat) (x : Den [.str, .list (.str), .list (.pair (.str) (.list (.str)))]) : Option slices_ContainsFunc_File_of_impl_TreeOk_1.R := slices_ContainsFunc_File_of_impl_TreeOk_1.start m (slices_ContainsFunc_File_of_impl_TreeOk_1.tab m m) x.1 x.2.1 x.2.2.1
def slices_ContainsFunc_File_of_impl_TreeOk_1.cons (m : Nat) : List (Nat × Contract) := [(92, ⟨slices_IndexFunc_File_of_impl_TreeOk_1.sig, slices_IndexFunc_File_of_impl_TreeOk_1 m⟩)]
def slices_ContainsFunc_File_of_impl_TreeOk_1.cuts (m : Nat) : List (CutF (Den slices_ContainsFunc_File_of_impl_TreeOk_1.sig.us)) := []
theorem slices_ContainsFunc_File_of_impl_TreeOk_1.eq (m : Nat) (x : Den slices_ContainsFunc_File_of_impl_TreeOk_1.sig.ts) : slices_ContainsFunc_File_of_impl_TreeOk_1 m x = startF ⟨lookΓ Γl, lookC (slices_ContainsFunc_File_of_impl_TreeOk_1.cons m), false⟩ Tryd.f61 slices_ContainsFunc_File_of_impl_TreeOk_1.sig (slices_ContainsFunc_File_of_impl_TreeOk_1.cuts m) m x := by kernel_rfl
theorem slices_ContainsFunc_File_of_impl_TreeOk_1.ok (m : Nat) : Meets Tryd.prog 61 slices_ContainsFunc_File_of_impl_TreeOk_1.sig (slices_ContainsFunc_File_of_impl_TreeOk_1 m) :=
  fn_is (cx_is tyOk mixed (l := slices_ContainsFunc_File_of_impl_TreeOk_1.cons m) ⟨slices_IndexFunc_File_of_impl_TreeOk_1.ok m, trivial⟩) (fn := Tryd.f61) Tryd.func61 (by kernel_rfl) (cl := slices_ContainsFunc_File_of_impl_TreeOk_1.cuts m) trivial (k := m) (slices_ContainsFunc_File_of_impl_TreeOk_1.eq m)

/-! ### loop.example/stemma/impl.TreeOk: function 30 -/
abbrev impl_TreeOk.R : Type := Den [.bool]
def impl_TreeOk.sig : Sig := ⟨1, ⟨[], [(0, .l (.dat (.list (.pair (.str) (.list (.str))))))]⟩, [.list (.pair (.str) (.list (.str)))], ⟨[], [(0, .l (.dat (.bool)))]⟩, [.bool]⟩
abbrev impl_TreeOk.Tab : Type := (Den [.list (.pair (.str) (.list (.str))), .list (.pair (.str) (.list (.str))), .int .i64, .int .i64] → Option impl_TreeOk.R) × (Den [.str, .list (.str), .list (.pair (.str) (.list (.str))), .int .i64, .list (.pair (.str) (.list (.str))), .int .i64, .int .i64, .bool] → Option impl_TreeOk.R) × Unit
def impl_TreeOk.start (m : Nat) (t : impl_TreeOk.Tab) (x0 : List (ByteArray × List ByteArray)) : Option impl_TreeOk.R :=
  t.1 (x0, x0, (lLen x0), (0 : Int), ())
def impl_TreeOk.b0 (m : Nat) (t : impl_TreeOk.Tab) (a0 : List (ByteArray × List ByteArray)) (a1 : List (ByteArray × List ByteArray)) (a2 : Int) (a3 : Int) : Option impl_TreeOk.R :=
  cond (decide (a3 < a2)) (cond (decide ((0 : Int) ≤ a3)) (cond (decide (a3 < lLen a1)) (lett ((getL a1 a3 (ByteArray.empty, ([] : List ByteArray))) : ByteArray × List ByteArray) fun v1 => Option.bind (impl_PathOk m (v1.1, ())) fun r2 => cond (!r2.1) (t.2.1 (v1.1, v1.2, a0, a3, a1, a2, a3, true, ())) (Option.bind (impl_TextOk m (v1.2, ())) fun r3 => cond (!r3.1) (t.2.1 (v1.1, v1.2, a0, a3, a1, a2, a3, true, ())) (cond (decide (a3 > (0 : Int))) (cond (decide ((0 : Int) ≤ (w64 (a3 - (1 : Int))))) (cond (decide ((w64 (a3 - (1 : Int))) < lLen a0)) (lett ((getL a0 (w64 (a3 - (1 : Int))) (ByteArray.empty, ([] : List ByteArray))) : ByteArray × List ByteArray) fun v4 => t.2.1 (v1.1, v1.2, a0, a3, a1, a2, a3, (!sLt v4.1 v1.1), ())) none) none) (t.2.1 (v1.1, v1.2, a0, a3, a1, a2, a3, false, ()))))) none) none) (some ((decide ((lLen a0) ≤ (8 : Int))), ()))
def impl_TreeOk.b1 (m : Nat) (t : impl_TreeOk.Tab) (a0 : ByteArray) (a1 : List ByteArray) (a2 : List (ByteArray × List ByteArray)) (a3 : Int) (a4 : List (ByteArray × List ByteArray)) (a5 : Int) (a6 : Int) (a7 : Bool) : Option impl_TreeOk.R :=
  cond a7 (some (false, ())) (cond (decide ((0 : Int) ≤ a3)) (cond (decide (a3 ≤ (List.length a2 : Int))) (Option.bind (slices_ContainsFunc_File_of_impl_TreeOk_1 m (a0, a1, (cutL a2 0 (Int.toNat a3)), ())) fun r1 => cond r1.2.2.1 (some (false, ())) (t.1 (a2, a4, a5, (w64 (a6 + (1 : Int))), ()))) none) none)
def impl_TreeOk.tab (m : Nat) : Nat → impl_TreeOk.Tab
  | 0 => (fun _ => none, fun _ => none, ())
  | k + 1 => (fun x => impl_TreeOk.b0 m (impl_TreeOk.tab m k) x.1 x.2.1 x.2.2.1 x.2.2.2.1, fun x => impl_TreeOk.b1 m (impl_TreeOk.tab m k) x.1 x.2.1 x.2.2.1 x.2.2.2.1 x.2.2.2.2.1 x.2.2.2.2.2.1 x.2.2.2.2.2.2.1 x.2.2.2.2.2.2.2.1, ())
def impl_TreeOk (m : Nat) (x : Den [.list (.pair (.str) (.list (.str)))]) : Option impl_TreeOk.R := impl_TreeOk.start m (impl_TreeOk.tab m m) x.1
def impl_TreeOk.cons (m : Nat) : List (Nat × Contract) := [(31, ⟨impl_PathOk.sig, impl_PathOk m⟩), (69, ⟨impl_TextOk.sig, impl_TextOk m⟩), (61, ⟨slices_ContainsFunc_File_of_impl_TreeOk_1.sig, slices_ContainsFunc_File_of_impl_TreeOk_1 m⟩)]
def impl_TreeOk.cuts (m : Nat) : List (CutF (Den impl_TreeOk.sig.us)) := [⟨[false, true, false, true], 26, ⟨[], [(0, .l (.dat (.list (.pair (.str) (.list (.str)))))), (5, .l (.dat (.list (.pair (.str) (.list (.str)))))), (6, .l (.dat (.int .i64))), (7, .l (.dat (.int .i64)))]⟩, [.list (.pair (.str) (.list (.str))), .list (.pair (.str) (.list (.str))), .int .i64, .int .i64], fun k => (impl_TreeOk.tab m k).1⟩,
  ⟨[true, false, true, false, false, true, true, false, false, true, false, true], 6757, ⟨[.box [.dat (.str), .dat (.list (.str))]], [(0, .l (.dat (.list (.pair (.str) (.list (.str)))))), (3, .l (.dat (.int .i64))), (4, .l (.ptr 0 0)), (5, .l (.dat (.list (.pair (.str) (.list (.str)))))), (6, .l (.dat (.int .i64))), (7, .l (.dat (.int .i64))), (36, .l (.dat (.bool)))]⟩, [.str, .list (.str), .list (.pair (.str) (.list (.str))), .int .i64, .list (.pair (.str) (.list (.str))), .int .i64, .int .i64, .bool], fun k => (impl_TreeOk.tab m k).2.1⟩]
theorem impl_TreeOk.eq0 (m k : Nat) (x : Den [.list (.pair (.str) (.list (.str))), .list (.pair (.str) (.list (.str))), .int .i64, .int .i64]) : (impl_TreeOk.tab m (k + 1)).1 x = runF ⟨lookΓ Γl, lookC (impl_TreeOk.cons m), false⟩ Tryd.f30 impl_TreeOk.sig (impl_TreeOk.cuts m) k [false, true, false, true] ⟨[], [(0, .l (.dat (.list (.pair (.str) (.list (.str)))))), (5, .l (.dat (.list (.pair (.str) (.list (.str)))))), (6, .l (.dat (.int .i64))), (7, .l (.dat (.int .i64)))]⟩ [.list (.pair (.str) (.list (.str))), .list (.pair (.str) (.list (.str))), .int .i64, .int .i64] x := by kernel_rfl
theorem impl_TreeOk.eq1 (m k : Nat) (x : Den [.str, .list (.str), .list (.pair (.str) (.list (.str))), .int .i64, .list (.pair (.str) (.list (.str))), .int .i64, .int .i64, .bool]) : (impl_TreeOk.tab m (k + 1)).2.1 x = runF ⟨lookΓ Γl, lookC (impl_TreeOk.cons m), false⟩ Tryd.f30 impl_TreeOk.sig (impl_TreeOk.cuts m) k [true, false, true, false, false, true, true, false, false, true, false, true] ⟨[.box [.dat (.str), .dat (.list (.str))]], [(0, .l (.dat (.list (.pair (.str) (.list (.str)))))), (3, .l (.dat (.int .i64))), (4, .l (.ptr 0 0)), (5, .l (.dat (.list (.pair (.str) (.list (.str)))))), (6, .l (.dat (.int .i64))), (7, .l (.dat (.int .i64))), (36, .l (.dat (.bool)))]⟩ [.str, .list (.str), .list (.pair (.str) (.list (.str))), .int .i64, .list (.pair (.str) (.list (.str))), .int .i64, .int .i64, .bool] x := by kernel_rfl
theorem impl_TreeOk.eq (m : Nat) (x : Den impl_TreeOk.sig.ts) : impl_TreeOk m x = startF ⟨lookΓ Γl, lookC (impl_TreeOk.cons m), false⟩ Tryd.f30 impl_TreeOk.sig (impl_TreeOk.cuts m) m x := by kernel_rfl
theorem impl_TreeOk.ok (m : Nat) : Meets Tryd.prog 30 impl_TreeOk.sig (impl_TreeOk m) :=
  fn_is (cx_is tyOk mixed (l := impl_TreeOk.cons m) ⟨impl_PathOk.ok m, impl_TextOk.ok m, slices_ContainsFunc_File_of_impl_TreeOk_1.ok m, trivial⟩) (fn := Tryd.f30) Tryd.func30 (by kernel_rfl) (cl := impl_TreeOk.cuts m) ⟨⟨by kernel_rfl, fun _ => rfl, fun k x => impl_TreeOk.eq0 m k x⟩, ⟨by kernel_rfl, fun _ => rfl, fun k x => impl_TreeOk.eq1 m k x⟩, trivial⟩ (k := m) (impl_TreeOk.eq m)

/-! ### loop.example/stemma/impl.contains: function 90 -/
abbrev impl_contains.R : Type := Den [.bool]
def impl_contains.sig : Sig := ⟨2, ⟨[], [(0, .l (.dat (.str))), (1, .l (.dat (.str)))]⟩, [.str, .str], ⟨[], [(0, .l (.dat (.bool)))]⟩, [.bool]⟩
abbrev impl_contains.Tab : Type := (Den [.str, .str, .int .i64] → Option impl_contains.R) × (Den [.str, .str, .int .i64, .bool] → Option impl_contains.R) × Unit
def impl_contains.start (m : Nat) (t : impl_contains.Tab) (x0 : ByteArray) (x1 : ByteArray) : Option impl_contains.R :=
  t.1 (x0, x1, (0 : Int), ())
def impl_contains.b0 (m : Nat) (t : impl_contains.Tab) (a0 : ByteArray) (a1 : ByteArray) (a2 : Int) : Option impl_contains.R :=
  lett ((decide ((w64 (a2 + (sLen a1))) ≤ (sLen a0))) : Bool) fun v1 => cond v1 (cond (decide ((0 : Int) ≤ (w64 (a2 + (sLen a1))))) (cond (decide ((w64 (a2 + (sLen a1))) ≤ (ByteArray.size a0 : Int))) (cond (decide ((0 : Int) ≤ a2)) (cond (decide (a2 ≤ (w64 (a2 + (sLen a1))))) (lett ((cutS a0 (Int.toNat a2) (Int.toNat (w64 (a2 + (sLen a1))))) : ByteArray) fun v2 => cond (sEq v2 a1) (cond (a2 == (0 : Int)) (cond ((w64 (a2 + (sLen a1))) == (sLen a0)) (t.2.1 (a0, a1, a2, true, ())) (cond (decide ((0 : Int) ≤ (w64 (a2 + (sLen a1))))) (cond (decide ((w64 (a2 + (sLen a1))) < sLen a0)) (Option.bind (impl_isNameByte m ((byteAt a0 (w64 (a2 + (sLen a1)))), ())) fun r3 => t.2.1 (a0, a1, a2, (!r3.1), ())) none) none)) (cond (decide ((0 : Int) ≤ (w64 (a2 - (1 : Int))))) (cond (decide ((w64 (a2 - (1 : Int))) < sLen a0)) (Option.bind (impl_isNameByte m ((byteAt a0 (w64 (a2 - (1 : Int)))), ())) fun r4 => cond (!r4.1) (cond ((w64 (a2 + (sLen a1))) == (sLen a0)) (t.2.1 (a0, a1, a2, true, ())) (cond (decide ((0 : Int) ≤ (w64 (a2 + (sLen a1))))) (cond (decide ((w64 (a2 + (sLen a1))) < sLen a0)) (Option.bind (impl_isNameByte m ((byteAt a0 (w64 (a2 + (sLen a1)))), ())) fun r5 => t.2.1 (a0, a1, a2, (!r5.1), ())) none) none)) (t.2.1 (a0, a1, a2, false, ()))) none) none)) (t.2.1 (a0, a1, a2, false, ()))) none) none) none) none) (some (false, ()))
def impl_contains.b1 (m : Nat) (t : impl_contains.Tab) (a0 : ByteArray) (a1 : ByteArray) (a2 : Int) (a3 : Bool) : Option impl_contains.R :=
  cond a3 (some (true, ())) (t.1 (a0, a1, (w64 (a2 + (1 : Int))), ()))
def impl_contains.tab (m : Nat) : Nat → impl_contains.Tab
  | 0 => (fun _ => none, fun _ => none, ())
  | k + 1 => (fun x => impl_contains.b0 m (impl_contains.tab m k) x.1 x.2.1 x.2.2.1, fun x => impl_contains.b1 m (impl_contains.tab m k) x.1 x.2.1 x.2.2.1 x.2.2.2.1, ())
def impl_contains (m : Nat) (x : Den [.str, .str]) : Option impl_contains.R := impl_contains.start m (impl_contains.tab m m) x.1 x.2.1
def impl_contains.cons (m : Nat) : List (Nat × Contract) := [(87, ⟨impl_isNameByte.sig, impl_isNameByte m⟩)]
def impl_contains.cuts (m : Nat) : List (CutF (Den impl_contains.sig.us)) := [⟨[false, true, false, true], 26, ⟨[], [(0, .l (.dat (.str))), (1, .l (.dat (.str))), (5, .l (.dat (.int .i64)))]⟩, [.str, .str, .int .i64], fun k => (impl_contains.tab m k).1⟩,
  ⟨[true, true, false, false, true, false, false, true, false, true], 1683, ⟨[], [(0, .l (.dat (.str))), (1, .l (.dat (.str))), (5, .l (.dat (.int .i64))), (50, .l (.dat (.bool)))]⟩, [.str, .str, .int .i64, .bool], fun k => (impl_contains.tab m k).2.1⟩]
theorem impl_contains.eq0 (m k : Nat) (x : Den [.str, .str, .int .i64]) : (impl_contains.tab m (k + 1)).1 x = runF ⟨lookΓ Γl, lookC (impl_contains.cons m), false⟩ Tryd.f90 impl_contains.sig (impl_contains.cuts m) k [false, true, false, true] ⟨[], [(0, .l (.dat (.str))), (1, .l (.dat (.str))), (5, .l (.dat (.int .i64)))]⟩ [.str, .str, .int .i64] x := by kernel_rfl
theorem impl_contains.eq1 (m k : Nat) (x : Den [.str, .str, .int .i64, .bool]) : (impl_contains.tab m (k + 1)).2.1 x = runF ⟨lookΓ Γl, lookC (impl_contains.cons m), false⟩ Tryd.f90 impl_contains.sig (impl_contains.cuts m) k [true, true, false, false, true, false, false, true, false, true] ⟨[], [(0, .l (.dat (.str))), (1, .l (.dat (.str))), (5, .l (.dat (.int .i64))), (50, .l (.dat (.bool)))]⟩ [.str, .str, .int .i64, .bool] x := by kernel_rfl
theorem impl_contains.eq (m : Nat) (x : Den impl_contains.sig.ts) : impl_contains m x = startF ⟨lookΓ Γl, lookC (impl_contains.cons m), false⟩ Tryd.f90 impl_contains.sig (impl_contains.cuts m) m x := by kernel_rfl
theorem impl_contains.ok (m : Nat) : Meets Tryd.prog 90 impl_contains.sig (impl_contains m) :=
  fn_is (cx_is tyOk mixed (l := impl_contains.cons m) ⟨impl_isNameByte.ok m, trivial⟩) (fn := Tryd.f90) Tryd.func90 (by kernel_rfl) (cl := impl_contains.cuts m) ⟨⟨by kernel_rfl, fun _ => rfl, fun k x => impl_contains.eq0 m k x⟩, ⟨by kernel_rfl, fun _ => rfl, fun k x => impl_contains.eq1 m k x⟩, trivial⟩ (k := m) (impl_contains.eq m)

/-! ### loop.example/stemma/impl.seek$1: function 89 -/
abbrev impl_seek_1_v0.R : Type := Den [.str, .bool]
def impl_seek_1_v0.sig : Sig := ⟨2, ⟨[.box [.dat (.str)]], [(0, .l (.dat (.str))), (1, .l (.ptr 0 0))]⟩, [.str, .str], ⟨[.box [.dat (.str)]], [(0, .l (.dat (.bool)))]⟩, [.str, .bool]⟩
abbrev impl_seek_1_v0.Tab : Type := Unit
def impl_seek_1_v0.start (m : Nat) (t : impl_seek_1_v0.Tab) (x0 : ByteArray) (x1 : ByteArray) : Option impl_seek_1_v0.R :=
  Option.bind (impl_contains m (x1, x0, ())) fun r1 => some (x0, r1.1, ())
def impl_seek_1_v0.tab (m : Nat) : Nat → impl_seek_1_v0.Tab
  | 0 => (())
  | k + 1 => (())
def impl_seek_1_v0 (m : Nat) (x : Den [.str, .str]) : Option impl_seek_1_v0.R := impl_seek_1_v0.start m (impl_seek_1_v0.tab m m) x.1 x.2.1
def impl_seek_1_v0.cons (m : Nat) : List (Nat × Contract) := [(90, ⟨impl_contains.sig, impl_contains m⟩)]
def impl_seek_1_v0.cuts (m : Nat) : List (CutF (Den impl_seek_1_v0.sig.us)) := []
theorem impl_seek_1_v0.eq (m : Nat) (x : Den impl_seek_1_v0.sig.ts) : impl_seek_1_v0 m x = startF ⟨lookΓ Γl, lookC (impl_seek_1_v0.cons m), false⟩ Tryd.f89 impl_seek_1_v0.sig (impl_seek_1_v0.cuts m) m x := by kernel_rfl
theorem impl_seek_1_v0.ok (m : Nat) : Meets Tryd.prog 89 impl_seek_1_v0.sig (impl_seek_1_v0 m) :=
  fn_is (cx_is tyOk mixed (l := impl_seek_1_v0.cons m) ⟨impl_contains.ok m, trivial⟩) (fn := Tryd.f89) Tryd.func89 (by kernel_rfl) (cl := impl_seek_1_v0.cuts m) trivial (k := m) (impl_seek_1_v0.eq m)

/-! ### slices.IndexFunc[[]string,string]: function 108 -/
abbrev slices_IndexFunc_string_of_impl_seek_1.R : Type := Den [.str, .int .i64]
def slices_IndexFunc_string_of_impl_seek_1.sig : Sig := ⟨2, ⟨[.box [.dat (.str)]], [(0, .l (.dat (.list (.str)))), (1, .l (.fn 89 [0]))]⟩, [.str, .list (.str)], ⟨[.box [.dat (.str)]], [(0, .l (.dat (.int .i64)))]⟩, [.str, .int .i64]⟩
abbrev slices_IndexFunc_string_of_impl_seek_1.Tab : Type := (Den [.str, .list (.str), .int .i64, .int .i64] → Option slices_IndexFunc_string_of_impl_seek_1.R) × Unit
def slices_IndexFunc_string_of_impl_seek_1.start (m : Nat) (t : slices_IndexFunc_string_of_impl_seek_1.Tab) (x0 : ByteArray) (x1 : List ByteArray) : Option slices_IndexFunc_string_of_impl_seek_1.R :=
  t.1 (x0, x1, (lLen x1), (0 : Int), ())
def slices_IndexFunc_string_of_impl_seek_1.b0 (m : Nat) (t : slices_IndexFunc_string_of_impl_seek_1.Tab) (a0 : ByteArray) (a1 : List ByteArray) (a2 : Int) (a3 : Int) : Option slices_IndexFunc_string_of_impl_seek_1.R :=
  cond (decide (a3 < a2)) (cond (decide ((0 : Int) ≤ a3)) (cond (decide (a3 < lLen a1)) (Option.bind (impl_seek_1_v0 m (a0, (getL a1 a3 ByteArray.empty), ())) fun r1 => cond r1.2.1 (some (r1.1, a3, ())) (t.1 (r1.1, a1, a2, (w64 (a3 + (1 : Int))), ()))) none) none) (some (a0, (-1 : Int), ()))
def slices_IndexFunc_string_of_impl_seek_1.tab (m : Nat) : Nat → slices_IndexFunc_string_of_impl_seek_1.Tab
  | 0 => (fun _ => none, ())
  | k + 1 => (fun x => slices_IndexFunc_string_of_impl_seek_1.b0 m (slices_IndexFunc_string_of_impl_seek_1.tab m k) x.1 x.2.1 x.2.2.1 x.2.2.2.1, ())
def slices_IndexFunc_string_of_impl_seek_1 (m : Nat) (x : Den [.str, .list (.str)]) : Option slices_IndexFunc_string_of_impl_seek_1.R := slices_IndexFunc_string_of_impl_seek_1.start m (slices_IndexFunc_string_of_impl_seek_1.tab m m) x.1 x.2.1
def slices_IndexFunc_string_of_impl_seek_1.cons (m : Nat) : List (Nat × Contract) := [(89, ⟨impl_seek_1_v0.sig, impl_seek_1_v0 m⟩)]
def slices_IndexFunc_string_of_impl_seek_1.cuts (m : Nat) : List (CutF (Den slices_IndexFunc_string_of_impl_seek_1.sig.us)) := [⟨[false, true, false, true], 26, ⟨[.box [.dat (.str)]], [(0, .l (.dat (.list (.str)))), (1, .l (.fn 89 [0])), (7, .l (.dat (.int .i64))), (8, .l (.dat (.int .i64)))]⟩, [.str, .list (.str), .int .i64, .int .i64], fun k => (slices_IndexFunc_string_of_impl_seek_1.tab m k).1⟩]
theorem slices_IndexFunc_string_of_impl_seek_1.eq0 (m k : Nat) (x : Den [.str, .list (.str), .int .i64, .int .i64]) : (slices_IndexFunc_string_of_impl_seek_1.tab m (k + 1)).1 x = runF ⟨lookΓ Γl, lookC (slices_IndexFunc_string_of_impl_seek_1.cons m), false⟩ Tryd.f108 slices_IndexFunc_string_of_impl_seek_1.sig (slices_IndexFunc_string_of_impl_seek_1.cuts m) k [false, true, false, true] ⟨[.box [.dat (.str)]], [(0, .l (.dat (.list (.str)))), (1, .l (.fn 89 [0])), (7, .l (.dat (.int .i64))), (8, .l (.dat (.int .i64)))]⟩ [.str, .list (.str), .int .i64, .int .i64] x := by kernel_rfl
theorem slices_IndexFunc_string_of_impl_seek_1.eq (m : Nat) (x : Den slices_IndexFunc_string_of_impl_seek_1.sig.ts) : slices_IndexFunc_string_of_impl_seek_1 m x = startF ⟨lookΓ Γl, lookC (slices_IndexFunc_string_of_impl_seek_1.cons m), false⟩ Tryd.f108 slices_IndexFunc_string_of_impl_seek_1.sig (slices_IndexFunc_string_of_impl_seek_1.cuts m) m x := by kernel_rfl
theorem slices_IndexFunc_string_of_impl_seek_1.ok (m : Nat) : Meets Tryd.prog 108 slices_IndexFunc_string_of_impl_seek_1.sig (slices_IndexFunc_string_of_impl_seek_1 m) :=
  fn_is (cx_is tyOk mixed (l := slices_IndexFunc_string_of_impl_seek_1.cons m) ⟨impl_seek_1_v0.ok m, trivial⟩) (fn := Tryd.f108) Tryd.func108 (by kernel_rfl) (cl := slices_IndexFunc_string_of_impl_seek_1.cuts m) ⟨⟨by kernel_rfl, fun _ => rfl, fun k x => slices_IndexFunc_string_of_impl_seek_1.eq0 m k x⟩, trivial⟩ (k := m) (slices_IndexFunc_string_of_impl_seek_1.eq m)

/-! ### slices.ContainsFunc[[]string,string]: function 73 -/
abbrev slices_ContainsFunc_string_of_impl_seek_1.R : Type := Den [.str, .bool]
def slices_ContainsFunc_string_of_impl_seek_1.sig : Sig := ⟨2, ⟨[.box [.dat (.str)]], [(0, .l (.dat (.list (.str)))), (1, .l (.fn 89 [0]))]⟩, [.str, .list (.str)], ⟨[.box [.dat (.str)]], [(0, .l (.dat (.bool)))]⟩, [.str, .bool]⟩
abbrev slices_ContainsFunc_string_of_impl_seek_1.Tab : Type := Unit
def slices_ContainsFunc_string_of_impl_seek_1.start (m : Nat) (t : slices_ContainsFunc_string_of_impl_seek_1.Tab) (x0 : ByteArray) (x1 : List ByteArray) : Option slices_ContainsFunc_string_of_impl_seek_1.R :=
  Option.bind (slices_IndexFunc_string_of_impl_seek_1 m (x0, x1, ())) fun r1 => some (r1.1, (decide (r1.2.1 ≥ (0 : Int))), ())
def slices_ContainsFunc_string_of_impl_seek_1.tab (m : Nat) : Nat → slices_ContainsFunc_string_of_impl_seek_1.Tab
  | 0 => (())
  | k + 1 => (())
def slices_ContainsFunc_string_of_impl_seek_1 (m : Nat) (x : Den [.str, .list (.str)]) : Option slices_ContainsFunc_string_of_impl_seek_1.R := slices_ContainsFunc_string_of_impl_seek_1.start m (slices_ContainsFunc_string_of_impl_seek_1.tab m m) x.1 x.2.1
def slices_ContainsFunc_string_of_impl_seek_1.cons (m : Nat) : List (Nat × Contract) := [(108, ⟨slices_IndexFunc_string_of_impl_seek_1.sig, slices_IndexFunc_string_of_impl_seek_1 m⟩)]
def slices_ContainsFunc_string_of_impl_seek_1.cuts (m : Nat) : List (CutF (Den slices_ContainsFunc_string_of_impl_seek_1.sig.us)) := []
theorem slices_ContainsFunc_string_of_impl_seek_1.eq (m : Nat) (x : Den slices_ContainsFunc_string_of_impl_seek_1.sig.ts) : slices_ContainsFunc_string_of_impl_seek_1 m x = startF ⟨lookΓ Γl, lookC (slices_ContainsFunc_string_of_impl_seek_1.cons m), false⟩ Tryd.f73 slices_ContainsFunc_string_of_impl_seek_1.sig (slices_ContainsFunc_string_of_impl_seek_1.cuts m) m x := by kernel_rfl
theorem slices_ContainsFunc_string_of_impl_seek_1.ok (m : Nat) : Meets Tryd.prog 73 slices_ContainsFunc_string_of_impl_seek_1.sig (slices_ContainsFunc_string_of_impl_seek_1 m) :=
  fn_is (cx_is tyOk mixed (l := slices_ContainsFunc_string_of_impl_seek_1.cons m) ⟨slices_IndexFunc_string_of_impl_seek_1.ok m, trivial⟩) (fn := Tryd.f73) Tryd.func73 (by kernel_rfl) (cl := slices_ContainsFunc_string_of_impl_seek_1.cuts m) trivial (k := m) (slices_ContainsFunc_string_of_impl_seek_1.eq m)

/-! ### loop.example/stemma/impl.seek: function 48 -/
abbrev impl_seek.R : Type := Den [.list (.str)]
def impl_seek.sig : Sig := ⟨2, ⟨[], [(0, .l (.dat (.list (.pair (.str) (.list (.str)))))), (1, .l (.dat (.str)))]⟩, [.list (.pair (.str) (.list (.str))), .str], ⟨[.row true (.str)], [(0, .l (.sl 0))]⟩, [.list (.str)]⟩
abbrev impl_seek.Tab : Type := (Den [.str, .list (.str), .list (.pair (.str) (.list (.str))), .int .i64, .int .i64] → Option impl_seek.R) × Unit
def impl_seek.start (m : Nat) (t : impl_seek.Tab) (x0 : List (ByteArray × List ByteArray)) (x1 : ByteArray) : Option impl_seek.R :=
  t.1 (x1, [], x0, (lLen x0), (0 : Int), ())
def impl_seek.b0 (m : Nat) (t : impl_seek.Tab) (a0 : ByteArray) (a1 : List ByteArray) (a2 : List (ByteArray × List ByteArray)) (a3 : Int) (a4 : Int) : Option impl_seek.R :=
  cond (decide (a4 < a3)) (cond (decide ((0 : Int) ≤ a4)) (cond (decide (a4 < lLen a2)) (lett ((getL a2 a4 (ByteArray.empty, ([] : List ByteArray))) : ByteArray × List ByteArray) fun v1 => Option.bind (slices_ContainsFunc_string_of_impl_seek_1 m (a0, v1.2, ())) fun r2 => cond r2.2.1 (cond (decide (List.length a1 + List.length ([v1.1] : List ByteArray) ≤ apCap)) (t.1 (r2.1, (List.append a1 ([v1.1] : List ByteArray)), a2, a3, (w64 (a4 + (1 : Int))), ())) none) (t.1 (r2.1, a1, a2, a3, (w64 (a4 + (1 : Int))), ()))) none) none) (some (a1, ()))
def impl_seek.tab (m : Nat) : Nat → impl_seek.Tab
  | 0 => (fun _ => none, ())
  | k + 1 => (fun x => impl_seek.b0 m (impl_seek.tab m k) x.1 x.2.1 x.2.2.1 x.2.2.2.1 x.2.2.2.2.1, ())
def impl_seek (m : Nat) (x : Den [.list (.pair (.str) (.list (.str))), .str]) : Option impl_seek.R := impl_seek.start m (impl_seek.tab m m) x.1 x.2.1
def impl_seek.cons (m : Nat) : List (Nat × Contract) := [(73, ⟨slices_ContainsFunc_string_of_impl_seek_1.sig, slices_ContainsFunc_string_of_impl_seek_1 m⟩)]
def impl_seek.cuts (m : Nat) : List (CutF (Den impl_seek.sig.us)) := [⟨[false, true, false, true, true], 58, ⟨[.box [.dat (.str)], .row true (.str)], [(3, .l (.ptr 0 0)), (5, .l (.sl 1)), (9, .l (.dat (.list (.pair (.str) (.list (.str)))))), (10, .l (.dat (.int .i64))), (11, .l (.dat (.int .i64)))]⟩, [.str, .list (.str), .list (.pair (.str) (.list (.str))), .int .i64, .int .i64], fun k => (impl_seek.tab m k).1⟩]
theorem impl_seek.eq0 (m k : Nat) (x : Den [.str, .list (.str), .list (.pair (.str) (.list (.str))), .int .i64, .int .i64]) : (impl_seek.tab m (k + 1)).1 x = runF ⟨lookΓ Γl, lookC (impl_seek.cons m), false⟩ Tryd.f48 impl_seek.sig (impl_seek.cuts m) k [false, true, false, true, true] ⟨[.box [.dat (.str)], .row true (.str)], [(3, .l (.ptr 0 0)), (5, .l (.sl 1)), (9, .l (.dat (.list (.pair (.str) (.list (.str)))))), (10, .l (.dat (.int .i64))), (11, .l (.dat (.int .i64)))]⟩ [.str, .list (.str), .list (.pair (.str) (.list (.str))), .int .i64, .int .i64] x := by kernel_rfl
theorem impl_seek.eq (m : Nat) (x : Den impl_seek.sig.ts) : impl_seek m x = startF ⟨lookΓ Γl, lookC (impl_seek.cons m), false⟩ Tryd.f48 impl_seek.sig (impl_seek.cuts m) m x := by kernel_rfl
theorem impl_seek.ok (m : Nat) : Meets Tryd.prog 48 impl_seek.sig (impl_seek m) :=
  fn_is (cx_is tyOk mixed (l := impl_seek.cons m) ⟨slices_ContainsFunc_string_of_impl_seek_1.ok m, trivial⟩) (fn := Tryd.f48) Tryd.func48 (by kernel_rfl) (cl := impl_seek.cuts m) ⟨⟨by kernel_rfl, fun _ => rfl, fun k x => impl_seek.eq0 m k x⟩, trivial⟩ (k := m) (impl_seek.eq m)

/-! ### loop.example/stemma/impl.SeekTree: function 13 -/
abbrev impl_SeekTree.R : Type := Den [.list (.str)]
def impl_SeekTree.sig : Sig := ⟨2, ⟨[], [(0, .l (.dat (.list (.pair (.str) (.list (.str)))))), (1, .l (.dat (.str)))]⟩, [.list (.pair (.str) (.list (.str))), .str], ⟨[.row true (.str)], [(0, .l (.sl 0))]⟩, [.list (.str)]⟩
abbrev impl_SeekTree.Tab : Type := Unit
def impl_SeekTree.start (m : Nat) (t : impl_SeekTree.Tab) (x0 : List (ByteArray × List ByteArray)) (x1 : ByteArray) : Option impl_SeekTree.R :=
  Option.bind (impl_TreeOk m (x0, ())) fun r1 => cond (!r1.1) (some ([], ())) (Option.bind (impl_nameOk m (x1, ())) fun r2 => cond (!r2.1) (some ([], ())) (Option.bind (impl_seek m (x0, x1, ())) fun r3 => some (r3.1, ())))
def impl_SeekTree.tab (m : Nat) : Nat → impl_SeekTree.Tab
  | 0 => (())
  | k + 1 => (())
def impl_SeekTree (m : Nat) (x : Den [.list (.pair (.str) (.list (.str))), .str]) : Option impl_SeekTree.R := impl_SeekTree.start m (impl_SeekTree.tab m m) x.1 x.2.1
def impl_SeekTree.cons (m : Nat) : List (Nat × Contract) := [(30, ⟨impl_TreeOk.sig, impl_TreeOk m⟩), (47, ⟨impl_nameOk.sig, impl_nameOk m⟩), (48, ⟨impl_seek.sig, impl_seek m⟩)]
def impl_SeekTree.cuts (m : Nat) : List (CutF (Den impl_SeekTree.sig.us)) := []
theorem impl_SeekTree.eq (m : Nat) (x : Den impl_SeekTree.sig.ts) : impl_SeekTree m x = startF ⟨lookΓ Γl, lookC (impl_SeekTree.cons m), false⟩ Tryd.f13 impl_SeekTree.sig (impl_SeekTree.cuts m) m x := by kernel_rfl
theorem impl_SeekTree.ok (m : Nat) : Meets Tryd.prog 13 impl_SeekTree.sig (impl_SeekTree m) :=
  fn_is (cx_is tyOk mixed (l := impl_SeekTree.cons m) ⟨impl_TreeOk.ok m, impl_nameOk.ok m, impl_seek.ok m, trivial⟩) (fn := Tryd.f13) Tryd.func13 (by kernel_rfl) (cl := impl_SeekTree.cuts m) trivial (k := m) (impl_SeekTree.eq m)

/-! ### loop.example/stemma/laws.eqStringS: function 14 -/
abbrev laws_eqStringS.R : Type := Den [.bool]
def laws_eqStringS.sig : Sig := ⟨2, ⟨[], [(0, .l (.dat (.sp (.str)))), (1, .l (.dat (.sp (.str))))]⟩, [.sp (.str), .sp (.str)], ⟨[], [(0, .l (.dat (.bool)))]⟩, [.bool]⟩
abbrev laws_eqStringS.Tab : Type := (Den [.sp (.str), .sp (.str), .int .i64] → Option laws_eqStringS.R) × Unit
def laws_eqStringS.start (m : Nat) (t : laws_eqStringS.Tab) (x0 : List ByteArray × Nat) (x1 : List ByteArray × Nat) : Option laws_eqStringS.R :=
  cond ((x0.2 : Int) != (x1.2 : Int)) (some (false, ())) (t.1 (x0, x1, (0 : Int), ()))
def laws_eqStringS.b0 (m : Nat) (t : laws_eqStringS.Tab) (a0 : List ByteArray × Nat) (a1 : List ByteArray × Nat) (a2 : Int) : Option laws_eqStringS.R :=
  cond (decide (a2 < (a0.2 : Int))) (cond (decide ((0 : Int) ≤ a2)) (cond (decide (a2 < (a0.2 : Int))) (cond (decide ((0 : Int) ≤ a2)) (cond (decide (a2 < (a1.2 : Int))) (lett ((!sEq (getL a0.1 a2 ByteArray.empty) (getL a1.1 a2 ByteArray.empty)) : Bool) fun v1 => cond v1 (some (false, ())) (t.1 (a0, a1, (w64 (a2 + (1 : Int))), ()))) none) none) none) none) (some (true, ()))
def laws_eqStringS.tab (m : Nat) : Nat → laws_eqStringS.Tab
  | 0 => (fun _ => none, ())
  | k + 1 => (fun x => laws_eqStringS.b0 m (laws_eqStringS.tab m k) x.1 x.2.1 x.2.2.1, ())
def laws_eqStringS (m : Nat) (x : Den [.sp (.str), .sp (.str)]) : Option laws_eqStringS.R := laws_eqStringS.start m (laws_eqStringS.tab m m) x.1 x.2.1
def laws_eqStringS.cons (m : Nat) : List (Nat × Contract) := []
def laws_eqStringS.cuts (m : Nat) : List (CutF (Den laws_eqStringS.sig.us)) := [⟨[false, true, false, true, true], 58, ⟨[], [(0, .l (.dat (.sp (.str)))), (1, .l (.dat (.sp (.str)))), (5, .l (.dat (.int .i64)))]⟩, [.sp (.str), .sp (.str), .int .i64], fun k => (laws_eqStringS.tab m k).1⟩]
theorem laws_eqStringS.eq0 (m k : Nat) (x : Den [.sp (.str), .sp (.str), .int .i64]) : (laws_eqStringS.tab m (k + 1)).1 x = runF ⟨lookΓ Γs, lookC (laws_eqStringS.cons m), false⟩ Tryd.f14 laws_eqStringS.sig (laws_eqStringS.cuts m) k [false, true, false, true, true] ⟨[], [(0, .l (.dat (.sp (.str)))), (1, .l (.dat (.sp (.str)))), (5, .l (.dat (.int .i64)))]⟩ [.sp (.str), .sp (.str), .int .i64] x := by kernel_rfl
theorem laws_eqStringS.eq (m : Nat) (x : Den laws_eqStringS.sig.ts) : laws_eqStringS m x = startF ⟨lookΓ Γs, lookC (laws_eqStringS.cons m), false⟩ Tryd.f14 laws_eqStringS.sig (laws_eqStringS.cuts m) m x := by kernel_rfl
theorem laws_eqStringS.ok (m : Nat) : Meets Tryd.prog 14 laws_eqStringS.sig (laws_eqStringS m) :=
  fn_is (cx_is tyOks mixed (l := laws_eqStringS.cons m) trivial) (fn := Tryd.f14) Tryd.func14 (by kernel_rfl) (cl := laws_eqStringS.cuts m) ⟨⟨by kernel_rfl, fun _ => rfl, fun k x => laws_eqStringS.eq0 m k x⟩, trivial⟩ (k := m) (laws_eqStringS.eq m)

/-! ### loop.example/stemma/laws.intactStringS: function 24 -/
abbrev laws_intactStringS.R : Type := Den [.bool]
def laws_intactStringS.sig : Sig := ⟨2, ⟨[], [(0, .l (.dat (.sp (.str)))), (1, .l (.dat (.sp (.str))))]⟩, [.sp (.str), .sp (.str)], ⟨[], [(0, .l (.dat (.bool)))]⟩, [.bool]⟩
abbrev laws_intactStringS.Tab : Type := Unit
def laws_intactStringS.start (m : Nat) (t : laws_intactStringS.Tab) (x0 : List ByteArray × Nat) (x1 : List ByteArray × Nat) : Option laws_intactStringS.R :=
  Option.bind (laws_roomBehind m ((x1.2 : Int), ())) fun r1 => cond ((x0.2 : Int) == (x1.2 : Int)) (cond (decide ((0 : Int) ≤ (w64 ((x1.2 : Int) + r1.1)))) (cond (decide ((w64 ((x1.2 : Int) + r1.1)) ≤ ((List.length x0.1) : Int))) (lett ((cutL x0.1 0 (Int.toNat (w64 ((x1.2 : Int) + r1.1)))) : List ByteArray) fun v2 => cond (decide ((0 : Int) ≤ (w64 ((x1.2 : Int) + r1.1)))) (cond (decide ((w64 ((x1.2 : Int) + r1.1)) ≤ ((List.length x1.1) : Int))) (lett ((cutL x1.1 0 (Int.toNat (w64 ((x1.2 : Int) + r1.1)))) : List ByteArray) fun v3 => Option.bind (laws_eqStringS m ((v2, (List.length v2)), (v3, (List.length v3)), ())) fun r4 => some (r4.1, ())) none) none) none) none) (some (false, ()))
def laws_intactStringS.tab (m : Nat) : Nat → laws_intactStringS.Tab
  | 0 => (())
  | k + 1 => (())
def laws_intactStringS (m : Nat) (x : Den [.sp (.str), .sp (.str)]) : Option laws_intactStringS.R := laws_intactStringS.start m (laws_intactStringS.tab m m) x.1 x.2.1
def laws_intactStringS.cons (m : Nat) : List (Nat × Contract) := [(44, ⟨laws_roomBehind.sig, laws_roomBehind m⟩), (14, ⟨laws_eqStringS.sig, laws_eqStringS m⟩)]
def laws_intactStringS.cuts (m : Nat) : List (CutF (Den laws_intactStringS.sig.us)) := []
theorem laws_intactStringS.eq (m : Nat) (x : Den laws_intactStringS.sig.ts) : laws_intactStringS m x = startF ⟨lookΓ Γs, lookC (laws_intactStringS.cons m), false⟩ Tryd.f24 laws_intactStringS.sig (laws_intactStringS.cuts m) m x := by kernel_rfl
theorem laws_intactStringS.ok (m : Nat) : Meets Tryd.prog 24 laws_intactStringS.sig (laws_intactStringS m) :=
  fn_is (cx_is tyOks mixed (l := laws_intactStringS.cons m) ⟨laws_roomBehind.ok m, laws_eqStringS.ok m, trivial⟩) (fn := Tryd.f24) Tryd.func24 (by kernel_rfl) (cl := laws_intactStringS.cuts m) trivial (k := m) (laws_intactStringS.eq m)

/-! ### loop.example/stemma/laws.intactFile: function 49 -/
abbrev laws_intactFile.R : Type := Den [.bool]
def laws_intactFile.sig : Sig := ⟨2, ⟨[], [(0, .agg [.dat (.str), .dat (.sp (.str))]), (1, .agg [.dat (.str), .dat (.sp (.str))])]⟩, [.str, .sp (.str), .str, .sp (.str)], ⟨[], [(0, .l (.dat (.bool)))]⟩, [.bool]⟩
abbrev laws_intactFile.Tab : Type := Unit
def laws_intactFile.start (m : Nat) (t : laws_intactFile.Tab) (x0 : ByteArray) (x1 : List ByteArray × Nat) (x2 : ByteArray) (x3 : List ByteArray × Nat) : Option laws_intactFile.R :=
  cond (!sEq x0 x2) (some (false, ())) (Option.bind (laws_intactStringS m (x1, x3, ())) fun r1 => cond (!r1.1) (some (false, ())) (some (true, ())))
def laws_intactFile.tab (m : Nat) : Nat → laws_intactFile.Tab
  | 0 => (())
  | k + 1 => (())
def laws_intactFile (m : Nat) (x : Den [.str, .sp (.str), .str, .sp (.str)]) : Option laws_intactFile.R := laws_intactFile.start m (laws_intactFile.tab m m) x.1 x.2.1 x.2.2.1 x.2.2.2.1
def laws_intactFile.cons (m : Nat) : List (Nat × Contract) := [(24, ⟨laws_intactStringS.sig, laws_intactStringS m⟩)]
def laws_intactFile.cuts (m : Nat) : List (CutF (Den laws_intactFile.sig.us)) := []
theorem laws_intactFile.eq (m : Nat) (x : Den laws_intactFile.sig.ts) : laws_intactFile m x = startF ⟨lookΓ Γs, lookC (laws_intactFile.cons m), false⟩ Tryd.f49 laws_intactFile.sig (laws_intactFile.cuts m) m x := by kernel_rfl
theorem laws_intactFile.ok (m : Nat) : Meets Tryd.prog 49 laws_intactFile.sig (laws_intactFile m) :=
  fn_is (cx_is tyOks mixed (l := laws_intactFile.cons m) ⟨laws_intactStringS.ok m, trivial⟩) (fn := Tryd.f49) Tryd.func49 (by kernel_rfl) (cl := laws_intactFile.cuts m) trivial (k := m) (laws_intactFile.eq m)

/-! ### loop.example/stemma/laws.eqFile: function 59 -/
abbrev laws_eqFile.R : Type := Den [.bool]
def laws_eqFile.sig : Sig := ⟨2, ⟨[], [(0, .agg [.dat (.str), .dat (.sp (.str))]), (1, .agg [.dat (.str), .dat (.sp (.str))])]⟩, [.str, .sp (.str), .str, .sp (.str)], ⟨[], [(0, .l (.dat (.bool)))]⟩, [.bool]⟩
abbrev laws_eqFile.Tab : Type := Unit
def laws_eqFile.start (m : Nat) (t : laws_eqFile.Tab) (x0 : ByteArray) (x1 : List ByteArray × Nat) (x2 : ByteArray) (x3 : List ByteArray × Nat) : Option laws_eqFile.R :=
  cond (!sEq x0 x2) (some (false, ())) (Option.bind (laws_eqStringS m (x1, x3, ())) fun r1 => cond (!r1.1) (some (false, ())) (some (true, ())))
def laws_eqFile.tab (m : Nat) : Nat → laws_eqFile.Tab
  | 0 => (())
  | k + 1 => (())
def laws_eqFile (m : Nat) (x : Den [.str, .sp (.str), .str, .sp (.str)]) : Option laws_eqFile.R := laws_eqFile.start m (laws_eqFile.tab m m) x.1 x.2.1 x.2.2.1 x.2.2.2.1
def laws_eqFile.cons (m : Nat) : List (Nat × Contract) := [(14, ⟨laws_eqStringS.sig, laws_eqStringS m⟩)]
def laws_eqFile.cuts (m : Nat) : List (CutF (Den laws_eqFile.sig.us)) := []
theorem laws_eqFile.eq (m : Nat) (x : Den laws_eqFile.sig.ts) : laws_eqFile m x = startF ⟨lookΓ Γs, lookC (laws_eqFile.cons m), false⟩ Tryd.f59 laws_eqFile.sig (laws_eqFile.cuts m) m x := by kernel_rfl
theorem laws_eqFile.ok (m : Nat) : Meets Tryd.prog 59 laws_eqFile.sig (laws_eqFile m) :=
  fn_is (cx_is tyOks mixed (l := laws_eqFile.cons m) ⟨laws_eqStringS.ok m, trivial⟩) (fn := Tryd.f59) Tryd.func59 (by kernel_rfl) (cl := laws_eqFile.cuts m) trivial (k := m) (laws_eqFile.eq m)

/-! ### loop.example/stemma/laws.eqFileS: function 23 -/
abbrev laws_eqFileS.R : Type := Den [.bool]
def laws_eqFileS.sig : Sig := ⟨2, ⟨[], [(0, .l (.dat (.sp (.pair (.str) (.sp (.str)))))), (1, .l (.dat (.sp (.pair (.str) (.sp (.str))))))]⟩, [.sp (.pair (.str) (.sp (.str))), .sp (.pair (.str) (.sp (.str)))], ⟨[], [(0, .l (.dat (.bool)))]⟩, [.bool]⟩
abbrev laws_eqFileS.Tab : Type := (Den [.sp (.pair (.str) (.sp (.str))), .sp (.pair (.str) (.sp (.str))), .int .i64] → Option laws_eqFileS.R) × Unit
def laws_eqFileS.start (m : Nat) (t : laws_eqFileS.Tab) (x0 : List (ByteArray × (List ByteArray × Nat)) × Nat) (x1 : List (ByteArray × (List ByteArray × Nat)) × Nat) : Option laws_eqFileS.R :=
  cond ((x0.2 : Int) != (x1.2 : Int)) (some (false, ())) (t.1 (x0, x1, (0 : Int), ()))
def laws_eqFileS.b0 (m : Nat) (t : laws_eqFileS.Tab) (a0 : List (ByteArray × (List ByteArray × Nat)) × Nat) (a1 : List (ByteArray × (List ByteArray × Nat)) × Nat) (a2 : Int) : Option laws_eqFileS.R :=
  cond (decide (a2 < (a0.2 : Int))) (cond (decide ((0 : Int) ≤ a2)) (cond (decide (a2 < (a0.2 : Int))) (lett ((getL a0.1 a2 (ByteArray.empty, ([] : List ByteArray), (0 : Nat))) : ByteArray × (List ByteArray × Nat)) fun v1 => cond (decide ((0 : Int) ≤ a2)) (cond (decide (a2 < (a1.2 : Int))) (lett ((getL a1.1 a2 (ByteArray.empty, ([] : List ByteArray), (0 : Nat))) : ByteArray × (List ByteArray × Nat)) fun v2 => Option.bind (laws_eqFile m (v1.1, v1.2, v2.1, v2.2, ())) fun r3 => cond (!r3.1) (some (false, ())) (t.1 (a0, a1, (w64 (a2 + (1 : Int))), ()))) none) none) none) none) (some (true, ()))
def laws_eqFileS.tab (m : Nat) : Nat → laws_eqFileS.Tab
  | 0 => (fun _ => none, ())
  | k + 1 => (fun x => laws_eqFileS.b0 m (laws_eqFileS.tab m k) x.1 x.2.1 x.2.2.1, ())
def laws_eqFileS (m : Nat) (x : Den [.sp (.pair (.str) (.sp (.str))), .sp (.pair (.str) (.sp (.str)))]) : Option laws_eqFileS.R := laws_eqFileS.start m (laws_eqFileS.tab m m) x.1 x.2.1
def laws_eqFileS.cons (m : Nat) : List (Nat × Contract) := [(59, ⟨laws_eqFile.sig, laws_eqFile m⟩)]
def laws_eqFileS.cuts (m : Nat) : List (CutF (Den laws_eqFileS.sig.us)) := [⟨[false, true, false, true, true], 58, ⟨[], [(0, .l (.dat (.sp (.pair (.str) (.sp (.str)))))), (1, .l (.dat (.sp (.pair (.str) (.sp (.str)))))), (5, .l (.dat (.int .i64)))]⟩, [.sp (.pair (.str) (.sp (.str))), .sp (.pair (.str) (.sp (.str))), .int .i64], fun k => (laws_eqFileS.tab m k).1⟩]
theorem laws_eqFileS.eq0 (m k : Nat) (x : Den [.sp (.pair (.str) (.sp (.str))), .sp (.pair (.str) (.sp (.str))), .int .i64]) : (laws_eqFileS.tab m (k + 1)).1 x = runF ⟨lookΓ Γs, lookC (laws_eqFileS.cons m), false⟩ Tryd.f23 laws_eqFileS.sig (laws_eqFileS.cuts m) k [false, true, false, true, true] ⟨[], [(0, .l (.dat (.sp (.pair (.str) (.sp (.str)))))), (1, .l (.dat (.sp (.pair (.str) (.sp (.str)))))), (5, .l (.dat (.int .i64)))]⟩ [.sp (.pair (.str) (.sp (.str))), .sp (.pair (.str) (.sp (.str))), .int .i64] x := by kernel_rfl
theorem laws_eqFileS.eq (m : Nat) (x : Den laws_eqFileS.sig.ts) : laws_eqFileS m x = startF ⟨lookΓ Γs, lookC (laws_eqFileS.cons m), false⟩ Tryd.f23 laws_eqFileS.sig (laws_eqFileS.cuts m) m x := by kernel_rfl
theorem laws_eqFileS.ok (m : Nat) : Meets Tryd.prog 23 laws_eqFileS.sig (laws_eqFileS m) :=
  fn_is (cx_is tyOks mixed (l := laws_eqFileS.cons m) ⟨laws_eqFile.ok m, trivial⟩) (fn := Tryd.f23) Tryd.func23 (by kernel_rfl) (cl := laws_eqFileS.cuts m) ⟨⟨by kernel_rfl, fun _ => rfl, fun k x => laws_eqFileS.eq0 m k x⟩, trivial⟩ (k := m) (laws_eqFileS.eq m)

/-! ### loop.example/stemma/laws.intactFileS: function 15 -/
abbrev laws_intactFileS.R : Type := Den [.bool]
def laws_intactFileS.sig : Sig := ⟨2, ⟨[], [(0, .l (.dat (.sp (.pair (.str) (.sp (.str)))))), (1, .l (.dat (.sp (.pair (.str) (.sp (.str))))))]⟩, [.sp (.pair (.str) (.sp (.str))), .sp (.pair (.str) (.sp (.str)))], ⟨[], [(0, .l (.dat (.bool)))]⟩, [.bool]⟩
abbrev laws_intactFileS.Tab : Type := (Den [.sp (.pair (.str) (.sp (.str))), .sp (.pair (.str) (.sp (.str))), .int .i64, .int .i64] → Option laws_intactFileS.R) × Unit
def laws_intactFileS.start (m : Nat) (t : laws_intactFileS.Tab) (x0 : List (ByteArray × (List ByteArray × Nat)) × Nat) (x1 : List (ByteArray × (List ByteArray × Nat)) × Nat) : Option laws_intactFileS.R :=
  Option.bind (laws_roomBehind m ((x1.2 : Int), ())) fun r1 => cond ((x0.2 : Int) != (x1.2 : Int)) (some (false, ())) (t.1 (x0, x1, (w64 ((x1.2 : Int) + r1.1)), (0 : Int), ()))
def laws_intactFileS.b0 (m : Nat) (t : laws_intactFileS.Tab) (a0 : List (ByteArray × (List ByteArray × Nat)) × Nat) (a1 : List (ByteArray × (List ByteArray × Nat)) × Nat) (a2 : Int) (a3 : Int) : Option laws_intactFileS.R :=
  cond (decide (a3 < (a1.2 : Int))) (cond (decide ((0 : Int) ≤ a3)) (cond (decide (a3 < (a0.2 : Int))) (lett ((getL a0.1 a3 (ByteArray.empty, ([] : List ByteArray), (0 : Nat))) : ByteArray × (List ByteArray × Nat)) fun v1 => cond (decide ((0 : Int) ≤ a3)) (cond (decide (a3 < (a1.2 : Int))) (lett ((getL a1.1 a3 (ByteArray.empty, ([] : List ByteArray), (0 : Nat))) : ByteArray × (List ByteArray × Nat)) fun v2 => Option.bind (laws_intactFile m (v1.1, v1.2, v2.1, v2.2, ())) fun r3 => cond (!r3.1) (some (false, ())) (t.1 (a0, a1, a2, (w64 (a3 + (1 : Int))), ()))) none) none) none) none) (cond (decide ((0 : Int) ≤ a2)) (cond (decide (a2 ≤ ((List.length a0.1) : Int))) (cond (decide ((0 : Int) ≤ (a1.2 : Int))) (cond (decide ((a1.2 : Int) ≤ a2)) (lett ((cutL a0.1 (Int.toNat (a1.2 : Int)) (Int.toNat a2)) : List (ByteArray × (List ByteArray × Nat))) fun v4 => cond (decide ((0 : Int) ≤ a2)) (cond (decide (a2 ≤ ((List.length a1.1) : Int))) (cond (decide ((0 : Int) ≤ (a1.2 : Int))) (cond (decide ((a1.2 : Int) ≤ a2)) (lett ((cutL a1.1 (Int.toNat (a1.2 : Int)) (Int.toNat a2)) : List (ByteArray × (List ByteArray × Nat))) fun v5 => Option.bind (laws_eqFileS m ((v4, (List.length v4)), (v5, (List.length v5)), ())) fun r6 => some (r6.1, ())) none) none) none) none) none) none) none) none)
def laws_intactFileS.tab (m : Nat) : Nat → laws_intactFileS.Tab
  | 0 => (fun _ => none, ())
  | k + 1 => (fun x => laws_intactFileS.b0 m (laws_intactFileS.tab m k) x.1 x.2.1 x.2.2.1 x.2.2.2.1, ())
def laws_intactFileS (m : Nat) (x : Den [.sp (.pair (.str) (.sp (.str))), .sp (.pair (.str) (.sp (.str)))]) : Option laws_intactFileS.R := laws_intactFileS.start m (laws_intactFileS.tab m m) x.1 x.2.1
def laws_intactFileS.cons (m : Nat) : List (Nat × Contract) := [(44, ⟨laws_roomBehind.sig, laws_roomBehind m⟩), (49, ⟨laws_intactFile.sig, laws_intactFile m⟩), (23, ⟨laws_eqFileS.sig, laws_eqFileS m⟩)]
def laws_intactFileS.cuts (m : Nat) : List (CutF (Den laws_intactFileS.sig.us)) := [⟨[false, true, false, true, true, true], 122, ⟨[], [(0, .l (.dat (.sp (.pair (.str) (.sp (.str)))))), (1, .l (.dat (.sp (.pair (.str) (.sp (.str)))))), (5, .l (.dat (.int .i64))), (6, .l (.dat (.int .i64)))]⟩, [.sp (.pair (.str) (.sp (.str))), .sp (.pair (.str) (.sp (.str))), .int .i64, .int .i64], fun k => (laws_intactFileS.tab m k).1⟩]
theorem laws_intactFileS.eq0 (m k : Nat) (x : Den [.sp (.pair (.str) (.sp (.str))), .sp (.pair (.str) (.sp (.str))), .int .i64, .int .i64]) : (laws_intactFileS.tab m (k + 1)).1 x = runF ⟨lookΓ Γs, lookC (laws_intactFileS.cons m), false⟩ Tryd.f15 laws_intactFileS.sig (laws_intactFileS.cuts m) k [false, true, false, true, true, true] ⟨[], [(0, .l (.dat (.sp (.pair (.str) (.sp (.str)))))), (1, .l (.dat (.sp (.pair (.str) (.sp (.str)))))), (5, .l (.dat (.int .i64))), (6, .l (.dat (.int .i64)))]⟩ [.sp (.pair (.str) (.sp (.str))), .sp (.pair (.str) (.sp (.str))), .int .i64, .int .i64] x := by kernel_rfl
theorem laws_intactFileS.eq (m : Nat) (x : Den laws_intactFileS.sig.ts) : laws_intactFileS m x = startF ⟨lookΓ Γs, lookC (laws_intactFileS.cons m), false⟩ Tryd.f15 laws_intactFileS.sig (laws_intactFileS.cuts m) m x := by kernel_rfl
theorem laws_intactFileS.ok (m : Nat) : Meets Tryd.prog 15 laws_intactFileS.sig (laws_intactFileS m) :=
  fn_is (cx_is tyOks mixed (l := laws_intactFileS.cons m) ⟨laws_roomBehind.ok m, laws_intactFile.ok m, laws_eqFileS.ok m, trivial⟩) (fn := Tryd.f15) Tryd.func15 (by kernel_rfl) (cl := laws_intactFileS.cuts m) ⟨⟨by kernel_rfl, fun _ => rfl, fun k x => laws_intactFileS.eq0 m k x⟩, trivial⟩ (k := m) (laws_intactFileS.eq m)

/-! ### loop.example/stemma/laws.markText: function 50 -/
abbrev laws_markText.R : Type := Den [.str]
def laws_markText.sig : Sig := ⟨1, ⟨[], [(0, .l (.dat (.int .i64)))]⟩, [.int .i64], ⟨[], [(0, .l (.dat (.str)))]⟩, [.str]⟩
abbrev laws_markText.Tab : Type := (Den [.int .i64, .str] → Option laws_markText.R) × Unit
def laws_markText.start (m : Nat) (t : laws_markText.Tab) (x0 : Int) : Option laws_markText.R :=
  cond (decide (x0 ≤ (0 : Int))) (some (s_6d30, ())) (t.1 (x0, ByteArray.empty, ()))
def laws_markText.b0 (m : Nat) (t : laws_markText.Tab) (a0 : Int) (a1 : ByteArray) : Option laws_markText.R :=
  cond (decide (a0 > (0 : Int))) (cond ((10 : Int) == 0) none (lett ((w64 ((48 : Int) + (Int.tmod a0 (10 : Int)))) : Int) fun v1 => cond (decide (ByteArray.size (strOfNums [(wr .u8 v1)]) + ByteArray.size a1 ≤ cap)) (lett ((ByteArray.append (strOfNums [(wr .u8 v1)]) a1) : ByteArray) fun v2 => cond ((10 : Int) == 0) none (t.1 ((w64 (Int.tdiv a0 (10 : Int))), v2, ()))) none)) (cond (decide (ByteArray.size s_6d + ByteArray.size a1 ≤ cap)) (some ((ByteArray.append s_6d a1), ())) none)
def laws_markText.tab (m : Nat) : Nat → laws_markText.Tab
  | 0 => (fun _ => none, ())
  | k + 1 => (fun x => laws_markText.b0 m (laws_markText.tab m k) x.1 x.2.1, ())
def laws_markText (m : Nat) (x : Den [.int .i64]) : Option laws_markText.R := laws_markText.start m (laws_markText.tab m m) x.1
def laws_markText.cons (m : Nat) : List (Nat × Contract) := []
def laws_markText.cuts (m : Nat) : List (CutF (Den laws_markText.sig.us)) := [⟨[false, false, true, true, true], 60, ⟨[], [(0, .l (.dat (.int .i64))), (3, .l (.dat (.str)))]⟩, [.int .i64, .str], fun k => (laws_markText.tab m k).1⟩]
theorem laws_markText.eq0 (m k : Nat) (x : Den [.int .i64, .str]) : (laws_markText.tab m (k + 1)).1 x = runF ⟨lookΓ Γs, lookC (laws_markText.cons m), false⟩ Tryd.f50 laws_markText.sig (laws_markText.cuts m) k [false, false, true, true, true] ⟨[], [(0, .l (.dat (.int .i64))), (3, .l (.dat (.str)))]⟩ [.int .i64, .str] x := by kernel_rfl
theorem laws_markText.eq (m : Nat) (x : Den laws_markText.sig.ts) : laws_markText m x = startF ⟨lookΓ Γs, lookC (laws_markText.cons m), false⟩ Tryd.f50 laws_markText.sig (laws_markText.cuts m) m x := by kernel_rfl
theorem laws_markText.ok (m : Nat) : Meets Tryd.prog 50 laws_markText.sig (laws_markText m) :=
  fn_is (cx_is tyOks mixed (l := laws_markText.cons m) trivial) (fn := Tryd.f50) Tryd.func50 (by kernel_rfl) (cl := laws_markText.cuts m) ⟨⟨by kernel_rfl, fun _ => rfl, fun k x => laws_markText.eq0 m k x⟩, trivial⟩ (k := m) (laws_markText.eq m)

/-! ### loop.example/stemma/laws.markStringS: function 17 -/
abbrev laws_markStringS.R : Type := Den [.list (.str), .int .i64]
def laws_markStringS.sig : Sig := ⟨2, ⟨[.row true (.str)], [(0, .l (.slv 0)), (1, .l (.dat (.int .i64)))]⟩, [.list (.str), .int .i64, .int .i64], ⟨[.row true (.str)], [(0, .l (.dat (.int .i64)))]⟩, [.list (.str), .int .i64]⟩
abbrev laws_markStringS.Tab : Type := (Den [.list (.str), .int .i64, .int .i64, .int .i64] → Option laws_markStringS.R) × Unit
def laws_markStringS.start (m : Nat) (t : laws_markStringS.Tab) (x0 : List ByteArray) (x1 : Int) (x2 : Int) : Option laws_markStringS.R :=
  t.1 (x0, ((Int.toNat x1) : Int), x2, (0 : Int), ())
def laws_markStringS.b0 (m : Nat) (t : laws_markStringS.Tab) (a0 : List ByteArray) (a1 : Int) (a2 : Int) (a3 : Int) : Option laws_markStringS.R :=
  cond (decide (a3 < ((Int.toNat a1) : Int))) (Option.bind (laws_markText m (a2, ())) fun r1 => cond (decide ((0 : Int) ≤ a3)) (cond (decide (a3 < ((Int.toNat a1) : Int))) (t.1 ((List.set a0 (Int.toNat a3) r1.1), ((Int.toNat a1) : Int), (w64 (a2 + (1 : Int))), (w64 (a3 + (1 : Int))), ())) none) none) (some (a0, a2, ()))
def laws_markStringS.tab (m : Nat) : Nat → laws_markStringS.Tab
  | 0 => (fun _ => none, ())
  | k + 1 => (fun x => laws_markStringS.b0 m (laws_markStringS.tab m k) x.1 x.2.1 x.2.2.1 x.2.2.2.1, ())
def laws_markStringS (m : Nat) (x : Den [.list (.str), .int .i64, .int .i64]) : Option laws_markStringS.R := laws_markStringS.start m (laws_markStringS.tab m m) x.1 x.2.1 x.2.2.1
def laws_markStringS.cons (m : Nat) : List (Nat × Contract) := [(50, ⟨laws_markText.sig, laws_markText m⟩)]
def laws_markStringS.cuts (m : Nat) : List (CutF (Den laws_markStringS.sig.us)) := [⟨[false, true, false, true], 26, ⟨[.row true (.str)], [(0, .l (.slv 0)), (1, .l (.dat (.int .i64))), (5, .l (.dat (.int .i64)))]⟩, [.list (.str), .int .i64, .int .i64, .int .i64], fun k => (laws_markStringS.tab m k).1⟩]
theorem laws_markStringS.eq0 (m k : Nat) (x : Den [.list (.str), .int .i64, .int .i64, .int .i64]) : (laws_markStringS.tab m (k + 1)).1 x = runF ⟨lookΓ Γs, lookC (laws_markStringS.cons m), false⟩ Tryd.f17 laws_markStringS.sig (laws_markStringS.cuts m) k [false, true, false, true] ⟨[.row true (.str)], [(0, .l (.slv 0)), (1, .l (.dat (.int .i64))), (5, .l (.dat (.int .i64)))]⟩ [.list (.str), .int .i64, .int .i64, .int .i64] x := by kernel_rfl
theorem laws_markStringS.eq (m : Nat) (x : Den laws_markStringS.sig.ts) : laws_markStringS m x = startF ⟨lookΓ Γs, lookC (laws_markStringS.cons m), false⟩ Tryd.f17 laws_markStringS.sig (laws_markStringS.cuts m) m x := by kernel_rfl
theorem laws_markStringS.ok (m : Nat) : Meets Tryd.prog 17 laws_markStringS.sig (laws_markStringS m) :=
  fn_is (cx_is tyOks mixed (l := laws_markStringS.cons m) ⟨laws_markText.ok m, trivial⟩) (fn := Tryd.f17) Tryd.func17 (by kernel_rfl) (cl := laws_markStringS.cuts m) ⟨⟨by kernel_rfl, fun _ => rfl, fun k x => laws_markStringS.eq0 m k x⟩, trivial⟩ (k := m) (laws_markStringS.eq m)

/-! ### loop.example/stemma/laws.markFileS: function 16 -/
abbrev laws_markFileS.R : Type := Den [.list (.pair (.str) (.sp (.str))), .int .i64]
def laws_markFileS.sig : Sig := ⟨2, ⟨[.row true (.pair (.str) (.sp (.str)))], [(0, .l (.slv 0)), (1, .l (.dat (.int .i64)))]⟩, [.list (.pair (.str) (.sp (.str))), .int .i64, .int .i64], ⟨[.row true (.pair (.str) (.sp (.str)))], [(0, .l (.dat (.int .i64)))]⟩, [.list (.pair (.str) (.sp (.str))), .int .i64]⟩
abbrev laws_markFileS.Tab : Type := (Den [.list (.pair (.str) (.sp (.str))), .int .i64, .int .i64, .int .i64] → Option laws_markFileS.R) × Unit
def laws_markFileS.start (m : Nat) (t : laws_markFileS.Tab) (x0 : List (ByteArray × (List ByteArray × Nat))) (x1 : Int) (x2 : Int) : Option laws_markFileS.R :=
  t.1 (x0, ((Int.toNat x1) : Int), x2, (0 : Int), ())
def laws_markFileS.b0 (m : Nat) (t : laws_markFileS.Tab) (a0 : List (ByteArray × (List ByteArray × Nat))) (a1 : Int) (a2 : Int) (a3 : Int) : Option laws_markFileS.R :=
  cond (decide (a3 < ((Int.toNat a1) : Int))) (Option.bind (laws_markText m (a2, ())) fun r1 => cond (decide ((0 : Int) ≤ a3)) (cond (decide (a3 < ((Int.toNat a1) : Int))) (lett ((List.set a0 (Int.toNat a3) (r1.1, (List.getD a0 (Int.toNat a3) (ByteArray.empty, ([] : List ByteArray), (0 : Nat))).2)) : List (ByteArray × (List ByteArray × Nat))) fun v2 => cond (decide ((0 : Int) ≤ a3)) (cond (decide (a3 < ((Int.toNat a1) : Int))) (lett ((List.getD v2 (Int.toNat a3) (ByteArray.empty, ([] : List ByteArray), (0 : Nat))).2.1 : List ByteArray) fun v3 => Option.bind (laws_markStringS m (v3, ((List.getD v2 (Int.toNat a3) (ByteArray.empty, ([] : List ByteArray), (0 : Nat))).2.2 : Int), (w64 (a2 + (1 : Int))), ())) fun r4 => lett ((List.set v2 (Int.toNat a3) ((List.getD v2 (Int.toNat a3) (ByteArray.empty, ([] : List ByteArray), (0 : Nat))).1, r4.1, (List.getD v2 (Int.toNat a3) (ByteArray.empty, ([] : List ByteArray), (0 : Nat))).2.2)) : List (ByteArray × (List ByteArray × Nat))) fun v5 => t.1 (v5, ((Int.toNat a1) : Int), r4.2.1, (w64 (a3 + (1 : Int))), ())) none) none) none) none) (some (a0, a2, ()))
def laws_markFileS.tab (m : Nat) : Nat → laws_markFileS.Tab
  | 0 => (fun _ => none, ())
  | k + 1 => (fun x => laws_markFileS.b0 m (laws_markFileS.tab m k) x.1 x.2.1 x.2.2.1 x.2.2.2.1, ())
def laws_markFileS (m : Nat) (x : Den [.list (.pair (.str) (.sp (.str))), .int .i64, .int .i64]) : Option laws_markFileS.R := laws_markFileS.start m (laws_markFileS.tab m m) x.1 x.2.1 x.2.2.1
def laws_markFileS.cons (m : Nat) : List (Nat × Contract) := [(50, ⟨laws_markText.sig, laws_markText m⟩), (17, ⟨laws_markStringS.sig, laws_markStringS m⟩)]
def laws_markFileS.cuts (m : Nat) : List (CutF (Den laws_markFileS.sig.us)) := [⟨[false, true, false, true], 26, ⟨[.row true (.pair (.str) (.sp (.str)))], [(0, .l (.slv 0)), (1, .l (.dat (.int .i64))), (5, .l (.dat (.int .i64)))]⟩, [.list (.pair (.str) (.sp (.str))), .int .i64, .int .i64, .int .i64], fun k => (laws_markFileS.tab m k).1⟩]
theorem laws_markFileS.eq0 (m k : Nat) (x : Den [.list (.pair (.str) (.sp (.str))), .int .i64, .int .i64, .int .i64]) : (laws_markFileS.tab m (k + 1)).1 x = runF ⟨lookΓ Γs, lookC (laws_markFileS.cons m), false⟩ Tryd.f16 laws_markFileS.sig (laws_markFileS.cuts m) k [false, true, false, true] ⟨[.row true (.pair (.str) (.sp (.str)))], [(0, .l (.slv 0)), (1, .l (.dat (.int .i64))), (5, .l (.dat (.int .i64)))]⟩ [.list (.pair (.str) (.sp (.str))), .int .i64, .int .i64, .int .i64] x := by kernel_rfl
theorem laws_markFileS.eq (m : Nat) (x : Den laws_markFileS.sig.ts) : laws_markFileS m x = startF ⟨lookΓ Γs, lookC (laws_markFileS.cons m), false⟩ Tryd.f16 laws_markFileS.sig (laws_markFileS.cuts m) m x := by kernel_rfl
theorem laws_markFileS.ok (m : Nat) : Meets Tryd.prog 16 laws_markFileS.sig (laws_markFileS m) :=
  fn_is (cx_is tyOks mixed (l := laws_markFileS.cons m) ⟨laws_markText.ok m, laws_markStringS.ok m, trivial⟩) (fn := Tryd.f16) Tryd.func16 (by kernel_rfl) (cl := laws_markFileS.cuts m) ⟨⟨by kernel_rfl, fun _ => rfl, fun k x => laws_markFileS.eq0 m k x⟩, trivial⟩ (k := m) (laws_markFileS.eq m)

/-! ### loop.example/stemma/laws.heldStringS: function 18 -/
abbrev laws_heldStringS.R : Type := Den [.int .i64]
def laws_heldStringS.sig : Sig := ⟨2, ⟨[], [(0, .l (.dat (.sp (.str)))), (1, .l (.dat (.int .i64)))]⟩, [.sp (.str), .int .i64], ⟨[], [(0, .l (.dat (.int .i64)))]⟩, [.int .i64]⟩
abbrev laws_heldStringS.Tab : Type := (Den [.sp (.str), .int .i64, .int .i64] → Option laws_heldStringS.R) × Unit
def laws_heldStringS.start (m : Nat) (t : laws_heldStringS.Tab) (x0 : List ByteArray × Nat) (x1 : Int) : Option laws_heldStringS.R :=
  t.1 (x0, x1, (0 : Int), ())
def laws_heldStringS.b0 (m : Nat) (t : laws_heldStringS.Tab) (a0 : List ByteArray × Nat) (a1 : Int) (a2 : Int) : Option laws_heldStringS.R :=
  cond (decide (a2 < (a0.2 : Int))) (cond (decide ((0 : Int) ≤ a2)) (cond (decide (a2 < (a0.2 : Int))) (Option.bind (laws_markText m (a1, ())) fun r1 => lett ((!sEq (getL a0.1 a2 ByteArray.empty) r1.1) : Bool) fun v2 => cond v2 (some ((-1 : Int), ())) (t.1 (a0, (w64 (a1 + (1 : Int))), (w64 (a2 + (1 : Int))), ()))) none) none) (some (a1, ()))
def laws_heldStringS.tab (m : Nat) : Nat → laws_heldStringS.Tab
  | 0 => (fun _ => none, ())
  | k + 1 => (fun x => laws_heldStringS.b0 m (laws_heldStringS.tab m k) x.1 x.2.1 x.2.2.1, ())
def laws_heldStringS (m : Nat) (x : Den [.sp (.str), .int .i64]) : Option laws_heldStringS.R := laws_heldStringS.start m (laws_heldStringS.tab m m) x.1 x.2.1
def laws_heldStringS.cons (m : Nat) : List (Nat × Contract) := [(50, ⟨laws_markText.sig, laws_markText m⟩)]
def laws_heldStringS.cuts (m : Nat) : List (CutF (Den laws_heldStringS.sig.us)) := [⟨[false, true, false, true], 26, ⟨[], [(0, .l (.dat (.sp (.str)))), (1, .l (.dat (.int .i64))), (5, .l (.dat (.int .i64)))]⟩, [.sp (.str), .int .i64, .int .i64], fun k => (laws_heldStringS.tab m k).1⟩]
theorem laws_heldStringS.eq0 (m k : Nat) (x : Den [.sp (.str), .int .i64, .int .i64]) : (laws_heldStringS.tab m (k + 1)).1 x = runF ⟨lookΓ Γs, lookC (laws_heldStringS.cons m), false⟩ Tryd.f18 laws_heldStringS.sig (laws_heldStringS.cuts m) k [false, true, false, true] ⟨[], [(0, .l (.dat (.sp (.str)))), (1, .l (.dat (.int .i64))), (5, .l (.dat (.int .i64)))]⟩ [.sp (.str), .int .i64, .int .i64] x := by kernel_rfl
theorem laws_heldStringS.eq (m : Nat) (x : Den laws_heldStringS.sig.ts) : laws_heldStringS m x = startF ⟨lookΓ Γs, lookC (laws_heldStringS.cons m), false⟩ Tryd.f18 laws_heldStringS.sig (laws_heldStringS.cuts m) m x := by kernel_rfl
theorem laws_heldStringS.ok (m : Nat) : Meets Tryd.prog 18 laws_heldStringS.sig (laws_heldStringS m) :=
  fn_is (cx_is tyOks mixed (l := laws_heldStringS.cons m) ⟨laws_markText.ok m, trivial⟩) (fn := Tryd.f18) Tryd.func18 (by kernel_rfl) (cl := laws_heldStringS.cuts m) ⟨⟨by kernel_rfl, fun _ => rfl, fun k x => laws_heldStringS.eq0 m k x⟩, trivial⟩ (k := m) (laws_heldStringS.eq m)

/-! ### loop.example/stemma/laws.FnExactSeekTree: function 3 -/
abbrev laws_FnExactSeekTree.R : Type := Den [.bool]
def laws_FnExactSeekTree.sig : Sig := ⟨2, ⟨[], [(0, .l (.dat (.list (.pair (.str) (.list (.str)))))), (1, .l (.dat (.str)))]⟩, [.list (.pair (.str) (.list (.str))), .str], ⟨[], [(0, .l (.dat (.bool)))]⟩, [.bool]⟩
abbrev laws_FnExactSeekTree.Tab : Type := Unit
def laws_FnExactSeekTree.start (m : Nat) (t : laws_FnExactSeekTree.Tab) (x0 : List (ByteArray × List ByteArray)) (x1 : ByteArray) : Option laws_FnExactSeekTree.R :=
  Option.bind (laws_szFileS m (((List.map (fun z9 => (z9.1, z9.2, (List.length z9.2))) x0), (List.length x0)), (w64 ((1000000 : Int) - (sLen x1))), ())) fun r1 => cond (decide (r1.1 < (0 : Int))) (some (true, ())) (Option.bind (laws_toFileS m (((List.map (fun z10 => (z10.1, z10.2, (List.length z10.2))) x0), (List.length x0)), false, ())) fun r2 => Option.bind (spec_SeekTree m ((List.map (fun z11 => (z11.1, (List.take z11.2.2 z11.2.1))) (List.take (Int.toNat r2.2.1) r2.1)), x1, ())) fun r3 => Option.bind (laws_toFileS m (((List.map (fun z12 => (z12.1, z12.2, (List.length z12.2))) x0), (List.length x0)), false, ())) fun r4 => Option.bind (impl_SeekTree m ((List.map (fun z13 => (z13.1, (List.take z13.2.2 z13.2.1))) (List.take (Int.toNat r4.2.1) r4.1)), x1, ())) fun r5 => Option.bind (laws_eqStringS m ((r5.1, (List.length r5.1)), (r3.1, (List.length r3.1)), ())) fun r6 => cond (!r6.1) (some (false, ())) (Option.bind (laws_toFileS m (((List.map (fun z14 => (z14.1, z14.2, (List.length z14.2))) x0), (List.length x0)), false, ())) fun r7 => Option.bind (laws_intactFileS m ((r4.1, (Int.toNat r4.2.1)), (r7.1, (Int.toNat r7.2.1)), ())) fun r8 => cond (!r8.1) (some (false, ())) (Option.bind (laws_markFileS m (r4.1, ((Int.toNat r4.2.1) : Int), (101 : Int), ())) fun r9 => cond (decide (r9.2.1 < (0 : Int))) (some (false, ())) (Option.bind (laws_eqStringS m ((r5.1, (List.length r5.1)), (r3.1, (List.length r3.1)), ())) fun r10 => cond (!r10.1) (some (false, ())) (Option.bind (laws_markStringS m (r5.1, ((List.length r5.1 : Nat) : Int), (101 : Int), ())) fun r11 => Option.bind (laws_heldStringS m ((r11.1, (List.length r11.1)), (101 : Int), ())) fun r12 => cond (decide (r12.1 < (0 : Int))) (some (false, ())) (cond (r12.1 != r11.2.1) (some (false, ())) (Option.bind (laws_toFileS m (((List.map (fun z15 => (z15.1, z15.2, (List.length z15.2))) x0), (List.length x0)), true, ())) fun r13 => Option.bind (impl_SeekTree m ((List.map (fun z16 => (z16.1, (List.take z16.2.2 z16.2.1))) (List.take (Int.toNat r13.2.1) r13.1)), x1, ())) fun r14 => Option.bind (laws_eqStringS m ((r14.1, (List.length r14.1)), (r3.1, (List.length r3.1)), ())) fun r15 => cond (!r15.1) (some (false, ())) (Option.bind (laws_heldStringS m ((r11.1, (List.length r11.1)), (101 : Int), ())) fun r16 => cond (decide (r16.1 < (0 : Int))) (some (false, ())) (cond (r16.1 != r11.2.1) (some (false, ())) (some (true, ())))))))))))
def laws_FnExactSeekTree.tab (m : Nat) : Nat → laws_FnExactSeekTree.Tab
  | 0 => (())
  | k + 1 => (())
def laws_FnExactSeekTree (m : Nat) (x : Den [.list (.pair (.str) (.list (.str))), .str]) : Option laws_FnExactSeekTree.R := laws_FnExactSeekTree.start m (laws_FnExactSeekTree.tab m m) x.1 x.2.1
def laws_FnExactSeekTree.cons (m : Nat) : List (Nat × Contract) := [(10, ⟨laws_szFileS.sig, laws_szFileS m⟩), (12, ⟨laws_toFileS.sig, laws_toFileS m⟩), (11, ⟨spec_SeekTree.sig, spec_SeekTree m⟩), (13, ⟨impl_SeekTree.sig, impl_SeekTree m⟩), (14, ⟨laws_eqStringS.sig, laws_eqStringS m⟩), (15, ⟨laws_intactFileS.sig, laws_intactFileS m⟩), (16, ⟨laws_markFileS.sig, laws_markFileS m⟩), (17, ⟨laws_markStringS.sig, laws_markStringS m⟩), (18, ⟨laws_heldStringS.sig, laws_heldStringS m⟩)]
def laws_FnExactSeekTree.cuts (m : Nat) : List (CutF (Den laws_FnExactSeekTree.sig.us)) := []
theorem laws_FnExactSeekTree.eq (m : Nat) (x : Den laws_FnExactSeekTree.sig.ts) : laws_FnExactSeekTree m x = startF ⟨lookΓ Γs, lookC (laws_FnExactSeekTree.cons m), false⟩ Tryd.f3 laws_FnExactSeekTree.sig (laws_FnExactSeekTree.cuts m) m x := by kernel_rfl
theorem laws_FnExactSeekTree.ok (m : Nat) : Meets Tryd.prog 3 laws_FnExactSeekTree.sig (laws_FnExactSeekTree m) :=
  fn_is (cx_is tyOks mixed (l := laws_FnExactSeekTree.cons m) ⟨laws_szFileS.ok m, laws_toFileS.ok m, spec_SeekTree.ok m, impl_SeekTree.ok m, laws_eqStringS.ok m, laws_intactFileS.ok m, laws_markFileS.ok m, laws_markStringS.ok m, laws_heldStringS.ok m, trivial⟩) (fn := Tryd.f3) Tryd.func3 (by kernel_rfl) (cl := laws_FnExactSeekTree.cuts m) trivial (k := m) (laws_FnExactSeekTree.eq m)

end
end Go.Sx.Tryd
