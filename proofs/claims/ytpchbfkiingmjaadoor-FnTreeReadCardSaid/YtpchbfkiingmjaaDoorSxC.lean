/- Part 3 of a library of this repo: what a function of the program does to abstract values, and that this is sound. Holds for every program. -/
import Derived.Test.YtpchbfkiingmjaaDoorSxB
namespace Go.Sx
open Go
set_option linter.unusedVariables false
set_option linter.unusedSimpArgs false

abbrev Dat := (t : T) × t.den

inductive LF where
  | any | dat (t : T) | sl (j : Nat) | slv (j : Nat) | nils | err | ptr (j off : Nat) | fn (g : Nat) (caps : List Nat)

inductive CF where
  | l (a : LF)
  | agg (as : List LF)

inductive RF where
  | dead | box (cells : List LF) | row (deep : Bool) (t : T) | mat (t : T)

structure Tmpl where
  roots : List RF
  slots : List (Nat × CF)

structure St where
  e : Nat → AV
  rs : Rs
  c : Nat

/-! ### From data -/
def mkL : LF → List Dat → Option (LV × List Dat)
  | .any, l => some (.any, l)
  | .dat t, l => (match l with | ⟨t', x⟩ :: r => if t' = t then some (.dat t' x, r) else none | [] => none)
  | .sl j, l => some (.sl j, l)
  | .slv j, l => (match l with | ⟨.int .i64, x⟩ :: r => some (.slv j (Int.toNat x), r) | _ => none)
  | .nils, l => some (.nils, l)
  | .err, l => (match l with | ⟨.bool, x⟩ :: r => some (.err x, r) | _ => none)
  | .ptr j off, l => some (.ptr j off, l)
  | .fn g caps, l => some (.fn g caps, l)

def mkLs : List LF → List Dat → Option (List LV × List Dat)
  | [], l => some ([], l)
  | f :: fs, l => (match mkL f l with | some (a, l1) => (match mkLs fs l1 with | some (as, l2) => some (a :: as, l2) | none => none) | none => none)

def mkC : CF → List Dat → Option (CV × List Dat)
  | .l f, l => (match mkL f l with | some (a, r) => some (.l a, r) | none => none)
  | .agg fs, l => (match mkLs fs l with | some (as, r) => some (.agg as, r) | none => none)

def mkR : RF → List Dat → Option (Root × List Dat)
  | .dead, l => some (.dead, l)
  | .box fs, l => (match mkLs fs l with | some (as, r) => some (.box as, r) | none => none)
  | .row d t, l => (match l with | ⟨.list t', xs⟩ :: r => if t' = t then some (.row d t' xs, r) else none | _ => none)
  | .mat t, l => (match l with | ⟨.list (.list t'), xs⟩ :: r => if t' = t then some (.mat t' xs, r) else none | _ => none)

def mkRs : List RF → List Dat → Option (List Root × List Dat)
  | [], l => some ([], l)
  | f :: fs, l => (match mkR f l with | some (a, l1) => (match mkRs fs l1 with | some (as, l2) => some (a :: as, l2) | none => none) | none => none)

def mkE : List (Nat × CF) → List Dat → Option (List (Nat × CV) × List Dat)
  | [], l => some ([], l)
  | (t, f) :: fs, l => (match mkC f l with | some (a, l1) => (match mkE fs l1 with | some (as, l2) => some ((t, a) :: as, l2) | none => none) | none => none)

def lookE : List (Nat × CV) → Nat → AV
  | [], _ => .none
  | (t, a) :: r, i => cond (Nat.beq i t) (.c a) (lookE r i)

def lookR : List Root → Rs
  | [], _ => .dead
  | a :: r, i => (match i with | 0 => a | j + 1 => lookR r j)

def mkT (m : Tmpl) (l : List Dat) : Option St :=
  match mkRs m.roots l with
  | some (rs, l1) => (match mkE m.slots l1 with | some (e, []) => some ⟨lookE e, lookR rs, m.roots.length⟩ | _ => none)
  | none => none

/-! ### To data -/
def optL : List Nat → Nat → Option Nat
  | [], _ => none
  | a :: r, i => (match i with | 0 => some a | j + 1 => optL r j)

def idIs (ids : List Nat) (j id : Nat) : Bool := match optL ids j with | some i => Nat.beq i id | none => false

def idsAre (ids : List Nat) : List Nat → List Nat → Bool
  | [], [] => true
  | j :: js, i :: is => idIs ids j i && idsAre ids js is
  | _, _ => false

def chkL (rs : Rs) (ids : List Nat) : LF → LV → Option (List Dat)
  | .any, _ => some []
  | .dat t, a =>
    (match a with
     | .dat t' x => if t' = t then some [⟨t', x⟩] else if cvB t' t then some [⟨t, cv t' t x⟩] else none
     | .nils => (match t with | .list t1 => some [⟨.list t1, []⟩] | .sp t1 => some [⟨.sp t1, ([], 0)⟩] | _ => none)
     | .sl id => (match rs id with | .ro t' xs => if .list t' = t then some [⟨.list t', xs⟩] else if cvB (.list t') t then some [⟨t, cv (.list t') t xs⟩] else none | _ => none)
     | .slv id k => (match rs id with | .ro t' xs => if .sp t' = t then some [⟨.sp t', (xs, k)⟩] else if cvB (.sp t') t then some [⟨t, cv (.sp t') t (xs, k)⟩] else none | _ => none)
     | _ => none)
  | .sl j, a => (match a with | .sl id => if idIs ids j id then some [] else none | _ => none)
  | .slv j, a =>
    (match a with
     | .slv id k => if idIs ids j id then some [⟨.int .i64, (k : Int)⟩] else none
     | .sl id => (match rs id with | .row _ _ xs => if idIs ids j id then some [⟨.int .i64, (List.length xs : Int)⟩] else none | _ => none)
     | _ => none)
  | .nils, a => (match a with | .nils => some [] | _ => none)
  | .err, a => (match a with | .err b => some [⟨.bool, b⟩] | _ => none)
  | .ptr j off, a => (match a with | .ptr id off' => if idIs ids j id && Nat.beq off off' then some [] else none | _ => none)
  | .fn g caps, a => (match a with | .fn g' caps' => if Nat.beq g g' && idsAre ids caps caps' then some [] else none | _ => none)

def chkLs (rs : Rs) (ids : List Nat) : List LF → List LV → Option (List Dat)
  | [], [] => some []
  | f :: fs, a :: as => (match chkL rs ids f a with | some d => (match chkLs rs ids fs as with | some d' => some (d ++ d') | none => none) | none => none)
  | _, _ => none

def chkC (rs : Rs) (ids : List Nat) : CF → CV → Option (List Dat)
  | .l f, .l a => chkL rs ids f a
  | .agg fs, .agg as => chkLs rs ids fs as
  | _, _ => none

def chkR (rs : Rs) (ids : List Nat) : RF → Root → Option (List Dat)
  | .dead, _ => some []
  | .box fs, .box as => chkLs rs ids fs as
  | .row d t, .row d' t' xs => if (d = d' ∨ t'.plain = true) ∧ t' = t then some [⟨.list t', xs⟩] else none
  | .mat t, .mat t' xs => if t' = t then some [⟨.list (.list t'), xs⟩] else none
  | _, _ => none

def chkRs (ids0 : List Nat) (rs : Rs) : List RF → List Nat → Option (List Dat)
  | [], [] => some []
  | f :: fs, i :: is => (match chkR rs ids0 f (rs i) with | some d => (match chkRs ids0 rs fs is with | some d' => some (d ++ d') | none => none) | none => none)
  | _, _ => none

def chkE (rs : Rs) (ids : List Nat) (e : Nat → AV) : List (Nat × CF) → Option (List Dat)
  | [] => some []
  | (t, f) :: fs => (match e t with | .c a => (match chkC rs ids f a with | some d => (match chkE rs ids e fs with | some d' => some (d ++ d') | none => none) | none => none) | _ => none)

/-- the first m roots keep their numbers -/
def keep : Nat → List Nat → Nat → Bool
  | 0, _, _ => true
  | m + 1, i :: is, j => Nat.beq i j && keep m is (j + 1)
  | _ + 1, [], _ => false

def chkT (m : Tmpl) (ids : List Nat) (anch : Nat) (s : St) : Option (List Dat) :=
  if okCon s.c ids && keep anch ids 0 then
    (match chkRs ids s.rs m.roots ids with
     | some d => (match chkE s.rs ids s.e m.slots with | some d' => some (d ++ d') | none => none)
     | none => none)
  else none

/-! ### That is sound -/
def cutRV : RF → RV → RV
  | .dead, r => { r with S := [] }
  | _, r => r

def reR (ids : List Nat) (rfs : List RF) (R : Nat → RV) : Nat → RV := fun j =>
  match optL ids j with
  | some id => (match rfs[j]? with | some f => cutRV f (R id) | none => R id)
  | none => ⟨false, undef, []⟩

section
variable {R : Nat → RV} {F : Nat → Prop} {w : World}

theorem idIs_ok {ids : List Nat} {j id : Nat} (h : idIs ids j id = true) : optL ids j = some id := by
  unfold idIs at h
  split at h
  · rename_i i hi; rw [hi, Nat.eq_of_beq_eq_true h]
  · cases h

theorem reR_hdr {ids : List Nat} {rfs : List RF} {j id : Nat} (h : optL ids j = some id) : (reR ids rfs R j).live = (R id).live ∧ (reR ids rfs R j).hdr = (R id).hdr := by
  unfold reR
  rw [h]
  simp only
  split
  · rename_i f _; cases f <;> exact ⟨rfl, rfl⟩
  · exact ⟨rfl, rfl⟩

theorem PtrR_re {ids : List Nat} {rfs : List RF} {j id off : Nat} {v : Value} (h : optL ids j = some id) (hp : PtrR R id off v) : PtrR (reR ids rfs R) j off v := by
  obtain ⟨h1, b, h2, h3⟩ := hp
  obtain ⟨e1, e2⟩ := reR_hdr (R := R) (rfs := rfs) h
  exact ⟨e1.trans h1, b, e2.trans h2, h3⟩

theorem idsAre_ok {ids : List Nat} {rfs : List RF} : ∀ {js is : List Nat} {vs : List Value}, idsAre ids js is = true → All2 (fun id u => PtrR R id 0 u) is vs → All2 (fun id u => PtrR (reR ids rfs R) id 0 u) js vs
  | [], [], vs, _, h => by cases h; exact .nil
  | j :: js, i :: is, v :: vs, h, .cons hp hr => by
    simp only [idsAre, Bool.and_eq_true] at h
    exact .cons (PtrR_re (idIs_ok h.1) hp) (idsAre_ok h.2 hr)

/-- one cell of a state that is told from data -/
def SoL (rs : Rs) (ids : List Nat) (f : LF) (a : LV) (d : List Dat) : Prop :=
  ∀ rest, ∃ a', mkL f (d ++ rest) = some (a', rest) ∧ ∀ (rfs : List RF) (R : Nat → RV) (F : Nat → Prop) (w : World) (v : Value), (∀ j, RootOk F R w (rs j) (R j)) → LR R F w a v → LR (reR ids rfs R) F w a' v

theorem chkL_ok {rs : Rs} {ids : List Nat} {f : LF} {a : LV} {d : List Dat} (h : chkL rs ids f a = some d) : SoL rs ids f a d := by
  intro rest
  cases f with
  | any =>
    injection h with h; subst h
    exact ⟨.any, rfl, fun rfs R F w v hok hv => LR.one hv⟩
  | dat t =>
    simp only [chkL] at h
    split at h
    · rename_i t' x
      split at h
      · rename_i ht
        injection h with h; subst h
        exact ⟨.dat t' x, by simp [mkL, ht], fun rfs R F w v hok hv => hv⟩
      · split at h
        · rename_i hcv
          injection h with h; subst h
          exact ⟨.dat t (cv t' t x), by simp [mkL], fun rfs R F w v hok hv => cv_read hcv hv⟩
        · cases h
    · split at h
      · rename_i t1
        injection h with h; subst h
        refine ⟨.dat (.list t1) [], by simp [mkL], fun rfs R F w v hok hv => ?_⟩
        obtain ⟨A, rfl⟩ := hv
        exact ⟨A, 0, rfl, by simp, by simp, fun i x hi => by simp at hi⟩
      · rename_i t1
        injection h with h; subst h
        refine ⟨.dat (.sp t1) ([], 0), by simp [mkL], fun rfs R F w v hok hv => ?_⟩
        obtain ⟨A, rfl⟩ := hv
        exact ⟨A, 0, rfl, by simp, by simp, by simp, fun i x hi => by simp at hi⟩
      · cases h
    · rename_i id
      split at h
      · rename_i t' xs hrs
        split at h
        · rename_i ht
          injection h with h; subst h
          refine ⟨.dat (.list t') xs, by simp [mkL, ht], fun rfs R F w v hok hv => ?_⟩
          have := hok id
          rw [hrs] at this
          rw [hv.2.1]; exact this.2.2
        · split at h
          · rename_i hcv
            injection h with h; subst h
            refine ⟨.dat t (cv (.list t') t xs), by simp [mkL], fun rfs R F w v hok hv => ?_⟩
            have := hok id
            rw [hrs] at this
            refine cv_read hcv ?_
            rw [hv.2.1]; exact this.2.2
          · cases h
      · cases h
    · rename_i id k
      split at h
      · rename_i t' xs hrs
        have key : ∀ (R : Nat → RV) (F : Nat → Prop) (w : World) (v : Value), (∀ j, RootOk F R w (rs j) (R j)) → LR R F w (.slv id k) v → RdL F w (.sp t') (xs, k) [v] := fun R F w v hok hv => by
          have := hok id
          rw [hrs] at this
          obtain ⟨_, A, l, c, eh, ⟨hk, _⟩, rfl⟩ := hv
          exact ro_cut this.2.2 eh hk
        split at h
        · rename_i ht
          injection h with h; subst h
          exact ⟨.dat (.sp t') (xs, k), by simp [mkL, ht], fun rfs R F w v hok hv => key R F w v hok hv⟩
        · split at h
          · rename_i hcv
            injection h with h; subst h
            exact ⟨.dat t (cv (.sp t') t (xs, k)), by simp [mkL], fun rfs R F w v hok hv => cv_read hcv (key R F w v hok hv)⟩
          · cases h
      · cases h
    · cases h
  | slv j =>
    simp only [chkL] at h
    split at h
    · rename_i id k
      split at h
      · rename_i hi
        injection h with h; subst h
        refine ⟨.slv j k, rfl, fun rfs R F w v hok hv => ?_⟩
        obtain ⟨e1, e2⟩ := reR_hdr (R := R) (rfs := rfs) (idIs_ok hi)
        obtain ⟨hl, A, l, c, eh, hk, hv⟩ := hv
        exact ⟨e1.trans hl, A, l, c, e2.trans eh, hk, hv⟩
      · cases h
    · rename_i id
      split at h
      · rename_i d t' xs hrs
        split at h
        · rename_i hi
          injection h with h; subst h
          refine ⟨.slv j (List.length xs), rfl, fun rfs R F w v hok hv => ?_⟩
          obtain ⟨e1, e2⟩ := reR_hdr (R := R) (rfs := rfs) (idIs_ok hi)
          have hr := hok id
          rw [hrs] at hr
          obtain ⟨A, c, eh⟩ := row_hdr hr.2
          exact ⟨e1.trans hv.1, A, _, c, e2.trans eh, ⟨Nat.le_refl _, fun h0 => row_ptr hr.2 eh h0⟩, hv.2.1.trans eh⟩
        · cases h
      · cases h
    · cases h
  | sl j =>
    simp only [chkL] at h
    split at h
    · rename_i id
      split at h
      · rename_i hi
        injection h with h; subst h
        refine ⟨.sl j, rfl, fun rfs R F w v hok hv => ?_⟩
        obtain ⟨e1, e2⟩ := reR_hdr (R := R) (rfs := rfs) (idIs_ok hi)
        exact ⟨e1.trans hv.1, hv.2.1.trans e2.symm, hv.2.2⟩
      · cases h
    · cases h
  | nils =>
    simp only [chkL] at h
    split at h
    · injection h with h; subst h
      exact ⟨.nils, rfl, fun rfs R F w v hok hv => hv⟩
    · cases h
  | err =>
    simp only [chkL] at h
    split at h
    · rename_i b
      injection h with h; subst h
      exact ⟨.err b, rfl, fun rfs R F w v hok hv => hv⟩
    · cases h
  | ptr j off =>
    simp only [chkL] at h
    split at h
    · rename_i id off'
      split at h
      · rename_i hi
        simp only [Bool.and_eq_true] at hi
        injection h with h; subst h
        have : off = off' := Nat.eq_of_beq_eq_true hi.2
        subst this
        exact ⟨.ptr j off, rfl, fun rfs R F w v hok hv => PtrR_re (idIs_ok hi.1) hv⟩
      · cases h
    · cases h
  | fn g caps =>
    simp only [chkL] at h
    split at h
    · rename_i g' caps'
      split at h
      · rename_i hi
        simp only [Bool.and_eq_true] at hi
        injection h with h; subst h
        have : g = g' := Nat.eq_of_beq_eq_true hi.1
        subst this
        refine ⟨.fn g caps, rfl, fun rfs R F w v hok hv => ?_⟩
        obtain ⟨vs, e, hf⟩ := hv
        exact ⟨vs, e, idsAre_ok hi.2 hf⟩
      · cases h
    · cases h

theorem chkLs_ok {rs : Rs} {ids : List Nat} : ∀ {fs : List LF} {as : List LV} {d : List Dat}, chkLs rs ids fs as = some d → ∀ rest, ∃ as', mkLs fs (d ++ rest) = some (as', rest) ∧
    ∀ (rfs : List RF) (R : Nat → RV) (F : Nat → Prop) (w : World) (vs : List Value), (∀ j, RootOk F R w (rs j) (R j)) → All2 (LR R F w) as vs → All2 (LR (reR ids rfs R) F w) as' vs
  | [], [], d, h, rest => by
    injection h with h; subst h
    exact ⟨[], rfl, fun rfs R F w vs hok hv => by cases hv; exact .nil⟩
  | f :: fs, a :: as, d, h, rest => by
    simp only [chkLs] at h
    split at h
    · rename_i d1 h1
      split at h
      · rename_i d2 h2
        injection h with h; subst h
        obtain ⟨a', m1, r1⟩ := chkL_ok h1 (d2 ++ rest)
        obtain ⟨as', m2, r2⟩ := chkLs_ok h2 rest
        refine ⟨a' :: as', by simp [mkLs, List.append_assoc, m1, m2], fun rfs R F w vs hok hv => ?_⟩
        cases hv with
        | cons hp hr => exact .cons (r1 _ _ _ _ _ hok hp) (r2 _ _ _ _ _ hok hr)
      · cases h
    · cases h
  | [], _ :: _, d, h, _ => by cases h
  | _ :: _, [], d, h, _ => by cases h

theorem chkC_ok {rs : Rs} {ids : List Nat} {f : CF} {a : CV} {d : List Dat} (h : chkC rs ids f a = some d) (rest : List Dat) : ∃ a', mkC f (d ++ rest) = some (a', rest) ∧
    ∀ (rfs : List RF) (R : Nat → RV) (F : Nat → Prop) (w : World) (v : Value), (∀ j, RootOk F R w (rs j) (R j)) → CR R F w a v → CR (reR ids rfs R) F w a' v := by
  cases f with
  | l f =>
    cases a with
    | l a =>
      obtain ⟨a', m, r⟩ := chkL_ok (show chkL rs ids f a = some d from h) rest
      exact ⟨.l a', by simp [mkC, m], fun rfs R F w v hok hv => r _ _ _ _ _ hok hv⟩
    | agg as => cases h
  | agg fs =>
    cases a with
    | l a => cases h
    | agg as =>
      obtain ⟨as', m, r⟩ := chkLs_ok (show chkLs rs ids fs as = some d from h) rest
      refine ⟨.agg as', by simp [mkC, m], fun rfs R F w v hok hv => ?_⟩
      obtain ⟨cs, e, hf⟩ := hv
      exact ⟨cs, e, r _ _ _ _ _ hok hf⟩

theorem chkR_ok {rs : Rs} {ids : List Nat} {f : RF} {a : Root} {d : List Dat} (h : chkR rs ids f a = some d) (rest : List Dat) : ∃ a', mkR f (d ++ rest) = some (a', rest) ∧
    ∀ (rfs : List RF) (R : Nat → RV) (F : Nat → Prop) (w : World) (rv : RV), (∀ j, RootOk F R w (rs j) (R j)) → RootOk F R w a rv → RootOk F (reR ids rfs R) w a' (cutRV f rv) := by
  cases f with
  | dead => injection h with h; subst h; exact ⟨.dead, rfl, fun rfs R F w rv hok hv => rfl⟩
  | box fs =>
    cases a with
    | box as =>
      obtain ⟨as', m, r⟩ := chkLs_ok (show chkLs rs ids fs as = some d from h) rest
      refine ⟨.box as', by simp [mkR, m], fun rfs R F w rv hok hv => ?_⟩
      obtain ⟨h1, b, arr, ty, h2, h3, h4, h5⟩ := hv
      exact ⟨h1, b, arr, ty, h2, h3, h4, r _ _ _ _ _ hok h5⟩
    | _ => cases h
  | row d1 t =>
    cases a with
    | row d2 t' xs =>
      simp only [chkR] at h
      split at h
      · rename_i hi
        injection h with h; subst h
        refine ⟨.row d1 t' xs, by simp [mkR, hi.2], fun rfs R F w rv hok hv => ?_⟩
        show RootOk F _ w (.row d1 t' xs) rv
        exact ⟨hv.1, row_any hi.1 hv.2⟩
      · cases h
    | _ => cases h
  | mat t =>
    cases a with
    | mat t' xs =>
      simp only [chkR] at h
      split at h
      · rename_i hi
        injection h with h; subst h
        exact ⟨.mat t' xs, by simp [mkR, hi], fun rfs R F w rv hok hv => hv⟩
      · cases h
    | _ => cases h

theorem chkRs_ok {ids0 : List Nat} {rs : Rs} : ∀ {fs : List RF} {is : List Nat} {d : List Dat}, chkRs ids0 rs fs is = some d → ∀ rest, ∃ as', mkRs fs (d ++ rest) = some (as', rest) ∧ fs.length = is.length ∧
    (∀ (rfs : List RF) (R : Nat → RV) (F : Nat → Prop) (w : World), (∀ j, RootOk F R w (rs j) (R j)) → ∀ j id f, optL is j = some id → fs[j]? = some f → RootOk F (reR ids0 rfs R) w (lookR as' j) (cutRV f (R id))) ∧
    ∀ j, fs.length ≤ j → lookR as' j = .dead
  | [], [], d, h, rest => by
    injection h with h; subst h
    exact ⟨[], rfl, rfl, fun rfs R F w hv j id f hj => by (cases hj), fun j _ => rfl⟩
  | f :: fs, i :: is, d, h, rest => by
    simp only [chkRs] at h
    split at h
    · rename_i d1 h1
      split at h
      · rename_i d2 h2
        injection h with h; subst h
        obtain ⟨a', m1, r1⟩ := chkR_ok h1 (d2 ++ rest)
        obtain ⟨as', m2, e2, r2, r3⟩ := chkRs_ok h2 rest
        refine ⟨a' :: as', by simp [mkRs, List.append_assoc, m1, m2], by simp [e2], fun rfs R F w hv j id f' hj hf => ?_, fun j hj => ?_⟩
        · cases j with
          | zero =>
            simp only [optL, Option.some.injEq] at hj
            simp only [List.getElem?_cons_zero, Option.some.injEq] at hf
            subst hj hf
            exact r1 rfs R F w _ hv (hv i)
          | succ j => exact r2 rfs R F w hv j id f' hj (by simpa using hf)
        · cases j with
          | zero => simp at hj
          | succ j => exact r3 j (by simpa using hj)
      · cases h
    · cases h
  | [], _ :: _, d, h, _ => by cases h
  | _ :: _, [], d, h, _ => by cases h

theorem chkE_ok {rs : Rs} {ids : List Nat} {e : Nat → AV} : ∀ {fs : List (Nat × CF)} {d : List Dat}, chkE rs ids e fs = some d → ∀ rest, ∃ as', mkE fs (d ++ rest) = some (as', rest) ∧
    ∀ (rfs : List RF) (R : Nat → RV) (F : Nat → Prop) (w : World) (tmps : Array Value), (∀ j, RootOk F R w (rs j) (R j)) → EnvR R F w e tmps → EnvR (reR ids rfs R) F w (lookE as') tmps
  | [], d, h, rest => by
    injection h with h; subst h
    exact ⟨[], rfl, fun rfs R F w vs hok hv t => trivial⟩
  | (t, f) :: fs, d, h, rest => by
    simp only [chkE] at h
    split at h
    · rename_i a ha
      split at h
      · rename_i d1 h1
        split at h
        · rename_i d2 h2
          injection h with h; subst h
          obtain ⟨a', m1, r1⟩ := chkC_ok h1 (d2 ++ rest)
          obtain ⟨as', m2, r2⟩ := chkE_ok h2 rest
          refine ⟨(t, a') :: as', by simp [mkE, List.append_assoc, m1, m2], fun rfs R F w tmps hok hv i => ?_⟩
          simp only [lookE]
          by_cases hi : Nat.beq i t = true
          · have := Nat.eq_of_beq_eq_true hi
            subst this
            rw [hi]
            have := hv i
            rw [ha] at this
            exact r1 _ _ _ _ _ hok this
          · have : Nat.beq i t = false := Bool.eq_false_iff.2 hi
            rw [this]
            exact r2 rfs R F w tmps hok hv i
        · cases h
      · cases h
    · cases h

theorem optL_get : ∀ {l : List Nat} {j : Nat}, optL l j = l[j]?
  | [], j => rfl
  | a :: r, 0 => rfl
  | a :: r, j + 1 => by simp only [optL, List.getElem?_cons_succ]; exact optL_get

theorem keep_ok : ∀ {m : Nat} {is : List Nat} {k : Nat}, keep m is k = true → ∀ j, j < m → optL is j = some (k + j)
  | 0, _, _, _, j, hj => by omega
  | m + 1, i :: is, k, h, j, hj => by
    simp only [keep, Bool.and_eq_true] at h
    cases j with
    | zero => simp only [optL]; rw [Nat.eq_of_beq_eq_true h.1]; rfl
    | succ j => simp only [optL]; rw [keep_ok h.2 j (by omega)]; congr 1; omega
  | m + 1, [], k, h, j, hj => by cases h

/-- A state that answers to a form is one that is told from data. -/
theorem chkT_ok {m : Tmpl} {ids : List Nat} {anch : Nat} {s : St} {d : List Dat} (h : chkT m ids anch s = some d) : ∃ s', mkT m d = some s' ∧ s'.c = m.roots.length ∧ ids.length = m.roots.length ∧ ids.Nodup ∧ (∀ i ∈ ids, i < s.c) ∧
    ∀ (R : Nat → RV) (F : Nat → Prop) (w : World) (tmps : Array Value), Sat F R w s.rs → EnvR R F w s.e tmps →
      Sat F (reR ids m.roots R) w s'.rs ∧ EnvR (reR ids m.roots R) F w s'.e tmps ∧ (∀ j, s'.c ≤ j → (reR ids m.roots R j).live = false ∧ s'.rs j = .dead) ∧
        (∀ j b, b ∈ (reR ids m.roots R j).S → ∃ i, optL ids j = some i ∧ b ∈ (R i).S) ∧ (∀ j, j < anch → (reR ids m.roots R j).live = (R j).live ∧ (reR ids m.roots R j).hdr = (R j).hdr) := by
  unfold chkT at h
  split at h
  · rename_i hok
    simp only [Bool.and_eq_true] at hok
    obtain ⟨hcon, hkeep⟩ := hok
    obtain ⟨hnd, hlt⟩ := okCon_ok hcon
    split at h
    · rename_i d1 h1
      split at h
      · rename_i d2 h2
        injection h with h; subst h
        obtain ⟨as, m1, e1, r1, r1'⟩ := chkRs_ok h1 d2
        obtain ⟨es, m2, r2⟩ := chkE_ok h2 []
        rw [List.append_nil] at m2
        refine ⟨⟨lookE es, lookR as, m.roots.length⟩, by simp [mkT, m1, m2], rfl, e1.symm, hnd, hlt, fun R F w tmps hs he => ⟨?_, r2 _ _ _ _ _ hs.ok he, ?_, ?_, ?_⟩⟩
        · have hSub : ∀ j b, b ∈ (reR ids m.roots R j).S → ∃ id, optL ids j = some id ∧ b ∈ (R id).S := by
            intro j b hb
            unfold reR at hb
            split at hb
            · rename_i id hid
              refine ⟨id, hid, ?_⟩
              split at hb
              · rename_i f _; cases f <;> first | exact hb | cases hb
              · exact hb
            · cases hb
          refine ⟨fun j => ?_, fun j => ?_, fun i j hij b hi hj => ?_, fun j b hb => ?_, fun j b hb => ?_, hs.Flt⟩
          · by_cases hj : j < m.roots.length
            · have hj2 : j < ids.length := by omega
              have hid : optL ids j = some ids[j] := by rw [optL_get]; simp [hj2]
              have hf : m.roots[j]? = some m.roots[j] := by simp [hj]
              have := r1 m.roots R F w hs.ok j _ _ hid hf
              have e : reR ids m.roots R j = cutRV m.roots[j] (R ids[j]) := by
                unfold reR
                rw [hid]
                simp only [hf]
              rw [e]; exact this
            · have : optL ids j = none := by rw [optL_get]; simp; omega
              show RootOk F _ w (lookR as j) _
              rw [r1' j (by omega)]
              unfold reR
              rw [this]; rfl
          · unfold reR
            split
            · rename_i id hid
              split
              · rename_i f _; cases f <;> first | exact hs.nd id | exact List.nodup_nil
              · exact hs.nd id
            · exact List.nodup_nil
          · obtain ⟨i1, k1, l1⟩ := hSub i b hi
            obtain ⟨i2, k2, l2⟩ := hSub j b hj
            refine hs.dj i1 i2 (fun e => hij ?_) b l1 l2
            subst e
            rw [optL_get] at k1 k2
            have a1 := (List.getElem?_eq_some_iff.1 k1).1
            exact (List.getElem?_inj a1 hnd).1 (k1.trans k2.symm)
          · obtain ⟨i1, k1, l1⟩ := hSub j b hb
            exact hs.lt i1 b l1
          · obtain ⟨i1, k1, l1⟩ := hSub j b hb
            exact hs.nF i1 b l1
        · intro j hj
          have hn : optL ids j = none := by rw [optL_get]; simp; simp only at hj; omega
          refine ⟨?_, r1' j hj⟩
          unfold reR
          rw [hn]
        · intro j b hb
          unfold reR at hb
          split at hb
          · rename_i id hid
            refine ⟨id, hid, ?_⟩
            split at hb
            · rename_i f _; cases f <;> first | exact hb | cases hb
            · exact hb
          · cases hb
        · intro j hj
          have := keep_ok hkeep j hj
          rw [Nat.zero_add] at this
          exact reR_hdr this
      · cases h
    · cases h
  · cases h
end
end Go.Sx

namespace Go.Sx
open Go
set_option linter.unusedVariables false
set_option linter.unusedSimpArgs false

/-! ### Parameters -/
@[reducible] def Den : List T → Type
  | [] => Unit
  | t :: r => t.den × Den r

def toL : (ts : List T) → Den ts → List Dat
  | [], _ => []
  | t :: r, x => ⟨t, x.1⟩ :: toL r x.2

def ofL : (ts : List T) → List Dat → Option (Den ts)
  | [], l => (match l with | [] => some () | _ :: _ => none)
  | t :: r, l => (match l with | d :: l' => (match asT t d.1 d.2 with | some x => (match ofL r l' with | some y => some (x, y) | none => none) | none => none) | [] => none)

theorem toL_ofL : ∀ {ts : List T} {l : List Dat} {x : Den ts}, ofL ts l = some x → toL ts x = l
  | [], [], x, h => rfl
  | [], _ :: _, x, h => by cases h
  | t :: r, [], x, h => by cases h
  | t :: r, d :: l, x, h => by
    simp only [ofL] at h
    split at h
    · rename_i y hy
      split at h
      · rename_i z hz
        injection h with h; subst h
        obtain ⟨e, rfl⟩ := asT_some hy
        simp only [toL]
        rw [toL_ofL hz]
        obtain ⟨t', y'⟩ := d
        simp only at e
        subst e
        rfl
      · cases h
    · cases h

/-! ### What holds since a function was entered -/
structure Base where
  F0 : Nat → Prop
  O0 : Nat → Prop
  w0 : World
  A : Nat → Option Value

structure Since (B : Base) (F : Nat → Prop) (R : Nat → RV) (w : World) : Prop where
  rest : ∀ b, b < B.w0.heap.size → ¬ B.O0 b → w.heap[b]? = B.w0.heap[b]?
  own : ∀ j b, b ∈ (R j).S → B.O0 b ∨ B.w0.heap.size ≤ b
  Fnew : ∀ b, F b → B.F0 b ∨ B.O0 b ∨ B.w0.heap.size ≤ b
  sub : ∀ b, B.F0 b → F b
  size : B.w0.heap.size ≤ w.heap.size
  os : w.os = B.w0.os
  tape : w.tape = B.w0.tape
  output : w.output = B.w0.output
  anch : ∀ j v, B.A j = some v → (R j).live = true ∧ (R j).hdr = v

theorem Since.goes {B : Base} {F F' : Nat → Prop} {R R' : Nat → RV} {w w' : World} {new : Nat → Prop} (h : Since B F R w) (g : Goes F R w F' R' w' new) : Since B F' R' w' := by
  refine ⟨fun b hb hO => ?_, fun j b hb => ?_, fun b hb => ?_, fun b hb => g.sub b (h.sub b hb), Nat.le_trans h.size g.size, g.os.trans h.os, g.tape.trans h.tape, g.output.trans h.output, fun j v hv => ?_⟩
  · refine (g.rest b (Nat.lt_of_lt_of_le hb h.size) fun j hj => ?_).trans (h.rest b hb hO)
    rcases h.own j b hj with h1 | h1
    · exact hO h1
    · omega
  · rcases g.own j b hb with ⟨i, hi⟩ | h1
    · exact h.own i b hi
    · exact .inr (Nat.le_trans h.size h1)
  · rcases g.Fnew b hb with h1 | ⟨i, hi⟩ | h1
    · exact h.Fnew b h1
    · exact .inr (h.own i b hi)
    · exact .inr (.inr (Nat.le_trans h.size h1))
  · obtain ⟨h1, h2⟩ := h.anch j v hv
    have hn : ¬ new j := fun hn => by rw [g.was j hn] at h1; cases h1
    exact ⟨(g.hdr j hn).1.trans h1, (g.hdr j hn).2.trans h2⟩

/-- The state s is what is there. -/
def SatS (B : Base) (s : St) (tmps : Array Value) (w : World) : Prop :=
  ∃ F R, Sat F R w s.rs ∧ Since B F R w ∧ EnvR R F w s.e tmps ∧ ∀ j, s.c ≤ j → (R j).live = false ∧ s.rs j = .dead

theorem EnvR.goes {F F' : Nat → Prop} {R R' : Nat → RV} {w w' : World} {new : Nat → Prop} {e : Nat → AV} {tmps : Array Value} (h : Goes F R w F' R' w' new) (ha : Agree F w w') (hv : EnvR R F w e tmps) : EnvR R' F' w' e tmps :=
  fun t => VR.goes h ha (hv t)

/-! ### A row becomes read-only -/
def frz (rs : Rs) (id : Nat) : Rs := match rs id with | .row d t xs => updR rs id (.ro t xs) | .mat t xs => updR rs id (.ro (.list t) xs) | _ => rs

def frzAll (rs : Rs) : List Nat → Rs
  | [] => rs
  | i :: is => frzAll (frz rs i) is

theorem Sat.ro {F : Nat → Prop} {R : Nat → RV} {w : World} {rs : Rs} {id : Nat} {d : Bool} {t : T} {xs : List t.den} (h : Sat F R w rs) (hr : rs id = .row d t xs) :
    Goes F R w (fun b => F b ∨ b ∈ (R id).S) (updR R id { R id with S := [] }) w (fun _ => False) ∧ Sat (fun b => F b ∨ b ∈ (R id).S) (updR R id { R id with S := [] }) w (updR rs id (.ro t xs)) := by
  have hroot := h.ok id
  rw [hr] at hroot
  refine Sat.upd (M := (· = id)) h (fun j hj => hj.elim) ?_ ?_ ?_ ?_ ?_ (fun _ _ _ => rfl) (fun _ hb => .inl hb) ?_ (Nat.le_refl _) rfl rfl rfl ?_
  · intro j hj; exact ⟨updR_other _ _ hj, updR_other _ _ hj⟩
  · intro j hj _; rw [hj, updR_same]; exact ⟨rfl, rfl⟩
  · intro j hj b hb; rw [hj, updR_same] at hb; cases hb
  · intro j hj; rw [hj, updR_same]; exact List.nodup_nil
  · intro i j hi hj hij; exact absurd (hi.trans hj.symm) hij
  · intro b hb
    rcases hb with hb | hb
    · exact .inl hb
    · exact .inr ⟨⟨id, rfl, hb⟩, fun j hj hbj => by rw [hj, updR_same] at hbj; cases hbj⟩
  · intro hg ha j hj
    rw [hj, updR_same, updR_same]
    exact ⟨hroot.1, rfl, hroot.2.read (fun _ hb => .inl hb) (fun b hb => .inr hb)⟩

theorem Sat.roM {F : Nat → Prop} {R : Nat → RV} {w : World} {rs : Rs} {id : Nat} {t : T} {xs : List (List t.den)} (h : Sat F R w rs) (hr : rs id = .mat t xs) :
    Goes F R w (fun b => F b ∨ b ∈ (R id).S) (updR R id { R id with S := [] }) w (fun _ => False) ∧ Sat (fun b => F b ∨ b ∈ (R id).S) (updR R id { R id with S := [] }) w (updR rs id (.ro (.list t) xs)) := by
  have hroot := h.ok id
  rw [hr] at hroot
  obtain ⟨hl, hp, hn1, hcap, hs, Ss, h3, h4, h5, h6, h7⟩ := hroot
  refine Sat.upd (M := (· = id)) h (fun j hj => hj.elim) ?_ ?_ ?_ ?_ ?_ (fun _ _ _ => rfl) (fun _ hb => .inl hb) ?_ (Nat.le_refl _) rfl rfl rfl ?_
  · intro j hj; exact ⟨updR_other _ _ hj, updR_other _ _ hj⟩
  · intro j hj _; rw [hj, updR_same]; exact ⟨rfl, rfl⟩
  · intro j hj b hb; rw [hj, updR_same] at hb; cases hb
  · intro j hj; rw [hj, updR_same]; exact List.nodup_nil
  · intro i j hi hj hij; exact absurd (hi.trans hj.symm) hij
  · intro b hb
    rcases hb with hb | hb
    · exact .inl hb
    · exact .inr ⟨⟨id, rfl, hb⟩, fun j hj hbj => by rw [hj, updR_same] at hbj; cases hbj⟩
  · intro hg ha j hj
    rw [hj, updR_same, updR_same]
    refine ⟨hl, rfl, ?_⟩
    obtain ⟨A, c, e, k1, k2, k3⟩ := h3
    refine ⟨A, c, by rw [← h4]; exact e, by rw [← h4]; exact k1, hcap, fun i x hx => ?_⟩
    have hi : i < List.length xs := (List.getElem?_eq_some_iff.1 hx).1
    have hhs : hs[i]? = some (hs.getD i undef) := by
      rw [List.getD_eq_getElem?_getD, List.getElem?_eq_getElem (show i < hs.length by omega)]; rfl
    obtain ⟨b, o, cs', e1, e2, e3, e4⟩ := k3 i _ hhs
    refine ⟨b, o, cs', e1, .inl e2, ?_, e4⟩
    obtain ⟨⟨e5, _⟩⟩ := e3
    have hrow : RowAt w t.n (ElL F w true t) x (hs.getD i undef) (Ss.getD i []) := by
      refine (h7 i x hx).imp (fun _ _ => rfl) fun z cs S' _ hE => ?_
      unfold ElL
      rw [if_pos rfl]; exact hE
    have hin : ∀ y, y ∈ Ss.getD i [] → y ∈ (R id).S := fun y hy => by
      rw [h6]; refine List.mem_flatten.2 ⟨Ss.getD i [], ?_, hy⟩
      rw [List.getD_eq_getElem?_getD, List.getElem?_eq_getElem (show i < Ss.length by omega)]; exact List.getElem_mem (show i < Ss.length by omega)
    exact hrow.read (fun _ hb => .inl hb) (fun b hb => .inr (hin b hb))

theorem frz_ok {F : Nat → Prop} {R : Nat → RV} {w : World} {rs : Rs} {id : Nat} (h : Sat F R w rs) :
    ∃ F' R', Goes F R w F' R' w (fun _ => False) ∧ Sat F' R' w (frz rs id) ∧ (∀ j, j ≠ id → R' j = R j) ∧ ∀ b, F' b → F b ∨ b ∈ (R id).S := by
  unfold frz
  split
  · rename_i d t xs hr
    obtain ⟨h1, h2⟩ := h.ro hr
    exact ⟨_, _, h1, h2, fun j hj => updR_other _ _ hj, fun b hb => hb⟩
  · rename_i t xs hr
    obtain ⟨h1, h2⟩ := h.roM hr
    exact ⟨_, _, h1, h2, fun j hj => updR_other _ _ hj, fun b hb => hb⟩
  · exact ⟨F, R, Goes.refl _ _ _ _ (fun _ h => h), h, fun _ _ => rfl, fun b hb => .inl hb⟩

theorem frzAll_ok : ∀ {ids : List Nat} {F : Nat → Prop} {R : Nat → RV} {w : World} {rs : Rs} (h : Sat F R w rs), ∃ F' R', Goes F R w F' R' w (fun _ => False) ∧ Sat F' R' w (frzAll rs ids) ∧ (∀ j, j ∉ ids → R' j = R j) ∧
    ∀ b, F' b → F b ∨ ∃ i ∈ ids, b ∈ (R i).S
  | [], F, R, w, rs, h => ⟨F, R, Goes.refl _ _ _ _ (fun _ h => h), h, fun _ _ => rfl, fun b hb => .inl hb⟩
  | i :: is, F, R, w, rs, h => by
    obtain ⟨F1, R1, g1, s1, k1, l1⟩ := frz_ok (id := i) h
    obtain ⟨F2, R2, g2, s2, k2, l2⟩ := frzAll_ok (ids := is) s1
    refine ⟨F2, R2, g1.trans g2 (fun _ => by simp) (fun _ h => h.elim), s2, fun j hj => ?_, fun b hb => ?_⟩
    · rw [List.mem_cons, not_or] at hj
      rw [k2 j hj.2, k1 j hj.1]
    · rcases l2 b hb with h1 | ⟨j, hj, hbj⟩
      · rcases l1 b h1 with h2 | h2
        · exact .inl h2
        · exact .inr ⟨i, by simp, h2⟩
      · rcases g1.own j b hbj with ⟨k, hk⟩ | hge
        · refine .inr ?_
          by_cases hji : j = i
          · -- the blocks of a root that is frozen are gone, or it stays
            by_cases hki : k = i
            · exact ⟨i, by simp, hki ▸ hk⟩
            · exfalso
              have h3 := k1 k hki
              rw [← h3] at hk
              exact s1.dj j k (fun e => hki (e.symm.trans hji)) b hbj hk
          · rw [k1 j hji] at hbj
            exact ⟨j, by simp [hj], hbj⟩
        · have := s1.lt j b hbj
          omega

theorem frz_dead {rs : Rs} {id j : Nat} (h : rs j = .dead) : frz rs id j = .dead := by
  unfold frz
  cases hr : rs id with
  | row d t xs =>
    by_cases hj : j = id
    · rw [hj, hr] at h; cases h
    · show updR rs id _ j = _
      rw [updR_other _ _ hj]; exact h
  | mat t xs =>
    by_cases hj : j = id
    · rw [hj, hr] at h; cases h
    · show updR rs id _ j = _
      rw [updR_other _ _ hj]; exact h
  | _ => exact h

theorem frzAll_dead : ∀ {ids : List Nat} {rs : Rs} {j : Nat}, rs j = .dead → frzAll rs ids j = .dead
  | [], _, _, h => h
  | i :: is, _, _, h => frzAll_dead (ids := is) (frz_dead h)

theorem SatS.frz {B : Base} {s : St} {tmps : Array Value} {w : World} (h : SatS B s tmps w) (ids : List Nat) : SatS B ⟨s.e, frzAll s.rs ids, s.c⟩ tmps w := by
  obtain ⟨F, R, h1, h2, h3, h4⟩ := h
  obtain ⟨F', R', g, s', _, _⟩ := frzAll_ok (ids := ids) h1
  exact ⟨F', R', s', h2.goes g, h3.goes g (g.agree h1), fun j hj => ⟨(g.hdr j (fun h => h)).1.trans (h4 j hj).1, frzAll_dead (h4 j hj).2⟩⟩

/-! ### What is below a row becomes read-only -/
def shw (rs : Rs) (id : Nat) : Rs := match rs id with | .row true t xs => updR rs id (.row false t xs) | _ => rs

def shwAll (rs : Rs) : List Nat → Rs
  | [] => rs
  | i :: is => shwAll (shw rs i) is

theorem Sat.shw1 {F : Nat → Prop} {R : Nat → RV} {w : World} {rs : Rs} {id : Nat} {t : T} {xs : List t.den} (h : Sat F R w rs) (hr : rs id = .row true t xs) :
    ∃ F' R', Goes F R w F' R' w (fun _ => False) ∧ Sat F' R' w (updR rs id (.row false t xs)) := by
  have hroot := h.ok id
  rw [hr] at hroot
  obtain ⟨hlive, hlen, hrow⟩ := hroot
  have hnd := h.nd id
  rcases hrow with ⟨hx, hA, hS⟩ | ⟨b, o, c, arr, ty, fz, Ss, h1, h2, h3, hz, h4, h5, h6, h7⟩
  · obtain ⟨g, s⟩ := Sat.upd (M := (· = id)) (F' := F) (R' := R) (rs' := updR rs id (.row false t xs)) (new := fun _ => False) h (fun j hj => hj.elim) (fun j hj => ⟨updR_other _ _ hj, rfl⟩) (fun _ _ _ => ⟨rfl, rfl⟩)
      (fun j hj b hb => .inl ⟨j, hj, hb⟩) (fun j _ => h.nd j) (fun i j hi hj hij => absurd (hi.trans hj.symm) hij) (fun _ _ _ => rfl) (fun _ hb => hb) (fun _ hb => .inl hb) (Nat.le_refl _) rfl rfl rfl
      (fun _ _ j hj => by
        rw [hj, updR_same]
        exact ⟨hlive, hlen, .inl ⟨hx, hA, hS⟩⟩)
    exact ⟨F, R, g, s⟩
  · have hsub : ∀ y, y ∈ Ss.flatten → y ∈ (R id).S := fun y hy => by rw [h5]; exact List.mem_cons_of_mem _ hy
    have hb : b ∈ (R id).S := by rw [h5]; exact List.mem_cons_self
    have hnb : b ∉ Ss.flatten := by rw [h5] at hnd; exact (List.nodup_cons.1 hnd).1
    obtain ⟨g, s⟩ := Sat.upd (M := (· = id)) (F' := fun y => F y ∨ y ∈ Ss.flatten) (R' := updR R id { R id with S := [b] }) (rs' := updR rs id (.row false t xs)) (new := fun _ => False) h (fun j hj => hj.elim)
      (fun j hj => ⟨updR_other _ _ hj, updR_other _ _ hj⟩) (fun j hj _ => by rw [hj, updR_same]; exact ⟨rfl, rfl⟩)
      (fun j hj y hy => by
        rw [hj, updR_same] at hy
        simp only [List.mem_singleton] at hy
        exact .inl ⟨id, rfl, by rw [hy]; exact hb⟩)
      (fun j hj => by rw [hj, updR_same]; exact List.nodup_cons.2 ⟨by simp, List.nodup_nil⟩) (fun i j hi hj hij => absurd (hi.trans hj.symm) hij) (fun _ _ _ => rfl) (fun _ hb => .inl hb)
      (fun y hy => by
        rcases hy with hy | hy
        · exact .inl hy
        · refine .inr ⟨⟨id, rfl, hsub y hy⟩, fun j hj hyj => ?_⟩
          rw [hj, updR_same] at hyj
          simp only [List.mem_singleton] at hyj
          exact hnb (hyj ▸ hy))
      (Nat.le_refl _) rfl rfl rfl
      (fun _ _ j hj => by
        rw [hj, updR_same, updR_same]
        refine ⟨hlive, hlen, .inr ⟨b, o, c, arr, ty, fz, List.replicate xs.length [], h1, h2, h3, hz, h4, ?_, by simp, fun i x hx => ?_⟩⟩
        · simp
        · obtain ⟨cs, k1, k2, k3⟩ := h7 i x hx
          refine ⟨cs, k1, ?_, k3⟩
          have hi : i < Ss.length := by rw [h6]; exact (List.getElem?_eq_some_iff.1 hx).1
          unfold ElL at k2 ⊢
          simp only [if_true] at k2
          simp only [Bool.false_eq_true, if_false]
          refine ⟨k2.read fun y hy => .inr (List.mem_flatten.2 ⟨Ss.getD i [], ?_, hy⟩), ?_⟩
          · rw [List.getD_eq_getElem?_getD, List.getElem?_eq_getElem hi]; exact List.getElem_mem hi
          · have hi' : i < xs.length := (List.getElem?_eq_some_iff.1 hx).1
            rw [List.getD_eq_getElem?_getD, List.getElem?_replicate, if_pos hi']; rfl)
    exact ⟨_, _, g, s⟩

theorem shw_ok {F : Nat → Prop} {R : Nat → RV} {w : World} {rs : Rs} {id : Nat} (h : Sat F R w rs) : ∃ F' R', Goes F R w F' R' w (fun _ => False) ∧ Sat F' R' w (shw rs id) := by
  unfold shw
  split
  · rename_i t xs hr
    exact h.shw1 hr
  · exact ⟨F, R, Goes.refl _ _ _ _ (fun _ h => h), h⟩

theorem shwAll_ok : ∀ {ids : List Nat} {F : Nat → Prop} {R : Nat → RV} {w : World} {rs : Rs} (h : Sat F R w rs), ∃ F' R', Goes F R w F' R' w (fun _ => False) ∧ Sat F' R' w (shwAll rs ids)
  | [], F, R, w, rs, h => ⟨F, R, Goes.refl _ _ _ _ (fun _ h => h), h⟩
  | i :: is, F, R, w, rs, h => by
    obtain ⟨F1, R1, g1, s1⟩ := shw_ok (id := i) h
    obtain ⟨F2, R2, g2, s2⟩ := shwAll_ok (ids := is) s1
    exact ⟨F2, R2, g1.trans g2 (fun _ => by simp) (fun _ h => h.elim), s2⟩

theorem shw_at {rs : Rs} {id j : Nat} : shw rs id j = if j = id then (match rs j with | .row true t xs => .row false t xs | r => r) else rs j := by
  unfold shw
  by_cases hj : j = id
  · subst hj
    rw [if_pos rfl]
    cases hr : rs j with
    | row d t xs =>
      cases d with
      | true => simp only; rw [updR_same]
      | false => simp only [hr]
    | _ => simp only [hr]
  · rw [if_neg hj]
    cases hr : rs id with
    | row d t xs =>
      cases d with
      | true => simp only; rw [updR_other _ _ hj]
      | false => rfl
    | _ => rfl

theorem shwAll_at : ∀ {l : List Nat} {rs rs2 : Rs} {j : Nat}, rs j = rs2 j → shwAll rs l j = shwAll rs2 l j
  | [], _, _, _, h => h
  | i :: l, rs, rs2, j, h => shwAll_at (l := l) (by rw [shw_at, shw_at, h])

theorem shwAll_off : ∀ {l : List Nat} {rs : Rs} {j : Nat}, j ∉ l → shwAll rs l j = rs j
  | [], _, _, _ => rfl
  | i :: l, rs, j, h => by
    rw [List.mem_cons, not_or] at h
    show shwAll (shw rs i) l j = rs j
    rw [shwAll_off h.2, shw_at, if_neg h.1]

theorem shwAll_dead : ∀ {l : List Nat} {rs : Rs} {j : Nat}, rs j = .dead → shwAll rs l j = .dead
  | [], _, _, h => h
  | i :: l, rs, j, h => shwAll_dead (l := l) (by rw [shw_at, h]; split <;> rfl)

theorem SatS.shw {B : Base} {s : St} {tmps : Array Value} {w : World} (h : SatS B s tmps w) (ids : List Nat) : SatS B ⟨s.e, shwAll s.rs ids, s.c⟩ tmps w := by
  obtain ⟨F, R, h1, h2, h3, h4⟩ := h
  obtain ⟨F', R', g, s'⟩ := shwAll_ok (ids := ids) h1
  exact ⟨F', R', s', h2.goes g, h3.goes g (g.agree h1), fun j hj => ⟨(g.hdr j (fun h => h)).1.trans (h4 j hj).1, shwAll_dead (h4 j hj).2⟩⟩

/-! ### A nil slice becomes a row -/
def setE (e : Nat → AV) (t : Nat) (v : AV) : Nat → AV := fun i => cond (Nat.beq i t) v (e i)

theorem setE_same (e : Nat → AV) (t : Nat) (v : AV) : setE e t v t = v := by simp [setE]
theorem setE_other (e : Nat → AV) {t i : Nat} (v : AV) (h : i ≠ t) : setE e t v i = e i := by
  unfold setE
  have : Nat.beq i t = false := Bool.eq_false_iff.2 fun hb => h (Nat.eq_of_beq_eq_true hb)
  rw [this]; rfl

theorem new_nil {F : Nat → Prop} {R : Nat → RV} {w : World} {rs : Rs} {c : Nat} {d : Bool} {t : T} (A : Option Addr) (h : Sat F R w rs) (hl : (R c).live = false) (hd : rs c = .dead) :
    Goes F R w F (updR R c ⟨true, .slice A 0 0, []⟩) w (· = c) ∧ Sat F (updR R c ⟨true, .slice A 0 0, []⟩) w (updR rs c (.row d t [])) :=
  Sat.new (root := .row d t []) (w' := w) (rv := ⟨true, .slice A 0 0, []⟩) h hl hd (fun b hb => by cases hb) List.nodup_nil (fun _ _ => rfl) (Nat.le_refl _) rfl rfl rfl
    (fun hg ha => ⟨rfl, by simp, .inl ⟨rfl, ⟨A, rfl⟩, rfl⟩⟩)

def matE (rfs : List RF) : List (Nat × CF) → St → St
  | [], s => s
  | (t, f) :: r, s =>
    (match f with
     | .l (.sl j) =>
       (match s.e t, rfs[j]? with
        | .c (.l .nils), some (.row d u) => matE rfs r ⟨setE s.e t (.c (.l (.sl s.c))), updR s.rs s.c (.row d u []), s.c + 1⟩
        | _, _ => matE rfs r s)
     | .l (.slv j) =>
       (match s.e t, rfs[j]? with
        | .c (.l .nils), some (.row d u) => matE rfs r ⟨setE s.e t (.c (.l (.sl s.c))), updR s.rs s.c (.row d u []), s.c + 1⟩
        | _, _ => matE rfs r s)
     | _ => matE rfs r s)

theorem SatS.nilE {B : Base} {s : St} {tmps : Array Value} {w : World} {t : Nat} {d : Bool} {u : T} (h : SatS B s tmps w) (he : s.e t = .c (.l .nils)) :
    SatS B ⟨setE s.e t (.c (.l (.sl s.c))), updR s.rs s.c (.row d u []), s.c + 1⟩ tmps w := by
  obtain ⟨F, R, h1, h2, h3, h4⟩ := h
  have hv := h3 t
  rw [he] at hv
  obtain ⟨A, hA⟩ := hv
  obtain ⟨g, s'⟩ := new_nil (d := d) (t := u) A h1 (h4 s.c (Nat.le_refl _)).1 (h4 s.c (Nat.le_refl _)).2
  refine ⟨F, _, s', h2.goes g, fun i => ?_, fun j hj => ?_⟩
  · by_cases hi : i = t
    · subst hi
      simp only [setE_same]
      refine ⟨by rw [updR_same], ?_, ?_⟩
      · rw [updR_same]; exact hA
      · rw [hA]; rfl
    · simp only [setE_other _ _ hi]
      exact VR.goes g (g.agree h1) (h3 i)
  · simp only at hj
    have hne : j ≠ s.c := by omega
    show (updR R _ _ j).live = false ∧ updR s.rs _ _ j = _
    rw [updR_other _ _ hne, updR_other _ _ hne]
    exact h4 j (by omega)

theorem SatS.matE {B : Base} {rfs : List RF} : ∀ {l : List (Nat × CF)} {s : St} {tmps : Array Value} {w : World}, SatS B s tmps w → SatS B (matE rfs l s) tmps w
  | [], _, _, _, h => h
  | (t, f) :: r, s, tmps, w, h => by
    unfold Go.Sx.matE
    split
    · split
      · rename_i he hr
        exact SatS.matE (h.nilE he)
      · exact SatS.matE h
    · split
      · rename_i he hr
        exact SatS.matE (h.nilE he)
      · exact SatS.matE h
    · exact SatS.matE h

/-- the same in a variable -/
def matB (rfs : List RF) (id : Nat) : List LF → Nat → St → St
  | [], _, s => s
  | f :: r, k, s =>
    (match f with
     | .sl j =>
       (match s.rs id with
        | .box ls =>
          (match ls[k]?, rfs[j]? with
           | some .nils, some (.row d u) => matB rfs id r (k + 1) ⟨s.e, updR (updR s.rs s.c (.row d u [])) id (.box (ls.set k (.sl s.c))), s.c + 1⟩
           | _, _ => matB rfs id r (k + 1) s)
        | _ => matB rfs id r (k + 1) s)
     | _ => matB rfs id r (k + 1) s)

theorem SatS.nilB {B : Base} {s : St} {tmps : Array Value} {w : World} {id k : Nat} {ls : List LV} {d : Bool} {u : T} (h : SatS B s tmps w) (hr : s.rs id = .box ls) (hk : ls[k]? = some .nils) :
    SatS B ⟨s.e, updR (updR s.rs s.c (.row d u [])) id (.box (ls.set k (.sl s.c))), s.c + 1⟩ tmps w := by
  obtain ⟨F, R, h1, h2, h3, h4⟩ := h
  have hroot := h1.ok id
  rw [hr] at hroot
  obtain ⟨hl, b, arr, ty, e1, e2, e3, e4⟩ := hroot
  obtain ⟨v, hv, hA⟩ := e4.get hk
  obtain ⟨A, hA⟩ := hA
  have hne : id ≠ s.c := fun e => by
    have := (h4 s.c (Nat.le_refl _)).2
    rw [← e, hr] at this; cases this
  obtain ⟨g, s'⟩ := new_nil (d := d) (t := u) A h1 (h4 s.c (Nat.le_refl _)).1 (h4 s.c (Nat.le_refl _)).2
  have ha := g.agree h1
  refine ⟨F, _, ?_, h2.goes g, fun i => VR.goes g ha (h3 i), fun j hj => ?_⟩
  · have hup := Sat.upd (F' := F) (R' := updR R s.c ⟨true, .slice A 0 0, []⟩) (w' := w) (rs' := updR (updR s.rs s.c (.row d u [])) id (.box (ls.set k (.sl s.c)))) (new := fun _ => False) (M := (· = id)) s'
      (fun j hj => hj.elim) (fun j hj => ⟨updR_other _ _ hj, rfl⟩) (fun j hj _ => ⟨rfl, rfl⟩) (fun j hj b hb => .inl ⟨j, hj, hb⟩) (fun j hj => s'.nd j)
      (fun i j hi hj hij => absurd (hi.trans hj.symm) hij) (fun _ _ _ => rfl) (fun _ hb => hb) (fun _ hb => .inl hb) (Nat.le_refl _) rfl rfl rfl
      (fun hg hag j hj => by
        rw [hj, updR_same, updR_other _ _ hne]
        refine ⟨hl, b, arr, ty, e1, e2, e3, ?_⟩
        have e5 := e4.imp (s := LR (updR R s.c ⟨true, .slice A 0 0, []⟩) F w) fun _ _ hp => LR.goes g ha hp
        have e6 := e5.set k (a := .sl s.c) (b := v) ⟨by rw [updR_same], by rw [updR_same]; exact hA, by rw [hA]; rfl⟩
        have : arr.toList.set k v = arr.toList := by
          obtain ⟨hlt, hv'⟩ := List.getElem?_eq_some_iff.1 hv
          rw [← hv']; exact List.set_getElem_self hlt
        rw [this] at e6
        exact e6)
    exact hup.2
  · simp only at hj
    have h1' : j ≠ s.c := by omega
    have h2' : j ≠ id := fun e => by
      have := (h4 j (by omega)).2
      rw [e, hr] at this; cases this
    show (updR R _ _ j).live = false ∧ updR (updR s.rs _ _) _ _ j = _
    rw [updR_other _ _ h1', updR_other _ _ h2', updR_other _ _ h1']
    exact h4 j (by omega)

theorem SatS.matB {B : Base} {rfs : List RF} {id : Nat} : ∀ {l : List LF} {k : Nat} {s : St} {tmps : Array Value} {w : World}, SatS B s tmps w → SatS B (matB rfs id l k s) tmps w
  | [], _, _, _, _, h => h
  | f :: r, k, s, tmps, w, h => by
    unfold Go.Sx.matB
    split
    · split
      · rename_i hr
        split
        · rename_i he hf
          exact SatS.matB (h.nilB hr he)
        · exact SatS.matB h
      · exact SatS.matB h
    · exact SatS.matB h
end Go.Sx

namespace Go.Sx
open Go
set_option linter.unusedVariables false
set_option linter.unusedSimpArgs false

/-- a function is called: it gives a value -/
def Runs (P : Program) (f : FuncId) (args : Array Value) (w : World) (Q : Value → World → Prop) : Prop :=
  match (callFunc f args).run P w with
  | .ok (.value v) w' => Q v w'
  | .ok (.enter g as) w' => Calls P g as w' (fun e w'' => ∃ v, e = .returned v ∧ Q v w'')
  | _ => False

theorem Runs.mono {P : Program} {f : FuncId} {args : Array Value} {w : World} {Q Q' : Value → World → Prop} (h : Runs P f args w Q) (hq : ∀ v w', Q v w' → Q' v w') : Runs P f args w Q' := by
  unfold Runs at *
  generalize (callFunc f args).run P w = r at *
  cases r with
  | ok n w' => cases n <;> first | exact hq _ _ h | exact Calls.mono h (fun e w'' ⟨v, h1, h2⟩ => ⟨v, h1, hq _ _ h2⟩) | exact h
  | halt x w' => exact h

def LF.wf (n : Nat) : LF → Bool
  | .sl j | .slv j | .ptr j _ => Nat.blt j n
  | .fn _ caps => caps.all fun j => Nat.blt j n
  | _ => true
def CF.wf (n : Nat) : CF → Bool
  | .l a => a.wf n
  | .agg as => as.all (LF.wf n)
def RF.wf (n : Nat) : RF → Bool
  | .box as => as.all (LF.wf n)
  | .mat _ => false
  | _ => true

/-- nothing in it depends on what is read-only -/
def LF.free : LF → Bool
  | .dat t => t.plain
  | _ => true
def CF.free : CF → Bool
  | .l a => a.free
  | .agg as => as.all LF.free
def RF.free : RF → Bool
  | .box as => as.all LF.free
  | .row d t => d || t.plain
  | .mat _ => false
  | .dead => true

def Tmpl.wf (m : Tmpl) : Bool := (m.roots.all (RF.wf m.roots.length)) && m.slots.all fun p => p.2.wf m.roots.length
def Tmpl.free (m : Tmpl) : Bool := (m.roots.all RF.free) && m.slots.all fun p => p.2.free

structure Sig where
  n : Nat
  inn : Tmpl
  ts : List T
  out : Tmpl
  us : List T

def mkO (m : Tmpl) (l : List Dat) : Option (List Root × List CV) :=
  match mkRs m.roots l with
  | some (rs, l1) => (match mkE m.slots l1 with | some (e, []) => some (rs, e.map Prod.snd) | _ => none)
  | none => none

def resA : List CV → AV
  | [] => .none
  | [v] => .c v
  | vs => .tup vs

def BaseOf (F0 : Nat → Prop) (R0 : Nat → RV) (w0 : World) (n : Nat) : Base :=
  ⟨F0, fun b => ∃ j, b ∈ (R0 j).S, w0, fun j => if j < n then some (R0 j).hdr else none⟩

/-- what holds at a function's end -/
def Post (sig : Sig) (B : Base) (r : Den sig.us) (v : Value) (w : World) : Prop :=
  ∃ rts cvs, mkO sig.out (toL sig.us r) = some (rts, cvs) ∧ ∃ F1 R1, Sat F1 R1 w (lookR rts) ∧ Since B F1 R1 w ∧ VR R1 F1 w (resA cvs) v

structure Meets (G : Gl) (P : Program) (f : FuncId) (sig : Sig) (F : Den sig.ts → Option (Den sig.us)) : Prop where
  wf : sig.out.wf = true
  le : sig.inn.roots.length ≤ sig.out.roots.length
  ok : ∀ x r, F x = some r → ∀ s, mkT sig.inn (toL sig.ts x) = some s →
    ∀ F0 R0 w0 args, Sat F0 R0 w0 s.rs → (∀ j, sig.inn.roots.length ≤ j → (R0 j).live = false ∧ s.rs j = .dead) → EnvR R0 F0 w0 s.e args → args.size = sig.n → (∀ j, j < sig.inn.roots.length → (R0 j).live = true) → G.p F0 w0 →
      Runs P f args w0 (fun v w1 => Post sig (BaseOf F0 R0 w0 sig.inn.roots.length) r v w1)

structure Contract where
  sig : Sig
  F : Den sig.ts → Option (Den sig.us)

/-! ### Which roots an argument names -/
abbrev Disc := List (Nat × Nat) × List Nat

def memB (j : Nat) : List Nat → Bool
  | [] => false
  | i :: r => Nat.beq j i || memB j r

theorem memB_iff {j : Nat} : ∀ {l : List Nat}, memB j l = true ↔ j ∈ l
  | [] => by simp [memB]
  | i :: r => by
    simp only [memB, Bool.or_eq_true, List.mem_cons]
    rw [memB_iff]
    constructor
    · rintro (h | h)
      · exact .inl (Nat.eq_of_beq_eq_true h)
      · exact .inr h
    · rintro (h | h)
      · subst h; exact .inl (Nat.beq_refl j)
      · exact .inr h

def discL (f : LF) (a : LV) (d : Disc) : Disc :=
  match f with
  | .sl j => (match a with | .sl id => ((j, id) :: d.1, d.2) | _ => d)
  | .slv j => (match a with | .sl id => ((j, id) :: d.1, d.2) | .slv id _ => ((j, id) :: d.1, d.2) | _ => d)
  | .ptr j _ => (match a with | .ptr id _ => ((j, id) :: d.1, d.2) | _ => d)
  | .fn _ caps => (match a with | .fn _ caps' => (caps.zip caps' ++ d.1, d.2) | _ => d)
  | .dat _ => (match a with | .sl id => (d.1, cond (memB id d.2) d.2 (id :: d.2)) | .slv id _ => (d.1, cond (memB id d.2) d.2 (id :: d.2)) | _ => d)
  | _ => d

def discLs : List LF → List LV → Disc → Disc
  | f :: fs, a :: as, d => discLs fs as (discL f a d)
  | _, _, d => d

def discE (e : Nat → AV) : List (Nat × CF) → Disc → Disc
  | [], d => d
  | (t, f) :: r, d =>
    discE e r (match f, e t with
      | .l f, .c (.l a) => discL f a d
      | .agg fs, .c (.agg as) => discLs fs as d
      | _, _ => d)

def assoc (j : Nat) : List (Nat × Nat) → Nat
  | [] => 0
  | (i, id) :: r => cond (Nat.beq j i) id (assoc j r)

def discR (rs : Rs) : List RF → Nat → Disc → Disc
  | [], _, d => d
  | f :: fs, j, d =>
    discR rs fs (j + 1) (match f, rs (assoc j d.1) with
      | .box fs, .box as => discLs fs as d
      | _, _ => d)

def idsOf (n : Nat) (m : List (Nat × Nat)) : Nat → List Nat
  | 0 => []
  | k + 1 => assoc n m :: idsOf (n + 1) m k

def disc (m : Tmpl) (e : Nat → AV) (rs : Rs) (start : List (Nat × Nat)) : List Nat × List Nat :=
  let d := discR rs m.roots 0 (discE e m.slots (start, []))
  (idsOf 0 d.1 m.roots.length, d.2)

/-! ### What comes back gets other numbers -/
def ren (ids : List Nat) (c n : Nat) (j : Nat) : Nat := match optL ids j with | some id => id | none => c + (j - n)

def renL (g : Nat → Nat) : LV → LV
  | .sl j => .sl (g j)
  | .slv j k => .slv (g j) k
  | .ptr j off => .ptr (g j) off
  | .el j i n off => .el (g j) i n off
  | .fn f caps => .fn f (caps.map g)
  | a => a
def renC (g : Nat → Nat) : CV → CV
  | .l a => .l (renL g a)
  | .agg as => .agg (as.map (renL g))
def renR (g : Nat → Nat) : Root → Root
  | .box as => .box (as.map (renL g))
  | r => r

def pos (j : Nat) : List Nat → Nat → Option Nat
  | [], _ => none
  | i :: r, k => cond (Nat.beq j i) (some k) (pos j r (k + 1))

def newRs (rs : Rs) (ids : List Nat) (c n : Nat) (rts : List Root) : Rs := fun j =>
  match pos j ids 0 with
  | some i => renR (ren ids c n) (lookR rts i)
  | none => cond (Nat.ble c j) (renR (ren ids c n) (lookR rts (n + (j - c)))) (rs j)

def only (rs : Rs) (ids : List Nat) : Rs := fun j => cond (memB j ids) (rs j) .dead

def argAt : List AV → Nat → AV
  | [], _ => .none
  | a :: r, i => (match i with | 0 => a | j + 1 => argAt r j)

def aliveB (rs : Rs) : List Nat → Bool
  | [] => true
  | i :: r => (match rs i with | .box _ => true | .row _ _ _ => true | _ => false) && aliveB rs r

def isRo : Root → Bool
  | .ro _ _ => true
  | _ => false

/-- the data of a call's arguments, if they answer to the form -/
def argsK (con : Contract) (args : List AV) (rs : Rs) (c : Nat) : Option (List Nat × List Nat × Den con.sig.ts) :=
  let e := argAt args
  let d := disc con.sig.inn e rs []
  if Nat.beq args.length con.sig.n && okCon c (d.1 ++ d.2) && aliveB rs d.1 && ((d.2.all fun i => isRo (rs i)) || con.sig.out.free) then
    (match chkT con.sig.inn d.1 0 ⟨e, frzAll (only rs (d.1 ++ d.2)) d.2, c⟩ with
     | some l => (match ofL con.sig.ts l with | some x => some (d.1, d.2, x) | none => none)
     | none => none)
  else none

def callOne {α : Type} (con : Contract) (args : List AV) (rs : Rs) (c : Nat) (k : KT α) (other : Option α) : Option α :=
  match argsK con args rs c with
  | some (ids, lent, x) =>
    (con.F x).bind fun r =>
      (match mkO con.sig.out (toL con.sig.us r) with
       | some (rts, cvs) =>
         let n := con.sig.inn.roots.length
         k (resA (cvs.map (renC (ren ids c n)))) (newRs rs ids c n rts) (c + (rts.length - n)) (ids ++ lent) ids
       | none => none)
  | none => other

/-! ### Soundness -/
theorem Sat.upd2 {F F' : Nat → Prop} {R R' : Nat → RV} {w w' : World} {rs rs' : Rs} {new M : Nat → Prop} (h : Sat F R w rs)
    (hnew : ∀ j, new j → M j ∧ (R j).live = false)
    (hoff : ∀ j, ¬ M j → rs' j = rs j ∧ R' j = R j)
    (hhdr : ∀ j, M j → ¬ new j → (R' j).live = (R j).live ∧ (R' j).hdr = (R j).hdr)
    (hS : ∀ j, M j → ∀ b, b ∈ (R' j).S → (∃ i, M i ∧ b ∈ (R i).S) ∨ (w.heap.size ≤ b ∧ b < w'.heap.size))
    (hnd : ∀ j, M j → (R' j).S.Nodup)
    (hdj : ∀ i j, M i → M j → i ≠ j → ∀ b, b ∈ (R' i).S → b ∉ (R' j).S)
    (hheap : ∀ b, b < w.heap.size → (∀ i, M i → b ∉ (R i).S) → w'.heap[b]? = w.heap[b]?)
    (hsub : ∀ b, F b → F' b) (hF' : ∀ b, F' b → F b ∨ (((∃ i, M i ∧ b ∈ (R i).S) ∨ w.heap.size ≤ b) ∧ b < w'.heap.size ∧ ∀ j, M j → b ∉ (R' j).S))
    (hsize : w.heap.size ≤ w'.heap.size) (hos : w'.os = w.os) (htape : w'.tape = w.tape) (hout : w'.output = w.output)
    (hok : Goes F R w F' R' w' new → Agree F w w' → ∀ j, M j → RootOk F' R' w' (rs' j) (R' j)) : Goes F R w F' R' w' new ∧ Sat F' R' w' rs' := by
  have hg : Goes F R w F' R' w' new := by
    refine ⟨fun j hj => (hnew j hj).2, fun j hj => ?_, hsub, fun b hb hbS => hheap b hb fun i _ => hbS i, fun j b hb => ?_, fun b hb => ?_, hsize, hos, htape, hout⟩
    · by_cases hM : M j
      · exact hhdr j hM hj
      · rw [(hoff j hM).2]; exact ⟨rfl, rfl⟩
    · by_cases hM : M j
      · rcases hS j hM b hb with ⟨i, _, hi⟩ | ⟨hge, _⟩
        · exact .inl ⟨i, hi⟩
        · exact .inr hge
      · rw [(hoff j hM).2] at hb; exact .inl ⟨j, hb⟩
    · rcases hF' b hb with h1 | ⟨⟨i, _, hi⟩ | hge, _⟩
      · exact .inl h1
      · exact .inr (.inl ⟨i, hi⟩)
      · exact .inr (.inr hge)
  have ha : Agree F w w' := hg.agree h
  refine ⟨hg, fun j => ?_, fun j => ?_, fun i j hij b hi hj => ?_, fun j b hb => ?_, fun j b hb hFb => ?_, fun b hb => ?_⟩
  · by_cases hM : M j
    · exact hok hg ha j hM
    · obtain ⟨e1, e2⟩ := hoff j hM
      rw [e1, e2]
      refine RootOk.goes hg ha (fun b hb => hheap b (h.lt j b hb) fun i hi hbi => ?_) (h.ok j)
      exact h.dj j i (fun e => hM (e ▸ hi)) b hb hbi
  · by_cases hM : M j
    · exact hnd j hM
    · rw [(hoff j hM).2]; exact h.nd j
  · by_cases hMi : M i <;> by_cases hMj : M j
    · exact hdj i j hMi hMj hij b hi hj
    · rw [(hoff j hMj).2] at hj
      rcases hS i hMi b hi with ⟨k, hk, hbk⟩ | ⟨hge, _⟩
      · exact h.dj k j (fun e => hMj (e ▸ hk)) b hbk hj
      · have := h.lt j b hj; omega
    · rw [(hoff i hMi).2] at hi
      rcases hS j hMj b hj with ⟨k, hk, hbk⟩ | ⟨hge, _⟩
      · exact h.dj k i (fun e => hMi (e ▸ hk)) b hbk hi
      · have := h.lt i b hi; omega
    · rw [(hoff i hMi).2] at hi
      rw [(hoff j hMj).2] at hj
      exact h.dj i j hij b hi hj
  · by_cases hM : M j
    · rcases hS j hM b hb with ⟨i, _, hi⟩ | ⟨_, hlt⟩
      · exact Nat.lt_of_lt_of_le (h.lt i b hi) hsize
      · exact hlt
    · rw [(hoff j hM).2] at hb; exact Nat.lt_of_lt_of_le (h.lt j b hb) hsize
  · by_cases hM : M j
    · rcases hF' b hFb with h1 | ⟨_, _, h2⟩
      · rcases hS j hM b hb with ⟨i, _, hi⟩ | ⟨hge, _⟩
        · exact h.nF i b hi h1
        · have := h.Flt b h1; omega
      · exact h2 j hM hb
    · rw [(hoff j hM).2] at hb
      rcases hF' b hFb with h1 | ⟨⟨i, hi, hbi⟩ | hge, _⟩
      · exact h.nF j b hb h1
      · exact h.dj i j (fun e => hM (e ▸ hi)) b hbi hb
      · have := h.lt j b hb; omega
  · rcases hF' b hb with h1 | ⟨_, hlt, _⟩
    · exact Nat.lt_of_lt_of_le (h.Flt b h1) hsize
    · exact hlt

section
variable {P : Program} {R R' : Nat → RV} {F F' : Nat → Prop} {w : World}

/-- the roots that are looked at, alone -/
def onlyR (R : Nat → RV) (ids : List Nat) : Nat → RV := fun j => if j ∈ ids then R j else { R j with S := [] }

theorem Sat.only {rs rsG : Rs} {ids : List Nat} (h : Sat F R w rsG) (he : ∀ j ∈ ids, rsG j = rs j) :
    Goes F R w F (onlyR R ids) w (fun _ => False) ∧ Sat F (onlyR R ids) w (only rs ids) := by
  have hS : ∀ j b, b ∈ (onlyR R ids j).S → j ∈ ids ∧ b ∈ (R j).S := by
    intro j b hb
    unfold onlyR at hb
    split at hb
    · rename_i hj; exact ⟨hj, hb⟩
    · cases hb
  have hg : Goes F R w F (onlyR R ids) w (fun _ => False) := by
    refine ⟨fun j hj => hj.elim, fun j _ => ?_, fun _ hb => hb, fun _ _ _ => rfl, fun j b hb => .inl ⟨j, (hS j b hb).2⟩, fun b hb => .inl hb, Nat.le_refl _, rfl, rfl, rfl⟩
    unfold onlyR; split <;> exact ⟨rfl, rfl⟩
  refine ⟨hg, fun j => ?_, fun j => ?_, fun i j hij b hi hj => h.dj i j hij b (hS i b hi).2 (hS j b hj).2, fun j b hb => h.lt j b (hS j b hb).2, fun j b hb => h.nF j b (hS j b hb).2, h.Flt⟩
  · unfold Go.Sx.only onlyR
    by_cases hj : j ∈ ids
    · rw [memB_iff.2 hj, if_pos hj, ← he j hj]
      exact RootOk.goes hg (Agree.refl _ _) (fun _ _ => rfl) (h.ok j)
    · have : memB j ids = false := Bool.eq_false_iff.2 fun e => hj (memB_iff.1 e)
      rw [this, if_neg hj]
      rfl
  · unfold onlyR; split
    · exact h.nd j
    · exact List.nodup_nil

theorem pos_some {j : Nat} : ∀ {l : List Nat} {k i : Nat}, pos j l k = some i → k ≤ i ∧ l[i - k]? = some j
  | [], k, i, h => by cases h
  | a :: r, k, i, h => by
    unfold pos at h
    cases hb : Nat.beq j a with
    | true =>
      rw [hb] at h
      injection h with h; subst h
      have := Nat.eq_of_beq_eq_true hb
      subst this
      exact ⟨Nat.le_refl _, by simp⟩
    | false =>
      rw [hb] at h
      obtain ⟨h1, h2⟩ := pos_some (show pos j r (k + 1) = some i from h)
      refine ⟨by omega, ?_⟩
      rw [show i - k = (i - (k + 1)) + 1 by omega]
      simpa using h2

theorem pos_none {j : Nat} : ∀ {l : List Nat} {k : Nat}, pos j l k = none → j ∉ l
  | [], k, h => by simp
  | a :: r, k, h => by
    unfold pos at h
    cases hb : Nat.beq j a with
    | true => rw [hb] at h; cases h
    | false =>
      rw [hb] at h
      intro hj
      rcases List.mem_cons.1 hj with e | e
      · subst e; rw [Nat.beq_refl] at hb; cases hb
      · exact pos_none (show pos j r (k + 1) = none from h) e

theorem pos_get {j i : Nat} {l : List Nat} (hn : l.Nodup) (h : l[i]? = some j) : pos j l 0 = some i := by
  cases hp : pos j l 0 with
  | none => exact absurd (List.mem_of_getElem? h) (pos_none hp)
  | some i' =>
    obtain ⟨_, h2⟩ := pos_some hp
    rw [Nat.sub_zero] at h2
    have hlt := (List.getElem?_eq_some_iff.1 h).1
    rw [(List.getElem?_inj hlt hn).1 (h.trans h2.symm)]

theorem aliveB_ok {rs : Rs} : ∀ {ids : List Nat}, aliveB rs ids = true → (∀ j, RootOk F R w (rs j) (R j)) → ∀ i ∈ ids, (R i).live = true
  | [], _, _, i, hi => by cases hi
  | a :: r, h, hr, i, hi => by
    simp only [aliveB, Bool.and_eq_true] at h
    rcases List.mem_cons.1 hi with e | e
    · subst e
      have h1 := hr i
      cases hrs : rs i with
      | box ls => rw [hrs] at h1; exact h1.1
      | row d t xs => rw [hrs] at h1; exact h1.1
      | dead => rw [hrs] at h; cases h.1
      | ro t xs => rw [hrs] at h; cases h.1
      | rowh _ _ _ _ _ _ => rw [hrs] at h; cases h.1
      | mat _ _ => rw [hrs] at h; cases h.1
    · exact aliveB_ok h.2 hr i e
end
end Go.Sx

namespace Go.Sx
open Go
set_option linter.unusedVariables false
set_option linter.unusedSimpArgs false

def LVok (n : Nat) : LV → Prop
  | .sl j | .slv j _ | .ptr j _ => j < n
  | .fn _ caps => ∀ j ∈ caps, j < n
  | .el _ _ _ _ | .rad _ _ _ | .slw _ _ _ _ | .els _ _ _ | .eel _ _ _ => False
  | _ => True

def LVfree : LV → Prop
  | .dat t _ => t.plain = true
  | _ => True

def CVok (n : Nat) (v : CV) : Prop := ∀ a ∈ v.cells, LVok n a
def CVfree (v : CV) : Prop := ∀ a ∈ v.cells, LVfree a
def Rok (n : Nat) : Root → Prop
  | .box as => ∀ a ∈ as, LVok n a
  | .ro _ _ => False
  | .rowh _ _ _ _ _ _ => False
  | .mat _ _ => False
  | _ => True
def Rfree : Root → Prop
  | .box as => ∀ a ∈ as, LVfree a
  | .row d t _ => d = true ∨ t.plain = true
  | _ => True

section
variable {P : Program} {R R' : Nat → RV} {F F' : Nat → Prop} {w : World}

theorem mkL_facts {n : Nat} {f : LF} {l r : List Dat} {a : LV} (h : mkL f l = some (a, r)) : (f.wf n = true → LVok n a) ∧ (f.free = true → LVfree a) := by
  cases f with
  | any => injection h with h; injection h with h1 h2; subst h1; exact ⟨fun _ => trivial, fun _ => trivial⟩
  | dat t =>
    simp only [mkL] at h
    split at h
    · split at h
      · rename_i ht
        injection h with h; injection h with h1 h2; subst h1
        exact ⟨fun _ => trivial, fun hf => by rw [← ht] at hf; exact hf⟩
      · cases h
    · cases h
  | sl j => injection h with h; injection h with h1 h2; subst h1; exact ⟨fun hw => by simpa [LF.wf, LVok, Nat.blt_eq] using hw, fun _ => trivial⟩
  | slv j =>
    simp only [mkL] at h
    split at h
    · injection h with h; injection h with h1 h2; subst h1; exact ⟨fun hw => by simpa [LF.wf, LVok, Nat.blt_eq] using hw, fun _ => trivial⟩
    · cases h
  | nils => injection h with h; injection h with h1 h2; subst h1; exact ⟨fun _ => trivial, fun _ => trivial⟩
  | err =>
    simp only [mkL] at h
    split at h
    · injection h with h; injection h with h1 h2; subst h1; exact ⟨fun _ => trivial, fun _ => trivial⟩
    · cases h
  | ptr j off => injection h with h; injection h with h1 h2; subst h1; exact ⟨fun hw => by simpa [LF.wf, LVok, Nat.blt_eq] using hw, fun _ => trivial⟩
  | fn g caps =>
    injection h with h; injection h with h1 h2; subst h1
    refine ⟨fun hw j hj => ?_, fun _ => trivial⟩
    simp only [LF.wf, List.all_eq_true] at hw
    simpa [Nat.blt_eq] using hw j hj

theorem mkLs_facts {n : Nat} : ∀ {fs : List LF} {l r : List Dat} {as : List LV}, mkLs fs l = some (as, r) → (fs.all (LF.wf n) = true → ∀ a ∈ as, LVok n a) ∧ (fs.all LF.free = true → ∀ a ∈ as, LVfree a)
  | [], l, r, as, h => by injection h with h; injection h with h1 h2; subst h1; exact ⟨fun _ a ha => by (cases ha), fun _ a ha => by (cases ha)⟩
  | f :: fs, l, r, as, h => by
    simp only [mkLs] at h
    split at h
    · rename_i a1 l1 h1
      split at h
      · rename_i as2 l2 h2
        injection h with h; injection h with h3 h4; subst h3
        have k1 := mkL_facts (n := n) h1
        have k2 := mkLs_facts (n := n) h2
        refine ⟨fun hw a ha => ?_, fun hw a ha => ?_⟩ <;> simp only [List.all_cons, Bool.and_eq_true] at hw <;> rcases List.mem_cons.1 ha with e | e
        · subst e; exact k1.1 hw.1
        · exact k2.1 hw.2 a e
        · subst e; exact k1.2 hw.1
        · exact k2.2 hw.2 a e
      · cases h
    · cases h

theorem mkC_facts {n : Nat} {f : CF} {l r : List Dat} {a : CV} (h : mkC f l = some (a, r)) : (f.wf n = true → CVok n a) ∧ (f.free = true → CVfree a) := by
  cases f with
  | l f =>
    simp only [mkC] at h
    split at h
    · rename_i a1 l1 h1
      injection h with h; injection h with h3 h4; subst h3
      have k := mkL_facts (n := n) h1
      exact ⟨fun hw a ha => by (simp only [CV.cells, List.mem_singleton] at ha; subst ha; exact k.1 hw), fun hw a ha => by (simp only [CV.cells, List.mem_singleton] at ha; subst ha; exact k.2 hw)⟩
    · cases h
  | agg fs =>
    simp only [mkC] at h
    split at h
    · rename_i a1 l1 h1
      injection h with h; injection h with h3 h4; subst h3
      exact mkLs_facts (n := n) h1
    · cases h

theorem mkR_facts {n : Nat} {f : RF} {l r : List Dat} {a : Root} (h : mkR f l = some (a, r)) : (f.wf n = true → Rok n a) ∧ (f.free = true → Rfree a) := by
  cases f with
  | dead => injection h with h; injection h with h1 h2; subst h1; exact ⟨fun _ => trivial, fun _ => trivial⟩
  | box fs =>
    simp only [mkR] at h
    split at h
    · rename_i a1 l1 h1
      injection h with h; injection h with h3 h4; subst h3
      exact mkLs_facts (n := n) h1
    · cases h
  | row d t =>
    simp only [mkR] at h
    split at h
    · split at h
      · rename_i ht
        injection h with h; injection h with h3 h4; subst h3
        refine ⟨fun _ => trivial, fun hf => ?_⟩
        rw [← ht] at hf
        simpa [RF.free, Rfree] using hf
      · cases h
    · cases h
  | mat t => exact ⟨fun hw => (by cases hw), fun hw => (by cases hw)⟩

theorem mkRs_facts {n : Nat} : ∀ {fs : List RF} {l r : List Dat} {as : List Root}, mkRs fs l = some (as, r) → as.length = fs.length ∧ (fs.all (RF.wf n) = true → ∀ j, Rok n (lookR as j)) ∧ (fs.all RF.free = true → ∀ j, Rfree (lookR as j))
  | [], l, r, as, h => by injection h with h; injection h with h1 h2; subst h1; exact ⟨rfl, fun _ j => trivial, fun _ j => trivial⟩
  | f :: fs, l, r, as, h => by
    simp only [mkRs] at h
    split at h
    · rename_i a1 l1 h1
      split at h
      · rename_i as2 l2 h2
        injection h with h; injection h with h3 h4; subst h3
        have k1 := mkR_facts (n := n) h1
        have k2 := mkRs_facts (n := n) h2
        refine ⟨by simp [k2.1], fun hw j => ?_, fun hw j => ?_⟩ <;> simp only [List.all_cons, Bool.and_eq_true] at hw <;> cases j with
        | zero => first | exact k1.1 hw.1 | exact k1.2 hw.1
        | succ j => first | exact k2.2.1 hw.2 j | exact k2.2.2 hw.2 j
      · cases h
    · cases h

theorem mkE_facts {n : Nat} : ∀ {fs : List (Nat × CF)} {l r : List Dat} {as : List (Nat × CV)}, mkE fs l = some (as, r) → ((fs.all fun p => p.2.wf n) = true → ∀ p ∈ as, CVok n p.2) ∧ ((fs.all fun p => p.2.free) = true → ∀ p ∈ as, CVfree p.2)
  | [], l, r, as, h => by injection h with h; injection h with h1 h2; subst h1; exact ⟨fun _ a ha => by (cases ha), fun _ a ha => by (cases ha)⟩
  | (t, f) :: fs, l, r, as, h => by
    simp only [mkE] at h
    split at h
    · rename_i a1 l1 h1
      split at h
      · rename_i as2 l2 h2
        injection h with h; injection h with h3 h4; subst h3
        have k1 := mkC_facts (n := n) h1
        have k2 := mkE_facts (n := n) h2
        refine ⟨fun hw p hp => ?_, fun hw p hp => ?_⟩ <;> simp only [List.all_cons, Bool.and_eq_true] at hw <;> rcases List.mem_cons.1 hp with e | e
        · subst e; exact k1.1 hw.1
        · exact k2.1 hw.2 p e
        · subst e; exact k1.2 hw.1
        · exact k2.2 hw.2 p e
      · cases h
    · cases h

theorem mkO_facts {m : Tmpl} {l : List Dat} {rts : List Root} {cvs : List CV} (h : mkO m l = some (rts, cvs)) : rts.length = m.roots.length ∧
    (m.wf = true → (∀ j, Rok m.roots.length (lookR rts j)) ∧ ∀ v ∈ cvs, CVok m.roots.length v) ∧ (m.free = true → (∀ j, Rfree (lookR rts j)) ∧ ∀ v ∈ cvs, CVfree v) := by
  unfold mkO at h
  split at h
  · rename_i rs l1 h1
    split at h
    · rename_i e h2
      injection h with h; injection h with h3 h4; subst h3 h4
      obtain ⟨a1, a2, a3⟩ := mkRs_facts (n := m.roots.length) h1
      obtain ⟨b1, b2⟩ := mkE_facts (n := m.roots.length) h2
      refine ⟨a1, fun hw => ?_, fun hw => ?_⟩ <;> simp only [Tmpl.wf, Tmpl.free, Bool.and_eq_true] at hw
      · refine ⟨a2 hw.1, fun v hv => ?_⟩
        obtain ⟨p, hp, rfl⟩ := List.mem_map.1 hv
        exact b1 hw.2 p hp
      · refine ⟨a3 hw.1, fun v hv => ?_⟩
        obtain ⟨p, hp, rfl⟩ := List.mem_map.1 hv
        exact b2 hw.2 p hp
    · cases h
  · cases h

/-! ### Other numbers -/
structure Ren (R R' : Nat → RV) (g : Nat → Nat) (n : Nat) : Prop where
  ok : ∀ j, j < n → (R' (g j)).live = (R j).live ∧ (R' (g j)).hdr = (R j).hdr

theorem PtrR.ren {g : Nat → Nat} {n j off : Nat} {v : Value} (hg : Ren R R' g n) (hj : j < n) (h : PtrR R j off v) : PtrR R' (g j) off v := by
  obtain ⟨h1, b, h2, h3⟩ := h
  obtain ⟨e1, e2⟩ := hg.ok j hj
  exact ⟨e1.trans h1, b, e2.trans h2, h3⟩

theorem RdL.ren {t : T} {x : t.den} {cs : List Value} (hF : (∀ b, F b → F' b) ∨ t.plain = true) (h : RdL F w t x cs) : RdL F' w t x cs := by
  rcases hF with hF | hF
  · exact RdL.mono hF (Agree.refl _ _) h
  · exact RdL_plain hF h

theorem LR.ren {g : Nat → Nat} {n : Nat} {a : LV} {v : Value} (hg : Ren R R' g n) (ha : LVok n a) (hF : (∀ b, F b → F' b) ∨ LVfree a) (h : LR R F w a v) : LR R' F' w (renL g a) v := by
  cases a with
  | any => exact h
  | dat t x => exact RdL.ren hF h
  | sl j =>
    obtain ⟨e1, e2⟩ := hg.ok j ha
    exact ⟨e1.trans h.1, h.2.1.trans e2.symm, h.2.2⟩
  | slv j k =>
    obtain ⟨e1, e2⟩ := hg.ok j ha
    obtain ⟨hl, A, l, c, eh, hk, hv⟩ := h
    exact ⟨e1.trans hl, A, l, c, e2.trans eh, hk, hv⟩
  | slw j l m n => exact ha.elim
  | els j i k => exact ha.elim
  | eel j i k => exact ha.elim
  | nils => exact h
  | err b => exact h
  | anyb => exact h
  | ptr j off => exact PtrR.ren hg ha h
  | el j i n off => exact ha.elim
  | rad t x off => exact ha.elim
  | fn f caps =>
    obtain ⟨vs, e, hf⟩ := h
    refine ⟨vs, e, ?_⟩
    have : ∀ {l : List Nat} {us : List Value}, (∀ j ∈ l, j < n) → All2 (fun id u => PtrR R id 0 u) l us → All2 (fun id u => PtrR R' id 0 u) (l.map g) us := by
      intro l
      induction l with
      | nil => intro us _ h; cases h; exact .nil
      | cons a l ih =>
        intro us hl h
        cases h with
        | cons h1 h2 => exact .cons (PtrR.ren hg (hl a (by simp)) h1) (ih (fun j hj => hl j (by simp [hj])) h2)
    exact this ha hf

theorem LRs.ren {g : Nat → Nat} {n : Nat} (hg : Ren R R' g n) : ∀ {as : List LV} {vs : List Value}, (∀ a ∈ as, LVok n a) → ((∀ b, F b → F' b) ∨ ∀ a ∈ as, LVfree a) → All2 (LR R F w) as vs → All2 (LR R' F' w) (as.map (renL g)) vs
  | [], _, _, _, h => by cases h; exact .nil
  | a :: as, _, ho, hF, .cons h1 h2 => .cons (LR.ren hg (ho a (by simp)) (hF.imp id fun h => h a (by simp)) h1) (LRs.ren hg (fun a ha => ho a (by simp [ha])) (hF.imp id fun h a ha => h a (by simp [ha])) h2)

theorem CR.ren {g : Nat → Nat} {n : Nat} {a : CV} {v : Value} (hg : Ren R R' g n) (ha : CVok n a) (hF : (∀ b, F b → F' b) ∨ CVfree a) (h : CR R F w a v) : CR R' F' w (renC g a) v := by
  cases a with
  | l a => exact LR.ren hg (ha a (by simp [CV.cells])) (hF.imp id fun h => h a (by simp [CV.cells])) h
  | agg as =>
    obtain ⟨cs, e, hf⟩ := h
    exact ⟨cs, e, LRs.ren hg ha hF hf⟩

theorem CRs.ren {g : Nat → Nat} {n : Nat} (hg : Ren R R' g n) : ∀ {as : List CV} {vs : List Value}, (∀ a ∈ as, CVok n a) → ((∀ b, F b → F' b) ∨ ∀ a ∈ as, CVfree a) → All2 (CR R F w) as vs → All2 (CR R' F' w) (as.map (renC g)) vs
  | [], _, _, _, h => by cases h; exact .nil
  | a :: as, _, ho, hF, .cons h1 h2 => .cons (CR.ren hg (ho a (by simp)) (hF.imp id fun h => h a (by simp)) h1) (CRs.ren hg (fun a ha => ho a (by simp [ha])) (hF.imp id fun h a ha => h a (by simp [ha])) h2)

theorem resA_ren {g : Nat → Nat} {n : Nat} {cvs : List CV} {v : Value} (hg : Ren R R' g n) (ho : ∀ a ∈ cvs, CVok n a) (hF : (∀ b, F b → F' b) ∨ ∀ a ∈ cvs, CVfree a) (h : VR R F w (resA cvs) v) : VR R' F' w (resA (cvs.map (renC g))) v := by
  match cvs, ho, hF, h with
  | [], _, _, _ => trivial
  | [a], ho, hF, h => exact CR.ren hg (ho a (by simp)) (hF.imp id fun h => h a (by simp)) h
  | a :: b :: r, ho, hF, h =>
    obtain ⟨vs, e, hf⟩ := h
    exact ⟨vs, e, CRs.ren hg ho hF hf⟩

theorem RootOk.ren {g : Nat → Nat} {n : Nat} {a : Root} {rv : RV} (hg : Ren R R' g n) (ha : Rok n a) (hF : (∀ b, F b → F' b) ∨ Rfree a) (h : RootOk F R w a rv) : RootOk F' R' w (renR g a) rv := by
  cases a with
  | dead => exact h
  | box as =>
    obtain ⟨h1, b, arr, ty, h2, h3, h4, h5⟩ := h
    exact ⟨h1, b, arr, ty, h2, h3, h4, LRs.ren hg ha hF h5⟩
  | row d t xs =>
    refine ⟨h.1, h.2.imp (fun _ _ => rfl) fun x cs S' hS' hE => ?_⟩
    unfold ElL at hE ⊢
    cases d with
    | true => simp only [if_true] at hE ⊢; exact hE
    | false =>
      simp only [Bool.false_eq_true, if_false] at hE ⊢
      exact ⟨RdL.ren (hF.imp id fun h => h.resolve_left (by simp)) hE.1, hE.2⟩
  | ro t xs => exact ha.elim
  | rowh t xs i off hid k => exact ha.elim
  | mat t xs => exact ha.elim
end
end Go.Sx

namespace Go.Sx
open Go
variable {G : Gl}
set_option linter.unusedVariables false
set_option linter.unusedSimpArgs false

/-- the step of a call of f -/
def CStep (G : Gl) (P : Program) (f : FuncId) (args : List AV) (rs : Rs) (c : Nat) (out : AV) (rs' : Rs) (c' : Nat) (ids mod : List Nat) : Prop :=
  c ≤ c' ∧ ∀ (rsG : Rs) (F : Nat → Prop) (R : Nat → RV) (w : World) (vs : Array Value),
    (∀ j ∈ ids, rsG j = rs j) → (∀ j, c ≤ j → j < c' → (R j).live = false ∧ rsG j = .dead) →
    Sat F R w rsG → (∀ t, VR R F w (argAt args t) (vs.getD t undef)) → vs.size = args.length → G.p F w →
    Runs P f vs w (fun v w' => ∃ F' R', Goes F R w F' R' w' (fun j => c ≤ j ∧ j < c') ∧ Sat F' R' w' (merge c c' mod rsG rs') ∧ VR R' F' w' out v)

theorem merge_at {c c' : Nat} {mod : List Nat} {rsG rs' : Rs} {j : Nat} (h : (c ≤ j ∧ j < c') ∨ j ∈ mod) : merge c c' mod rsG rs' j = rs' j := by
  unfold merge; rw [if_pos h]
theorem merge_off {c c' : Nat} {mod : List Nat} {rsG rs' : Rs} {j : Nat} (h : ¬ ((c ≤ j ∧ j < c') ∨ j ∈ mod)) : merge c c' mod rsG rs' j = rsG j := by
  unfold merge; rw [if_neg h]

theorem callOne_ok {α : Type} {P : Program} {f : FuncId} {con : Contract} {args : List AV} {rs : Rs} {c : Nat} {k : KT α} {other : Option α} {r : α} (hm : Meets G P f con.sig con.F) (h : callOne con args rs c k other = some r) :
    (∃ out rs' c' ids mod, k out rs' c' ids mod = some r ∧ CStep G P f args rs c out rs' c' ids mod) ∨ other = some r := by
  unfold callOne at h
  split at h
  case h_2 => exact .inr h
  rename_i ids lent x harg
  refine .inl ?_
  unfold argsK at harg
  simp only at harg
  split at harg
  case isFalse => cases harg
  rename_i hcond
  simp only [Bool.and_eq_true] at hcond
  obtain ⟨⟨⟨hn, hcon⟩, halive⟩, hfree⟩ := hcond
  split at harg
  case h_2 => cases harg
  rename_i l hl
  split at harg
  case h_2 => cases harg
  rename_i x' hx
  injection harg with harg
  injection harg with hids harg
  injection harg with hlent hx'
  subst hx'
  rw [hids, hlent] at hcon hl
  rw [hids] at halive
  rw [hlent] at hfree
  cases hFx : con.F x' with
  | none => rw [hFx] at h; cases h
  | some res =>
  rw [hFx] at h
  simp only [Option.bind_some] at h
  obtain ⟨sIn, hmk, hsc, hlen, hnd, hlt, hchk⟩ := chkT_ok hl
  rw [← toL_ofL hx] at hmk
  have hruns := hm.ok x' res hFx sIn hmk
  split at h
  case h_2 => cases h
  rename_i rts cvs hmo
  refine ⟨_, _, _, _, _, h, ?_⟩
  obtain ⟨hRl, hRw, hRf⟩ := mkO_facts hmo
  obtain ⟨hRok, hCok⟩ := hRw hm.wf
  obtain ⟨hcnd, hclt⟩ := okCon_ok hcon
  have hle := hm.le
  have hnn : ids.length = con.sig.inn.roots.length := hlen
  refine ⟨Nat.le_add_right _ _, fun rsG F R w vs hg hnew hs hρ hsz hgl => ?_⟩
  -- the roots that the call looks at
  obtain ⟨g1, s1⟩ := hs.only hg
  have hdisj : ∀ i ∈ ids, i ∉ lent := fun i hi hl => (List.nodup_append.1 hcnd).2.2 i hi i hl rfl
  obtain ⟨F0, R1, g2, s2, k2, l2⟩ := frzAll_ok (ids := lent) s1
  have hR1 : ∀ i ∈ ids, R1 i = R i := fun i hi => by
    rw [k2 i (hdisj i hi)]
    unfold onlyR
    rw [if_pos (by simp [hi])]
  have henv : EnvR R1 F0 w (argAt args) vs := fun t => VR.goes g2 (g2.agree s1) (VR.goes g1 (g1.agree hs) (hρ t))
  obtain ⟨s3, e3, d3, b3, _⟩ := hchk R1 F0 w vs s2 henv
  have hR0 : ∀ j i, optL ids j = some i → (reR ids con.sig.inn.roots R1 j).live = (R i).live ∧ (reR ids con.sig.inn.roots R1 j).hdr = (R i).hdr := fun j i hj => by
    have hi : i ∈ ids := by rw [optL_get] at hj; exact List.mem_of_getElem? hj
    rw [← hR1 i hi]
    exact reR_hdr hj
  have hlive : ∀ i ∈ ids, (R i).live = true := fun i hi => by
    have := aliveB_ok halive (F := F) (R := R) (w := w) 
    have hroot := hs.ok i
    rw [hg i (by simp [hi])] at hroot
    have hal : ∀ {l : List Nat}, aliveB rs l = true → i ∈ l → (∃ ls, rs i = .box ls) ∨ ∃ d t xs, rs i = .row d t xs := by
      intro l
      induction l with
      | nil => intro _ hi; cases hi
      | cons a l ih =>
        intro hal hi
        simp only [aliveB, Bool.and_eq_true] at hal
        rcases List.mem_cons.1 hi with e | e
        · subst e
          cases hrs : rs i with
          | box ls => exact .inl ⟨_, rfl⟩
          | row d t xs => exact .inr ⟨_, _, _, rfl⟩
          | dead => rw [hrs] at hal; cases hal.1
          | ro t xs => rw [hrs] at hal; cases hal.1
          | rowh _ _ _ _ _ _ => rw [hrs] at hal; cases hal.1
          | mat _ _ => rw [hrs] at hal; cases hal.1
        · exact ih hal.2 e
    rcases hal halive hi with ⟨ls, e⟩ | ⟨d, t, xs, e⟩
    · rw [e] at hroot; exact hroot.1
    · rw [e] at hroot; exact hroot.1
  have hnum : ∀ j, j < con.sig.inn.roots.length → ∃ i, optL ids j = some i ∧ i ∈ ids := fun j hj => by
    have : j < ids.length := by omega
    exact ⟨ids[j], by rw [optL_get]; simp [this], List.getElem_mem this⟩
  have hrun := hruns F0 (reR ids con.sig.inn.roots R1) w vs s3 (fun j hj => d3 j (by rw [hsc]; exact hj)) e3 (by rw [hsz]; exact Nat.eq_of_beq_eq_true hn)
    (fun j hj => by obtain ⟨i, h1, h2⟩ := hnum j hj; rw [(hR0 j i h1).1]; exact hlive i h2) (G.mono (G.mono hgl g1.sub (g1.agree hs)) g2.sub (g2.agree s1))
  refine Runs.mono hrun fun v w1 hp => ?_
  obtain ⟨rts', cvs', q1, F1, R2, t1, t2, t3⟩ := hp
  rw [hmo] at q1
  injection q1 with q1
  injection q1 with q1 q3
  subst q1 q3
  -- what comes back, with the caller's numbers
  let n := con.sig.inn.roots.length
  let c' := c + (rts.length - n)
  let g : Nat → Nat := ren ids c n
  let F2 : Nat → Prop := fun b => F1 b ∧ ¬ ∃ i, i ∈ lent ∧ b ∈ (R i).S
  let back : Nat → Option Nat := fun j => match pos j ids 0 with | some i => some i | none => if c ≤ j ∧ j < c' then some (n + (j - c)) else none
  let R3 : Nat → RV := fun j => match back j with | some i => R2 i | none => R j
  have hM : ∀ j, ((c ≤ j ∧ j < c') ∨ j ∈ ids) ↔ ∃ i, back j = some i := by
    intro j
    show _ ↔ ∃ i, (match pos j ids 0 with | some i => some i | none => if c ≤ j ∧ j < c' then some (n + (j - c)) else none) = some i
    cases hp : pos j ids 0 with
    | some i =>
      obtain ⟨_, h2⟩ := pos_some hp
      exact ⟨fun _ => ⟨i, rfl⟩, fun _ => .inr (List.mem_of_getElem? h2)⟩
    | none =>
      have := pos_none hp
      by_cases hc : c ≤ j ∧ j < c'
      · simp [hc]
      · simp [hc, this]
  have hlen3 : rts.length = con.sig.out.roots.length := hRl
  -- the number that an old or a new root had in there
  have hback : ∀ j i, back j = some i → g i = j ∧ i < rts.length ∧ (i < n → optL ids i = some j) ∧ (n ≤ i → c ≤ j ∧ j < c' ∧ j ∉ ids) := by
    intro j i hb
    have hb' : (match pos j ids 0 with | some i => some i | none => if c ≤ j ∧ j < c' then some (n + (j - c)) else none) = some i := hb
    show ren ids c n i = j ∧ _
    split at hb'
    · rename_i i' hp
      injection hb' with hb'; subst hb'
      obtain ⟨_, h2⟩ := pos_some hp
      rw [Nat.sub_zero] at h2
      have hlt' := (List.getElem?_eq_some_iff.1 h2).1
      have ho : optL ids i' = some j := by rw [optL_get]; exact h2
      refine ⟨by unfold ren; rw [ho], by omega, fun _ => ho, fun hge => ?_⟩
      exfalso
      have : n = con.sig.inn.roots.length := rfl
      omega
    · rename_i hp
      split at hb'
      · rename_i hc
        injection hb' with hb'; subst hb'
        have hnn' : n = ids.length := hnn.symm
        have ho : optL ids (n + (j - c)) = none := by rw [optL_get]; simp; omega
        refine ⟨by unfold ren; rw [ho]; simp only; omega, ?_, fun hlt => by omega, fun _ => ⟨hc.1, hc.2, pos_none hp⟩⟩
        have : c' = c + (rts.length - n) := rfl
        omega
      · cases hb'
  have hback2 : ∀ i, i < rts.length → back (g i) = some i := by
    intro i hi
    show (match pos (ren ids c n i) ids 0 with | some i => some i | none => if c ≤ ren ids c n i ∧ ren ids c n i < c' then some (n + (ren ids c n i - c)) else none) = some i
    have hnn' : n = ids.length := hnn.symm
    by_cases hin : i < n
    · have hlt' : i < ids.length := by omega
      have ho : optL ids i = some ids[i] := by rw [optL_get]; simp [hlt']
      have hr : ren ids c n i = ids[i] := by unfold ren; rw [ho]
      rw [hr, pos_get hnd (List.getElem?_eq_getElem hlt')]
    · have ho : optL ids i = none := by rw [optL_get]; simp; omega
      have hr : ren ids c n i = c + (i - n) := by unfold ren; rw [ho]
      have hnot : c + (i - n) ∉ ids := fun hmem => by have := hlt _ hmem; simp only at this; omega
      have hp : pos (c + (i - n)) ids 0 = none := by
        cases hp : pos (c + (i - n)) ids 0 with
        | none => rfl
        | some q => exact absurd (List.mem_of_getElem? (pos_some hp).2) hnot
      have hcc : c ≤ c + (i - n) ∧ c + (i - n) < c' := by
        have : c' = c + (rts.length - n) := rfl
        omega
      rw [hr, hp]
      simp only
      rw [if_pos hcc]
      congr 1; omega
  have hR3 : ∀ j i, back j = some i → R3 j = R2 i := fun j i hb => by
    show (match back j with | some i => R2 i | none => R j) = R2 i
    rw [hb]
  have hR3' : ∀ j, back j = none → R3 j = R j := fun j hb => by
    show (match back j with | some i => R2 i | none => R j) = R j
    rw [hb]
  have hren : Ren R2 R3 g con.sig.out.roots.length := ⟨fun j hj => by
    rw [hR3 (g j) j (hback2 j (by omega))]; exact ⟨rfl, rfl⟩⟩
  have hF12 : ∀ b, F2 b → F1 b := fun b hb => hb.1
  have hFdep : (∀ b, F1 b → F2 b) ∨ con.sig.out.free = true := by
    rw [Bool.or_eq_true] at hfree
    rcases hfree with hfree | hfree
    · refine .inl fun b hb => ⟨hb, fun ⟨i, hi, hbi⟩ => ?_⟩
      rw [List.all_eq_true] at hfree
      have h1 := hfree i hi
      have h2 := hs.ok i
      rw [hg i (by simp [hi])] at h2
      cases hrs : rs i with
      | ro t xs => rw [hrs] at h2; rw [h2.2.1] at hbi; cases hbi
      | _ => rw [hrs] at h1; cases h1
    · exact .inr hfree
  have hF0 : ∀ b, F0 b → F b ∨ ∃ i ∈ lent, b ∈ (R i).S := fun b hb => by
    rcases l2 b hb with h1 | ⟨i, hi, h1⟩
    · exact .inl h1
    · refine .inr ⟨i, hi, ?_⟩
      unfold onlyR at h1
      split at h1
      · exact h1
      · cases h1
  -- blocks that were the call's
  have hO0 : ∀ b, (∃ j, b ∈ (reR ids con.sig.inn.roots R1 j).S) → ∃ i ∈ ids, b ∈ (R i).S := fun b ⟨j, hj⟩ => by
    obtain ⟨i, h1, h2⟩ := b3 j b hj
    have hi : i ∈ ids := by rw [optL_get] at h1; exact List.mem_of_getElem? h1
    rw [hR1 i hi] at h2
    exact ⟨i, hi, h2⟩
  have hback_mem : ∀ i ∈ ids, ∃ q, back i = some q ∧ q < n := fun i hi => by
    obtain ⟨q, hq, hqi⟩ := List.getElem_of_mem hi
    have hp : pos i ids 0 = some q := pos_get hnd (by rw [List.getElem?_eq_getElem hq, hqi])
    refine ⟨q, ?_, by have : n = ids.length := hnn.symm; omega⟩
    show (match pos i ids 0 with | some i => some i | none => if c ≤ i ∧ i < c' then some (n + (i - c)) else none) = some q
    rw [hp]
  have hup := Sat.upd2 (F' := F2) (R' := R3) (w' := w1) (rs' := merge c c' ids rsG (newRs rs ids c n rts)) (new := fun j => c ≤ j ∧ j < c') (M := fun j => (c ≤ j ∧ j < c') ∨ j ∈ ids) hs
    (fun j hj => ⟨.inl hj, (hnew j hj.1 hj.2).1⟩)
    (fun j hj => ⟨merge_off hj, hR3' j (by cases hb : back j with | none => rfl | some i => exact absurd ((hM j).2 ⟨i, hb⟩) hj)⟩)
    (fun j hj hn => by
      have hjm : j ∈ ids := hj.resolve_left hn
      obtain ⟨q, hq, hqn⟩ := hback_mem j hjm
      have ho := (hback j q hq).2.2.1 hqn
      rw [hR3 j q hq]
      have hA : (BaseOf F0 (reR ids con.sig.inn.roots R1) w con.sig.inn.roots.length).A q = some (reR ids con.sig.inn.roots R1 q).hdr := by
        show (if q < con.sig.inn.roots.length then some _ else none) = _
        rw [if_pos hqn]
      obtain ⟨a1, a2⟩ := t2.anch q _ hA
      exact ⟨a1.trans (hlive j hjm).symm, a2.trans (hR0 q j ho).2⟩)
    (fun j hj b hb => by
      obtain ⟨q, hq⟩ := (hM j).1 hj
      rw [hR3 j q hq] at hb
      rcases t2.own q b hb with h1 | h1
      · obtain ⟨i, hi, hbi⟩ := hO0 b h1
        exact .inl ⟨i, .inr hi, hbi⟩
      · exact .inr ⟨h1, t1.lt q b hb⟩)
    (fun j hj => by obtain ⟨q, hq⟩ := (hM j).1 hj; rw [hR3 j q hq]; exact t1.nd q)
    (fun i j hi hj hij b hbi hbj => by
      obtain ⟨p, hp⟩ := (hM i).1 hi
      obtain ⟨q, hq⟩ := (hM j).1 hj
      rw [hR3 i p hp] at hbi
      rw [hR3 j q hq] at hbj
      refine t1.dj p q (fun e => hij ?_) b hbi hbj
      rw [← (hback i p hp).1, ← (hback j q hq).1, e])
    (fun b hb hS => t2.rest b hb fun hO => by obtain ⟨i, hi, hbi⟩ := hO0 b hO; exact hS i (.inr hi) hbi)
    (fun b hb => ⟨t2.sub b (g2.sub b (g1.sub b hb)), fun ⟨i, _, hbi⟩ => hs.nF i b hbi hb⟩)
    (fun b hb => by
      rcases t2.Fnew b hb.1 with h1 | h1 | h1
      · rcases hF0 b h1 with h2 | ⟨i, hi, h2⟩
        · exact .inl h2
        · exact absurd ⟨i, hi, h2⟩ hb.2
      · obtain ⟨i, hi, hbi⟩ := hO0 b h1
        exact .inr ⟨.inl ⟨i, .inr hi, hbi⟩, t1.Flt b hb.1, fun j hj hbj => by
          obtain ⟨q, hq⟩ := (hM j).1 hj
          rw [hR3 j q hq] at hbj
          exact t1.nF q b hbj hb.1⟩
      · exact .inr ⟨.inr h1, t1.Flt b hb.1, fun j hj hbj => by
          obtain ⟨q, hq⟩ := (hM j).1 hj
          rw [hR3 j q hq] at hbj
          exact t1.nF q b hbj hb.1⟩)
    t2.size t2.os t2.tape t2.output
    (fun hg' hag j hj => by
      obtain ⟨q, hq⟩ := (hM j).1 hj
      obtain ⟨h1, h2, h3, h4⟩ := hback j q hq
      rw [merge_at hj, hR3 j q hq]
      have hnr : newRs rs ids c n rts j = renR g (lookR rts q) := by
        unfold newRs
        cases hp : pos j ids 0 with
        | some i =>
          have : back j = some i := by
            show (match pos j ids 0 with | some i => some i | none => if c ≤ j ∧ j < c' then some (n + (j - c)) else none) = some i
            rw [hp]
          rw [this] at hq; injection hq with hq; subst hq; rfl
        | none =>
          have hcj : c ≤ j ∧ j < c' := hj.resolve_right (pos_none hp)
          have : back j = some (n + (j - c)) := by
            show (match pos j ids 0 with | some i => some i | none => if c ≤ j ∧ j < c' then some (n + (j - c)) else none) = _
            rw [hp]; simp only; rw [if_pos hcj]
          rw [this] at hq; injection hq with hq; subst hq
          simp only
          rw [Nat.ble_eq.mpr hcj.1]; rfl
      rw [hnr]
      exact RootOk.ren hren (hRok q) (hFdep.imp id fun hf => (hRf hf).1 q) (t1.ok q))
  exact ⟨F2, R3, hup.1, hup.2, resA_ren hren hCok (hFdep.imp id fun hf => (hRf hf).2) t3⟩

/-! ### A list that is handed over becomes read-only, where the results may name it -/
theorem frz_at {rs : Rs} {id j : Nat} : frz rs id j = if j = id then (match rs j with | .row d t xs => .ro t xs | .mat t xs => .ro (.list t) xs | r => r) else rs j := by
  unfold frz
  by_cases hj : j = id
  · subst hj
    rw [if_pos rfl]
    cases hr : rs j with
    | row d t xs => simp only; rw [updR_same]
    | mat t xs => simp only; rw [updR_same]
    | _ => simp only [hr]
  · rw [if_neg hj]
    cases hr : rs id with
    | row d t xs => simp only; rw [updR_other _ _ hj]
    | mat t xs => simp only; rw [updR_other _ _ hj]
    | _ => rfl

theorem frzAll_at : ∀ {l : List Nat} {rs rs2 : Rs} {j : Nat}, rs j = rs2 j → frzAll rs l j = frzAll rs2 l j
  | [], _, _, _, h => h
  | i :: l, rs, rs2, j, h => frzAll_at (l := l) (by rw [frz_at, frz_at, h])

theorem frzAll_off : ∀ {l : List Nat} {rs : Rs} {j : Nat}, j ∉ l → frzAll rs l j = rs j
  | [], _, _, _ => rfl
  | i :: l, rs, j, h => by
    rw [List.mem_cons, not_or] at h
    show frzAll (frz rs i) l j = rs j
    rw [frzAll_off h.2, frz_at, if_neg h.1]

theorem CStep.frz {P : Program} {f : FuncId} {args : List AV} {rs : Rs} {l : List Nat} {c : Nat} {out : AV} {rs' : Rs} {c' : Nat} {ids mod : List Nat} (hl : ∀ i ∈ l, i < c) (h : CStep G P f args (frzAll rs l) c out rs' c' ids mod) :
    CStep G P f args rs c out (fun j => cond ((Nat.ble c j && Nat.blt j c') || memB j mod) (rs' j) (frzAll rs l j)) c' (ids ++ l) (l ++ mod) := by
  refine ⟨h.1, fun rsG F R w vs hids hnew hs hv hsz hgl => ?_⟩
  obtain ⟨F1, R1, g1, s1, k1, l1⟩ := frzAll_ok (ids := l) hs
  have h2 := h.2 (frzAll rsG l) F1 R1 w vs (fun j hj => frzAll_at (hids j (List.mem_append_left _ hj)))
    (fun j h1 h2 => ⟨(g1.hdr j (fun h => h)).1.trans (hnew j h1 h2).1, frzAll_dead (hnew j h1 h2).2⟩) s1 (fun t => VR.goes g1 (g1.agree hs) (hv t)) hsz (G.mono hgl g1.sub (g1.agree hs))
  refine Runs.mono h2 fun v w' ⟨F2, R2, g2, s2, hv2⟩ => ⟨F2, R2, g1.trans g2 (fun j => by simp) (fun _ _ h => h), ?_, hv2⟩
  have : merge c c' (l ++ mod) rsG (fun j => cond ((Nat.ble c j && Nat.blt j c') || memB j mod) (rs' j) (frzAll rs l j)) = merge c c' mod (frzAll rsG l) rs' := by
    funext j
    by_cases hj : (c ≤ j ∧ j < c') ∨ j ∈ mod
    · rw [merge_at (mod := mod) hj, merge_at (by rcases hj with h | h; exact .inl h; exact .inr (List.mem_append_right _ h))]
      have : ((Nat.ble c j && Nat.blt j c') || memB j mod) = true := by
        rcases hj with ⟨h1, h2⟩ | h
        · simp [Nat.ble_eq.mpr h1, Nat.blt_eq.mpr h2]
        · simp [memB_iff.2 h]
      rw [this]; rfl
    · rw [merge_off (mod := mod) hj]
      have hb : ((Nat.ble c j && Nat.blt j c') || memB j mod) = false := by
        rw [Bool.eq_false_iff]
        intro hc
        apply hj
        simp only [Bool.or_eq_true, Bool.and_eq_true] at hc
        rcases hc with ⟨h1, h2⟩ | h1
        · exact .inl ⟨Nat.ble_eq.mp h1, Nat.blt_eq.mp h2⟩
        · exact .inr (memB_iff.1 h1)
      by_cases hjl : j ∈ l
      · rw [merge_at (.inr (List.mem_append_left _ hjl)), hb]
        exact frzAll_at (hids j (List.mem_append_right _ hjl)).symm
      · rw [merge_off (by
          rintro (h | h)
          · exact hj (.inl h)
          · rcases List.mem_append.1 h with h | h
            · exact hjl h
            · exact hj (.inr h)), frzAll_off hjl]
  rw [this]; exact s2

def callFrz {α : Type} (con : Contract) (args : List AV) (rs : Rs) (c : Nat) (k : KT α) (other : Option α) : Option α :=
  let l := (disc con.sig.inn (argAt args) rs []).2
  cond ((l.all fun i => isRo (rs i)) || con.sig.out.free) (callOne con args rs c k other)
    (cond (l.all fun i => Nat.blt i c)
      (callOne con args (frzAll rs l) c (fun out rs' c' ids mod => k out (fun j => cond ((Nat.ble c j && Nat.blt j c') || memB j mod) (rs' j) (frzAll rs l j)) c' (ids ++ l) (l ++ mod)) other) other)

theorem callFrz_ok {α : Type} {P : Program} {f : FuncId} {con : Contract} {args : List AV} {rs : Rs} {c : Nat} {k : KT α} {other : Option α} {r : α} (hm : Meets G P f con.sig con.F) (h : callFrz con args rs c k other = some r) :
    (∃ out rs' c' ids mod, k out rs' c' ids mod = some r ∧ CStep G P f args rs c out rs' c' ids mod) ∨ other = some r := by
  unfold callFrz at h
  rcases cond_some h with ⟨_, h⟩ | ⟨_, h⟩
  · exact callOne_ok hm h
  · rcases cond_some h with ⟨hl, h⟩ | ⟨_, h⟩
    · rcases callOne_ok hm h with ⟨out, rs', c', ids, mod, hk, hc⟩ | h
      · exact .inl ⟨_, _, _, _, _, hk, hc.frz fun i hi => Nat.blt_eq.mp (List.all_eq_true.1 hl i hi)⟩
      · exact .inr h
    · exact .inr h
end Go.Sx

namespace Go.Sx
open Go
variable {G : Gl}
set_option linter.unusedVariables false
set_option linter.unusedSimpArgs false

/-- is the type of a slice told as a list with what lies behind it -/
def isSp (Γ : Nat → Option TI) (t : Nat) : Bool := match Γ t with | some ⟨_, _, _, _, some (.sp _)⟩ => true | _ => false

def cutRowK {α : Type} (Γ : Nat → Option TI) (rs : Rs) (c : Nat) (t : TypeId) (x : AV) (lo hi : Option AV) (k : KT α) (other : Option α) : Option α :=
  match x with
  | .c (.l (.sl id)) =>
    (match rs id with
     | .row d T xs =>
       (match Γ t with
        | some ⟨_, _, _, .slice e, _⟩ =>
          (match Γ e with
           | some ei =>
             if ei.size = T.n then
               (match lo with
                | none => bndsK (List.length xs) none hi (fun _ h => cond (isSp Γ t) (k (.c (.l (.slv id h))) rs c [id] []) (k (.c (.l (.dat (.list T) (List.take h xs)))) (frz rs id) c [id] [id]))
                | some _ => bndsK (List.length xs) lo hi (fun l h => k (.c (.l (.dat (.list T) (List.drop l (List.take h xs))))) (frz rs id) c [id] [id]))
             else none
           | none => none)
        | _ => none)
     | _ => other)
  | _ => other

theorem cutRow_step {P : Program} {Γ : Nat → Option TI} (hΓ : TyOk P Γ) {o : Oper} {t : TypeId} {x : Operand} {lo hi : Option Operand} {ρA : Operand → AV} {rs : Rs} {c : Nat} {id : Nat} {d : Bool} {T : T} {xs : List T.den} {e : Nat} {ei : TI} {out : AV} {l m : Nat}
    (ho : o.op = .slice t x lo hi none) (hx : ρA x = .c (.l (.sl id))) (hrs : rs id = .row d T xs) {a1 a2 a3 a5} (ht : Γ t = some ⟨a1, a2, a3, .slice e, a5⟩) (he : Γ e = some ei) (hsz : ei.size = T.n)
    (hlm : l ≤ m) (hmn : m ≤ List.length xs)
    (hb : ∀ (P : Program) (R : Nat → RV) (F : Nat → Prop) (w : World) (vl vh : Option Value) (c q : Nat) (isS : Bool), (hi.map ρA = none → q = List.length xs) → List.length xs ≤ c → optR R F w (lo.map ρA) vl → optR R F w (hi.map ρA) vh →
      (Instr.sliceBounds isS q c vl vh none).run P w = .ok (l, m, c) w)
    (hout : ∀ (F : Nat → Prop) (R : Nat → RV) (w : World) (A : Option Addr) (c : Nat), List.length xs ≤ c → List.length xs ≤ cap →
      (∀ i x, (show List T.den from xs)[i]? = some x → ∃ b o cs', A = some ⟨b, o, none⟩ ∧ F b ∧ RdL F w T x cs' ∧ CellsAt w b (o + i * T.n) cs') →
      VR R F w out (.slice (if c = l then A else A.map (·.add (l * ei.size))) (m - l) (c - l))) :
    LStep G P o ρA rs c out (frz rs id) c [id] [id] := by
  refine ⟨Nat.le_refl _, fun rsG F R w ρ hids _ hs hρ => ?_⟩
  have hg : rsG id = .row d T xs := by rw [hids id (by simp)]; exact hrs
  obtain ⟨g, s⟩ := hs.ro hg
  have hvx := hρ x
  rw [hx] at hvx
  obtain ⟨hlive, hvx, _⟩ := hvx
  have hroot := s.ok id
  rw [updR_same, updR_same] at hroot
  obtain ⟨_, _, A, cc, e1, e2, e3, e4⟩ := hroot
  simp only [List.cons.injEq, and_true] at e1
  have opt : ∀ (y : Option Operand), optR R F w (y.map ρA) (y.map ρ) := by
    intro y
    cases y with
    | none => trivial
    | some y => exact hρ y
  have hrun := run_slice_sl (A := A) (hΓ.slice ht rfl w) (hΓ.size he w) (hb P R F w _ _ cc (List.length xs) true (fun _ => rfl) e2 (opt lo) (opt hi))
  unfold Does
  have : (execOp ρ o).run P w = .ok (.value (.slice (if cc = l then A else A.map (·.add (l * ei.size))) (m - l) (cc - l))) w := by
    unfold execOp
    rw [ho]
    apply run_v
    rw [hvx, e1]
    exact hrun
  rw [this]
  refine ⟨_, _, ⟨fun j hj => by omega, fun j _ => g.hdr j (fun h => h), g.sub, g.rest, g.own, g.Fnew, g.size, g.os, g.tape, g.output⟩, ?_, hout _ _ _ A cc e2 e3 e4⟩
  have hm : merge c c [id] rsG (frz rs id) = updR rsG id (.ro T xs) := by
    funext j
    unfold merge
    by_cases hj : j = id
    · subst hj
      rw [if_pos (.inr (by simp)), updR_same]
      unfold frz
      rw [hrs]
      simp only
      rw [updR_same]
    · rw [if_neg (by rintro (h | h); · omega
                     · simp at h; exact hj h), updR_other _ _ hj]
  rw [hm]
  exact s

theorem cutRow_slv {P : Program} {Γ : Nat → Option TI} (hΓ : TyOk P Γ) {o : Oper} {t : TypeId} {x : Operand} {hi : Option Operand} {ρA : Operand → AV} {rs : Rs} {c : Nat} {id : Nat} {d : Bool} {T : T} {xs : List T.den} {e : Nat} {ei : TI} {m : Nat}
    (ho : o.op = .slice t x none hi none) (hx : ρA x = .c (.l (.sl id))) (hrs : rs id = .row d T xs) {a1 a2 a3 a5} (ht : Γ t = some ⟨a1, a2, a3, .slice e, a5⟩) (he : Γ e = some ei)
    (hmn : m ≤ List.length xs)
    (hb : ∀ (P : Program) (R : Nat → RV) (F : Nat → Prop) (w : World) (vl vh : Option Value) (c q : Nat) (isS : Bool), (hi.map ρA = none → q = List.length xs) → List.length xs ≤ c → optR R F w none vl → optR R F w (hi.map ρA) vh →
      (Instr.sliceBounds isS q c vl vh none).run P w = .ok (0, m, c) w) :
    LStep G P o ρA rs c (.c (.l (.slv id m))) rs c [id] [] := by
  refine LStep.pure fun F R w ρ hr hρ => ?_
  have hvx := hρ x
  rw [hx] at hvx
  obtain ⟨hlive, hvx, _⟩ := hvx
  have hroot := hr id (by simp)
  rw [hrs] at hroot
  obtain ⟨A, cc, e1, e2⟩ : ∃ A cc, (R id).hdr = .slice A (List.length xs) cc ∧ List.length xs ≤ cc := by
    rcases hroot.2.2 with ⟨hn, ⟨A, hA⟩, _⟩ | ⟨b, o', c', arr, ty, fz, Ss, h1, h2, _⟩
    · exact ⟨A, 0, by rw [hA, show xs = [] from hn]; rfl, by rw [show xs = [] from hn]; simp⟩
    · exact ⟨_, c', h1, h2⟩
  have opt : ∀ (y : Option Operand), optR R F w (y.map ρA) (y.map ρ) := by
    intro y
    cases y with
    | none => trivial
    | some y => exact hρ y
  have hrun := run_slice_sl (A := A) (hΓ.slice ht rfl w) (hΓ.size he w) (hb P R F w none _ cc (List.length xs) true (fun _ => rfl) e2 trivial (opt hi))
  have hA : (if cc = 0 then A else A.map (·.add (0 * ei.size))) = A := by
    split
    · rfl
    · rw [Nat.zero_mul]
      cases A with
      | none => rfl
      | some a => rfl
  rw [hA] at hrun
  refine ⟨.slice A m cc, ?_, hlive, A, _, cc, e1, ⟨hmn, fun h0 => row_ptr hroot.2 e1 (Nat.lt_of_lt_of_le h0 hmn)⟩, rfl⟩
  unfold execOp
  rw [ho]
  apply run_v
  rw [hvx, e1]
  exact hrun

theorem cutRowK_ok {α : Type} {P : Program} {Γ : Nat → Option TI} (hΓ : TyOk P Γ) {o : Oper} {t : TypeId} {x : Operand} {lo hi : Option Operand} {ρA : Operand → AV} {rs : Rs} {c : Nat} {k : KT α} {other : Option α} {r : α}
    (ho : o.op = .slice t x lo hi none) (h : cutRowK Γ rs c t (ρA x) (lo.map ρA) (hi.map ρA) k other = some r) :
    (∃ out rs' c' ids mod, k out rs' c' ids mod = some r ∧ LStep G P o ρA rs c out rs' c' ids mod) ∨ other = some r := by
  unfold cutRowK at h
  split at h
  case h_2 => exact .inr h
  rename_i id hx
  split at h
  case h_2 => exact .inr h
  rename_i d T xs hrs
  refine .inl ?_
  split at h
  case h_2 => cases h
  rename_i a1 a2 a3 e a5 ht
  split at h
  case h_2 => cases h
  rename_i ei he
  split at h
  case isFalse => cases h
  rename_i hsz
  have asList : ∀ (l m : Nat), l ≤ m → m ≤ List.length xs → ∀ (F : Nat → Prop) (R : Nat → RV) (w : World) (A : Option Addr) (c : Nat), List.length xs ≤ c → List.length xs ≤ cap →
      (∀ i x, (show List T.den from xs)[i]? = some x → ∃ b o cs', A = some ⟨b, o, none⟩ ∧ F b ∧ RdL F w T x cs' ∧ CellsAt w b (o + i * T.n) cs') →
      VR R F w (.c (.l (.dat (.list T) (List.drop l (List.take m xs))))) (.slice (if c = l then A else A.map (·.add (l * ei.size))) (m - l) (c - l)) := by
    intro l m hlm hmn F R w A c e2 e3 e4
    have hlen := length_cut (show List T.den from xs) l m hlm hmn
    have e2' : List.length (show List T.den from xs) ≤ c := e2
    refine ⟨if c = l then A else A.map (·.add (l * ei.size)), c - l, ?_, ?_, ?_, ?_⟩
    · rw [hlen]
    · rw [hlen]; omega
    · rw [hlen]; omega
    · intro i z hz
      have hz' := getElem?_cut _ _ _ _ hz
      obtain ⟨b, o', cs, ha, hF, hrd, hc⟩ := e4 (l + i) z hz'
      have hlt : l < c := by
        have := (List.getElem?_eq_some_iff.1 hz').1
        omega
      refine ⟨b, o' + l * T.n, cs, ?_, hF, hrd, ?_⟩
      · rw [if_neg (by omega), ha, hsz]
        simp [add_off]
      · have : o' + l * T.n + i * T.n = o' + (l + i) * T.n := by rw [Nat.add_mul, Nat.add_assoc]
        rw [this]; exact hc
  split at h
  · rename_i hlo
    obtain ⟨l, m, h, hlm, hmn, hl0, hb⟩ := bndsK_ok h
    obtain rfl := hl0 rfl
    obtain rfl : lo = none := by cases lo with | none => rfl | some y => cases hlo
    cases hsp : isSp Γ t with
    | false =>
      rw [hsp] at h
      exact ⟨_, _, _, _, _, h, cutRow_step hΓ ho hx hrs ht he hsz hlm hmn hb fun F R w A c e2 e3 e4 => asList 0 m hlm hmn F R w A c e2 e3 e4⟩
    | true =>
      rw [hsp] at h
      exact ⟨_, _, _, _, _, h, cutRow_slv hΓ ho hx hrs ht he hmn hb⟩
  · rename_i lo' hlo
    obtain ⟨l, m, h, hlm, hmn, hl0, hb⟩ := bndsK_ok h
    exact ⟨_, _, _, _, _, h, cutRow_step hΓ ho hx hrs ht he hsz hlm hmn hb (asList l m hlm hmn)⟩
end Go.Sx

namespace Go.Sx
open Go
variable {G : Gl}
set_option linter.unusedVariables false
set_option linter.unusedSimpArgs false

theorem LStep.shw {P : Program} {o : Oper} {ρA : Operand → AV} {rs : Rs} {l : List Nat} {c : Nat} {out : AV} {rs' : Rs} {c' : Nat} {ids mod : List Nat} (h : LStep G P o ρA (shwAll rs l) c out rs' c' ids mod) :
    LStep G P o ρA rs c out (fun j => cond ((Nat.ble c j && Nat.blt j c') || memB j mod) (rs' j) (shwAll rs l j)) c' (ids ++ l) (l ++ mod) := by
  refine ⟨h.1, fun rsG F R w ρ hids hnew hs hv => ?_⟩
  obtain ⟨F1, R1, g1, s1⟩ := shwAll_ok (ids := l) hs
  have h2 := h.2 (shwAll rsG l) F1 R1 w ρ (fun j hj => shwAll_at (hids j (List.mem_append_left _ hj)))
    (fun j h1 h2 => ⟨(g1.hdr j (fun h => h)).1.trans (hnew j h1 h2).1, shwAll_dead (hnew j h1 h2).2⟩) s1 ⟨fun t => VR.goes g1 (g1.agree hs) (hv t), hv.cst, G.mono hv.gl g1.sub (g1.agree hs)⟩
  have hm : merge c c' (l ++ mod) rsG (fun j => cond ((Nat.ble c j && Nat.blt j c') || memB j mod) (rs' j) (shwAll rs l j)) = merge c c' mod (shwAll rsG l) rs' := by
    funext j
    by_cases hj : (c ≤ j ∧ j < c') ∨ j ∈ mod
    · rw [merge_at (mod := mod) hj, merge_at (by rcases hj with h | h; exact .inl h; exact .inr (List.mem_append_right _ h))]
      have : ((Nat.ble c j && Nat.blt j c') || memB j mod) = true := by
        rcases hj with ⟨h1, h2⟩ | h
        · simp [Nat.ble_eq.mpr h1, Nat.blt_eq.mpr h2]
        · simp [memB_iff.2 h]
      rw [this]; rfl
    · rw [merge_off (mod := mod) hj]
      have hb : ((Nat.ble c j && Nat.blt j c') || memB j mod) = false := by
        rw [Bool.eq_false_iff]
        intro hc
        apply hj
        simp only [Bool.or_eq_true, Bool.and_eq_true] at hc
        rcases hc with ⟨h1, h2⟩ | h1
        · exact .inl ⟨Nat.ble_eq.mp h1, Nat.blt_eq.mp h2⟩
        · exact .inr (memB_iff.1 h1)
      by_cases hjl : j ∈ l
      · rw [merge_at (.inr (List.mem_append_left _ hjl)), hb]
        exact shwAll_at (hids j (List.mem_append_right _ hjl)).symm
      · rw [merge_off (by
          rintro (h | h)
          · exact hj (.inl h)
          · rcases List.mem_append.1 h with h | h
            · exact hjl h
            · exact hj (.inr h)), shwAll_off hjl]
  unfold Does at h2 ⊢
  split at h2
  · obtain ⟨F2, R2, g2, s2, hv2⟩ := h2
    exact ⟨F2, R2, g1.trans g2 (fun j => by simp) (fun _ _ h => h), by rw [hm]; exact s2, hv2⟩
  · obtain ⟨F2, R2, g2, s2, hv2⟩ := h2
    exact ⟨F2, R2, g1.trans g2 (fun j => by simp) (fun _ _ h => h), by rw [hm]; exact s2, hv2⟩
  · exact Calls.mono h2 fun e w' ⟨v, he, F2, R2, g2, s2, hv2⟩ => ⟨v, he, F2, R2, g1.trans g2 (fun j => by simp) (fun _ _ h => h), by rw [hm]; exact s2, hv2⟩
  · exact h2

/-- what a step does behind that -/
def preShw {α : Type} (rs : Rs) (l : List Nat) (c : Nat) (k : KT α) : KT α :=
  fun out rs' c' ids mod => k out (fun j => cond ((Nat.ble c j && Nat.blt j c') || memB j mod) (rs' j) (shwAll rs l j)) c' (ids ++ l) (l ++ mod)

theorem preShw_ok {α : Type} {P : Program} {o : Oper} {ρA : Operand → AV} {rs : Rs} {l : List Nat} {c : Nat} {k : KT α} {r : α}
    (h : ∃ out rs' c' ids mod, preShw rs l c k out rs' c' ids mod = some r ∧ LStep G P o ρA (shwAll rs l) c out rs' c' ids mod) : ∃ out rs' c' ids mod, k out rs' c' ids mod = some r ∧ LStep G P o ρA rs c out rs' c' ids mod := by
  obtain ⟨out, rs', c', ids, mod, h1, h2⟩ := h
  exact ⟨_, _, _, _, _, h1, h2.shw⟩

/-- an element that is read-only below goes to a row that is owned to the bottom: the row is no longer so -/
def apShw (rs : Rs) (x y : AV) : List Nat :=
  match x with
  | .c (.l (.sl id)) =>
    (match rs id with
     | .row true t _ =>
       cond t.plain []
         (match y with
          | .c (.l (.dat _ _)) => [id]
          | .c (.l (.sl id2)) => (match rs id2 with | .row false _ _ => [id] | _ => [])
          | _ => [])
     | _ => [])
  | _ => []

def appendShK {α : Type} (Γ : Nat → Option TI) (rs : Rs) (c : Nat) (ts : Array TypeId) (x y : AV) (k : KT α) : Option α :=
  match apShw rs x y with
  | [] => appendK Γ rs c ts x y k
  | l => appendK Γ (shwAll rs l) c ts x y (preShw rs l c k)

theorem appendShK_ok {α : Type} {P : Program} {Γ : Nat → Option TI} (hΓ : TyOk P Γ) {o : Oper} {ts : Array TypeId} {x y : Operand} {ρA : Operand → AV} {rs : Rs} {c : Nat} {k : KT α} {r : α}
    (ho : o.op = .call { callee := .builtin .append, args := #[x, y], argTypes := ts }) (h : appendShK Γ rs c ts (ρA x) (ρA y) k = some r) :
    ∃ out rs' c' ids mod, k out rs' c' ids mod = some r ∧ LStep G P o ρA rs c out rs' c' ids mod := by
  unfold appendShK at h
  split at h
  · exact appendK_ok hΓ ho h
  · exact preShw_ok (appendK_ok hΓ ho h)

/-- a store of cells, some of which are read-only, to an element of a row that is owned to the bottom -/
def stShw (rs : Rs) (a v : AV) : List Nat :=
  match a with
  | .c (.l (.el id _ _ _)) =>
    (match rs id with
     | .row true t _ =>
       cond t.plain []
         (cond (match v with
                | .c v => Nat.blt v.cells.length t.n || v.cells.any fun x => match x with | .dat u _ => !u.plain | _ => false
                | _ => false) [id] [])
     | _ => [])
  | _ => []

def storeShK {α : Type} (Γ : Nat → Option TI) (rs : Rs) (c : Nat) (t : TypeId) (a v : AV) (k : KT α) (other : Option α) : Option α :=
  match stShw rs a v with
  | [] => storeElK Γ rs c t a v k other
  | l => storeElK Γ (shwAll rs l) c t a v (preShw rs l c k) none

theorem storeShK_ok {α : Type} {P : Program} {Γ : Nat → Option TI} (hΓ : TyOk P Γ) {o : Oper} {t : TypeId} {a x : Operand} {ρA : Operand → AV} {rs : Rs} {c : Nat} {k : KT α} {other : Option α} {r : α} (ho : o.op = .store t a x)
    (h : storeShK Γ rs c t (ρA a) (ρA x) k other = some r) : (∃ out rs' c' ids mod, k out rs' c' ids mod = some r ∧ LStep G P o ρA rs c out rs' c' ids mod) ∨ other = some r := by
  unfold storeShK at h
  split at h
  · exact storeElK_ok hΓ ho h
  · rcases storeElK_ok hΓ ho h with h | h
    · exact .inl (preShw_ok h)
    · cases h
end Go.Sx

namespace Go.Sx
open Go
variable {G : Gl}
set_option linter.unusedVariables false
set_option linter.unusedSimpArgs false

/-- is there a slice in it that is told with what lies behind it -/
def hasSp : T → Bool
  | .sp _ => true
  | .list t => hasSp t
  | .pair a b => hasSp a || hasSp b
  | _ => false

/-- another plain cell at a place of a datum -/
def setPl (u : T) (y : u.den) : (t : T) → Nat → t.den → Option t.den
  | .pair a b, off, x => if off < a.n then (match setPl u y a off x.1 with | some z => some (z, x.2) | none => none) else (match setPl u y b (off - a.n) x.2 with | some z => some (x.1, z) | none => none)
  | .int k, off, _ => (match off with | 0 => asT (.int k) u y | _ => none)
  | .bool, off, _ => (match off with | 0 => asT .bool u y | _ => none)
  | .str, off, _ => (match off with | 0 => asT .str u y | _ => none)
  | _, _, _ => none

section
variable {P : Program} {w : World}

theorem OwnL.setPl {F : Nat → Prop} {u : T} {y : u.den} {v : Value} (hv : RdL F w u y [v]) : ∀ {t : T} {off : Nat} {x z : t.den} {cs : List Value} {S : List Nat}, OwnL w t x cs S → Go.Sx.setPl u y t off x = some z → OwnL w t z (cs.set off v) S
  | .pair a b, off, (x, x'), z, cs, S, ⟨c1, c2, S1, S2, e, eS, h1, h2⟩, hs => by
    subst e eS
    have hl1 := h1.length
    unfold Go.Sx.setPl at hs
    split at hs
    · rename_i ho
      split at hs
      · rename_i z1 hz1
        injection hs with hs
        subst hs
        exact ⟨c1.set off v, c2, S1, S2, by rw [List.set_append_left _ _ (by omega)], rfl, OwnL.setPl hv h1 hz1, h2⟩
      · cases hs
    · rename_i ho
      split at hs
      · rename_i z1 hz1
        injection hs with hs
        subst hs
        exact ⟨c1, c2.set (off - a.n) v, S1, S2, by rw [List.set_append_right _ _ (by omega), hl1], rfl, h1, OwnL.setPl hv h2 hz1⟩
      · cases hs
  | .int k, off, x, z, cs, S, h, hs => by
    unfold Go.Sx.setPl at hs
    split at hs
    · obtain ⟨e, rfl⟩ := asT_some hs
      subst e
      obtain ⟨⟨e1, _⟩, e2⟩ := h
      subst e1 e2
      exact ⟨hv, rfl⟩
    · cases hs
  | .bool, off, x, z, cs, S, h, hs => by
    unfold Go.Sx.setPl at hs
    split at hs
    · obtain ⟨e, rfl⟩ := asT_some hs
      subst e
      obtain ⟨e1, e2⟩ := h
      subst e1 e2
      exact ⟨hv, rfl⟩
    · cases hs
  | .str, off, x, z, cs, S, h, hs => by
    unfold Go.Sx.setPl at hs
    split at hs
    · obtain ⟨e, rfl⟩ := asT_some hs
      subst e
      obtain ⟨⟨e1, _⟩, e2⟩ := h
      subst e1 e2
      exact ⟨hv, rfl⟩
    · cases hs
  | .raw, _, _, _, _, _, _, hs => by cases hs
  | .list _, _, _, _, _, _, _, hs => by cases hs
  | .sp _, _, _, _, _, _, _, hs => by cases hs

theorem nodup_set2 {S' : List Nat} (hS : S'.Nodup) : ∀ {Ss : List (List Nat)} {i : Nat}, Ss.flatten.Nodup → i < Ss.length → (∀ y ∈ S', y ∈ Ss.getD i [] ∨ y ∉ Ss.flatten) → (Ss.set i S').flatten.Nodup
  | [], i, h, hi, _ => by simp at hi
  | S :: Ss, 0, h, hi, hd => by
    simp only [List.set_cons_zero, List.flatten_cons] at h ⊢
    obtain ⟨_, h2, h3⟩ := List.nodup_append.1 h
    refine List.nodup_append.2 ⟨hS, h2, fun a ha b hb e => ?_⟩
    subst e
    rcases hd a ha with h4 | h4
    · exact h3 a h4 a hb rfl
    · exact h4 (by simp only [List.flatten_cons, List.mem_append]; exact .inr hb)
  | S :: Ss, i + 1, h, hi, hd => by
    simp only [List.set_cons_succ, List.flatten_cons] at h ⊢
    obtain ⟨h1, h2, h3⟩ := List.nodup_append.1 h
    have hd' : ∀ y ∈ S', y ∈ Ss.getD i [] ∨ y ∉ Ss.flatten := fun y hy => by
      rcases hd y hy with h4 | h4
      · exact .inl h4
      · exact .inr fun hm => h4 (by simp only [List.flatten_cons, List.mem_append]; exact .inr hm)
    refine List.nodup_append.2 ⟨h1, nodup_set2 hS h2 (by simpa using hi) hd', fun a ha b hb e => ?_⟩
    subst e
    rcases mem_set_flatten hb with hb | hb
    · exact h3 a ha a hb rfl
    · rcases hd a hb with h4 | h4
      · have : a ∈ Ss.flatten := by
          have h5 : a ∈ Ss.getD i [] := h4
          refine List.mem_flatten.2 ⟨_, ?_, h5⟩
          have hi' : i < Ss.length := by simpa using hi
          rw [List.getD_eq_getElem?_getD, List.getElem?_eq_getElem hi']; exact List.getElem_mem hi'
        exact h3 a ha a this rfl
      · exact h4 (by simp only [List.flatten_cons, List.mem_append]; exact .inl ha)

theorem getD_flatten {Ss : List (List Nat)} {i y : Nat} (hi : i < Ss.length) (h : y ∈ Ss.getD i []) : y ∈ Ss.flatten := by
  refine List.mem_flatten.2 ⟨_, ?_, h⟩
  rw [List.getD_eq_getElem?_getD, List.getElem?_eq_getElem hi]; exact List.getElem_mem hi

/-! ### A plain cell is written -/
def storeFldK {α : Type} (Γ : Nat → Option TI) (rs : Rs) (c : Nat) (t : TypeId) (a x : AV) (k : KT α) (other : Option α) : Option α :=
  match a, x with
  | .c (.l (.el id i n off)), .c (.l (.dat u y)) =>
    (match Γ t, rs id with
     | some ti, .row true T xs =>
       if hasSp T = true ∧ u.plain = true ∧ ti.size = 1 ∧ T.n = n ∧ off < T.n then
         (match setPl u y T off (List.getD xs i T.zero) with
          | some z => k .none (updR rs id (.row true T (List.set xs i z))) c [id] [id]
          | none => other)
       else other
     | _, _ => other)
  | _, _ => other

theorem merge_upd1 {c id : Nat} {rsG rs : Rs} {root : Root} : merge c c [id] rsG (updR rs id root) = updR rsG id root := by
  funext j
  unfold merge updR
  by_cases hj : j = id
  · subst hj; simp
  · rw [if_neg]
    · simp [hj]
    · rintro (h | h)
      · omega
      · simp at h; exact hj h

set_option maxHeartbeats 1000000 in
theorem storeFldK_ok {α : Type} {Γ : Nat → Option TI} (hΓ : TyOk P Γ) {o : Oper} {t : TypeId} {a x : Operand} {ρA : Operand → AV} {rs : Rs} {c : Nat} {k : KT α} {other : Option α} {r : α} (ho : o.op = .store t a x)
    (h : storeFldK Γ rs c t (ρA a) (ρA x) k other = some r) : (∃ out rs' c' ids mod, k out rs' c' ids mod = some r ∧ LStep G P o ρA rs c out rs' c' ids mod) ∨ other = some r := by
  unfold storeFldK at h
  split at h
  case h_2 => exact .inr h
  rename_i id i n off u y ha hx
  split at h
  case h_2 => exact .inr h
  rename_i ti T xs hti hrs
  split at h
  case isFalse => exact .inr h
  rename_i hcnd
  obtain ⟨_, hpl, hsz, hn, hoff⟩ := hcnd
  subst hn
  split at h
  case h_2 => exact .inr h
  rename_i z hz
  refine .inl ⟨_, _, _, _, _, h, Nat.le_refl _, fun rsG F R w ρ hids hnew hs hρ => ?_⟩
  have hva := hρ a
  have hvx := hρ x
  rw [ha] at hva
  rw [hx] at hvx
  obtain ⟨hlive, b0, ob0, l, cp, hh, hil, hp⟩ := hva
  have hroot := hs.ok id
  rw [hids id (by simp), hrs] at hroot
  obtain ⟨_, hcap, hrow⟩ := hroot
  rcases hrow with ⟨_, ⟨A0, hv0⟩, _⟩ | ⟨b, ob, c', arr, ty, fz, Ss, e1, e2, e3, ez, e4, e5, e6, e7⟩
  · rw [hv0] at hh; injection hh with _ hh2; omega
  rw [e1] at hh
  injection hh with hh1 hh2 hh3
  injection hh1 with hh1
  injection hh1 with hb hob
  subst hb hob hh2
  have hi : i < xs.length := hil
  obtain ⟨cs, k1, k2, k3⟩ := e7 i _ (List.getElem?_eq_getElem hi)
  have hxe : List.getD xs i T.zero = xs[i] := by simp [List.getD_eq_getElem?_getD, hi]
  rw [hxe] at hz
  unfold ElL at k2
  simp only [if_true] at k2
  have hvx : RdL F w u y [ρ x] := hvx
  have hone : one (ρ x) = true := LR.one (R := R) (F := F) (w := w) (a := .dat u y) hvx
  have hmul : i * T.n + T.n ≤ c' * T.n := by
    rw [show i * T.n + T.n = (i + 1) * T.n by rw [Nat.add_mul, Nat.one_mul]]
    exact Nat.mul_le_mul_right _ (by omega)
  let p := ob + i * T.n + off
  have hpl' : p + [ρ x].length ≤ arr.size := by show ob + i * T.n + off + 1 ≤ _; omega
  obtain ⟨⟨arr', g1, g2⟩, g3, g4, g5, g6, g7⟩ := setCells_facts [ρ x] w b p arr ty fz e3 hpl'
  let w' := setCells w b p [ρ x]
  have hasz : arr'.size = arr.size := by
    have := congrArg List.length g2
    simp at this; omega
  have hget : ∀ q, arr'[q]? = if q < p then arr[q]? else if q < p + 1 then [ρ x][q - p]? else arr[q]? := fun q => by
    have := patch_get (l := arr.toList) (vs := [ρ x]) (p := p) (q := q) (by simpa using hpl')
    rw [← g2] at this
    simpa using this
  have hcells : (ρ x).cells = #[ρ x] := one_cells hone
  have hrun : (execOp ρ o).run P w = .ok .skip w' := by
    unfold execOp
    rw [ho]
    simp only
    unfold Instr.storeAt
    rw [hp]
    have hsa : (Instr.sureAddr (.pointer (some ⟨b, ob + i * T.n + off, none⟩))).run P w = .ok ⟨b, p, none⟩ w := rfl
    have hst : (storeVar t ⟨b, p, none⟩ (ρ x)).run P w = .ok () w' := by
      unfold storeVar
      rw [bind_ok (hΓ.size hti w)]
      rw [if_neg (by rw [hcells, hsz]; simp)]
      have := run_storeCells (P := P) [ρ x] 0 w b p arr ty fz e3 (by simpa using hpl') ez (fun v hv => by rw [List.mem_singleton.1 hv]; exact hone)
      rw [hcells]
      simpa using this
    rw [bind_ok ((bind_ok hsa).trans hst)]
    rfl
  have hbS : b ∈ (R id).S := by rw [e5]; simp
  have hndS := hs.nd id
  rw [e5] at hndS
  obtain ⟨hbn, hSn⟩ := List.nodup_cons.1 hndS
  have hup := Sat.upd (F' := F) (R' := R) (w' := w') (rs' := updR rsG id (.row true T (List.set xs i z))) (new := fun _ => False) (M := (· = id)) hs
    (fun j hj => hj.elim) (fun j hj => ⟨updR_other _ _ hj, rfl⟩) (fun _ _ _ => ⟨rfl, rfl⟩) (fun j hj y hy => .inl ⟨j, hj, hy⟩) (fun j _ => hs.nd j) (fun p q hp hq hpq => absurd (hp.trans hq.symm) hpq)
    (fun b2 hb2 hS2 => g3 b2 fun e => hS2 id rfl (e ▸ hbS)) (fun _ hb => hb) (fun _ hb => .inl hb) (by rw [g4]; exact Nat.le_refl _) g5 g6 g7
    (fun hg hag j hj => by
      rw [hj, updR_same]
      refine ⟨hlive, by show (List.set xs i z).length ≤ cap; rw [List.length_set]; exact hcap, .inr ⟨b, ob, c', arr', ty, fz, Ss, ?_, ?_, g1, ?_, ?_, e5, ?_, fun q u' hq => ?_⟩⟩
      · show (R id).hdr = _; rw [e1]; show _ = Value.slice _ (List.set xs i z).length c'; rw [List.length_set]
      · show (List.set xs i z).length ≤ c'; rw [List.length_set]; exact e2
      · intro q hq; rw [hasz] at hq; exact ez q hq
      · rw [hasz]; exact e4
      · show Ss.length = (List.set xs i z).length; rw [List.length_set]; exact e6
      · have hq : (List.set xs i z)[q]? = some u' := hq
        have hSb : ∀ q, q < Ss.length → ∀ b2 ∈ Ss.getD q [], w'.heap[b2]? = w.heap[b2]? := fun q hq b2 hb2 => g3 b2 fun e => hbn (e ▸ getD_flatten hq hb2)
        by_cases hqi : q = i
        · subst hqi
          have hu : u' = z := by rw [List.getElem?_set_self hi] at hq; injection hq with hq; exact hq.symm
          subst hu
          refine ⟨cs.set off (ρ x), by rw [List.length_set]; exact k1, ?_, fun q2 u2 hq2 => ?_⟩
          · unfold ElL
            simp only [if_true]
            refine OwnL.agree (OwnL.setPl hvx k2 hz) (hSb q (by rw [e6]; exact hi))
          · rw [hget]
            by_cases z1 : q2 = off
            · subst z1
              rw [if_neg (by show ¬ ob + q * T.n + q2 < ob + q * T.n + q2; omega), if_pos (by show ob + q * T.n + q2 < ob + q * T.n + q2 + 1; omega), show ob + q * T.n + q2 - p = 0 by show ob + q * T.n + q2 - (ob + q * T.n + q2) = 0; omega]
              rw [List.getElem?_set_self (by omega)] at hq2
              exact hq2
            · rw [List.getElem?_set_ne (Ne.symm z1)] at hq2
              rcases Nat.lt_or_gt_of_ne z1 with z2 | z2
              · rw [if_pos (by show ob + q * T.n + q2 < ob + q * T.n + off; omega)]
                exact k3 q2 u2 hq2
              · rw [if_neg (by show ¬ ob + q * T.n + q2 < ob + q * T.n + off; omega), if_neg (by show ¬ ob + q * T.n + q2 < ob + q * T.n + off + 1; omega)]
                exact k3 q2 u2 hq2
        · rw [List.getElem?_set_ne (Ne.symm hqi)] at hq
          obtain ⟨cs2, m1, m2, m3⟩ := e7 q u' hq
          have hqS : q < Ss.length := by rw [e6]; exact (List.getElem?_eq_some_iff.1 hq).1
          refine ⟨cs2, m1, ?_, fun z' u2 hz' => ?_⟩
          · unfold ElL at m2 ⊢
            simp only [if_true] at m2 ⊢
            exact m2.agree (hSb q hqS)
          · have hz2 := m3 z' u2 hz'
            have hzl : z' < T.n := by rw [← m1]; exact (List.getElem?_eq_some_iff.1 hz').1
            rw [hget]
            rcases Nat.lt_or_gt_of_ne hqi with h1 | h1
            · have : q * T.n + T.n ≤ i * T.n := by
                rw [show q * T.n + T.n = (q + 1) * T.n by rw [Nat.add_mul, Nat.one_mul]]
                exact Nat.mul_le_mul_right _ h1
              rw [if_pos (by show ob + q * T.n + z' < ob + i * T.n + off; omega)]
              exact hz2
            · have : i * T.n + T.n ≤ q * T.n := by
                rw [show i * T.n + T.n = (i + 1) * T.n by rw [Nat.add_mul, Nat.one_mul]]
                exact Nat.mul_le_mul_right _ h1
              rw [if_neg (by show ¬ ob + q * T.n + z' < ob + i * T.n + off; omega), if_neg (by show ¬ ob + q * T.n + z' < ob + i * T.n + off + 1; omega)]
              exact hz2)
  unfold Does
  rw [hrun]
  refine ⟨F, R, by rw [new_none]; exact hup.1, by rw [merge_upd1]; exact hup.2, trivial⟩
end
end Go.Sx

namespace Go.Sx
open Go
variable {G : Gl}
set_option linter.unusedVariables false
set_option linter.unusedSimpArgs false

section
variable {P : Program}

theorem flat_nodup : ∀ {Ss : List (List Nat)} {i : Nat}, Ss.flatten.Nodup → (Ss.getD i []).Nodup
  | [], i, _ => by simp
  | S :: Ss, 0, h => by
    simp only [List.flatten_cons] at h
    exact (List.nodup_append.1 h).1
  | S :: Ss, i + 1, h => by
    simp only [List.flatten_cons] at h
    exact flat_nodup (Ss := Ss) (i := i) (List.nodup_append.1 h).2.1

theorem getD_flat {y : Nat} : ∀ {Ss : List (List Nat)} {i : Nat}, y ∈ Ss.getD i [] → y ∈ Ss.flatten
  | [], i, h => by simp at h
  | S :: Ss, 0, h => by
    simp only [List.flatten_cons, List.mem_append]; exact .inl h
  | S :: Ss, i + 1, h => by
    simp only [List.flatten_cons, List.mem_append]; exact .inr (getD_flat (Ss := Ss) (i := i) h)

theorem flat_disj {q : Nat} : ∀ {Ss : List (List Nat)} {i m : Nat}, Ss.flatten.Nodup → i ≠ m → q ∈ Ss.getD m [] → q ∉ Ss.getD i []
  | [], i, m, _, _, h, _ => by simp at h
  | S :: Ss, 0, 0, _, hne, _, _ => hne rfl
  | S :: Ss, 0, m + 1, h, _, h1, h2 => by
    simp only [List.flatten_cons] at h
    exact (List.nodup_append.1 h).2.2 q h2 q (getD_flat (Ss := Ss) (i := m) h1) rfl
  | S :: Ss, i + 1, 0, h, _, h1, h2 => by
    simp only [List.flatten_cons] at h
    exact (List.nodup_append.1 h).2.2 q h1 q (getD_flat (Ss := Ss) (i := i) h2) rfl
  | S :: Ss, i + 1, m + 1, h, hne, h1, h2 => by
    simp only [List.flatten_cons] at h
    exact flat_disj (Ss := Ss) (i := i) (m := m) (List.nodup_append.1 h).2.1 (fun e => hne (by rw [e])) h1 h2

/-! ### A slice is lent out -/
def loadHoleK {α : Type} (Γ : Nat → Option TI) (rs : Rs) (c : Nat) (t : TypeId) (a : AV) (k : KT α) (other : Option α) : Option α :=
  match a with
  | .c (.l (.el id i n off)) =>
    (match Γ t, rs id with
     | some ti, .row true T xs =>
       if ti.size = 1 ∧ ti.agg = false ∧ T.n = n ∧ off < T.n ∧ id < c then
         (match getSp T off (List.getD xs i T.zero) with
          | some ⟨u, y⟩ => k (.c (.l (.slv c y.2))) (updR (updR rs id (.rowh T xs i off c y.2)) c (.row true u y.1)) (c + 1) [id] [id]
          | none => other)
       else other
     | _, _ => other)
  | _ => other

theorem zip_get {α : Type} {xs : List α} {q : Nat} {p : α × Nat} (h : xs.zipIdx[q]? = some p) : xs[q]? = some p.1 ∧ p.2 = q := by
  rw [List.getElem?_zipIdx] at h
  cases hx : xs[q]? with
  | none => rw [hx] at h; cases h
  | some x =>
    rw [hx] at h
    simp only [Option.map_some, Option.some.injEq] at h
    subst h
    exact ⟨rfl, by simp⟩

set_option maxHeartbeats 1000000 in
theorem loadHoleK_ok {α : Type} {Γ : Nat → Option TI} (hΓ : TyOk P Γ) {o : Oper} {t : TypeId} {a : Operand} {ρA : Operand → AV} {rs : Rs} {c : Nat} {k : KT α} {other : Option α} {r : α} (ho : o.op = .load t a)
    (h : loadHoleK Γ rs c t (ρA a) k other = some r) : (∃ out rs' c' ids mod, k out rs' c' ids mod = some r ∧ LStep G P o ρA rs c out rs' c' ids mod) ∨ other = some r := by
  unfold loadHoleK at h
  split at h
  case h_2 => exact .inr h
  rename_i id i n off ha
  split at h
  case h_2 => exact .inr h
  rename_i ti T xs hti hrs
  split at h
  case isFalse => exact .inr h
  rename_i hcnd
  obtain ⟨hsz, hagg, hn, hoff, hidc⟩ := hcnd
  subst hn
  split at h
  case h_2 => exact .inr h
  rename_i u y hg
  refine .inl ⟨_, _, _, _, _, h, Nat.le_succ _, fun rsG F R w ρ hids hnew hs hρ => ?_⟩
  have hva := hρ a
  rw [ha] at hva
  obtain ⟨hlive, b0, ob0, l, cp, hh, hil, hp⟩ := hva
  have hrid : rsG id = .row true T xs := by rw [hids id (by simp)]; exact hrs
  have hroot := hs.ok id
  rw [hrid] at hroot
  obtain ⟨_, hcap, hrow⟩ := hroot
  rcases hrow with ⟨_, ⟨A0, hv0⟩, _⟩ | ⟨b, ob, c', arr, ty, fz, Ss, e1, e2, e3, ez, e4, e5, e6, e7⟩
  · rw [hv0] at hh; injection hh with _ hh2; omega
  have e1' := e1
  rw [e1] at hh
  injection hh with hh1 hh2 hh3
  injection hh1 with hh1
  injection hh1 with hb hob
  subst hb hob hh2
  have hi : i < xs.length := hil
  obtain ⟨cs, k1, k2, k3⟩ := e7 i _ (List.getElem?_eq_getElem hi)
  have hxe : List.getD xs i T.zero = xs[i] := by simp [List.getD_eq_getElem?_getD, hi]
  rw [hxe] at hg
  unfold ElL at k2
  simp only [if_true] at k2
  obtain ⟨hv, S1, S2, j1, j2, ⟨hky, v', hv', hr'⟩, j4, j5⟩ := OwnL.hole k2 hg
  simp only [List.cons.injEq, and_true] at hv'
  obtain ⟨A', c2, hve⟩ := row_hdr hr'
  have hve' : v' = .slice A' (List.length y.1) c2 := hve
  rw [hve'] at hv'
  have hhv : hv = .slice A' y.2 c2 := hv'
  obtain ⟨hcl, hcd⟩ := hnew c (Nat.le_refl _) (Nat.lt_succ_self _)
  have hne : id ≠ c := fun e => by rw [← e, hlive] at hcl; cases hcl
  have hbS : b ∈ (R id).S := by rw [e5]; simp
  have hndS := hs.nd id
  rw [e5] at hndS
  obtain ⟨hbn, hSn⟩ := List.nodup_cons.1 hndS
  have hiS : i < Ss.length := by rw [e6]; exact hi
  have hSi : Ss.getD i [] ∈ Ss := by rw [List.getD_eq_getElem?_getD, List.getElem?_eq_getElem hiS]; exact List.getElem_mem hiS
  have hSin : (Ss.getD i []).Nodup := flat_nodup hSn
  obtain ⟨n1, n2, n3⟩ := j5 hSin
  have hS1 : ∀ q ∈ S1, q ∈ Ss.getD i [] := fun q hq => (j4 q).2 (.inl hq)
  have hS2 : ∀ q ∈ S2, q ∈ Ss.getD i [] := fun q hq => (j4 q).2 (.inr hq)
  have hSetn : (Ss.set i S1).flatten.Nodup := nodup_set2 n1 hSn hiS fun q hq => .inl (hS1 q hq)
  have hSetsub : ∀ q ∈ (Ss.set i S1).flatten, q ∈ Ss.flatten := fun q hq => by
    rcases mem_set_flatten hq with h | h
    · exact h
    · exact getD_flatten hiS (hS1 q h)
  have hsub : ∀ q ∈ b :: (Ss.set i S1).flatten, q ∈ (R id).S := fun q hq => by
    rw [e5]
    rcases List.mem_cons.1 hq with e | hq
    · rw [e]; exact List.mem_cons_self
    · exact List.mem_cons_of_mem _ (hSetsub q hq)
  have hsub2 : ∀ q ∈ S2, q ∈ (R id).S := fun q hq => by rw [e5]; exact List.mem_cons_of_mem _ (getD_flatten hiS (hS2 q hq))
  -- what is lent out is not in what stays
  have hdis : ∀ q ∈ b :: (Ss.set i S1).flatten, q ∉ S2 := fun q hq hq2 => by
    rcases List.mem_cons.1 hq with e | hq
    · exact hbn (e ▸ getD_flatten hiS (hS2 q hq2))
    · obtain ⟨S, hS, hqS⟩ := List.mem_flatten.1 hq
      obtain ⟨m, hm, rfl⟩ := List.getElem_of_mem hS
      rw [List.length_set] at hm
      by_cases hmi : m = i
      · subst hmi
        rw [List.getElem_set_self] at hqS
        exact n3 q hqS hq2
      · rw [List.getElem_set_ne (Ne.symm hmi)] at hqS
        have hq3 := hS2 q hq2
        refine flat_disj hSn (Ne.symm hmi) ?_ hq3
        rw [List.getD_eq_getElem?_getD, List.getElem?_eq_getElem hm]; exact hqS
  let R' : Nat → RV := updR (updR R id { R id with S := b :: (Ss.set i S1).flatten }) c ⟨true, v', S2⟩
  have hRc : R' c = ⟨true, v', S2⟩ := updR_same _ _ _
  have hRid : R' id = { R id with S := b :: (Ss.set i S1).flatten } := by show updR _ _ _ id = _; rw [updR_other _ _ hne, updR_same]
  have hup := Sat.upd (F' := F) (R' := R') (w' := w) (rs' := updR (updR rsG id (.rowh T xs i off c y.2)) c (.row true u y.1)) (new := (· = c)) (M := fun j => j = id ∨ j = c) hs
    (fun j hj => ⟨.inr hj, by rw [hj]; exact hcl⟩)
    (fun j hj => by
      have h1 : j ≠ id := fun e => hj (.inl e)
      have h2 : j ≠ c := fun e => hj (.inr e)
      exact ⟨by rw [updR_other _ _ h2, updR_other _ _ h1], by show updR _ _ _ j = _; rw [updR_other _ _ h2, updR_other _ _ h1]⟩)
    (fun j hj hjn => by
      rcases hj with e | e
      · rw [e, hRid]; exact ⟨rfl, rfl⟩
      · exact absurd e hjn)
    (fun j hj q hq => by
      rcases hj with e | e
      · rw [e, hRid] at hq; exact .inl ⟨id, .inl rfl, hsub q hq⟩
      · rw [e, hRc] at hq; exact .inl ⟨id, .inl rfl, hsub2 q hq⟩)
    (fun j hj => by
      rcases hj with e | e
      · rw [e, hRid]; exact List.nodup_cons.2 ⟨fun hq => hbn (hSetsub b hq), hSetn⟩
      · rw [e, hRc]; exact n2)
    (fun p q hp hq hpq z hzp hzq => by
      rcases hp with e | e <;> rcases hq with f | f
      · exact hpq (e.trans f.symm)
      · rw [e, hRid] at hzp; rw [f, hRc] at hzq; exact hdis z hzp hzq
      · rw [e, hRc] at hzp; rw [f, hRid] at hzq; exact hdis z hzq hzp
      · exact hpq (e.trans f.symm))
    (fun _ _ _ => rfl) (fun _ hb => hb) (fun _ hb => .inl hb) (Nat.le_refl _) rfl rfl rfl
    (fun hgo hag j hj => by
      rcases hj with e | e
      · rw [e, updR_other _ _ hne, updR_same, hRid]
        refine ⟨hlive, hi, by rw [hRc], A', List.length y.1, c2, by rw [hRc]; exact hve', hky, by show (List.zipIdx xs).length ≤ cap; rw [List.length_zipIdx]; exact hcap, .inr ⟨b, ob, c', arr, ty, fz, Ss.set i S1, ?_, ?_, e3, ez, e4, rfl, ?_, fun q p hq => ?_⟩⟩
        · rw [List.length_zipIdx]; exact e1'
        · rw [List.length_zipIdx]; exact e2
        · rw [List.length_set, List.length_zipIdx]; exact e6
        · obtain ⟨hq1, hq2⟩ := zip_get hq
          by_cases hqi : q = i
          · subst hqi
            have hpe : p.1 = xs[q] := by rw [List.getElem?_eq_getElem hi] at hq1; injection hq1 with hq1; exact hq1.symm
            refine ⟨cs, k1, ?_, k3⟩
            unfold HoleE
            rw [if_pos hq2, hpe, ← hhv]
            have : (Ss.set q S1).getD q [] = S1 := by simp [List.getD_eq_getElem?_getD, hiS]
            rw [this]
            exact j2
          · obtain ⟨cs2, m1, m2, m3⟩ := e7 q p.1 hq1
            refine ⟨cs2, m1, ?_, m3⟩
            unfold HoleE
            rw [if_neg (by rw [hq2]; exact hqi)]
            have hgq : (Ss.set i S1).getD q [] = Ss.getD q [] := by
              simp only [List.getD_eq_getElem?_getD, List.getElem?_set_ne (Ne.symm hqi)]
            rw [hgq]
            unfold ElL at m2
            simp only [if_true] at m2
            exact m2
      · rw [e, updR_same, hRc]
        refine ⟨rfl, ?_⟩
        rw [ElL_true]
        exact hr')
  have hrun : (execOp ρ o).run P w = .ok (.value hv) w := by
    unfold execOp
    rw [ho]
    apply run_v
    rw [hp]
    have hc : CellsAt w b (ob + i * T.n) cs := fun q u' hu => by
      have := k3 q u' hu
      simp [World.cell?, e3, this]
    have hag : (isAgg t).run P w = .ok false w := by rw [← hagg]; exact hΓ.agg hti w
    have hle : off + ti.size ≤ cs.length := by rw [hsz, k1]; exact hoff
    have := run_loadVar (P := P) (hΓ.size hti w) hag hc hle (fun _ => hsz)
    have he : cs.getD off undef = hv := by rw [List.getD_eq_getElem?_getD, j1]; rfl
    rw [if_neg (by simp), he] at this
    exact (bind_ok rfl).trans this
  unfold Does
  rw [hrun]
  refine ⟨F, R', ?_, ?_, ?_⟩
  · have : (fun j => c ≤ j ∧ j < c + 1) = (· = c) := by funext j; simp only [eq_iff_iff]; omega
    rw [this]; exact hup.1
  · have : merge c (c + 1) [id] rsG (updR (updR rs id (.rowh T xs i off c y.2)) c (.row true u y.1)) = updR (updR rsG id (.rowh T xs i off c y.2)) c (.row true u y.1) := by
      funext j
      by_cases hj : (c ≤ j ∧ j < c + 1) ∨ j ∈ [id]
      · rw [merge_at hj]
        rcases hj with h1 | h1
        · have : j = c := by omega
          rw [this, updR_same, updR_same]
        · have : j = id := by simpa using h1
          rw [this, updR_other _ _ hne, updR_other _ _ hne, updR_same, updR_same]
      · rw [merge_off hj]
        have h1 : j ≠ c := fun e => hj (.inl ⟨by omega, by omega⟩)
        have h2 : j ≠ id := fun e => hj (.inr (by simp [e]))
        rw [updR_other _ _ h1, updR_other _ _ h2]
    rw [this]; exact hup.2
  · exact ⟨by rw [hRc], A', List.length y.1, c2, by rw [hRc]; exact hve', ⟨hky, fun h0 => row_ptr hr' hve' (Nat.lt_of_lt_of_le h0 hky)⟩, hhv⟩

/-! ### It comes back -/
def plugAt (rs : Rs) (j : Nat) : Option (Nat × Root) :=
  match rs j with
  | .rowh t xs i off h k =>
    (match rs h with
     | .row d u ys => if (d || u.plain) = true ∧ j ≠ h then (match setSp u (ys, k) t off (List.getD xs i t.zero) with | some z => some (h, .row true t (List.set xs i z)) | none => none) else none
     | _ => none)
  | _ => none

set_option maxHeartbeats 1000000 in
theorem plugAt_ok {F : Nat → Prop} {R : Nat → RV} {w : World} {rs : Rs} {j h : Nat} {root : Root} (hs : Sat F R w rs) (hp : plugAt rs j = some (h, root)) :
    ∃ R', Goes F R w F R' w (fun _ => False) ∧ Sat F R' w (updR (updR rs h .dead) j root) := by
  unfold plugAt at hp
  split at hp
  case h_2 => cases hp
  rename_i t xs i off h' k hj
  split at hp
  case h_2 => cases hp
  rename_i d u ys hh
  split at hp
  case isFalse => cases hp
  rename_i hcnd
  obtain ⟨hd, hne⟩ := hcnd
  split at hp
  case h_2 => cases hp
  rename_i z hz
  injection hp with hp
  injection hp with hp1 hp2
  subst hp1 hp2
  have hroot := hs.ok j
  rw [hj] at hroot
  obtain ⟨hlj, hi, hlh, A, l, c, eh, hk, hcap, hrow⟩ := hroot
  have hrh := hs.ok h'
  rw [hh] at hrh
  have hown := row_own hd hrh.2
  obtain ⟨hky, hkc⟩ := row_cut hown eh hk
  have hsp : OwnL w (.sp u) (ys, k) [.slice A k c] (R h').S := ⟨hky, (R h').hdr, by rw [hkc], hown⟩
  rw [List.length_zipIdx] at hcap
  rcases hrow with ⟨h1, _, _⟩ | ⟨b, ob, c', arr, ty, fz, Ss, e1, e2, e3, ez, e4, e5, e6, e7⟩
  · have h0 : xs.length = 0 := by
      have := congrArg List.length h1
      rw [List.length_zipIdx] at this
      exact this
    omega
  rw [List.length_zipIdx] at e1 e2 e6
  have hiS : i < Ss.length := by rw [e6]; exact hi
  obtain ⟨cs, k1, k2, k3⟩ := e7 i (xs[i], i) (by rw [List.getElem?_zipIdx, List.getElem?_eq_getElem hi]; simp)
  unfold HoleE at k2
  rw [if_pos rfl] at k2
  have hxe : List.getD xs i t.zero = xs[i] := by simp [List.getD_eq_getElem?_getD, hi]
  rw [hxe] at hz
  obtain ⟨S', q1, q2, q3⟩ := HoleL.plug k2 hsp hz
  have hndS := hs.nd j
  rw [e5] at hndS
  obtain ⟨hbn, hSn⟩ := List.nodup_cons.1 hndS
  have hbS : b ∈ (R j).S := by rw [e5]; simp
  have hSi : Ss.getD i [] ∈ Ss := by rw [List.getD_eq_getElem?_getD, List.getElem?_eq_getElem hiS]; exact List.getElem_mem hiS
  have hfl : ∀ q ∈ Ss.flatten, q ∈ (R j).S := fun q hq => by rw [e5]; exact List.mem_cons_of_mem _ hq
  have hjh : ∀ q ∈ (R j).S, q ∉ (R h').S := fun q hq => hs.dj j h' hne q hq
  have hS'n : S'.Nodup := q3 (flat_nodup hSn) (hs.nd h') fun q hq => hjh q (hfl q (getD_flatten hiS hq))
  have hSetn : (Ss.set i S').flatten.Nodup := nodup_set2 hS'n hSn hiS fun q hq => by
    rcases (q2 q).1 hq with h1 | h1
    · exact .inl h1
    · exact .inr fun hf => hjh q (hfl q hf) h1
  have hmem : ∀ q ∈ b :: (Ss.set i S').flatten, q ∈ (R j).S ∨ q ∈ (R h').S := fun q hq => by
    rcases List.mem_cons.1 hq with e | hq
    · exact .inl (e ▸ hbS)
    · rcases mem_set_flatten hq with h1 | h1
      · exact .inl (hfl q h1)
      · rcases (q2 q).1 h1 with h2 | h2
        · exact .inl (hfl q (getD_flatten hiS h2))
        · exact .inr h2
  let R' : Nat → RV := updR (updR R h' { R h' with S := [] }) j { R j with S := b :: (Ss.set i S').flatten }
  have hRj : R' j = { R j with S := b :: (Ss.set i S').flatten } := updR_same _ _ _
  have hRh : R' h' = { R h' with S := [] } := by show updR _ _ _ h' = _; rw [updR_other _ _ (Ne.symm hne), updR_same]
  have hup := Sat.upd (F' := F) (R' := R') (w' := w) (rs' := updR (updR rs h' .dead) j (.row true t (List.set xs i z))) (new := fun _ => False) (M := fun q => q = j ∨ q = h') hs
    (fun q hq => hq.elim)
    (fun q hq => by
      have h1 : q ≠ j := fun e => hq (.inl e)
      have h2 : q ≠ h' := fun e => hq (.inr e)
      exact ⟨by rw [updR_other _ _ h1, updR_other _ _ h2], by show updR _ _ _ q = _; rw [updR_other _ _ h1, updR_other _ _ h2]⟩)
    (fun q hq _ => by
      rcases hq with e | e
      · rw [e, hRj]; exact ⟨rfl, rfl⟩
      · rw [e, hRh]; exact ⟨rfl, rfl⟩)
    (fun q hq y hy => by
      rcases hq with e | e
      · rw [e, hRj] at hy
        rcases hmem y hy with h1 | h1
        · exact .inl ⟨j, .inl rfl, h1⟩
        · exact .inl ⟨h', .inr rfl, h1⟩
      · rw [e, hRh] at hy; cases hy)
    (fun q hq => by
      rcases hq with e | e
      · rw [e, hRj]
        refine List.nodup_cons.2 ⟨fun hq => ?_, hSetn⟩
        rcases mem_set_flatten hq with h1 | h1
        · exact hbn h1
        · rcases (q2 b).1 h1 with h2 | h2
          · exact hbn (getD_flatten hiS h2)
          · exact hjh b hbS h2
      · rw [e, hRh]; exact List.nodup_nil)
    (fun p q hp hq hpq y hyp hyq => by
      rcases hp with e | e <;> rcases hq with f | f
      · exact hpq (e.trans f.symm)
      · rw [f, hRh] at hyq; cases hyq
      · rw [e, hRh] at hyp; cases hyp
      · exact hpq (e.trans f.symm))
    (fun _ _ _ => rfl) (fun _ hb => hb) (fun _ hb => .inl hb) (Nat.le_refl _) rfl rfl rfl
    (fun hgo hag q hq => by
      by_cases hqj : q = j
      · rw [hqj, updR_same, hRj]
        refine ⟨hlj, by show (List.set xs i z).length ≤ cap; rw [List.length_set]; exact hcap, .inr ⟨b, ob, c', arr, ty, fz, Ss.set i S', ?_, ?_, e3, ez, e4, rfl, ?_, fun m y hm => ?_⟩⟩
        · show (R j).hdr = Value.slice _ (List.set xs i z).length c'; rw [List.length_set]; exact e1
        · show (List.set xs i z).length ≤ c'; rw [List.length_set]; exact e2
        · show (Ss.set i S').length = (List.set xs i z).length; rw [List.length_set, List.length_set]; exact e6
        · have hm : (List.set xs i z)[m]? = some y := hm
          by_cases hmi : m = i
          · subst hmi
            have hy : y = z := by rw [List.getElem?_set_self hi] at hm; injection hm with hm; exact hm.symm
            subst hy
            refine ⟨cs, k1, ?_, k3⟩
            have : (Ss.set m S').getD m [] = S' := by simp [List.getD_eq_getElem?_getD, hiS]
            rw [this]
            unfold ElL
            simp only [if_true]
            exact q1
          · rw [List.getElem?_set_ne (Ne.symm hmi)] at hm
            obtain ⟨cs2, m1, m2, m3⟩ := e7 m (y, m) (by rw [List.getElem?_zipIdx, hm]; simp)
            refine ⟨cs2, m1, ?_, m3⟩
            unfold HoleE at m2
            rw [if_neg (by simpa using hmi)] at m2
            have hgq : (Ss.set i S').getD m [] = Ss.getD m [] := by
              simp only [List.getD_eq_getElem?_getD, List.getElem?_set_ne (Ne.symm hmi)]
            rw [hgq]
            unfold ElL
            simp only [if_true]
            exact m2
      · rw [updR_other _ _ hqj]
        have : q = h' := hq.resolve_left hqj
        rw [this, updR_same, hRh]
        rfl)
  exact ⟨R', hup.1, hup.2⟩

def findPlug (rs : Rs) : Nat → Option (Nat × Nat × Root)
  | 0 => none
  | n + 1 => (match plugAt rs n with | some (h, root) => some (n, h, root) | none => findPlug rs n)

theorem findPlug_ok {rs : Rs} : ∀ {n j h : Nat} {root : Root}, findPlug rs n = some (j, h, root) → plugAt rs j = some (h, root)
  | n + 1, j, h, root, hf => by
    unfold findPlug at hf
    split at hf
    · rename_i h1 r1 hp
      injection hf with hf
      injection hf with e1 e2
      injection e2 with e2 e3
      subst e1 e2 e3
      exact hp
    · exact findPlug_ok hf

def mergeB (c c' : Nat) (mod : List Nat) (rs rs' : Rs) : Rs := fun j => cond ((Nat.ble c j && Nat.blt j c') || memB j mod) (rs' j) (rs j)
theorem mergeB_eq {c c' : Nat} {mod : List Nat} {rs rs' : Rs} : mergeB c c' mod rs rs' = merge c c' mod rs rs' := by
  funext j
  unfold mergeB
  by_cases hj : (c ≤ j ∧ j < c') ∨ j ∈ mod
  · rw [merge_at hj]
    have : ((Nat.ble c j && Nat.blt j c') || memB j mod) = true := by
      rcases hj with ⟨h1, h2⟩ | h
      · simp [Nat.ble_eq.mpr h1, Nat.blt_eq.mpr h2]
      · simp [memB_iff.2 h]
    rw [this]; rfl
  · rw [merge_off hj]
    have hb : ((Nat.ble c j && Nat.blt j c') || memB j mod) = false := by
      rw [Bool.eq_false_iff]
      intro hc
      apply hj
      simp only [Bool.or_eq_true, Bool.and_eq_true] at hc
      rcases hc with ⟨h1, h2⟩ | h1
      · exact .inl ⟨Nat.ble_eq.mp h1, Nat.blt_eq.mp h2⟩
      · exact .inr (memB_iff.1 h1)
    rw [hb]; rfl

/-- behind a step, what was lent comes back -/
def postPlug {α : Type} (rs : Rs) (c : Nat) (k : KT α) : KT α := fun out rs' c' ids mod =>
  match findPlug (mergeB c c' mod rs rs') c' with
  | some (j, h, root) => k out (updR (updR (mergeB c c' mod rs rs') h .dead) j root) c' (j :: h :: ids) (j :: h :: mod)
  | none => k out rs' c' ids mod

theorem LStep.plug {o : Oper} {ρA : Operand → AV} {rs : Rs} {c : Nat} {out : AV} {rs' : Rs} {c' : Nat} {ids mod : List Nat} {j h : Nat} {root : Root} (hl : LStep G P o ρA rs c out rs' c' ids mod)
    (hp : plugAt (merge c c' mod rs rs') j = some (h, root)) : LStep G P o ρA rs c out (updR (updR (merge c c' mod rs rs') h .dead) j root) c' (j :: h :: ids) (j :: h :: mod) := by
  refine ⟨hl.1, fun rsG F R w ρ hids hnew hs hv => ?_⟩
  have h2 := hl.2 rsG F R w ρ (fun q hq => hids q (by simp [hq])) hnew hs hv
  have hG : ∀ q, q = j ∨ q = h → merge c c' mod rsG rs' q = merge c c' mod rs rs' q := fun q hq => by
    have e : rsG q = rs q := hids q (by rcases hq with e | e <;> simp [e])
    unfold merge
    split
    · rfl
    · exact e
  have hp' : plugAt (merge c c' mod rsG rs') j = some (h, root) := by
    have hp2 := hp
    unfold plugAt at hp2 ⊢
    rw [hG j (.inl rfl)]
    split at hp2
    case h_2 => cases hp2
    rename_i t xs i off h' k hj
    split at hp2
    case h_2 => cases hp2
    rename_i d u ys hh
    split at hp2
    case isFalse => cases hp2
    rename_i hcnd
    split at hp2
    case h_2 => cases hp2
    rename_i z hz
    injection hp2 with hp2
    injection hp2 with e1 e2
    subst e1 e2
    rw [hG h' (.inr rfl), hh]
    simp only
    rw [if_pos hcnd, hz]
  have hm : merge c c' (j :: h :: mod) rsG (updR (updR (merge c c' mod rs rs') h .dead) j root) = updR (updR (merge c c' mod rsG rs') h .dead) j root := by
    funext q
    by_cases hq : (c ≤ q ∧ q < c') ∨ q ∈ j :: h :: mod
    · rw [merge_at hq]
      by_cases q1 : q = j
      · rw [q1, updR_same, updR_same]
      · rw [updR_other _ _ q1, updR_other _ _ q1]
        by_cases q2 : q = h
        · rw [q2, updR_same, updR_same]
        · rw [updR_other _ _ q2, updR_other _ _ q2]
          have : (c ≤ q ∧ q < c') ∨ q ∈ mod := by
            rcases hq with h1 | h1
            · exact .inl h1
            · simp [q1, q2] at h1; exact .inr h1
          rw [merge_at this, merge_at this]
    · rw [merge_off hq]
      have q1 : q ≠ j := fun e => hq (.inr (by simp [e]))
      have q2 : q ≠ h := fun e => hq (.inr (by simp [e]))
      have q3 : ¬ ((c ≤ q ∧ q < c') ∨ q ∈ mod) := fun e => hq (by rcases e with e | e; exact .inl e; exact .inr (by simp [e]))
      rw [updR_other _ _ q1, updR_other _ _ q2, merge_off q3]
  unfold Does at h2 ⊢
  split at h2
  · obtain ⟨F2, R2, g2, s2, hv2⟩ := h2
    obtain ⟨R3, g3, s3⟩ := plugAt_ok s2 hp'
    exact ⟨F2, R3, g2.trans g3 (fun j => by simp) (fun _ h _ => h), by rw [hm]; exact s3, VR.goes g3 (g3.agree s2) hv2⟩
  · obtain ⟨F2, R2, g2, s2, hv2⟩ := h2
    obtain ⟨R3, g3, s3⟩ := plugAt_ok s2 hp'
    exact ⟨F2, R3, g2.trans g3 (fun j => by simp) (fun _ h _ => h), by rw [hm]; exact s3, VR.goes g3 (g3.agree s2) hv2⟩
  · exact Calls.mono h2 fun e w' ⟨v, he, F2, R2, g2, s2, hv2⟩ => by
      obtain ⟨R3, g3, s3⟩ := plugAt_ok s2 hp'
      exact ⟨v, he, F2, R3, g2.trans g3 (fun j => by simp) (fun _ h _ => h), by rw [hm]; exact s3, VR.goes g3 (g3.agree s2) hv2⟩
  · exact h2

theorem postPlug_ok {α : Type} {o : Oper} {ρA : Operand → AV} {rs : Rs} {c : Nat} {k : KT α} {r : α}
    (h : ∃ out rs' c' ids mod, postPlug rs c k out rs' c' ids mod = some r ∧ LStep G P o ρA rs c out rs' c' ids mod) : ∃ out rs' c' ids mod, k out rs' c' ids mod = some r ∧ LStep G P o ρA rs c out rs' c' ids mod := by
  obtain ⟨out, rs', c', ids, mod, h1, h2⟩ := h
  unfold postPlug at h1
  split at h1
  · rename_i j hh root hf
    rw [mergeB_eq] at hf h1
    exact ⟨_, _, _, _, _, h1, h2.plug (findPlug_ok hf)⟩
  · exact ⟨_, _, _, _, _, h1, h2⟩
end
end Go.Sx

namespace Go.Sx
open Go
variable {G : Gl}
set_option linter.unusedVariables false
set_option linter.unusedSimpArgs false

/-- the elements of a row from one on, as a slice of their own -/
def slwK {α : Type} (Γ : Nat → Option TI) (rs : Rs) (c : Nat) (t : TypeId) (x : AV) (lo hi : Option AV) (k : KT α) (other : Option α) : Option α :=
  match x, lo, hi with
  | .c (.l (.sl id)), some l, none =>
    (match rs id with
     | .row d T xs =>
       (match Γ t with
        | some ⟨_, _, _, .slice e, _⟩ =>
          (match Γ e with
           | some ei => if ei.size = T.n then bndsK (List.length xs) (some l) none (fun l m => k (.c (.l (.slw id l m T.n))) rs c [id] []) else other
           | none => other)
        | _ => other)
     | _ => other)
  | .c (.l (.sl id)), none, hi =>
    (match rs id with
     | .row d T xs =>
       (match Γ t with
        | some ⟨_, _, _, .slice e, _⟩ =>
          (match Γ e with
           | some ei => if ei.size = T.n then bndsK (List.length xs) none hi (fun _ m => k (.c (.l (.sl c))) (updR (kill rs [id]) c (.row d T (List.take m xs))) (c + 1) [id] [id]) else other
           | none => other)
        | _ => other)
     | _ => other)
  | _, _, _ => other

theorem RowAt.take {α : Type} {w : World} {n : Nat} {E : α → List Value → List Nat → Prop} {xs : List α} {A : Option Addr} {q c : Nat} {S : List Nat} (h : RowAt w n E xs (.slice A q c) S) {m : Nat} (hm : m ≤ xs.length) :
    ∃ S', RowAt w n E (xs.take m) (.slice A m c) S' ∧ S'.Sublist S := by
  obtain ⟨hl, h | ⟨b, o, c', arr, ty, fz, Ss, h1, h2, h3, hz, h4, h5, h6, h7⟩⟩ := h
  · obtain ⟨hx, ⟨A0, hA⟩, hS⟩ := h
    injection hA with h1 h2 h3
    subst hx
    have : m = 0 := by simpa using hm
    subst this h3
    exact ⟨[], ⟨by simp, .inl ⟨rfl, ⟨A, rfl⟩, rfl⟩⟩, List.nil_sublist _⟩
  · injection h1 with e1 e2 e3
    subst e1 e3
    have e : (xs.take m).length = m := by simp; omega
    refine ⟨b :: (Ss.take m).flatten, ⟨by rw [e]; omega, .inr ⟨b, o, c, arr, ty, fz, Ss.take m, by rw [e], by rw [e]; omega, h3, hz, h4, rfl, by rw [e]; simp; omega, fun i x hx => ?_⟩⟩, ?_⟩
    · rw [List.getElem?_take] at hx
      split at hx
      · rename_i him
        obtain ⟨cs, k1, k2, k3⟩ := h7 i x hx
        refine ⟨cs, k1, ?_, k3⟩
        rw [show (Ss.take m).getD i [] = Ss.getD i [] by rw [List.getD_eq_getElem?_getD, List.getElem?_take, if_pos him, List.getD_eq_getElem?_getD]]
        exact k2
      · cases hx
    · rw [h5]
      refine List.Sublist.cons_cons _ ?_
      conv => rhs; rw [← List.take_append_drop m Ss, List.flatten_append]
      exact List.sublist_append_left _ _

theorem reroot_core {R : Nat → RV} {F : Nat → Prop} {w : World} {rsG rs : Rs} {c id : Nat} {d : Bool} {T : T} {xs' : List T.den} {v : Value} {S' : List Nat} (hs : Sat F R w rsG) (hlive : (R id).live = true) (hcl : (R c).live = false) (hne : id ≠ c)
    (hrow' : RowAt w T.n (ElL F w d T) xs' v S') (hone : one v = true) (hsub : S'.Sublist (R id).S) :
    ∃ F' R', Goes F R w F' R' w (fun j => c ≤ j ∧ j < c + 1) ∧ Sat F' R' w (merge c (c + 1) [id] rsG (updR (kill rs [id]) c (.row d T xs'))) ∧ VR R' F' w (.c (.l (.sl c))) v := by
  let R' : Nat → RV := fun j => if j = c then ⟨true, v, S'⟩ else if j = id then ⟨(R id).live, (R id).hdr, []⟩ else R j
  have hRc : R' c = ⟨true, v, S'⟩ := if_pos rfl
  have hRi : R' id = ⟨(R id).live, (R id).hdr, []⟩ := by show (if id = c then _ else if id = id then _ else _) = _; rw [if_neg hne, if_pos rfl]
  have hup := Sat.upd (F' := F) (R' := R') (w' := w) (rs' := updR (kill rsG [id]) c (.row d T (xs'))) (new := (· = c)) (M := fun j => j = id ∨ j = c) hs
    (fun j hj => ⟨.inr hj, by rw [hj]; exact hcl⟩)
    (fun j hj => ⟨by rw [updR_other _ _ fun e => hj (.inr e)]; unfold kill; rw [if_neg]; simpa using fun e => hj (.inl e), by
      show (if j = c then _ else if j = id then _ else R j) = R j
      rw [if_neg fun e => hj (.inr e), if_neg fun e => hj (.inl e)]⟩)
    (fun j hj hn => by
      rcases hj with rfl | hj
      · rw [hRi]; exact ⟨rfl, rfl⟩
      · exact (hn hj).elim)
    (fun j hj y hy => by
      rcases hj with rfl | rfl
      · rw [hRi] at hy; cases hy
      · rw [hRc] at hy; exact .inl ⟨id, .inl rfl, hsub.subset hy⟩)
    (fun j hj => by
      rcases hj with rfl | rfl
      · rw [hRi]; exact List.nodup_nil
      · rw [hRc]; exact (hs.nd id).sublist hsub)
    (fun p q hp hq hpq y hy hy2 => by
      rcases hp with rfl | rfl
      · rw [hRi] at hy; cases hy
      · rcases hq with rfl | rfl
        · rw [hRi] at hy2; cases hy2
        · exact hpq rfl)
    (fun _ _ _ => rfl) (fun _ hb => hb) (fun _ hb => .inl hb) (Nat.le_refl _) rfl rfl rfl
    (fun hg hag j hj => by
      rcases hj with rfl | rfl
      · rw [updR_other _ _ hne]
        unfold kill
        rw [if_pos (by simp)]
        show (R' j).S = []
        rw [hRi]
      · rw [updR_same, hRc]
        exact ⟨rfl, hrow'⟩)
  refine ⟨F, R', by rw [new_one]; exact hup.1, by rw [merge_kill (by simpa using Ne.symm hne)]; exact hup.2, ?_⟩
  exact ⟨by rw [hRc], by rw [hRc], hone⟩

/-- the beginning of a row becomes a row of its own; the old one is gone -/
theorem cutOwn_step {P : Program} {Γ : Nat → Option TI} (hΓ : TyOk P Γ) {o : Oper} {t : TypeId} {x : Operand} {hi : Option Operand} {ρA : Operand → AV} {rs : Rs} {c : Nat} {id : Nat} {d : Bool} {T : T} {xs : List T.den} {e : Nat} {ei : TI} {m : Nat}
    (ho : o.op = .slice t x none hi none) (hx : ρA x = .c (.l (.sl id))) (hrs : rs id = .row d T xs) {a1 a2 a3 a5} (ht : Γ t = some ⟨a1, a2, a3, .slice e, a5⟩) (he : Γ e = some ei)
    (hmn : m ≤ List.length xs)
    (hb : ∀ (P : Program) (R : Nat → RV) (F : Nat → Prop) (w : World) (vl vh : Option Value) (c q : Nat) (isS : Bool), (hi.map ρA = none → q = List.length xs) → List.length xs ≤ c → optR R F w none vl → optR R F w (hi.map ρA) vh →
      (Instr.sliceBounds isS q c vl vh none).run P w = .ok (0, m, c) w) :
    LStep G P o ρA rs c (.c (.l (.sl c))) (updR (kill rs [id]) c (.row d T (List.take m xs))) (c + 1) [id] [id] := by
  refine ⟨Nat.le_succ _, fun rsG F R w ρ hids hnew hs hρ => ?_⟩
  have hvx := hρ x
  rw [hx] at hvx
  obtain ⟨hlive, hvx, _⟩ := hvx
  have hroot := hs.ok id
  rw [hids id (by simp), hrs] at hroot
  obtain ⟨hcl, hcd⟩ := hnew c (Nat.le_refl _) (Nat.lt_succ_self _)
  have hne : id ≠ c := fun e => by rw [← e, hlive] at hcl; cases hcl
  obtain ⟨A, cc, e1, e2⟩ : ∃ A cc, (R id).hdr = .slice A (List.length xs) cc ∧ List.length xs ≤ cc := by
    rcases hroot.2.2 with ⟨hn, ⟨A, hA⟩, _⟩ | ⟨b, o', c', arr, ty, fz, Ss, h1, h2, _⟩
    · exact ⟨A, 0, by rw [hA, show xs = [] from hn]; rfl, by rw [show xs = [] from hn]; simp⟩
    · exact ⟨_, c', h1, h2⟩
  have hrow := hroot.2
  rw [e1] at hrow
  obtain ⟨S', hrow', hsub⟩ := hrow.take hmn
  have opt : ∀ (y : Option Operand), optR R F w (y.map ρA) (y.map ρ) := by
    intro y
    cases y with
    | none => trivial
    | some y => exact hρ y
  have hrun := run_slice_sl (A := A) (hΓ.slice ht rfl w) (hΓ.size he w) (hb P R F w none _ cc (List.length xs) true (fun _ => rfl) e2 trivial (opt hi))
  have hA : (if cc = 0 then A else A.map (·.add (0 * ei.size))) = A := by
    split
    · rfl
    · rw [Nat.zero_mul]
      cases A with
      | none => rfl
      | some a => rfl
  rw [hA] at hrun
  have hex : (execOp ρ o).run P w = .ok (.value (.slice A m cc)) w := by
    unfold execOp
    rw [ho]
    apply run_v
    rw [hvx, e1]
    exact hrun
  unfold Does
  rw [hex]
  exact reroot_core hs hlive hcl hne hrow' rfl hsub

/-- a row goes over into another root -/
def assignK {α : Type} (win : Bool) (rs : Rs) (c : Nat) (x : AV) (k : KT α) : Option α :=
  match win, x with
  | true, .c (.l (.sl id)) =>
    (match rs id with
     | .row d T xs => k (.c (.l (.sl c))) (updR (kill rs [id]) c (.row d T xs)) (c + 1) [id] [id]
     | _ => k x rs c [] [])
  | _, _ => k x rs c [] []

theorem assignK_ok {α : Type} {P : Program} {win : Bool} {o : Oper} {x : Operand} {ρA : Operand → AV} {rs : Rs} {c : Nat} {k : KT α} {r : α} (ho : o.op = .assign x) (h : assignK win rs c (ρA x) k = some r) :
    ∃ out rs' c' ids mod, k out rs' c' ids mod = some r ∧ LStep G P o ρA rs c out rs' c' ids mod := by
  have plain : LStep G P o ρA rs c (ρA x) rs c [] [] := LStep.pure fun F R w ρ hr hρ => ⟨ρ x, by unfold execOp; rw [ho]; rfl, hρ x⟩
  unfold assignK at h
  split at h
  · rename_i id hx
    split at h
    · rename_i d T xs hrs
      refine ⟨_, _, _, _, _, h, Nat.le_succ _, fun rsG F R w ρ hids hnew hs hρ => ?_⟩
      have hvx := hρ x
      rw [hx] at hvx
      obtain ⟨hlive, hvx, hone⟩ := hvx
      have hroot := hs.ok id
      rw [hids id (by simp), hrs] at hroot
      obtain ⟨hcl, hcd⟩ := hnew c (Nat.le_refl _) (Nat.lt_succ_self _)
      have hne : id ≠ c := fun e => by rw [← e, hlive] at hcl; cases hcl
      have hex : (execOp ρ o).run P w = .ok (.value (ρ x)) w := by unfold execOp; rw [ho]; rfl
      unfold Does
      rw [hex]
      have hrow := hroot.2
      rw [← hvx] at hrow
      exact reroot_core hs hlive hcl hne hrow hone (List.Sublist.refl _)
    · exact ⟨_, _, _, _, _, h, plain⟩
  · exact ⟨_, _, _, _, _, h, plain⟩

theorem slwK_ok {α : Type} {P : Program} {Γ : Nat → Option TI} (hΓ : TyOk P Γ) {o : Oper} {t : TypeId} {x : Operand} {lo hi : Option Operand} {ρA : Operand → AV} {rs : Rs} {c : Nat} {k : KT α} {other : Option α} {r : α}
    (ho : o.op = .slice t x lo hi none) (h : slwK Γ rs c t (ρA x) (lo.map ρA) (hi.map ρA) k other = some r) :
    (∃ out rs' c' ids mod, k out rs' c' ids mod = some r ∧ LStep G P o ρA rs c out rs' c' ids mod) ∨ other = some r := by
  unfold slwK at h
  split at h
  case h_3 => exact .inr h
  case h_2 =>
    rename_i id hx hlo
    obtain rfl : lo = none := by cases lo with | none => rfl | some y => cases hlo
    split at h
    case h_2 => exact .inr h
    rename_i d T xs hrs
    split at h
    case h_2 => exact .inr h
    rename_i a1 a2 a3 e a5 ht
    split at h
    case h_2 => exact .inr h
    rename_i ei he
    split at h
    case isFalse => exact .inr h
    obtain ⟨l, m, h, hlm, hmn, hl0, hb⟩ := bndsK_ok h
    obtain rfl := hl0 rfl
    exact .inl ⟨_, _, _, _, _, h, cutOwn_step hΓ ho hx hrs ht he hmn hb⟩
  rename_i id lv hx hlo hhi
  split at h
  case h_2 => exact .inr h
  rename_i d T xs hrs
  split at h
  case h_2 => exact .inr h
  rename_i a1 a2 a3 e a5 ht
  split at h
  case h_2 => exact .inr h
  rename_i ei he
  split at h
  case isFalse => exact .inr h
  rename_i hsz
  obtain ⟨l, m, h, hlm, hmn, _, hb⟩ := bndsK_ok h
  refine .inl ⟨_, _, _, _, _, h, LStep.pure fun F R w ρ hr hρ => ?_⟩
  have hvx := hρ x
  rw [hx] at hvx
  obtain ⟨hlive, hvx, _⟩ := hvx
  have hroot := hr id (by simp)
  rw [hrs] at hroot
  obtain ⟨A, cc, e1, e2⟩ : ∃ A cc, (R id).hdr = .slice A (List.length xs) cc ∧ List.length xs ≤ cc := by
    rcases hroot.2.2 with ⟨hn, ⟨A, hA⟩, _⟩ | ⟨b, o', c', arr, ty, fz, Ss, h1, h2, _⟩
    · exact ⟨A, 0, by rw [hA, show xs = [] from hn]; rfl, by rw [show xs = [] from hn]; simp⟩
    · exact ⟨_, c', h1, h2⟩
  have opt : ∀ (y : Option Operand), optR R F w (y.map ρA) (y.map ρ) := by
    intro y
    cases y with
    | none => trivial
    | some y => exact hρ y
  have hrun := run_slice_sl (A := A) (hΓ.slice ht rfl w) (hΓ.size he w) (hb P R F w _ _ cc (List.length xs) true (fun _ => rfl) e2 (hlo ▸ opt lo) (hhi ▸ opt hi))
  rw [hsz] at hrun
  refine ⟨_, ?_, hlive, A, _, cc, e1, hlm, hmn, rfl⟩
  unfold execOp
  rw [ho]
  apply run_v
  rw [hvx, e1]
  exact hrun

/-! ### Clearing -/
def clearK {α : Type} (Γ : Nat → Option TI) (rs : Rs) (c : Nat) (ts : Array TypeId) (x : AV) (k : KT α) : Option α :=
  match x, ts[0]? with
  | .c (.l (.slw id l m n)), some t =>
    (match rs id, Γ t with
     | .row d T xs, some ⟨_, _, _, .slice e, _⟩ =>
       (match Γ e with
        | some ⟨_, _, _, _, some U⟩ => if U = T ∧ T.n = n then k (.tup []) (updR rs id (.row d T (List.take l xs ++ (List.replicate (m - l) T.zero ++ List.drop m xs)))) c [id] [id] else none
        | _ => none)
     | _, _ => none)
  | _, _ => none

theorem ElL.keep {F : Nat → Prop} {w w' : World} {d : Bool} {t : T} {x : t.den} {cs : List Value} {S : List Nat} (h : ElL F w d t x cs S) (hS : ∀ b ∈ S, w'.heap[b]? = w.heap[b]?) (ha : Agree F w w') : ElL F w' d t x cs S := by
  unfold ElL at h ⊢
  split at h
  · rename_i hd; rw [if_pos hd]; exact h.agree hS
  · rename_i hd; rw [if_neg hd]; exact ⟨h.1.mono (fun _ h => h) ha, h.2⟩

theorem zero_elb {t : T} {cs : List Value} (h : zeroIs t cs = some []) (F : Nat → Prop) (w : World) (d : Bool) : ElL F w d t t.zero cs [] := by
  unfold ElL
  cases d with
  | true =>
    simp only [if_true]
    have hn : t.noSp = true := by
      clear h
      induction t with
      | pair a b iha ihb => simp [T.noSp, iha, ihb]
      | _ => rfl
    obtain ⟨c, e, a⟩ := zero_own hn h
    rw [List.append_nil] at e
    rw [e]; exact a w
  | false =>
    simp only [Bool.false_eq_true, if_false]
    obtain ⟨c, e, a⟩ := zero_read h
    rw [List.append_nil] at e
    rw [e]; exact ⟨a F w, by simp⟩

theorem mid_get {α : Type} {xs : List α} {l m : Nat} {z : α} (hlm : l ≤ m) (hm : m ≤ xs.length) (q : Nat) :
    (List.take l xs ++ (List.replicate (m - l) z ++ List.drop m xs))[q]? = if q < l then xs[q]? else if q < m then some z else xs[q]? := by
  have e1 : (List.take l xs).length = l := by simp; omega
  by_cases h1 : q < l
  · rw [if_pos h1, List.getElem?_append_left (by omega), List.getElem?_take, if_pos h1]
  · rw [if_neg h1, List.getElem?_append_right (by omega), e1]
    by_cases h2 : q < m
    · rw [if_pos h2, List.getElem?_append_left (by simp; omega), List.getElem?_replicate, if_pos (by omega)]
    · rw [if_neg h2, List.getElem?_append_right (by simp; omega), List.length_replicate, List.getElem?_drop]
      congr 1; omega

theorem mid_len {α : Type} {xs : List α} {l m : Nat} {z : α} (hlm : l ≤ m) (hm : m ≤ xs.length) : (List.take l xs ++ (List.replicate (m - l) z ++ List.drop m xs)).length = xs.length := by
  simp; omega

theorem mid_sub {Ss : List (List Nat)} {l m : Nat} (hlm : l ≤ m) : (List.take l Ss ++ (List.replicate (m - l) [] ++ List.drop m Ss)).flatten.Sublist Ss.flatten := by
  have e : (List.replicate (m - l) ([] : List Nat)).flatten = [] := by simp
  rw [List.flatten_append, List.flatten_append, e, List.nil_append]
  conv => rhs; rw [← List.take_append_drop l Ss, List.flatten_append]
  refine List.Sublist.append (List.Sublist.refl _) ?_
  have : List.drop m Ss = List.drop (m - l) (List.drop l Ss) := by rw [List.drop_drop]; congr 1; omega
  rw [this]
  conv => rhs; rw [← List.take_append_drop (m - l) (List.drop l Ss), List.flatten_append]
  exact List.sublist_append_right _ _

set_option maxHeartbeats 1000000 in
theorem clearK_ok {α : Type} {P : Program} {Γ : Nat → Option TI} (hΓ : TyOk P Γ) {o : Oper} {x : Operand} {ts : Array TypeId} {ρA : Operand → AV} {rs : Rs} {c : Nat} {k : KT α} {r : α}
    (ho : o.op = .call { callee := .builtin .clear, args := #[x], argTypes := ts }) (h : clearK Γ rs c ts (ρA x) k = some r) :
    ∃ out rs' c' ids mod, k out rs' c' ids mod = some r ∧ LStep G P o ρA rs c out rs' c' ids mod := by
  unfold clearK at h
  split at h
  case h_2 => cases h
  rename_i id l m n t hx ht
  split at h
  case h_2 => cases h
  rename_i d T xs a1 a2 a3 e a5 hrs hti
  split at h
  case h_2 => cases h
  rename_i b1 b2 b3 b4 U hei
  split at h
  case isFalse => cases h
  rename_i hc
  obtain ⟨hU, hn⟩ := hc
  subst hU hn
  refine ⟨_, _, _, _, _, h, Nat.le_refl _, fun rsG F R w ρ hids hnew hs hρ => ?_⟩
  have hvx := hρ x
  rw [hx] at hvx
  obtain ⟨hlive, A, q, cp, hh, hlm, hmq, hv⟩ := hvx
  have hroot := hs.ok id
  rw [hids id (by simp), hrs] at hroot
  obtain ⟨_, hcap, hrow⟩ := hroot
  obtain ⟨info, desc, f1, f2, f3, f4, f5, f6, f7⟩ := hΓ.facts hei
  obtain ⟨⟨z, hz, hzi⟩, hnn⟩ := f7 U rfl
  obtain ⟨zs, hzs, hrd⟩ := zero_read hzi
  rw [List.append_nil] at hzs
  have hzl : zs.length = U.n := (hrd F w).length
  have hzp : 0 < zs.length := by rw [hzl]; exact U.n_pos
  have hcells : z.cells = zs.toArray := by rw [← hzs]
  have main : ∀ w', (Builtin.clear_ ts o.type #[ρ x]).run P w = .ok (.tuple #[]) w' → (execOp ρ o).run P w = .ok (.value (.tuple #[])) w' := by
    intro w' hl
    unfold execOp
    rw [ho]
    simp only [resolve, invoke, builtin]
    refine run_v ?_
    simpa using hl
  have hq : q = List.length xs := by
    rcases hrow with ⟨hnil, ⟨A0, hA⟩, _⟩ | ⟨b, o', c', arr, ty, fz, Ss, h1, h2, _⟩
    · rw [hA] at hh; injection hh with _ h2 _; rw [show xs = [] from hnil]; exact h2.symm
    · rw [h1] at hh; injection hh with _ h2 _; exact h2.symm
  subst hq
  have harg : (#[ρ x] : Array Value)[0]? = some (ρ x) := rfl
  unfold Does
  by_cases hlm0 : m - l = 0
  · -- nothing to clear
    have hml : m = l := by omega
    have hrun : (Builtin.clear_ ts o.type #[ρ x]).run P w = .ok (.tuple #[]) w := by
      unfold Builtin.clear_
      simp only [ht, harg]
      rw [bind_ok (hΓ.slice hti rfl w), hv, hlm0]
      generalize (if cp = l then A else A.map (·.add (l * U.n))) = B
      cases B <;> rfl
    rw [main w hrun]
    refine ⟨F, R, Goes.refl _ _ _ _ (fun j => by omega), ?_, ⟨[], rfl, .nil⟩⟩
    have hxs : List.take l xs ++ (List.replicate (m - l) U.zero ++ List.drop m xs) = xs := by
      rw [hlm0, hml]; simp
    rw [merge_upd1, hxs]
    have : updR rsG id (.row d U xs) = rsG := by
      funext j
      unfold updR
      split
      · rename_i hj; rw [hj, hids id (by simp), hrs]
      · rfl
    rw [this]; exact hs
  · rcases hrow with ⟨hnil, _, _⟩ | ⟨b, ob, c', arr, ty, fz, Ss, e1, e2, e3, ez, e4, e5, e6, e7⟩
    · rw [show xs = [] from hnil] at hmq; simp at hmq; omega
    rw [e1] at hh
    injection hh with hA hq2 hcc
    subst hA hcc
    have hlx : List.length xs ≤ c' := e2
    have hcl : ¬ c' = l := by omega
    rw [if_neg hcl] at hv
    have hv : ρ x = .slice (some ⟨b, ob + l * U.n, none⟩) (m - l) (c' - l) := by rw [hv]; simp [add_off]
    let vs : List Value := ((Array.range ((m - l) * zs.length)).map fun x => (zs.toArray[x % zs.toArray.size]!)).toList
    have hvl : vs.length = (m - l) * U.n := by simp [vs, hzl]
    have hmul : l * U.n + (m - l) * U.n ≤ c' * U.n := by
      rw [← Nat.add_mul]; exact Nat.mul_le_mul_right _ (by omega)
    let p := ob + l * U.n
    have hpl : p + vs.length ≤ arr.size := by rw [hvl]; show ob + l * U.n + _ ≤ _; omega
    obtain ⟨⟨arr', g1, g2⟩, g3, g4, g5, g6, g7⟩ := setCells_facts vs w b p arr ty fz e3 hpl
    let w' := setCells w b p vs
    have hasz : arr'.size = arr.size := by
      have := congrArg List.length g2
      simp at this; omega
    have hget : ∀ q, arr'[q]? = if q < p then arr[q]? else if q < p + vs.length then vs[q - p]? else arr[q]? := fun q => by
      have := patch_get (l := arr.toList) (vs := vs) (p := p) (q := q) (by simpa using hpl)
      rw [← g2] at this
      simpa using this
    have hone : ∀ v ∈ vs, one v = true := by
      intro v hv
      obtain ⟨i, hi, rfl⟩ := List.getElem_of_mem hv
      have hz1 : ∀ u ∈ zs, one u = true := by
        obtain ⟨cs, hc', hcl⟩ := zeroL_ok (R := R) (F := F) (w := w) hzi
        rw [List.append_nil, hzs] at hc'
        subst hc'
        exact hcl.one
      have hmod : i % zs.length < zs.length := Nat.mod_lt _ hzp
      have : vs[i] = zs[i % zs.length] := by
        simp only [vs]
        simp [hmod]
      rw [this]
      exact hz1 _ (List.getElem_mem hmod)
    have hrun : (Builtin.clear_ ts o.type #[ρ x]).run P w = .ok (.tuple #[]) w' := by
      unfold Builtin.clear_
      simp only [ht, harg]
      obtain ⟨y, hy⟩ : ∃ y, m - l = y + 1 := ⟨m - l - 1, by omega⟩
      have hst := run_storeCells (P := P) vs 0 w b p arr ty fz e3 (by simpa using hpl) ez hone
      rw [bind_ok (hΓ.slice hti rfl w), hv]
      have hst' : (storeCells ⟨b, p, none⟩ (Builtin.zeroCells z.cells (m - l)).toList 0).run P w = .ok () w' := by
        have : (Builtin.zeroCells z.cells (m - l)).toList = vs := by
          unfold Builtin.zeroCells
          rw [hcells]
          simp [vs]
        rw [this]; simpa using hst
      rw [hy] at hst' ⊢
      simp only
      have hzv : (zeroValue e).run P w = .ok z w := run_zeroValue f1 hz w
      show (do let x ← zeroValue e; storeCells ⟨b, ob + l * U.n, none⟩ (Builtin.zeroCells x.cells (y + 1)).toList 0; pure (Value.tuple #[]) : Sem Value).run P w = _
      rw [bind_ok hzv, bind_ok hst']
      rfl
    rw [main w' hrun]
    have hbS : b ∈ (R id).S := by rw [e5]; simp
    have hndS := hs.nd id
    rw [e5] at hndS
    obtain ⟨hbn, hSn⟩ := List.nodup_cons.1 hndS
    let Ss' := List.take l Ss ++ (List.replicate (m - l) [] ++ List.drop m Ss)
    have hmS : m ≤ Ss.length := by rw [e6]; exact hmq
    have hsub : Ss'.flatten.Sublist Ss.flatten := mid_sub hlm
    let R' : Nat → RV := fun j => if j = id then ⟨(R id).live, (R id).hdr, b :: Ss'.flatten⟩ else R j
    have hR' : R' id = ⟨(R id).live, (R id).hdr, b :: Ss'.flatten⟩ := if_pos rfl
    have hup := Sat.upd (F' := F) (R' := R') (w' := w') (rs' := updR rsG id (.row d U (List.take l xs ++ (List.replicate (m - l) U.zero ++ List.drop m xs)))) (new := fun _ => False) (M := (· = id)) hs
      (fun j hj => hj.elim) (fun j hj => ⟨updR_other _ _ hj, if_neg hj⟩) (fun j hj _ => by rw [hj, hR']; exact ⟨rfl, rfl⟩)
      (fun j hj y hy => .inl ⟨id, rfl, by
        rw [hj, hR'] at hy
        rcases List.mem_cons.1 hy with h | h
        · rw [h]; exact hbS
        · rw [e5]; exact List.mem_cons_of_mem _ (hsub.subset h)⟩)
      (fun j hj => by
        rw [hj, hR']
        exact List.nodup_cons.2 ⟨fun h => hbn (hsub.subset h), hSn.sublist hsub⟩) (fun p q hp hq hpq => absurd (hp.trans hq.symm) hpq)
      (fun b2 hb2 hS2 => g3 b2 fun e => hS2 id rfl (e ▸ hbS)) (fun _ hb => hb) (fun _ hb => .inl hb) (by rw [g4]; exact Nat.le_refl _) g5 g6 g7
      (fun hg hag j hj => by
        rw [hj, updR_same, hR']
        have hln := mid_len (xs := (show List U.den from xs)) (z := U.zero) hlm hmq
        refine ⟨hlive, by rw [hln]; exact hcap, .inr ⟨b, ob, c', arr', ty, fz, Ss', ?_, ?_, g1, ?_, ?_, rfl, ?_, fun q u' hq => ?_⟩⟩
        · show (R id).hdr = _; rw [e1, hln]
        · rw [hln]; exact e2
        · intro q hq; rw [hasz] at hq; exact ez q hq
        · rw [hasz]; exact e4
        · rw [hln, ← e6]; exact mid_len hlm hmS
        · rw [mid_get hlm hmq] at hq
          have hSg : Ss'.getD q [] = if q < l then Ss.getD q [] else if q < m then [] else Ss.getD q [] := by
            show (List.take l Ss ++ (List.replicate (m - l) [] ++ List.drop m Ss)).getD q [] = _
            rw [List.getD_eq_getElem?_getD, mid_get hlm hmS]
            split
            · rfl
            · split <;> rfl
          have hSb : ∀ q, q < Ss.length → ∀ b2 ∈ Ss.getD q [], w'.heap[b2]? = w.heap[b2]? := fun q hq b2 hb2 => g3 b2 fun e => hbn (e ▸ getD_flatten hq hb2)
          have old : ∀ u', (show List U.den from xs)[q]? = some u' → (q < l ∨ m ≤ q) → ∃ cs, cs.length = U.n ∧ ElL F w' d U u' cs (Ss.getD q []) ∧ ∀ j u, cs[j]? = some u → arr'[ob + q * U.n + j]? = some u := by
            intro u' hq hr
            obtain ⟨cs2, m1, m2, m3⟩ := e7 q u' hq
            have hqS : q < Ss.length := by rw [e6]; exact (List.getElem?_eq_some_iff.1 hq).1
            refine ⟨cs2, m1, m2.keep (hSb q hqS) hag, fun z' u2 hz' => ?_⟩
            have hz2 := m3 z' u2 hz'
            have hzl' : z' < U.n := by rw [← m1]; exact (List.getElem?_eq_some_iff.1 hz').1
            rw [hget]
            rcases hr with h1 | h1
            · have : q * U.n + U.n ≤ l * U.n := by
                rw [show q * U.n + U.n = (q + 1) * U.n by rw [Nat.add_mul, Nat.one_mul]]
                exact Nat.mul_le_mul_right _ h1
              rw [if_pos (by show ob + q * U.n + z' < ob + l * U.n; omega)]
              exact hz2
            · have h2 : m * U.n ≤ q * U.n := Nat.mul_le_mul_right _ h1
              have h3 : l * U.n + (m - l) * U.n = m * U.n := by rw [← Nat.add_mul]; congr 1; omega
              rw [if_neg (by show ¬ ob + q * U.n + z' < ob + l * U.n; omega), if_neg (by rw [hvl]; show ¬ ob + q * U.n + z' < ob + l * U.n + (m - l) * U.n; omega)]
              exact hz2
          rw [hSg]
          by_cases h1 : q < l
          · rw [if_pos h1] at hq ⊢
            exact old u' hq (.inl h1)
          · rw [if_neg h1] at hq ⊢
            by_cases h2 : q < m
            · rw [if_pos h2] at hq ⊢
              injection hq with hq
              subst hq
              rw [hzs] at hzi
              refine ⟨zs, hzl, zero_elb hzi _ _ _, fun j u hu => ?_⟩
              have hj : j < zs.length := (List.getElem?_eq_some_iff.1 hu).1
              have h3 : q * U.n = l * U.n + (q - l) * U.n := by rw [← Nat.add_mul]; congr 1; omega
              have h4 : (q - l) * U.n + U.n ≤ (m - l) * U.n := by
                rw [show (q - l) * U.n + U.n = (q - l + 1) * U.n by rw [Nat.add_mul, Nat.one_mul]]
                exact Nat.mul_le_mul_right _ (by omega)
              rw [hget, if_neg (by show ¬ ob + q * U.n + j < ob + l * U.n; omega), if_pos (by rw [hvl]; show ob + q * U.n + j < ob + l * U.n + (m - l) * U.n; omega)]
              have := rep_cells (m := m - l) hzp (i := q - l) (by omega) hu
              rw [show ob + q * U.n + j - p = (q - l) * zs.length + j by show ob + q * U.n + j - (ob + l * U.n) = _; rw [hzl]; omega]
              show ((Array.range ((m - l) * zs.length)).map fun x => (zs.toArray[x % zs.toArray.size]!)).toList[(q - l) * zs.length + j]? = some u
              rw [Array.getElem?_toList]
              exact this
            · rw [if_neg h2] at hq ⊢
              exact old u' hq (.inr (by omega)))
    refine ⟨F, R', by rw [new_none]; exact hup.1, by rw [merge_upd1]; exact hup.2, ⟨[], rfl, .nil⟩⟩

/-! ### Is a slice nil -/
def isNilC : Operand → Bool
  | .const (.slice none 0 0) => true
  | _ => false

def eqNilK {α : Type} (Γ : Nat → Option TI) (op : BinOp) (t : TypeId) (nl : Bool) (x : AV) (k : KQ α) (other : Option α) : Option α :=
  match op, nl, Γ t with
  | .eql, true, some ⟨_, _, _, .slice _, _⟩ =>
    (match x with
     | .c (.l (.dat (.list T) xs)) => cond (decide (0 < List.length xs)) (k (dB false) []) (k (.c (.l .anyb)) [])
     | .c (.l (.dat (.sp T) x)) => cond (decide (0 < x.2)) (k (dB false) []) (k (.c (.l .anyb)) [])
     | _ => other)
  | .neq, true, some ⟨_, _, _, .slice _, _⟩ =>
    (match x with
     | .c (.l (.dat (.list T) xs)) => cond (decide (0 < List.length xs)) (k (dB true) []) (k (.c (.l .anyb)) [])
     | .c (.l (.dat (.sp T) x)) => cond (decide (0 < x.2)) (k (dB true) []) (k (.c (.l .anyb)) [])
     | _ => other)
  | _, _, _ => other

theorem isNilC_ok {y : Operand} (h : isNilC y = true) : y = .const (.slice none 0 0) := by
  unfold isNilC at h
  split at h
  · rfl
  · cases h

theorem run_eq_nilS {P : Program} {Γ : Nat → Option TI} (hΓ : TyOk P Γ) {t : TypeId} {i : TI} {e : Nat} (hi : Γ t = some i) (hd : i.d = .slice e) (A : Option Addr) (n c : Nat) (w : World) :
    (Op.equal t (.slice A n c) (.slice none 0 0)).run P w = .ok A.isNone w := by
  unfold Op.equal Op.maxDepth
  unfold Op.equalIn
  rw [bind_ok (hΓ.slice hi hd w)]
  cases A <;> rfl

theorem run_eqs {P : Program} {Γ : Nat → Option TI} (hΓ : TyOk P Γ) {t : TypeId} {i : TI} {e : Nat} (hi : Γ t = some i) (hd : i.d = .slice e) {x y : Operand} {ty' : TypeId} {neg : Bool} {A : Option Addr} {n c : Nat} {w : World} {ρ : Operand → Value} {o : Oper}
    (ho : o.op = .binOp (if neg then .neq else .eql) t x y ty') (hx : ρ x = .slice A n c) (hy : ρ y = .slice none 0 0) : (execOp ρ o).run P w = .ok (.value (.bool (if neg then !A.isNone else A.isNone))) w := by
  have he := run_eq_nilS hΓ hi hd A n c w
  unfold execOp
  rw [ho]
  apply run_v
  rw [hx, hy]
  cases neg with
  | true =>
    have hg : (eqGuard .neq t x y (.slice A n c) (.slice none 0 0)).run P w = .ok () w := rfl
    simp only [if_true]
    rw [bind_ok hg]
    show (do pure (Value.bool (!(← Op.equal t (.slice A n c) (.slice none 0 0)))) : Sem Value).run P w = _
    rw [bind_ok he]; rfl
  | false =>
    have hg : (eqGuard .eql t x y (.slice A n c) (.slice none 0 0)).run P w = .ok () w := rfl
    simp only [Bool.false_eq_true, if_false]
    rw [bind_ok hg]
    show (do pure (Value.bool (← Op.equal t (.slice A n c) (.slice none 0 0))) : Sem Value).run P w = _
    rw [bind_ok he]; rfl

theorem eqNil_quiet {P : Program} {Γ : Nat → Option TI} (hΓ : TyOk P Γ) {t : TypeId} {i : TI} {e : Nat} (hi : Γ t = some i) (hd : i.d = .slice e) {x y : Operand} {ty' ty : TypeId} (neg : Bool) {ρA : Operand → AV} {rs : Rs} {U : T} {a : (T.list U).den} (hx : ρA x = .c (.l (.dat (.list U) a))) (hy : isNilC y = true) :
    (0 < List.length a → Quiet G P (.binOp (if neg then .neq else .eql) t x y ty') ty ρA rs (dB neg) []) ∧ Quiet G P (.binOp (if neg then .neq else .eql) t x y ty') ty ρA rs (.c (.l .anyb)) [] := by
  have hy := isNilC_ok hy
  subst hy
  refine ⟨fun h0 F R w ρ hr hρ o ho hty => ?_, fun F R w ρ hr hρ o ho hty => ?_⟩
  all_goals
    have hv := hρ x
    rw [hx] at hv
    obtain ⟨A, c, e1, e2, e3, e4⟩ := hv
    injection e1 with e1 _
    have hc := hρ.cst (.slice none 0 0)
    refine ⟨_, run_eqs hΓ hi hd ho e1 hc, ?_⟩
  · obtain ⟨b, o', cs', hA, _⟩ := e4 0 _ (List.getElem?_eq_getElem h0)
    subst hA
    cases neg <;> rfl
  · exact ⟨_, rfl⟩

theorem eqNil_quiet2 {P : Program} {Γ : Nat → Option TI} (hΓ : TyOk P Γ) {t : TypeId} {i : TI} {e : Nat} (hi : Γ t = some i) (hd : i.d = .slice e) {x y : Operand} {ty' ty : TypeId} (neg : Bool) {ρA : Operand → AV} {rs : Rs} {U : T} {a : (T.sp U).den} (hx : ρA x = .c (.l (.dat (.sp U) a))) (hy : isNilC y = true) :
    (0 < a.2 → Quiet G P (.binOp (if neg then .neq else .eql) t x y ty') ty ρA rs (dB neg) []) ∧ Quiet G P (.binOp (if neg then .neq else .eql) t x y ty') ty ρA rs (.c (.l .anyb)) [] := by
  have hy := isNilC_ok hy
  subst hy
  refine ⟨fun h0 F R w ρ hr hρ o ho hty => ?_, fun F R w ρ hr hρ o ho hty => ?_⟩
  all_goals
    have hv := hρ x
    rw [hx] at hv
    obtain ⟨A, c, e1, e5, e2, e3, e4⟩ := hv
    injection e1 with e1 _
    have hc := hρ.cst (.slice none 0 0)
    refine ⟨_, run_eqs hΓ hi hd ho e1 hc, ?_⟩
  · obtain ⟨b, o', cs', hA, _⟩ := e4 0 _ (List.getElem?_eq_getElem (show 0 < List.length a.1 by omega))
    subst hA
    cases neg <;> rfl
  · exact ⟨_, rfl⟩

theorem eqNilK_ok {α : Type} {P : Program} {Γ : Nat → Option TI} (hΓ : TyOk P Γ) {op : BinOp} {t ty' : TypeId} {x y : Operand} {ρA : Operand → AV} {ty : TypeId} {rs : Rs} {k : KQ α} {other : Option α} {r : α}
    (h : eqNilK Γ op t (isNilC y) (ρA x) k other = some r) : (∃ out ids, k out ids = some r ∧ Quiet G P (.binOp op t x y ty') ty ρA rs out ids) ∨ other = some r := by
  unfold eqNilK at h
  split at h
  · rename_i a1 a2 a3 e a5 hnl hi
    split at h
    · rename_i T xs hx
      obtain ⟨q1, q2⟩ := eqNil_quiet (P := P) (ty' := ty') (ty := ty) (rs := rs) hΓ hi rfl false hx hnl
      rcases cond_some h with ⟨h0, h⟩ | ⟨h0, h⟩
      · exact .inl ⟨_, _, h, q1 (of_decide_eq_true h0)⟩
      · exact .inl ⟨_, _, h, q2⟩
    · rename_i T xs hx
      obtain ⟨q1, q2⟩ := eqNil_quiet2 (P := P) (ty' := ty') (ty := ty) (rs := rs) hΓ hi rfl false hx hnl
      rcases cond_some h with ⟨h0, h⟩ | ⟨h0, h⟩
      · exact .inl ⟨_, _, h, q1 (of_decide_eq_true h0)⟩
      · exact .inl ⟨_, _, h, q2⟩
    · exact .inr h
  · rename_i a1 a2 a3 e a5 hnl hi
    split at h
    · rename_i T xs hx
      obtain ⟨q1, q2⟩ := eqNil_quiet (P := P) (ty' := ty') (ty := ty) (rs := rs) hΓ hi rfl true hx hnl
      rcases cond_some h with ⟨h0, h⟩ | ⟨h0, h⟩
      · exact .inl ⟨_, _, h, q1 (of_decide_eq_true h0)⟩
      · exact .inl ⟨_, _, h, q2⟩
    · rename_i T xs hx
      obtain ⟨q1, q2⟩ := eqNil_quiet2 (P := P) (ty' := ty') (ty := ty) (rs := rs) hΓ hi rfl true hx hnl
      rcases cond_some h with ⟨h0, h⟩ | ⟨h0, h⟩
      · exact .inl ⟨_, _, h, q1 (of_decide_eq_true h0)⟩
      · exact .inl ⟨_, _, h, q2⟩
    · exact .inr h
  · exact .inr h
end Go.Sx

namespace Go.Sx
open Go
variable {G : Gl}
set_option linter.unusedVariables false
set_option linter.unusedSimpArgs false

/-- what a row is read as is one -/
theorem raw_same {F : Nat → Prop} {w : World} {v : Value} {hs hs' : List Value} (h : RdL F w (.list .raw) hs [v]) (h' : RdL F w (.list .raw) hs' [v]) : hs = hs' := by
  obtain ⟨A, c, e, h1, h2, h3⟩ := h
  obtain ⟨A', c', e', h1', h2', h3'⟩ := h'
  simp only [List.cons.injEq, and_true] at e e'
  rw [e] at e'
  injection e' with e1 e2 e3
  subst e1
  have e2 : hs.length = hs'.length := e2
  apply List.ext_getElem e2
  intro i hi hi'
  obtain ⟨b, o, cs, k1, k2, ⟨k3, _⟩, k4⟩ := h3 i _ (List.getElem?_eq_getElem hi)
  obtain ⟨b', o', cs', k1', k2', ⟨k3', _⟩, k4'⟩ := h3' i _ (List.getElem?_eq_getElem hi')
  rw [k1] at k1'
  injection k1' with k1'
  injection k1' with kb ko
  subst kb ko
  have q1 := k4 0 _ (by rw [k3]; rfl)
  have q2 := k4' 0 _ (by rw [k3']; rfl)
  rw [q1] at q2
  injection q2

/-- a cell of it -/
theorem raw_cell {F : Nat → Prop} {w : World} {A : Option Addr} {l c : Nat} {hs : List Value} (h : RdL F w (.list .raw) hs [.slice A l c]) {i : Nat} {v : Value} (hi : hs[i]? = some v) :
    l = hs.length ∧ ∃ b o, A = some ⟨b, o, none⟩ ∧ w.cell? ⟨b, o + i, none⟩ = some v := by
  obtain ⟨A', c', e, h1, h2, h3⟩ := h
  simp only [List.cons.injEq, and_true] at e
  injection e with e1 e2 e3
  subst e1
  refine ⟨e2, ?_⟩
  obtain ⟨b, o, cs, k1, k2, ⟨k3, _⟩, k4⟩ := h3 i _ hi
  refine ⟨b, o, k1, ?_⟩
  have := k4 0 _ (by rw [k3]; rfl)
  simpa [T.n] using this

/-! ### A row of rows becomes one -/
def mat1 (rs : Rs) (id : Nat) : Rs := match rs id with | .row true (.list t) xs => if t.plain = true ∧ t.n = 1 then updR rs id (.mat t xs) else rs | _ => rs

theorem Sat.mat1 {F : Nat → Prop} {R : Nat → RV} {w : World} {rs : Rs} {id : Nat} {t : T} {xs : List (List t.den)} (h : Sat F R w rs) (hr : rs id = .row true (.list t) xs) (hp : t.plain = true) (hn1 : t.n = 1) :
    ∃ F' R', Goes F R w F' R' w (fun _ => False) ∧ Sat F' R' w (updR rs id (.mat t xs)) := by
  have hroot := h.ok id
  rw [hr] at hroot
  obtain ⟨hlive, hlen, hrow⟩ := hroot
  have hnd := h.nd id
  rcases hrow with ⟨hx, ⟨A, hA⟩, hS⟩ | ⟨b, o, c, arr, ty, fz, Ss, h1, h2, h3, hz, h4, h5, h6, h7⟩
  · obtain ⟨g, s⟩ := Sat.upd (M := (· = id)) (F' := F) (R' := R) (rs' := updR rs id (.mat t xs)) (new := fun _ => False) h (fun j hj => hj.elim) (fun j hj => ⟨updR_other _ _ hj, rfl⟩) (fun _ _ _ => ⟨rfl, rfl⟩)
      (fun j hj b hb => .inl ⟨j, hj, hb⟩) (fun j _ => h.nd j) (fun i j hi hj hij => absurd (hi.trans hj.symm) hij) (fun _ _ _ => rfl) (fun _ hb => hb) (fun _ hb => .inl hb) (Nat.le_refl _) rfl rfl rfl
      (fun _ _ j hj => by
        rw [hj, updR_same]
        have hx : xs = [] := hx
        subst hx
        exact ⟨hlive, hp, hn1, Nat.zero_le _, [], [], ⟨A, 0, by rw [hA]; rfl, Nat.le_refl _, Nat.zero_le _, fun i x hi => by simp at hi⟩, rfl, rfl, hS, fun i x hi => by simp at hi⟩)
    exact ⟨F, R, g, s⟩
  · have hsub : ∀ y, y ∈ Ss.flatten → y ∈ (R id).S := fun y hy => by rw [h5]; exact List.mem_cons_of_mem _ hy
    have hb : b ∈ (R id).S := by rw [h5]; exact List.mem_cons_self
    rw [h5] at hnd
    obtain ⟨hnb, hndS⟩ := List.nodup_cons.1 hnd
    have hlen : xs.length ≤ cap := hlen
    have h6 : Ss.length = xs.length := h6
    have h1 : (R id).hdr = .slice (some ⟨b, o, none⟩) xs.length c := h1
    have h2 : xs.length ≤ c := h2
    let hs : List Value := (List.range xs.length).map fun i => arr.getD (o + i) undef
    have hcell : ∀ i x, xs[i]? = some x → ∃ v, arr[o + i]? = some v ∧ hs[i]? = some v ∧ RowAt w t.n (fun z cs S => OwnL w t z cs S) x v (Ss.getD i []) := fun i x hx => by
      obtain ⟨cs, k1, k2, k3⟩ := h7 i x hx
      have hi : i < xs.length := (List.getElem?_eq_some_iff.1 hx).1
      unfold ElL at k2
      simp only [if_true] at k2
      obtain ⟨v, rfl, hrow⟩ := k2
      have ha := k3 0 v rfl
      have ha : arr[o + i]? = some v := by simpa [T.n] using ha
      refine ⟨v, ha, ?_, hrow⟩
      show ((List.range xs.length).map fun i => arr.getD (o + i) undef)[i]? = _
      rw [List.getElem?_map, List.getElem?_range hi]
      simp [Array.getD_eq_getD_getElem?, ha]
    obtain ⟨g, s⟩ := Sat.upd (M := (· = id)) (F' := fun y => F y ∨ y = b) (R' := updR R id { R id with S := Ss.flatten }) (rs' := updR rs id (.mat t xs)) (new := fun _ => False) h (fun j hj => hj.elim)
      (fun j hj => ⟨updR_other _ _ hj, updR_other _ _ hj⟩) (fun j hj _ => by rw [hj, updR_same]; exact ⟨rfl, rfl⟩)
      (fun j hj y hy => by
        rw [hj, updR_same] at hy
        exact .inl ⟨id, rfl, hsub y hy⟩)
      (fun j hj => by rw [hj, updR_same]; exact hndS) (fun i j hi hj hij => absurd (hi.trans hj.symm) hij) (fun _ _ _ => rfl) (fun _ hb => .inl hb)
      (fun y hy => by
        rcases hy with hy | hy
        · exact .inl hy
        · refine .inr ⟨⟨id, rfl, hy ▸ hb⟩, fun j hj hyj => ?_⟩
          rw [hj, updR_same] at hyj
          exact hnb (hy ▸ hyj))
      (Nat.le_refl _) rfl rfl rfl
      (fun _ _ j hj => by
        rw [hj, updR_same, updR_same]
        refine ⟨hlive, hp, hn1, hlen, hs, Ss, ⟨some ⟨b, o, none⟩, c, ?_, ?_, ?_, fun i v hv => ?_⟩, by simp [hs], h6, rfl, fun i x hx => ?_⟩
        · show [(R id).hdr] = _; rw [h1]; simp [hs]
        · simpa [hs] using h2
        · simpa [hs] using hlen
        · have hv : hs[i]? = some v := hv
          have hi : i < xs.length := by have := (List.getElem?_eq_some_iff.1 hv).1; simpa [hs] using this
          obtain ⟨u, k1, k2, k3⟩ := hcell i _ (List.getElem?_eq_getElem hi)
          rw [hv] at k2
          injection k2 with k2
          subst k2
          obtain ⟨A', c', e'⟩ := row_hdr k3
          refine ⟨b, o, [v], rfl, .inr rfl, ⟨rfl, by rw [e']; rfl⟩, fun q u hu => ?_⟩
          match q, hu with
          | 0, hu =>
            have hu : v = u := by simpa using hu
            subst hu
            simp [World.cell?, h3, T.n, k1]
        · obtain ⟨u, k1, k2, k3⟩ := hcell i x hx
          have : hs.getD i undef = u := by rw [List.getD_eq_getElem?_getD, k2]; rfl
          rw [this]; exact k3)
    exact ⟨_, _, g, s⟩

theorem mat1_ok {F : Nat → Prop} {R : Nat → RV} {w : World} {rs : Rs} {id : Nat} (h : Sat F R w rs) : ∃ F' R', Goes F R w F' R' w (fun _ => False) ∧ Sat F' R' w (Go.Sx.mat1 rs id) := by
  unfold Go.Sx.mat1
  split
  · rename_i t xs hr
    split
    · rename_i hc; exact h.mat1 hr hc.1 hc.2
    · exact ⟨F, R, Goes.refl _ _ _ _ (fun _ h => h), h⟩
  · exact ⟨F, R, Goes.refl _ _ _ _ (fun _ h => h), h⟩

def matAll (rs : Rs) : List Nat → Rs
  | [] => rs
  | i :: is => matAll (Go.Sx.mat1 rs i) is

theorem matAll_ok : ∀ {ids : List Nat} {F : Nat → Prop} {R : Nat → RV} {w : World} {rs : Rs} (h : Sat F R w rs), ∃ F' R', Goes F R w F' R' w (fun _ => False) ∧ Sat F' R' w (matAll rs ids)
  | [], F, R, w, rs, h => ⟨F, R, Goes.refl _ _ _ _ (fun _ h => h), h⟩
  | i :: is, F, R, w, rs, h => by
    obtain ⟨F1, R1, g1, s1⟩ := mat1_ok (id := i) h
    obtain ⟨F2, R2, g2, s2⟩ := matAll_ok (ids := is) s1
    exact ⟨F2, R2, g1.trans g2 (fun _ => by simp) (fun _ h => h.elim), s2⟩

theorem mat1_dead {rs : Rs} {id j : Nat} (h : rs j = .dead) : Go.Sx.mat1 rs id j = .dead := by
  unfold Go.Sx.mat1
  cases hr : rs id with
  | row d t xs =>
    cases d with
    | false => exact h
    | true =>
      cases t with
      | list t =>
        show (if t.plain = true ∧ t.n = 1 then updR rs id (.mat t xs) else rs) j = .dead
        split
        · by_cases hj : j = id
          · rw [hj, hr] at h; cases h
          · rw [updR_other _ _ hj]; exact h
        · exact h
      | _ => exact h
  | _ => exact h
theorem matAll_dead : ∀ {ids : List Nat} {rs : Rs} {j : Nat}, rs j = .dead → matAll rs ids j = .dead
  | [], _, _, h => h
  | i :: is, _, _, h => matAll_dead (ids := is) (mat1_dead h)

theorem SatS.mat {B : Base} {s : St} {tmps : Array Value} {w : World} (h : SatS B s tmps w) (ids : List Nat) : SatS B ⟨s.e, matAll s.rs ids, s.c⟩ tmps w := by
  obtain ⟨F, R, h1, h2, h3, h4⟩ := h
  obtain ⟨F', R', g, s'⟩ := matAll_ok (ids := ids) h1
  exact ⟨F', R', s', h2.goes g, h3.goes g (g.agree h1), fun j hj => ⟨(g.hdr j (fun h => h)).1.trans (h4 j hj).1, matAll_dead (h4 j hj).2⟩⟩

/-! ### Operations -/
section
variable {P : Program} {Γ : Nat → Option TI}

def matAddrK {α : Type} (Γ : Nat → Option TI) (rs : Rs) (t : TypeId) (x i : AV) (k : KQ α) (other : Option α) : Option α :=
  match x, i with
  | .c (.l (.sl id)), .c (.l (.dat (.int _) n)) =>
    (match rs id, Γ t with
     | .mat T xs, some ⟨_, _, _, .slice e, _⟩ =>
       (match Γ e with
        | some ei => if ei.size = 1 then cond (decide ((0 : Int) ≤ n)) (cond (decide (n < (List.length xs : Int))) (k (.c (.l (.el id (Int.toNat n) 1 0))) [id]) none) none else none
        | none => none)
     | _, _ => other)
  | .c (.l (.els id r kk)), .c (.l (.dat (.int _) n)) =>
    (match Γ t with
     | some ⟨_, _, _, .slice e, _⟩ =>
       (match Γ e with
        | some ei => if ei.size = 1 then cond (decide ((0 : Int) ≤ n)) (cond (decide (n < (kk : Int))) (k (.c (.l (.eel id r (Int.toNat n)))) []) none) none else none
        | none => none)
     | _ => other)
  | _, _ => other

theorem matAddrK_ok {α : Type} (hΓ : TyOk P Γ) {rs : Rs} {t : TypeId} {x i : Operand} {ρA : Operand → AV} {ty : TypeId} {k : KQ α} {other : Option α} {r : α} (h : matAddrK Γ rs t (ρA x) (ρA i) k other = some r) :
    (∃ out ids, k out ids = some r ∧ Quiet G P (.indexAddr t x i) ty ρA rs out ids) ∨ other = some r := by
  unfold matAddrK at h
  split at h
  · rename_i id kk n hx hn
    split at h
    case h_2 => exact .inr h
    rename_i T xs sz by' ag e tt hrs hi
    split at h
    case h_2 => cases h
    rename_i ei hei
    split at h
    case isFalse => cases h
    rename_i hsz
    obtain ⟨h0, h⟩ := cond_t h
    obtain ⟨h1, h⟩ := cond_t h
    have h0 : (0 : Int) ≤ n := of_decide_eq_true h0
    have h1 : n < (List.length xs : Int) := of_decide_eq_true h1
    refine .inl ⟨_, _, h, fun F R w ρ hr hρ o ho hty => ?_⟩
    have hvx := hρ x
    have hvi := hρ i
    rw [hx] at hvx
    rw [hn] at hvi
    obtain ⟨hvi, _⟩ := VR_int hvi
    obtain ⟨hlive, hvx, _⟩ := hvx
    have hroot := hr id (by simp)
    rw [hrs] at hroot
    obtain ⟨_, hp, hn1, hcap, hs, Ss, k3, k4, k5, k6, k7⟩ := hroot
    have hlt : Int.toNat n < hs.length := by rw [k4]; exact toNat_lt n _ h0 h1
    obtain ⟨A, c, e1, q1, q2, q3⟩ := k3
    simp only [List.cons.injEq, and_true] at e1
    obtain ⟨b, ob, cs, hA, _⟩ := q3 _ _ (List.getElem?_eq_getElem hlt)
    subst hA
    have hll : (n : Int) < ((List.length hs : Nat) : Int) := by rw [k4]; exact h1
    refine ⟨.pointer (some ⟨b, ob + n.toNat * 1 + 0, none⟩), ?_, ⟨hlive, b, ob, _, c, e1, hlt, rfl⟩⟩
    unfold execOp
    rw [ho]
    apply run_v
    rw [hvx, hvi, e1, run_indexAt (hΓ.slice hi rfl w) (hΓ.size hei w) h0 hll, hsz]
    rfl
  · rename_i id r' kk kk' n hx hn
    split at h
    case h_2 => exact .inr h
    rename_i sz by' ag e tt hi
    split at h
    case h_2 => cases h
    rename_i ei hei
    split at h
    case isFalse => cases h
    rename_i hsz
    obtain ⟨h0, h⟩ := cond_t h
    obtain ⟨h1, h⟩ := cond_t h
    have h0 : (0 : Int) ≤ n := of_decide_eq_true h0
    have h1 : n < (kk : Int) := of_decide_eq_true h1
    refine .inl ⟨_, _, h, fun F R w ρ hr hρ o ho hty => ?_⟩
    have hvx := hρ x
    have hvi := hρ i
    rw [hx] at hvx
    rw [hn] at hvi
    obtain ⟨hvi, _⟩ := VR_int hvi
    obtain ⟨hlive, hkc, hs, q1, q2, A, c, q3, q4⟩ := hvx
    have hk0 : 0 < kk := Nat.lt_of_le_of_lt (Nat.zero_le _) (toNat_lt n _ h0 h1)
    obtain ⟨b, ob, hA⟩ := q4 hk0
    subst hA
    refine ⟨.pointer (some ⟨b, ob + n.toNat * 1, none⟩), ?_, ⟨hlive, hs, q1, b, ob, kk, c, by rw [q2, q3], toNat_lt n _ h0 h1, by rw [Nat.mul_one]⟩⟩
    unfold execOp
    rw [ho]
    apply run_v
    rw [q3, hvi, run_indexAt (hΓ.slice hi rfl w) (hΓ.size hei w) h0 h1, hsz]
  · exact .inr h

def matLoadK {α : Type} (Γ : Nat → Option TI) (rs : Rs) (t : TypeId) (a : AV) (k : KQ α) (other : Option α) : Option α :=
  match a with
  | .c (.l (.el id i n off)) =>
    (match rs id, Γ t with
     | .mat T xs, some ti => if ti.size = 1 ∧ ti.agg = false ∧ n = 1 ∧ off = 0 then k (.c (.l (.els id i (List.length (List.getD xs i []))))) [id] else none
     | _, _ => other)
  | .c (.l (.eel id i j)) =>
    (match rs id, Γ t with
     | .mat T xs, some ti => if ti.size = 1 ∧ ti.agg = false then k (.c (.l (.dat T (List.getD (List.getD xs i []) j T.zero)))) [id] else none
     | _, _ => other)
  | _ => other

theorem matLoadK_ok {α : Type} (hΓ : TyOk P Γ) {rs : Rs} {t : TypeId} {a : Operand} {ρA : Operand → AV} {ty : TypeId} {k : KQ α} {other : Option α} {r : α} (h : matLoadK Γ rs t (ρA a) k other = some r) :
    (∃ out ids, k out ids = some r ∧ Quiet G P (.load t a) ty ρA rs out ids) ∨ other = some r := by
  unfold matLoadK at h
  split at h
  · rename_i id i n off ha
    split at h
    case h_2 => exact .inr h
    rename_i T xs ti hrs hti
    split at h
    case isFalse => cases h
    rename_i hcnd
    obtain ⟨hsz, hagg, hn, hoff⟩ := hcnd
    subst hn hoff
    refine .inl ⟨_, _, h, fun F R w ρ hr hρ o ho hty => ?_⟩
    have hva := hρ a
    rw [ha] at hva
    obtain ⟨hlive, b, ob, l, c, hh, hil, hp⟩ := hva
    have hroot := hr id (by simp)
    rw [hrs] at hroot
    obtain ⟨_, hpl, hn1, hcap, hs, Ss, k3, k4, k5, k6, k7⟩ := hroot
    have k3' := k3
    rw [hh] at k3'
    have hl : l = hs.length := by
      obtain ⟨A, c', e, _⟩ := k3'
      simp only [List.cons.injEq, and_true] at e
      injection e
    have hi : i < hs.length := by omega
    have hix : i < List.length xs := by omega
    have hget := List.getElem?_eq_getElem hi
    obtain ⟨_, b', o', e1, hc⟩ := raw_cell k3' hget
    injection e1 with e1
    injection e1 with eb eo
    subst eb eo
    have hrow := k7 i _ (List.getElem?_eq_getElem hix)
    have hgd : hs.getD i undef = hs[i] := by rw [List.getD_eq_getElem?_getD, hget]; rfl
    have hxd : List.getD xs i [] = xs[i] := by rw [List.getD_eq_getElem?_getD, List.getElem?_eq_getElem hix]; rfl
    rw [hgd] at hrow
    obtain ⟨A2, c2, e2⟩ := row_hdr hrow
    have hcell1 : CellsAt w b (ob + i) [hs[i]] := fun q u hu => by
      match q, hu with
      | 0, hu => have hu : hs[i] = u := by simpa using hu
                 subst hu; simpa using hc
    have hrl := run_loadVar (P := P) (t := t) (off := 0) (hΓ.size hti w) (hΓ.agg hti w) hcell1 (by rw [hsz]; simp) (fun _ => hsz)
    rw [hagg] at hrl
    refine ⟨hs[i], ?_, ⟨hlive, ?_, hs, k3, hget, A2, c2, ?_, fun h0 => row_ptr hrow e2 (by rw [hxd] at h0; exact h0)⟩⟩
    · unfold execOp
      rw [ho]
      apply run_v
      rw [hp]
      have : (loadVar t ⟨b, ob + i * 1 + 0, none⟩).run P w = .ok hs[i] w := by
        rw [Nat.mul_one]; simpa using hrl
      exact (bind_ok rfl).trans this
    · rw [hxd]; exact hrow.1
    · rw [hxd]; exact e2
  · rename_i id i j ha
    split at h
    case h_2 => exact .inr h
    rename_i T xs ti hrs hti
    split at h
    case isFalse => cases h
    rename_i hcnd
    obtain ⟨hsz, hagg⟩ := hcnd
    refine .inl ⟨_, _, h, fun F R w ρ hr hρ o ho hty => ?_⟩
    have hva := hρ a
    rw [ha] at hva
    obtain ⟨hlive, hs', q1, b, ob, kk, c, q2, q3, hp⟩ := hva
    have hroot := hr id (by simp)
    rw [hrs] at hroot
    obtain ⟨_, hpl, hn1, hcap, hs, Ss, k3, k4, k5, k6, k7⟩ := hroot
    have := raw_same q1 k3
    subst this
    have hi : i < hs'.length := (List.getElem?_eq_some_iff.1 q2).1
    have hix : i < List.length xs := by omega
    have hrow := k7 i _ (List.getElem?_eq_getElem hix)
    have hgd : hs'.getD i undef = .slice (some ⟨b, ob, none⟩) kk c := by rw [List.getD_eq_getElem?_getD, q2]; rfl
    have hxd : List.getD xs i [] = xs[i] := by rw [List.getD_eq_getElem?_getD, List.getElem?_eq_getElem hix]; rfl
    rw [hgd] at hrow
    obtain ⟨hcp, hrow⟩ := hrow
    rcases hrow with ⟨hnil, ⟨A0, hv'⟩, _⟩ | ⟨b', o'', c', arr, ty', fz, Ss2, e1, e2, e3, ez, e4, e5, e6, e7⟩
    · injection hv' with _ hh2; omega
    injection e1 with hh1 hh2 hh3
    injection hh1 with hh1
    injection hh1 with hb ho'
    subst hb ho'
    have hj : j < (xs[i]).length := by omega
    obtain ⟨cs, z1, z2, z3⟩ := e7 j _ (List.getElem?_eq_getElem hj)
    rw [hn1] at z1
    obtain ⟨v, rfl⟩ : ∃ v, cs = [v] := by
      match cs, z1 with
      | [v], _ => exact ⟨v, rfl⟩
    have hcell1 : CellsAt w b (ob + j) [v] := fun q u hu => by
      match q, hu with
      | 0, hu =>
        have hu : v = u := by simpa using hu
        subst hu
        have := z3 0 v rfl
        rw [hn1] at this
        simp only [Nat.mul_one, Nat.add_zero] at this
        simp [World.cell?, e3, this]
    have hrl := run_loadVar (P := P) (t := t) (off := 0) (hΓ.size hti w) (hΓ.agg hti w) hcell1 (by rw [hsz]; simp) (fun _ => hsz)
    rw [hagg] at hrl
    refine ⟨v, ?_, ?_⟩
    · unfold execOp
      rw [ho]
      apply run_v
      rw [hp]
      have : (loadVar t ⟨b, ob + j, none⟩).run P w = .ok v w := by simpa using hrl
      exact (bind_ok rfl).trans this
    · have hzz : List.getD (List.getD xs i []) j T.zero = (xs[i])[j] := by rw [hxd, List.getD_eq_getElem?_getD, List.getElem?_eq_getElem hj]; rfl
      rw [hzz]
      have hS := OwnL_plain_S hpl z2
      show RdL F w T _ [v]
      exact z2.read fun b hb => by rw [hS] at hb; cases hb
  · exact .inr h

def matStoreK {α : Type} (Γ : Nat → Option TI) (rs : Rs) (c : Nat) (t : TypeId) (a x : AV) (k : KT α) (other : Option α) : Option α :=
  match a with
  | .c (.l (.eel id i j)) =>
    (match rs id, Γ t, x with
     | .mat T xs, some ti, .c (.l (.dat T' y)) =>
       if ti.size = 1 then (match asT T T' y with | some z => k .none (updR rs id (.mat T (List.set xs i (List.set (List.getD xs i []) j z)))) c [id] [id] | none => none) else none
     | _, _, _ => none)
  | _ => other

set_option maxHeartbeats 1000000 in
theorem matStoreK_ok {α : Type} (hΓ : TyOk P Γ) {o : Oper} {t : TypeId} {a x : Operand} {ρA : Operand → AV} {rs : Rs} {c : Nat} {k : KT α} {other : Option α} {r : α} (ho : o.op = .store t a x)
    (h : matStoreK Γ rs c t (ρA a) (ρA x) k other = some r) : (∃ out rs' c' ids mod, k out rs' c' ids mod = some r ∧ LStep G P o ρA rs c out rs' c' ids mod) ∨ other = some r := by
  unfold matStoreK at h
  split at h
  case h_2 => exact .inr h
  rename_i id i j ha
  refine .inl ?_
  split at h
  case h_2 => cases h
  rename_i T xs ti T' y hrs hti hx
  split at h
  case isFalse => cases h
  rename_i hsz
  split at h
  case h_2 => cases h
  rename_i z hz
  refine ⟨_, _, _, _, _, h, Nat.le_refl _, fun rsG F R w ρ hids hnew hs hρ => ?_⟩
  have hva := hρ a
  have hvx := hρ x
  rw [ha] at hva
  rw [hx] at hvx
  obtain ⟨hlive, hs', q1, b, ob, kk, cc, q2, q3, hp⟩ := hva
  have hroot := hs.ok id
  rw [hids id (by simp), hrs] at hroot
  obtain ⟨_, hpl, hn1, hcap, hd, Ss, k3, k4, k5, k6, k7⟩ := hroot
  have := raw_same q1 k3
  subst this
  have hi : i < hs'.length := (List.getElem?_eq_some_iff.1 q2).1
  have hix : i < List.length xs := by omega
  have hiS : i < Ss.length := by omega
  have hrow := k7 i _ (List.getElem?_eq_getElem hix)
  have hgd : hs'.getD i undef = .slice (some ⟨b, ob, none⟩) kk cc := by rw [List.getD_eq_getElem?_getD, q2]; rfl
  have hxd : List.getD xs i [] = xs[i] := by rw [List.getD_eq_getElem?_getD, List.getElem?_eq_getElem hix]; rfl
  rw [hgd] at hrow
  obtain ⟨hcp, hrow⟩ := hrow
  rcases hrow with ⟨hnil, ⟨A0, hv'⟩, _⟩ | ⟨b', o'', c', arr, ty, fz, Ss2, e1, e2, e3, ez, e4, e5, e6, e7⟩
  · injection hv' with _ hh2; omega
  injection e1 with hh1 hh2 hh3
  injection hh1 with hh1
  injection hh1 with hb ho'
  subst hb ho' hh3
  have hj : j < (xs[i]).length := by omega
  rw [hn1, Nat.mul_one] at e4
  have hown : OwnL w T z [ρ x] [] := scalar_own (R := R) (F := F) hpl hz hvx
  have hone : one (ρ x) = true := LR.one (show LR R F w (.dat T' y) (ρ x) from hvx)
  have hcells : (ρ x).cells = #[ρ x] := one_cells hone
  have hpl' : (ob + j) + [ρ x].length ≤ arr.size := by simp; omega
  obtain ⟨⟨arr', g1, g2⟩, g3, g4, g5, g6, g7⟩ := setCells_facts [ρ x] w b (ob + j) arr ty fz e3 hpl'
  let w' := setCells w b (ob + j) [ρ x]
  have hasz : arr'.size = arr.size := by
    have := congrArg List.length g2
    simp at this; omega
  have hget : ∀ q, arr'[q]? = if q < ob + j then arr[q]? else if q < ob + j + 1 then [ρ x][q - (ob + j)]? else arr[q]? := fun q => by
    have := patch_get (l := arr.toList) (vs := [ρ x]) (p := ob + j) (q := q) (by simpa using hpl')
    rw [← g2] at this
    simpa using this
  have hrun : (execOp ρ o).run P w = .ok .skip w' := by
    unfold execOp
    rw [ho]
    simp only
    unfold Instr.storeAt
    rw [hp]
    have hsa : (Instr.sureAddr (.pointer (some ⟨b, ob + j, none⟩))).run P w = .ok ⟨b, ob + j, none⟩ w := rfl
    have hst : (storeVar t ⟨b, ob + j, none⟩ (ρ x)).run P w = .ok () w' := by
      unfold storeVar
      rw [bind_ok (hΓ.size hti w)]
      rw [if_neg (by rw [hcells, hsz]; simp)]
      have := run_storeCells (P := P) [ρ x] 0 w b (ob + j) arr ty fz e3 (by simpa using hpl') ez (by simpa using hone)
      rw [hcells]
      simpa using this
    rw [bind_ok ((bind_ok hsa).trans hst)]
    rfl
  have hbi : b ∈ Ss.getD i [] := by rw [e5]; simp
  have hSi : ∀ q y, y ∈ Ss.getD q [] → y ∈ (R id).S := fun q y hy => by rw [k6]; exact getD_flat hy
  have hbS : b ∈ (R id).S := hSi i b hbi
  have hnd := hs.nd id
  rw [k6] at hnd
  have hup := Sat.upd (F' := F) (R' := R) (w' := w') (rs' := updR rsG id (.mat T (List.set xs i (List.set (List.getD xs i []) j z)))) (new := fun _ => False) (M := fun j => j = id) hs
    (fun j hj => hj.elim) (fun j hj => ⟨updR_other _ _ hj, rfl⟩) (fun _ _ _ => ⟨rfl, rfl⟩)
    (fun j hj y hy => .inl ⟨j, hj, hy⟩) (fun j _ => hs.nd j) (fun p q hp hq hpq => absurd (hp.trans hq.symm) hpq)
    (fun b2 hb2 hS2 => g3 b2 fun e => hS2 id rfl (e ▸ hbS))
    (fun _ hb => hb) (fun _ hb => .inl hb) (by rw [g4]; exact Nat.le_refl _) g5 g6 g7
    (fun hg hag q hq => by
      rw [hq, updR_same]
      refine ⟨hlive, hpl, hn1, by rw [List.length_set]; exact hcap, hs', Ss, RdL.mono (fun _ h => h) hag k3, by rw [List.length_set]; exact k4, by rw [List.length_set]; exact k5, k6, fun p u hpu => ?_⟩
      by_cases hpi : p = i
      · subst hpi
        rw [List.getElem?_set_self hix] at hpu
        injection hpu with hpu
        subst hpu
        rw [hxd, hgd]
        refine ⟨by rw [List.length_set]; exact hcp, .inr ⟨b, ob, cc, arr', ty, fz, Ss2, by rw [List.length_set, hh2], by rw [List.length_set]; exact e2, g1, fun q hq => ez q (by rw [← hasz]; exact hq), ?_, e5, by rw [List.length_set]; exact e6, fun q u hq => ?_⟩⟩
        · rw [hasz, hn1, Nat.mul_one]; exact e4
        · have hS0 : ∀ m, m < (xs[p]).length → Ss2.getD m [] = [] := fun m hm => by
            obtain ⟨cs, z1, z2, z3⟩ := e7 m _ (List.getElem?_eq_getElem hm)
            exact OwnL_plain_S hpl z2
          by_cases hqj : q = j
          · subst hqj
            rw [List.getElem?_set_self hj] at hq
            injection hq with hq
            subst hq
            refine ⟨[ρ x], by rw [hn1]; rfl, ?_, fun m v hv => ?_⟩
            · rw [hS0 q hj]
              exact OwnL_plain (F := F) hpl ((hown.read (F := F) (fun b hb => by cases hb)).mono (fun _ h => h) hag)
            · match m, hv with
              | 0, hv =>
                have hv : ρ x = v := by simpa using hv
                subst hv
                rw [hn1, Nat.mul_one, Nat.add_zero, hget, if_neg (by omega), if_pos (by omega), Nat.sub_self]
                rfl
          · rw [List.getElem?_set_ne (fun e => hqj e.symm)] at hq
            have hql : q < (xs[p]).length := (List.getElem?_eq_some_iff.1 hq).1
            obtain ⟨cs, z1, z2, z3⟩ := e7 q u hq
            refine ⟨cs, z1, ?_, fun m v hv => ?_⟩
            · have hS := hS0 q hql
              rw [hS] at z2 ⊢
              exact OwnL_plain (F := F) hpl ((z2.read (F := F) (fun b hb => by cases hb)).mono (fun _ h => h) hag)
            · have h1 := z3 m v hv
              have hm : m = 0 := by
                have := (List.getElem?_eq_some_iff.1 hv).1
                omega
              subst hm
              rw [hn1, Nat.mul_one, Nat.add_zero] at h1 ⊢
              rw [hget]
              by_cases hlt : q < j
              · rw [if_pos (by omega)]; exact h1
              · rw [if_neg (by omega), if_neg (by omega)]; exact h1
      · rw [List.getElem?_set_ne (fun e => hpi e.symm)] at hpu
        have hkeep : ∀ y ∈ Ss.getD p [], w'.heap[y]? = w.heap[y]? := fun y hy => g3 y fun e => flat_disj hnd (fun e => hpi e.symm) hy (by rw [e]; exact hbi)
        exact (k7 p u hpu).imp hkeep fun x cs S' hS' hE => hE.agree fun y hy => hkeep y (hS' y hy))
  unfold Does
  rw [hrun]
  refine ⟨F, R, ?_, ?_, trivial⟩
  · have h1 : (fun j => c ≤ j ∧ j < c) = (fun _ => False) := by funext j; simp
    rw [h1]; exact hup.1
  · rw [merge_upd1]; exact hup.2
end
end Go.Sx

namespace Go.Sx
open Go
variable {G : Gl}
set_option linter.unusedVariables false
set_option linter.unusedSimpArgs false

structure Cx where
  Γ : Nat → Option TI
  C : Nat → List Contract
  win : Bool                         -- are ends of rows slices of their own

structure CxOk (G : Gl) (P : Program) (cx : Cx) : Prop where
  ty : TyOk P cx.Γ
  fn : ∀ f con, con ∈ cx.C f → Meets G P f con.sig con.F
  mixed : P.follows .mixedOrders = true

/-- a quiet operation is a step -/
def qk {α : Type} (rs : Rs) (c : Nat) (k : KT α) : KQ α := fun v ids => k v rs c ids []

theorem Quiet.step {P : Program} {o : Oper} {ρA : Operand → AV} {rs : Rs} {c : Nat} {out : AV} {ids : List Nat} (h : Quiet G P o.op o.type ρA rs out ids) : LStep G P o ρA rs c out rs c ids [] :=
  LStep.pure fun F R w ρ hr hρ => h F R w ρ hr hρ o rfl rfl

theorem qk_ok {α : Type} {P : Program} {o : Oper} {ρA : Operand → AV} {rs : Rs} {c : Nat} {k : KT α} {r : α} {op : Op} (ho : o.op = op)
    (h : ∃ out ids, qk rs c k out ids = some r ∧ Quiet G P op o.type ρA rs out ids) : ∃ out rs' c' ids mod, k out rs' c' ids mod = some r ∧ LStep G P o ρA rs c out rs' c' ids mod := by
  obtain ⟨out, ids, h1, h2⟩ := h
  subst ho
  exact ⟨out, rs, c, ids, [], h1, h2.step⟩

/-- the contracts of a function, one after the other -/
def callList {α : Type} (args : List AV) (rs : Rs) (c : Nat) (k : KT α) : List Contract → Option α
  | [] => none
  | con :: r => callFrz con args rs c k (callList args rs c k r)

theorem callList_ok {α : Type} {P : Program} {f : FuncId} {args : List AV} {rs : Rs} {c : Nat} {k : KT α} {r : α} : ∀ {l : List Contract}, (∀ con ∈ l, Meets G P f con.sig con.F) → callList args rs c k l = some r →
    ∃ out rs' c' ids mod, k out rs' c' ids mod = some r ∧ CStep G P f args rs c out rs' c' ids mod
  | [], _, h => by cases h
  | con :: l, hm, h => by
    rcases callFrz_ok (hm con (by simp)) h with h1 | h1
    · exact h1
    · exact callList_ok (fun c hc => hm c (by simp [hc])) h1

def callK {α : Type} (cx : Cx) (ρA : Operand → AV) (rs : Rs) (c : Nat) (x : AV) (args : Array Operand) (k : KT α) : Option α :=
  match x with
  | .c (.l (.fn f caps)) => callList (args.toList.map ρA ++ caps.map fun id => .c (.l (.ptr id 0))) rs c k (cx.C f)
  | _ => none

theorem argAt_get : ∀ {l : List AV} {t : Nat}, argAt l t = l.getD t .none
  | [], t => by simp [argAt]
  | a :: r, 0 => rfl
  | a :: r, t + 1 => by simp only [argAt]; rw [argAt_get]; simp

theorem callK_ok {α : Type} {P : Program} {cx : Cx} (hcx : CxOk G P cx) {o : Oper} {x : Operand} {args : Array Operand} {ts : Array TypeId} {ρA : Operand → AV} {rs : Rs} {c : Nat} {k : KT α} {r : α}
    (ho : o.op = .call { callee := .value x, args := args, argTypes := ts }) (h : callK cx ρA rs c (ρA x) args k = some r) :
    ∃ out rs' c' ids mod, k out rs' c' ids mod = some r ∧ LStep G P o ρA rs c out rs' c' ids mod := by
  unfold callK at h
  split at h
  · rename_i f caps hx
    obtain ⟨out, rs', c', ids, mod, hk, hc, hst⟩ := callList_ok (hcx.fn f) h
    refine ⟨out, rs', c', ids, mod, hk, hc, fun rsG F R w ρ hids hnew hs hρ => ?_⟩
    have hv := hρ x
    rw [hx] at hv
    obtain ⟨vs, hp, hvs⟩ := hv
    have hR := hst rsG F R w (args.map ρ ++ vs.toArray) hids hnew hs (fun t => ?_) ?_ hρ.gl
    · unfold Does
      have hrun : (execOp ρ o).run P w = (callFunc f (args.map ρ ++ vs.toArray)).run P w := by
        unfold execOp
        rw [ho]
        simp only
        have h1 : (resolve ρ { callee := .value x, args := args, argTypes := ts } o.type).run P w = .ok { target := .fn (.func f) vs.toArray, args := #[] ++ args.map ρ } w := by
          unfold resolve
          simp only
          rw [hp]
          rfl
        rw [bind_ok h1]
        simp only [invoke]
        simp
      rw [hrun]
      unfold Runs at hR
      generalize (callFunc f (args.map ρ ++ vs.toArray)).run P w = res at hR ⊢
      cases res with
      | ok nx w' => cases nx <;> first | exact hR | exact hR.elim
      | halt x w' => exact hR.elim
    · rw [argAt_get]
      by_cases ht : t < args.size
      · have e1 : (args.toList.map ρA ++ caps.map fun id => AV.c (.l (.ptr id 0)) : List AV).getD t .none = ρA args[t] := by
          rw [List.getD_eq_getElem?_getD, List.getElem?_append_left (by simpa using ht)]
          simp [ht]
        have e2 : (args.map ρ ++ vs.toArray).getD t undef = ρ args[t] := by
          rw [Array.getD_eq_getD_getElem?, Array.getElem?_append_left (by simpa using ht)]
          simp [ht]
        rw [e1, e2]; exact hρ _
      · have e1 : (args.toList.map ρA ++ caps.map fun id => AV.c (.l (.ptr id 0)) : List AV)[t]? = (caps[t - args.size]?).map fun id => AV.c (.l (.ptr id 0)) := by
          rw [List.getElem?_append_right (by simp; omega)]
          simp
        have e2 : (args.map ρ ++ vs.toArray)[t]? = vs[t - args.size]? := by
          rw [Array.getElem?_append_right (by simp; omega)]
          simp
        rw [List.getD_eq_getElem?_getD, e1, Array.getD_eq_getD_getElem?, e2]
        cases hcap : caps[t - args.size]? with
        | none => trivial
        | some id =>
          obtain ⟨u, hu, hpu⟩ := hvs.get hcap
          rw [hu]; exact hpu
    · have := hvs.length
      simp [this]
  · cases h

/-! ### Read-only rows, by their contents -/
def nrmL (rs : Rs) (a : LV) : LV :=
  match a with
  | .sl id => (match rs id with | .ro t xs => .dat (.list t) xs | _ => .sl id)
  | .slv id k => (match rs id with | .ro t xs => .dat (.sp t) (xs, k) | _ => .slv id k)
  | _ => a

def nrmC (rs : Rs) (v : CV) : CV :=
  match v with
  | .l a => .l (nrmL rs a)
  | .agg as => .agg (as.map (nrmL rs))

def nrmA (rs : Rs) (v : AV) : AV :=
  match v with
  | .c v => .c (nrmC rs v)
  | .tup vs => .tup (vs.map (nrmC rs))
  | .none => .none

def idL (rs : Rs) : LV → List Nat
  | .sl id => (match rs id with | .ro _ _ => [id] | _ => [])
  | .slv id _ => (match rs id with | .ro _ _ => [id] | _ => [])
  | _ => []
def idC (rs : Rs) : CV → List Nat
  | .l a => idL rs a
  | .agg as => as.flatMap (idL rs)
def idA (rs : Rs) : AV → List Nat
  | .c v => idC rs v
  | .tup vs => vs.flatMap (idC rs)
  | .none => []

section
variable {P : Program} {R : Nat → RV} {F : Nat → Prop} {w : World} {rs : Rs}

theorem nrmL_ok {a : LV} {v : Value} (hr : ∀ j ∈ idL rs a, RootOk F R w (rs j) (R j)) (h : LR R F w a v) : LR R F w (nrmL rs a) v := by
  unfold nrmL
  split
  · rename_i id
    cases hrs : rs id with
    | ro t xs =>
      have := hr id (by simp [idL, hrs])
      rw [hrs] at this
      simp only
      rw [h.2.1]; exact this.2.2
    | _ => exact h
  · rename_i id k
    cases hrs : rs id with
    | ro t xs =>
      have := hr id (by simp [idL, hrs])
      rw [hrs] at this
      simp only
      obtain ⟨_, A, l, c, eh, ⟨hk, _⟩, rfl⟩ := h
      exact ro_cut this.2.2 eh hk
    | _ => exact h
  · exact h

theorem nrmLs_ok : ∀ {as : List LV} {vs : List Value}, (∀ j ∈ as.flatMap (idL rs), RootOk F R w (rs j) (R j)) → All2 (LR R F w) as vs → All2 (LR R F w) (as.map (nrmL rs)) vs
  | [], _, _, h => by cases h; exact .nil
  | a :: as, _, hr, .cons h1 h2 => .cons (nrmL_ok (fun j hj => hr j (by simp [hj])) h1) (nrmLs_ok (fun j hj => hr j (by simp only [List.flatMap_cons, List.mem_append]; exact .inr hj)) h2)

theorem nrmC_ok {a : CV} {v : Value} (hr : ∀ j ∈ idC rs a, RootOk F R w (rs j) (R j)) (h : CR R F w a v) : CR R F w (nrmC rs a) v := by
  cases a with
  | l a => exact nrmL_ok hr h
  | agg as => obtain ⟨cs, e, hf⟩ := h; exact ⟨cs, e, nrmLs_ok hr hf⟩

theorem nrmCs_ok : ∀ {as : List CV} {vs : List Value}, (∀ j ∈ as.flatMap (idC rs), RootOk F R w (rs j) (R j)) → All2 (CR R F w) as vs → All2 (CR R F w) (as.map (nrmC rs)) vs
  | [], _, _, h => by cases h; exact .nil
  | a :: as, _, hr, .cons h1 h2 => .cons (nrmC_ok (fun j hj => hr j (by simp [hj])) h1) (nrmCs_ok (fun j hj => hr j (by simp only [List.flatMap_cons, List.mem_append]; exact .inr hj)) h2)

theorem nrmA_ok {a : AV} {v : Value} (hr : ∀ j ∈ idA rs a, RootOk F R w (rs j) (R j)) (h : VR R F w a v) : VR R F w (nrmA rs a) v := by
  cases a with
  | none => trivial
  | c a => exact nrmC_ok hr h
  | tup as => obtain ⟨cs, e, hf⟩ := h; exact ⟨cs, e, nrmCs_ok hr hf⟩
end

/-- the temporaries that an operation looks at -/
def usedBy (o : Op) : List Nat := o.operands.toList.filterMap fun | .tmp t => some t | _ => none

def envN (rs : Rs) (e : Nat → AV) : List Nat → Nat → AV
  | [], _ => .none
  | u :: us, t => cond (Nat.beq t u) (nrmA rs (e u)) (envN rs e us t)

theorem envN_ok {R : Nat → RV} {F : Nat → Prop} {w : World} {rs : Rs} {e : Nat → AV} {v : Nat → Value} : ∀ {us : List Nat}, (∀ j ∈ us.flatMap (fun u => idA rs (e u)), RootOk F R w (rs j) (R j)) → (∀ t ∈ us, VR R F w (e t) (v t)) → ∀ t, VR R F w (envN rs e us t) (v t)
  | [], _, h, t => trivial
  | u :: us, hr, h, t => by
    unfold envN
    by_cases ht : Nat.beq t u = true
    · rw [ht]
      have := Nat.eq_of_beq_eq_true ht
      subst this
      exact nrmA_ok (fun j hj => hr j (by simp [hj])) (h t (by simp))
    · rw [Bool.eq_false_iff.2 ht]
      exact envN_ok (fun j hj => hr j (by simp only [List.flatMap_cons, List.mem_append]; exact .inr hj)) (fun t ht => h t (by simp [ht])) t

/-! ### Bools and errors are compared -/
theorem descD_bool {d : TypeDesc} (h : descD d = .bool) : d = .bool := by
  cases d <;> simp [descD] at h; rfl
theorem descD_iface {d : TypeDesc} (h : descD d = .iface) : ∃ m, d = .interface m := by
  cases d <;> simp [descD] at h; exact ⟨_, rfl⟩

def isLit : Operand → Bool
  | .const _ => true
  | _ => false

def eqK {α : Type} (Γ : Nat → Option TI) (op : BinOp) (t : TypeId) (lit : Bool) (x y : AV) (k : KQ α) (other : Option α) : Option α :=
  match op, x, y with
  | .eql, .c (.l (.dat .bool a)), .c (.l (.dat .bool b)) => (match Γ t with | some ⟨_, _, _, .bool, _⟩ => k (dB (a == b)) [] | _ => none)
  | .neq, .c (.l (.dat .bool a)), .c (.l (.dat .bool b)) => (match Γ t with | some ⟨_, _, _, .bool, _⟩ => k (dB (!(a == b))) [] | _ => none)
  | .eql, .c (.l (.err a)), .c (.l (.err false)) => (match Γ t, lit with | some ⟨_, _, _, .iface, _⟩, true => k (dB (!a)) [] | _, _ => none)
  | .neq, .c (.l (.err a)), .c (.l (.err false)) => (match Γ t, lit with | some ⟨_, _, _, .iface, _⟩, true => k (dB a) [] | _, _ => none)
  | _, _, _ => other

theorem run_eq_bool {P : Program} {Γ : Nat → Option TI} (hΓ : TyOk P Γ) {t : TypeId} {i : TI} (hi : Γ t = some i) (hd : i.d = .bool) (a b : Bool) (w : World) : (Op.equal t (.bool a) (.bool b)).run P w = .ok (a == b) w := by
  obtain ⟨d, h1, h2⟩ := hΓ.und hi
  rw [hd] at h2
  rw [descD_bool h2] at h1
  unfold Op.equal Op.maxDepth
  unfold Op.equalIn
  rw [bind_ok (run_underlying h1 w)]
  rfl

theorem run_eq_nil {P : Program} {R : Nat → RV} {F : Nat → Prop} {Γ : Nat → Option TI} (hΓ : TyOk P Γ) {t : TypeId} {i : TI} (hi : Γ t = some i) (hd : i.d = .iface) {a : Bool} {v : Value} {w : World} (hv : VR R F w (.c (.l (.err a))) v) (w : World) :
    (Op.equal t v .nilIface).run P w = .ok (!a) w := by
  obtain ⟨d, h1, h2⟩ := hΓ.und hi
  rw [hd] at h2
  obtain ⟨m, rfl⟩ := descD_iface h2
  unfold Op.equal Op.maxDepth
  unfold Op.equalIn
  rw [bind_ok (run_underlying h1 w)]
  cases a with
  | true => obtain ⟨t', x', rfl⟩ := hv; rfl
  | false =>
    obtain rfl : v = .nilIface := hv
    rfl

theorem eqK_ok {α : Type} {P : Program} {Γ : Nat → Option TI} (hΓ : TyOk P Γ) {op : BinOp} {t ty' : TypeId} {x y : Operand} {ρA : Operand → AV} {ty : TypeId} {rs : Rs} {k : KQ α} {other : Option α} {r : α}
    (h : eqK Γ op t (isLit x || isLit y) (ρA x) (ρA y) k other = some r) : (∃ out ids, k out ids = some r ∧ Quiet G P (.binOp op t x y ty') ty ρA rs out ids) ∨ other = some r := by
  unfold eqK at h
  split at h
  · rename_i a b hx hy
    split at h
    · rename_i s1 s2 s3 s4 hi
      refine .inl ⟨_, _, h, fun F R w ρ hr hρ o ho hty => ⟨_, ?_, VR_bool'⟩⟩
      have h1 := hρ x
      have h2 := hρ y
      rw [hx] at h1
      rw [hy] at h2
      unfold execOp
      rw [ho]
      apply run_v
      rw [VR_bool h1, VR_bool h2]
      have hg : (eqGuard .eql t x y (.bool a) (.bool b)).run P w = .ok () w := rfl
      rw [bind_ok hg]
      show (do pure (Value.bool (← Op.equal t (.bool a) (.bool b))) : Sem Value).run P w = _
      rw [bind_ok (run_eq_bool hΓ hi rfl a b w)]
      rfl
    · cases h
  · rename_i a b hx hy
    split at h
    · rename_i s1 s2 s3 s4 hi
      refine .inl ⟨_, _, h, fun F R w ρ hr hρ o ho hty => ⟨_, ?_, VR_bool'⟩⟩
      have h1 := hρ x
      have h2 := hρ y
      rw [hx] at h1
      rw [hy] at h2
      unfold execOp
      rw [ho]
      apply run_v
      rw [VR_bool h1, VR_bool h2]
      have hg : (eqGuard .neq t x y (.bool a) (.bool b)).run P w = .ok () w := rfl
      rw [bind_ok hg]
      show (do pure (Value.bool (!(← Op.equal t (.bool a) (.bool b)))) : Sem Value).run P w = _
      rw [bind_ok (run_eq_bool hΓ hi rfl a b w)]
      rfl
    · cases h
  · rename_i a hx hy
    split at h
    · rename_i s1 s2 s3 s4 hi hlit
      refine .inl ⟨_, _, h, fun F R w ρ hr hρ o ho hty => ⟨_, ?_, VR_bool'⟩⟩
      have h1 := hρ x
      have h2 := hρ y
      rw [hx] at h1
      rw [hy] at h2
      have h2 : ρ y = .nilIface := h2
      unfold execOp
      rw [ho]
      apply run_v
      rw [h2]
      have hg : (eqGuard .eql t x y (ρ x) .nilIface).run P w = .ok () w := by
        unfold eqGuard
        cases a with
        | true =>
          obtain ⟨t', x', h1⟩ := h1
          rw [h1]; rfl
        | false =>
          have h1 : ρ x = .nilIface := h1
          rw [h1]
          cases x <;> cases y <;> first | rfl | cases hlit
      rw [bind_ok hg]
      have he := run_eq_nil hΓ hi rfl h1 w
      cases a with
      | true =>
        obtain ⟨t', x', h1⟩ := h1
        rw [h1] at he ⊢
        show (do pure (Value.bool (← Op.equal t (.iface t' x') .nilIface)) : Sem Value).run P w = _
        rw [bind_ok he]; rfl
      | false =>
        have h1 : ρ x = .nilIface := h1
        rw [h1] at he ⊢
        show (do pure (Value.bool (← Op.equal t .nilIface .nilIface)) : Sem Value).run P w = _
        rw [bind_ok he]; rfl
    · cases h
  · rename_i a hx hy
    split at h
    · rename_i s1 s2 s3 s4 hi hlit
      refine .inl ⟨_, _, h, fun F R w ρ hr hρ o ho hty => ⟨_, ?_, VR_bool'⟩⟩
      have h1 := hρ x
      have h2 := hρ y
      rw [hx] at h1
      rw [hy] at h2
      have h2 : ρ y = .nilIface := h2
      unfold execOp
      rw [ho]
      apply run_v
      rw [h2]
      have hg : (eqGuard .neq t x y (ρ x) .nilIface).run P w = .ok () w := by
        unfold eqGuard
        cases a with
        | true =>
          obtain ⟨t', x', h1⟩ := h1
          rw [h1]; rfl
        | false =>
          have h1 : ρ x = .nilIface := h1
          rw [h1]
          cases x <;> cases y <;> first | rfl | cases hlit
      rw [bind_ok hg]
      have he := run_eq_nil hΓ hi rfl h1 w
      cases a with
      | true =>
        obtain ⟨t', x', h1⟩ := h1
        rw [h1] at he ⊢
        show (do pure (Value.bool (!(← Op.equal t (.iface t' x') .nilIface))) : Sem Value).run P w = _
        rw [bind_ok he]; rfl
      | false =>
        have h1 : ρ x = .nilIface := h1
        rw [h1] at he ⊢
        show (do pure (Value.bool (!(← Op.equal t .nilIface .nilIface))) : Sem Value).run P w = _
        rw [bind_ok he]; rfl
    · cases h
  · exact .inr h

/-! ### A load of what is owned below: it is read-only from then on -/
def ldShw (Γ : Nat → Option TI) (rs : Rs) (t : TypeId) (a : AV) : List Nat :=
  match a with
  | .c (.l (.el id _ _ _)) =>
    (match rs id with
     | .row true T _ => cond T.plain [] (match Γ t with | some ⟨_, _, _, _, some U⟩ => cond U.plain [] [id] | _ => [])
     | _ => [])
  | _ => []

def loadShK {α : Type} (Γ : Nat → Option TI) (rs : Rs) (c : Nat) (t : TypeId) (a : AV) (k : KT α) : Option α :=
  match ldShw Γ rs t a with
  | [] => loadK Γ rs t a (qk rs c k)
  | l => loadK Γ (shwAll rs l) t a (qk (shwAll rs l) c (preShw rs l c k))

theorem loadShK_ok {α : Type} {P : Program} {Γ : Nat → Option TI} (hΓ : TyOk P Γ) {o : Oper} {t : TypeId} {a : Operand} {ρA : Operand → AV} {rs : Rs} {c : Nat} {k : KT α} {r : α} (ho : o.op = .load t a)
    (h : loadShK Γ rs c t (ρA a) k = some r) : ∃ out rs' c' ids mod, k out rs' c' ids mod = some r ∧ LStep G P o ρA rs c out rs' c' ids mod := by
  unfold loadShK at h
  split at h
  · exact qk_ok ho (loadK_ok hΓ h)
  · exact preShw_ok (qk_ok ho (loadK_ok hΓ h))

/-- does an argument name what was lent out of a row -/
def slvArgs (ρA : Operand → AV) (args : Array Operand) : Bool := args.toList.any fun x => match ρA x with | .c (.l (.slv _ _)) => true | _ => false

/-- is it a place in what was lent out of a row -/
def pend (rs : Rs) (c : Nat) : AV → Bool
  | .c (.l (.el id _ _ _)) => (match findPlug rs c with | some (_, h, _) => Nat.beq h id | none => false)
  | _ => false
def loadAllK {α : Type} (cx : Cx) (t : TypeId) (a : AV) (rs : Rs) (c : Nat) (k : KT α) : Option α := loadHoleK cx.Γ rs c t a k (loadShK cx.Γ rs c t a k)
def storeAllK {α : Type} (cx : Cx) (t : TypeId) (a x : AV) (rs : Rs) (c : Nat) (k : KT α) : Option α := storeFldK cx.Γ rs c t a x k (storeShK cx.Γ rs c t a x k (storeBoxK cx.Γ rs c t a x k))

/-! ### All operations -/
def opK {α : Type} (cx : Cx) (op : Op) (ρA : Operand → AV) (rs : Rs) (c : Nat) (k : KT α) : Option α :=
  match op with
  | .move x => k (ρA x) rs c [] []
  | .assign x => assignK cx.win rs c (ρA x) k
  | .pick x a b => pickK (ρA x) (ρA a) (ρA b) (qk rs c k)
  | .load t a => matLoadK cx.Γ rs t (ρA a) (qk rs c k) (cond (pend rs c (ρA a)) (loadAllK cx t (ρA a) rs c (postPlug rs c k)) (loadAllK cx t (ρA a) rs c k))
  | .store t a x => matStoreK cx.Γ rs c t (ρA a) (ρA x) k (cond (pend rs c (ρA a)) (storeAllK cx t (ρA a) (ρA x) rs c (postPlug rs c k)) (storeAllK cx t (ρA a) (ρA x) rs c k))
  | .binOp b t x y _ => eqNilK cx.Γ b t (isNilC y) (ρA x) (qk rs c k) (eqK cx.Γ b t (isLit x || isLit y) (ρA x) (ρA y) (qk rs c k) (binK b (ρA x) (ρA y) (fun v => k v rs c [] [])))
  | .unOp u _ x => unK u (ρA x) (qk rs c k)
  | .convert s d x => toBytesK cx.Γ rs c s d (ρA x) k (bytesK cx.Γ rs s d (ρA x) (qk rs c k) (convK cx.Γ s d (ρA x) (qk rs c k)))
  | .indexAddr t x i => matAddrK cx.Γ rs t (ρA x) (ρA i) (qk rs c k) (indexAddrK cx.Γ rs t (ρA x) (ρA i) (qk rs c k))
  | .fieldAddr s x j => fieldAddrK cx.Γ s (ρA x) j (qk rs c k)
  | .field t x j => fieldK cx.Γ t (ρA x) j (qk rs c k)
  | .index t x i => indexK cx.Γ t (ρA x) (ρA i) (qk rs c k)
  | .slice t x lo hi none => cond cx.win (slwK cx.Γ rs c t (ρA x) (lo.map ρA) (hi.map ρA) k (cutRowK cx.Γ rs c t (ρA x) (lo.map ρA) (hi.map ρA) k (cutK cx.Γ t (ρA x) (lo.map ρA) (hi.map ρA) (qk rs c k)))) (cutRowK cx.Γ rs c t (ρA x) (lo.map ρA) (hi.map ρA) k (cutK cx.Γ t (ρA x) (lo.map ρA) (hi.map ρA) (qk rs c k)))
  | .buildSlice t n ps => buildSliceK cx.Γ ρA rs c t n ps k
  | .build t ps => buildK cx.Γ ρA t ps (qk rs c k)
  | .alloc t => allocK cx.Γ rs c t k
  | .makeSlice t x y => makeSliceK cx.Γ rs c t (sameOp x y) (ρA x) k
  | .box _ x => boxK rs c (ρA x) k
  | .extract x j => extractK (ρA x) j (qk rs c k)
  | .nilCheck x => nilCheckK (ρA x) (qk rs c k)
  | .makeFunc f fi ca => makeFuncK ρA f fi ca (qk rs c k)
  | .call ⟨.builtin .len, ⟨[x]⟩, ts⟩ => lenK cx.Γ rs ts[0]? (ρA x) (qk rs c k)
  | .call ⟨.builtin .min, ⟨[x, y]⟩, _⟩ => minK false (ρA x) (ρA y) (qk rs c k)
  | .call ⟨.builtin .max, ⟨[x, y]⟩, _⟩ => minK true (ρA x) (ρA y) (qk rs c k)
  | .call ⟨.builtin .clear, ⟨[x]⟩, ts⟩ => clearK cx.Γ rs c ts (ρA x) k
  | .call ⟨.builtin .append, ⟨[x, y]⟩, ts⟩ => appendShK cx.Γ rs c ts (ρA x) (ρA y) k
  | .call ⟨.value x, args, _⟩ => cond (slvArgs ρA args) (callK cx ρA rs c (ρA x) args (postPlug rs c k)) (callK cx ρA rs c (ρA x) args k)
  | _ => none

theorem loadAllK_ok {α : Type} {P : Program} {cx : Cx} (hcx : CxOk G P cx) {o : Oper} {t : TypeId} {a : Operand} {ρA : Operand → AV} {rs : Rs} {c : Nat} {k : KT α} {r : α} (ho : o.op = .load t a) (h : loadAllK cx t (ρA a) rs c k = some r) :
    ∃ out rs' c' ids mod, k out rs' c' ids mod = some r ∧ LStep G P o ρA rs c out rs' c' ids mod := by
  rcases loadHoleK_ok hcx.ty ho h with h | h
  · exact h
  · exact loadShK_ok hcx.ty ho h
theorem storeAllK_ok {α : Type} {P : Program} {cx : Cx} (hcx : CxOk G P cx) {o : Oper} {t : TypeId} {a x : Operand} {ρA : Operand → AV} {rs : Rs} {c : Nat} {k : KT α} {r : α} (ho : o.op = .store t a x) (h : storeAllK cx t (ρA a) (ρA x) rs c k = some r) :
    ∃ out rs' c' ids mod, k out rs' c' ids mod = some r ∧ LStep G P o ρA rs c out rs' c' ids mod := by
  rcases storeFldK_ok hcx.ty ho h with h | h
  · exact h
  · rcases storeShK_ok hcx.ty ho h with h | h
    · exact h
    · exact storeBoxK_ok hcx.ty ho h

theorem opK_ok {α : Type} {P : Program} {cx : Cx} (hcx : CxOk G P cx) {o : Oper} {op : Op} {ρA : Operand → AV} {rs : Rs} {c : Nat} {k : KT α} {r : α} (ho : o.op = op) (h : opK cx op ρA rs c k = some r) :
    ∃ out rs' c' ids mod, k out rs' c' ids mod = some r ∧ LStep G P o ρA rs c out rs' c' ids mod := by
  unfold opK at h
  split at h
  · exact ⟨_, _, _, _, _, h, Quiet.step (by rw [ho]; exact move_ok)⟩
  · exact assignK_ok ho h
  · exact qk_ok ho (pickK_ok h)
  · rcases matLoadK_ok hcx.ty h with h | h
    · exact qk_ok ho h
    rcases cond_some h with ⟨_, h⟩ | ⟨_, h⟩
    · exact postPlug_ok (loadAllK_ok hcx ho h)
    · exact loadAllK_ok hcx ho h
  · rcases matStoreK_ok hcx.ty ho h with h | h
    · exact h
    rcases cond_some h with ⟨_, h⟩ | ⟨_, h⟩
    · exact postPlug_ok (storeAllK_ok hcx ho h)
    · exact storeAllK_ok hcx ho h
  · rcases eqNilK_ok hcx.ty h with h | h
    · exact qk_ok ho h
    rcases eqK_ok hcx.ty h with h | h
    · exact qk_ok ho h
    · exact qk_ok ho (binop_ok (k := qk rs c k) h)
  · exact qk_ok ho (unK_ok h)
  · rcases toBytesK_ok hcx.ty ho h with h | h
    · exact h
    · rcases bytesK_ok hcx.ty h with h | h
      · exact qk_ok ho h
      · exact qk_ok ho (convK_ok hcx.ty h)
  · rcases matAddrK_ok hcx.ty h with h | h
    · exact qk_ok ho h
    · exact qk_ok ho (indexAddrK_ok hcx.ty h)
  · exact qk_ok ho (fieldAddrK_ok (rs := rs) hcx.ty h)
  · exact qk_ok ho (fieldK_ok hcx.ty h)
  · exact qk_ok ho (indexK_ok hcx.ty h)
  · rcases cond_some h with ⟨_, h⟩ | ⟨_, h⟩
    · rcases slwK_ok hcx.ty ho h with h | h
      · exact h
      rcases cutRowK_ok hcx.ty ho h with h | h
      · exact h
      · exact qk_ok ho (cutK_ok hcx.ty h)
    · rcases cutRowK_ok hcx.ty ho h with h | h
      · exact h
      · exact qk_ok ho (cutK_ok hcx.ty h)
  · exact buildSliceK_ok hcx.ty ho h
  · exact qk_ok ho (buildK_ok hcx.ty h)
  · exact allocK_ok hcx.ty ho h
  · exact makeSliceK_ok hcx.ty ho h
  · exact boxK_ok ho h
  · exact qk_ok ho (extractK_ok h)
  · exact qk_ok ho (nilCheckK_ok h)
  · exact qk_ok ho (makeFuncK_ok h)
  · exact qk_ok ho (lenK_ok hcx.ty h)
  · exact qk_ok ho (minK_ok (mx := false) rfl h)
  · exact qk_ok ho (minK_ok (mx := true) rfl h)
  · exact clearK_ok hcx.ty ho h
  · exact appendShK_ok hcx.ty ho h
  · rcases cond_some h with ⟨_, h⟩ | ⟨_, h⟩
    · exact postPlug_ok (callK_ok hcx ho h)
    · exact callK_ok hcx ho h
  · cases h
end Go.Sx
