/- Part 4 of a library of this repo: what a function of the program does to abstract values, and that this is sound. Holds for every program. -/
import Derived.ChangeArms
import Derived.ChangeOld
import Derived.ChangeSlices
import Derived.Laws.Externs
import Derived.Laws.Sem
import Derived.Lib.AtoiAllCases
import Derived.Lib.Bytealg
import Derived.Lib.Strings
import Derived.SizedLaws
import Derived.Stop.LaidErr
import Derived.Test.YtpchbfkiingmjaaDoorSxC
namespace Go.Sx
open Go
variable {G : Gl}
set_option linter.unusedVariables false
set_option linter.unusedSimpArgs false

/-- what a function's state must be -/
structure SatA (B : Base) (n : Nat) (s : St) (a : Act) (w : World) : Prop where
  sat : SatS B s a.tmps w
  size : a.tmps.size = n
  defers : a.defers = []

def mrg (c c' : Nat) (mod : List Nat) (rsG rs' : Rs) : Rs := fun j => cond ((Nat.ble c j && Nat.blt j c') || memB j mod) (rs' j) (rsG j)

theorem mrg_eq (c c' : Nat) (mod : List Nat) (rsG rs' : Rs) : mrg c c' mod rsG rs' = merge c c' mod rsG rs' := by
  funext j
  unfold mrg merge
  by_cases h : (c ≤ j ∧ j < c') ∨ j ∈ mod
  · rw [if_pos h]
    have : ((Nat.ble c j && Nat.blt j c') || memB j mod) = true := by
      rcases h with ⟨h1, h2⟩ | h
      · simp [Nat.ble_eq.mpr h1, Nat.blt_eq.mpr h2]
      · simp [memB_iff.2 h]
    rw [this]; rfl
  · rw [if_neg h]
    have : ((Nat.ble c j && Nat.blt j c') || memB j mod) = false := by
      rw [Bool.eq_false_iff]
      intro hc
      apply h
      simp only [Bool.or_eq_true, Bool.and_eq_true] at hc
      rcases hc with ⟨h1, h2⟩ | h1
      · exact .inl ⟨Nat.ble_eq.mp h1, Nat.blt_eq.mp h2⟩
      · exact .inr (memB_iff.1 h1)
    rw [this]; rfl

def mrgK {α : Type} (c c' : Nat) (mod : List Nat) (rs rs' : Rs) (k : Rs → Option α) : Option α :=
  match mod with
  | [] => cond (Nat.beq c c') (k rs) (k (mrg c c' [] rs rs'))
  | _ :: _ => cond (mod.all fun j => Nat.blt j c) (k (mrg c c' mod rs rs')) none

theorem mrgK_ok {α : Type} {c c' : Nat} {mod : List Nat} {rs rs' : Rs} {k : Rs → Option α} {r : α} (h : mrgK c c' mod rs rs' k = some r) : k (merge c c' mod rs rs') = some r ∧ ∀ j ∈ mod, j < c := by
  unfold mrgK at h
  split at h
  · rcases cond_some h with ⟨he, h⟩ | ⟨_, h⟩
    · rw [← Nat.eq_of_beq_eq_true he, merge_nil]; exact ⟨h, fun j hj => by cases hj⟩
    · rw [mrg_eq] at h; exact ⟨h, fun j hj => by cases hj⟩
  · obtain ⟨ha, h⟩ := cond_t h
    rw [mrg_eq] at h
    exact ⟨h, fun j hj => Nat.blt_eq.mp (List.all_eq_true.1 ha j hj)⟩

def putK {α : Type} (n : Nat) (e : Nat → AV) (dst : Option Tmp) (out : AV) (k : (Nat → AV) → Option α) : Option α :=
  match dst with
  | none => k e
  | some d => cond (Nat.blt d n) (k (setE e d out)) none

theorem put_env {R : Nat → RV} {F : Nat → Prop} {w : World} {e : Nat → AV} {tmps : Array Value} {d : Nat} {out : AV} {v : Value} (h : EnvR R F w e tmps) (hv : VR R F w out v) (hd : d < tmps.size) : EnvR R F w (setE e d out) (tmps.setIfInBounds d v) := by
  intro t
  by_cases ht : t = d
  · subst ht
    rw [setE_same]
    simpa [Array.getD_eq_getD_getElem?, hd] using hv
  · rw [setE_other _ _ ht]
    have : (tmps.setIfInBounds d v).getD t undef = tmps.getD t undef := by
      simp only [Array.getD_eq_getD_getElem?]
      rw [Array.getElem?_setIfInBounds_ne (Ne.symm ht)]
    rw [this]; exact h t

theorem putK_ok {α : Type} {n : Nat} {B : Base} {e : Nat → AV} {rs : Rs} {c : Nat} {dst : Option Tmp} {out : AV} {k : (Nat → AV) → Option α} {r : α} (h : putK n e dst out k = some r) : ∃ e', k e' = some r ∧
    ∀ (a : Act) (w : World) (v : Value) F R, Sat F R w rs → Since B F R w → EnvR R F w e a.tmps → (∀ j, c ≤ j → (R j).live = false ∧ rs j = .dead) → a.tmps.size = n → a.defers = [] → VR R F w out v → SatA B n ⟨e', rs, c⟩ (a.put dst v) w := by
  unfold putK at h
  split at h
  · exact ⟨e, h, fun a w v F R h1 h2 h3 h4 h5 h6 h7 => ⟨⟨F, R, h1, h2, h3, h4⟩, h5, h6⟩⟩
  · rename_i d
    obtain ⟨hd, h⟩ := cond_t h
    refine ⟨_, h, fun a w v F R h1 h2 h3 h4 h5 h6 h7 => ⟨⟨F, R, h1, h2, put_env h3 h7 (by rw [h5]; exact Nat.blt_eq.mp hd), h4⟩, ?_, h6⟩⟩
    simp [Act.put, h5]

def guardK {α : Type} (ops : Array Oper) (e : Nat → AV) (g : Option (Nat × Bool)) (yes no : (Nat → AV) → Option α) : Option α :=
  match g with
  | none => yes e
  | some (j, want) =>
    (match (ops[j]?).bind (·.dst) with
     | none => no e
     | some d =>
       (match e d with
        | .c (.l (.dat .bool b)) => cond b (cond want (yes (setE e d (dB true))) (no (setE e d (dB true)))) (cond want (no (setE e d (dB false))) (yes (setE e d (dB false))))
        | .tup [] => no e
        | _ => none))

theorem setE_eq {e : Nat → AV} {d : Nat} {v : AV} (h : e d = v) : setE e d v = e := by
  funext i
  by_cases hi : i = d
  · subst hi; rw [setE_same, h]
  · rw [setE_other _ _ hi]

def guardTmp (ops : Array Oper) (o : Oper) : List Nat :=
  match o.guard with | some (g, _) => (match (ops[g]?).bind (·.dst) with | some d => [d] | none => []) | none => []

theorem guardK_ok2 {α : Type} {ops : Array Oper} {e : Nat → AV} {o : Oper} {yes no : (Nat → AV) → Option α} {r : α} (h : guardK ops e o.guard yes no = some r) :
    (yes e = some r ∧ ∀ R F w (tmps : Array Value), (∀ t ∈ guardTmp ops o, VR R F w (e t) (tmps.getD t undef)) → Region.wanted o (yielded ops tmps) = true) ∨
    (no e = some r ∧ ∀ R F w (tmps : Array Value), (∀ t ∈ guardTmp ops o, VR R F w (e t) (tmps.getD t undef)) → Region.wanted o (yielded ops tmps) = false) := by
  unfold guardK at h
  split at h
  · rename_i hg
    exact .inl ⟨h, fun R F w tmps _ => by simp [Region.wanted, hg]⟩
  · rename_i j want hg
    split at h
    · rename_i hd
      exact .inr ⟨h, fun R F w tmps _ => by simp [Region.wanted, hg, yielded, hd]⟩
    · rename_i d hd
      have hgt : d ∈ guardTmp ops o := by unfold guardTmp; rw [hg]; simp only; rw [hd]; simp
      split at h
      · rename_i b he
        have key : ∀ R F w (tmps : Array Value), (∀ t ∈ guardTmp ops o, VR R F w (e t) (tmps.getD t undef)) → Region.wanted o (yielded ops tmps) = (b == want) := by
          intro R F w tmps hv
          have hv := hv d hgt
          rw [he] at hv
          have hb := VR_bool hv
          have hd' : tmps[d]? = some (.bool b) := by
            rw [Array.getD_eq_getD_getElem?] at hb
            cases hq : tmps[d]? with
            | none => rw [hq] at hb; cases hb
            | some u => rw [hq] at hb; simp at hb; rw [hb]
          simp [Region.wanted, hg, yielded, hd, hd']
        have hse : ∀ b', b = b' → setE e d (dB b') = e := fun b' hb => setE_eq (by rw [he, hb])
        cases b <;> cases want <;> simp only [cond] at h <;> rw [hse _ rfl] at h
        · exact .inl ⟨h, fun R F w tmps hv => (key R F w tmps hv).trans rfl⟩
        · exact .inr ⟨h, fun R F w tmps hv => (key R F w tmps hv).trans rfl⟩
        · exact .inr ⟨h, fun R F w tmps hv => (key R F w tmps hv).trans rfl⟩
        · exact .inl ⟨h, fun R F w tmps hv => (key R F w tmps hv).trans rfl⟩
      · rename_i he
        refine .inr ⟨h, fun R F w tmps hv => ?_⟩
        have hv := hv d hgt
        rw [he] at hv
        obtain ⟨vs, hvv, hall⟩ := hv
        cases hall
        have : yielded ops tmps j = none := by
          unfold yielded
          rw [hd]
          simp only [Option.bind_some]
          rw [Array.getD_eq_getD_getElem?] at hvv
          cases hq : tmps[d]? with
          | none => rfl
          | some u => rw [hq] at hvv; simp at hvv; rw [hvv]
        simp [Region.wanted, hg, this]
      · cases h

theorem guardK_ok {α : Type} {ops : Array Oper} {e : Nat → AV} {o : Oper} {yes no : (Nat → AV) → Option α} {r : α} (h : guardK ops e o.guard yes no = some r) :
    (yes e = some r ∧ ∀ R F w (tmps : Array Value), EnvR R F w e tmps → Region.wanted o (yielded ops tmps) = true) ∨ (no e = some r ∧ ∀ R F w (tmps : Array Value), EnvR R F w e tmps → Region.wanted o (yielded ops tmps) = false) := by
  rcases guardK_ok2 h with ⟨h1, h2⟩ | ⟨h1, h2⟩
  · exact .inl ⟨h1, fun R F w tmps he => h2 R F w tmps fun t _ => he t⟩
  · exact .inr ⟨h1, fun R F w tmps he => h2 R F w tmps fun t _ => he t⟩

/-- the operations of a list, one after the other -/
def seqK {α : Type} (cx : Cx) (n : Nat) (ops : Array Oper) : List Nat → (Nat → AV) → Rs → Nat → ((Nat → AV) → Rs → Nat → Option α) → Option α
  | [], e, rs, c, K => K e rs c
  | i :: r, e, rs, c, K =>
    match ops[i]? with
    | none => seqK cx n ops r e rs c K
    | some o =>
      guardK ops e o.guard
        (fun e => opK cx o.op (evA (envN rs e (usedBy o.op))) rs c fun out rs' c' _ mod => mrgK c c' mod rs rs' fun rs2 => putK n e o.dst out fun e' => seqK cx n ops r e' rs2 c' K)
        (fun e => putK n e o.dst (.tup []) fun e' => seqK cx n ops r e' rs c K)

theorem evA_env {R : Nat → RV} {F : Nat → Prop} {w : World} {e : Nat → AV} {a : Act} (h : ∀ t, VR R F w (e t) (a.tmps.getD t undef)) (x : Operand) : VR R F w (evA e x) (a.eval x) := evA_ok (e := e) h x

/-- what is known holds as long as the function runs -/
def GOk (G : Gl) (B : Base) : Prop := ∀ F R w, Since B F R w → G.p F w

theorem seqK_ok {α : Type} {P : Program} {cx : Cx} (hcx : CxOk G P cx) {B : Base} (hgk : GOk G B) {n : Nat} {ops : Array Oper} {K : (Nat → AV) → Rs → Nat → Option α} {r : α} {Q : Exit → Act → World → Prop}
    (hK : ∀ e rs c a w, K e rs c = some r → SatA B n ⟨e, rs, c⟩ a w → Q .normal a w) :
    ∀ (l : List Nat) (e : Nat → AV) (rs : Rs) (c : Nat) (a : Act) (w : World), seqK cx n ops l e rs c K = some r → SatA B n ⟨e, rs, c⟩ a w → wpOps P ops Q l a w
  | [], e, rs, c, a, w, h, hs => hK e rs c a w h hs
  | i :: l, e, rs, c, a, w, h, hs => by
    unfold seqK at h
    unfold wpOps
    cases ho : ops[i]? with
    | none =>
      rw [ho] at h
      exact seqK_ok hcx hgk hK l e rs c a w h hs
    | some o =>
      rw [ho] at h
      simp only at h ⊢
      obtain ⟨⟨F, R, h1, h2, h3, h4⟩, hsz, hdf⟩ := hs
      rcases guardK_ok h with ⟨h, hw⟩ | ⟨h, hw⟩
      · rw [if_pos (hw R F w a.tmps h3)]
        refine .inl ?_
        obtain ⟨out, rs', c', ids, mod, hk, hcc, hst⟩ := opK_ok hcx (o := o) rfl h
        obtain ⟨hk, hml⟩ := mrgK_ok hk
        obtain ⟨e', hk, hput⟩ := putK_ok (B := B) (rs := merge c c' mod rs rs') (c := c') hk
        have hn := envN_ok (rs := rs) (us := usedBy o.op) (fun j _ => h1.ok j) (fun t _ => h3 t)
        have hd := hst rs F R w a.eval (fun _ _ => rfl) (fun j hj _ => h4 j hj) h1 ⟨fun x => evA_env hn x, fun _ => rfl, hgk F R w h2⟩
        refine hd.wp fun v w' hv => ?_
        obtain ⟨F', R', hg, hs', hout⟩ := hv
        refine seqK_ok hcx hgk hK l e' _ c' _ _ hk (hput a w' v F' R' hs' (h2.goes hg) (h3.goes hg (hg.agree h1)) (fun j hj => ?_) hsz hdf hout)
        have hj : c' ≤ j := hj
        have hnn : ¬ (c ≤ j ∧ j < c') := by omega
        have hjm : c ≤ j := by omega
        refine ⟨(hg.hdr j hnn).1.trans (h4 j hjm).1, ?_⟩
        -- a number that is not taken is not in there
        have hdead := (h4 j hjm).2
        by_cases hm : j ∈ mod
        · have := hml j hm; omega
        · rw [merge_off (by rintro (h | h); exact hnn h; exact hm h)]; exact hdead
      · rw [if_neg (by rw [hw R F w a.tmps h3]; simp)]
        obtain ⟨e', hk, hput⟩ := putK_ok (B := B) (rs := rs) (c := c) h
        exact seqK_ok hcx hgk hK l e' rs c _ _ hk (hput a w undef F R h1 h2 h3 h4 hsz hdf ⟨[], rfl, .nil⟩)
end Go.Sx

namespace Go.Sx
open Go
variable {G : Gl}
set_option linter.unusedVariables false
set_option linter.unusedSimpArgs false

/-- what an operation did, in the order of the text -/
structure Rec where
  o : Oper
  w : Bool
  out : AV
  rs' : Rs
  c : Nat
  c' : Nat
  ids : List Nat
  mod : List Nat

def Rec.touch (r : Rec) (j : Nat) : Bool := r.w && ((Nat.ble r.c j && Nat.blt j r.c') || memB j r.mod)
def Rec.envU (r : Rec) (t : Nat) : Option AV := match r.o.dst with | some d => cond (Nat.beq t d) (some r.out) none | none => none
def Rec.rootU (r : Rec) (j : Nat) : Option Root := cond (r.touch j) (some (r.rs' j)) none

def looks (ops : Array Oper) (o : Oper) : List Nat := usedBy o.op ++ guardTmp ops o

/-! ### Which operations are ahead of which -/
def maskOf (acc : List Nat) (o : Oper) : Nat :=
  o.after.toList.foldl (fun m e => cond (Region.binds .any e) (Nat.lor (Nat.lor m (Nat.pow 2 e.on)) (acc.getD e.on 0)) m) 0

def masks : List Oper → List Nat → List Nat
  | [], acc => acc
  | o :: r, acc => masks r (acc ++ [maskOf acc o])

def backB : List Oper → Nat → Bool
  | [], _ => true
  | o :: r, i => (o.after.toList.all fun e => !(Region.binds .any e) || Nat.blt e.on i) && backB r (i + 1)

def offB (d : Option Nat) (l : List Nat) : Bool := match d with | some t => !(memB t l) | none => true

def pairB (ops : Array Oper) (a b : Rec) : Bool :=
  offB a.o.dst (looks ops b.o) && offB b.o.dst (looks ops a.o) && offB a.o.dst b.o.dst.toList &&
  (b.ids.all fun j => !a.touch j) && (a.ids.all fun j => !b.touch j) && (b.mod.all fun j => !a.touch j) && (a.mod.all fun j => !b.touch j) &&
  (Nat.ble a.c' b.c || Nat.ble b.c' a.c || !(a.w && b.w))

def rowB (ops : Array Oper) (b : Rec) (mask : Nat) : List Rec → Nat → Bool
  | [], _ => true
  | a :: r, i => (Nat.testBit mask i || pairB ops a b) && rowB ops b mask r (i + 1)

def allB (ops : Array Oper) (ms : List Nat) (all : List Rec) : List Rec → Nat → Bool
  | [], _ => true
  | b :: r, j => rowB ops b (ms.getD j 0) (all.take j) 0 && allB ops ms all r (j + 1)

def drawB (ops : Array Oper) (recs : List Rec) : Bool := backB ops.toList 0 && allB ops (masks ops.toList []) recs recs 0

/-- the operations one after the other, and then: would any order have done the same -/
def drawK {α : Type} (cx : Cx) (n : Nat) (ops : Array Oper) : List Oper → (Nat → AV) → Rs → Nat → List Rec → ((Nat → AV) → Rs → Nat → Option α) → Option α
  | [], e, rs, c, recs, K => cond (drawB ops recs) (K e rs c) none
  | o :: r, e, rs, c, recs, K =>
    guardK ops e o.guard
      (fun e => opK cx o.op (evA (envN rs e (usedBy o.op))) rs c fun out rs' c' ids mod => mrgK c c' mod rs rs' fun rs2 => putK n e o.dst out fun e' =>
        drawK cx n ops r e' rs2 c' (recs ++ [⟨o, true, out, rs', c, c', ids ++ (usedBy o.op).flatMap (fun u => idA rs (e u)), mod⟩]) K)
      (fun e => putK n e o.dst (.tup []) fun e' => drawK cx n ops r e' rs c (recs ++ [⟨o, false, .tup [], rs, c, c, [], []⟩]) K)

/-! ### The last that was written -/
def lst {β : Type} : List (Option β) → (Nat → Bool) → Nat → β → β
  | [], _, _, b => b
  | o :: r, E, i, b => lst r E (i + 1) (cond (E i) (o.getD b) b)

theorem lst_congr {β : Type} : ∀ {l : List (Option β)} {E E' : Nat → Bool} {i : Nat} {b : β}, (∀ k y, l[k]? = some (some y) → E (i + k) = E' (i + k)) → lst l E i b = lst l E' i b
  | [], _, _, _, _, _ => rfl
  | o :: r, E, E', i, b, h => by
    have h0 : cond (E i) (o.getD b) b = cond (E' i) (o.getD b) b := by
      cases o with
      | none => cases E i <;> cases E' i <;> rfl
      | some y => rw [show E i = E' i from h 0 y rfl]
    unfold lst
    rw [h0]
    exact lst_congr fun k y hk => by have := h (k + 1) y (by simpa using hk); rwa [show i + (k + 1) = i + 1 + k by omega] at this

theorem lst_last {β : Type} : ∀ {l : List (Option β)} {E : Nat → Bool} {i j : Nat} {b y : β}, l[j]? = some (some y) → E (i + j) = true → (∀ k z, j < k → l[k]? = some (some z) → E (i + k) = false) → lst l E i b = y
  | [], _, _, _, _, _, h, _, _ => by simp at h
  | o :: r, E, i, 0, b, y, h, hE, hk => by
    simp at h; subst h
    unfold lst
    rw [show E i = true from hE]
    have : ∀ {l : List (Option β)} {E : Nat → Bool} {i : Nat} {b : β}, (∀ k z, l[k]? = some (some z) → E (i + k) = false) → lst l E i b = b := by
      intro l
      induction l with
      | nil => intro E i b _; rfl
      | cons o l ih =>
        intro E i b h
        unfold lst
        rw [ih fun k z hz => by have := h (k + 1) z (by simpa using hz); rwa [show i + (k + 1) = i + 1 + k by omega] at this]
        cases o with
        | none => cases E i <;> rfl
        | some z => rw [show E i = false from h 0 z rfl]; rfl
    exact this fun k z hz => by have := hk (k + 1) z (by omega) (by simpa using hz); rwa [show i + (k + 1) = i + 1 + k by omega] at this
  | o :: r, E, i, j + 1, b, y, h, hE, hk => by
    unfold lst
    exact lst_last (j := j) (by simpa using h) (by rwa [show i + (j + 1) = i + 1 + j by omega] at hE) fun k z hlt hz => by
      have := hk (k + 1) z (by omega) (by simpa using hz); rwa [show i + (k + 1) = i + 1 + k by omega] at this

theorem lst_append {β : Type} : ∀ {l l' : List (Option β)} {E : Nat → Bool} {i : Nat} {b : β}, lst (l ++ l') E i b = lst l' E (i + l.length) (lst l E i b)
  | [], _, _, _, _ => rfl
  | o :: l, l', E, i, b => by
    show lst (l ++ l') E (i + 1) _ = lst l' E _ (lst l E (i + 1) _)
    rw [lst_append]
    congr 1
    simp; omega

/-- the environment and the roots, when the operations in E were done -/
def envE (recs : List Rec) (E : Nat → Bool) (e0 : Nat → AV) : Nat → AV := fun t => lst (recs.map fun r => r.envU t) E 0 (e0 t)
def rootE (recs : List Rec) (E : Nat → Bool) (rs0 : Rs) : Rs := fun j => lst (recs.map fun r => r.rootU j) E 0 (rs0 j)

def below (j : Nat) : Nat → Bool := fun k => Nat.blt k j

def tt : Nat → Bool := fun _ => true

/-- the trace of a run in the order of the text -/
structure Tr (G : Gl) (P : Program) (n : Nat) (ops : Array Oper) (e0 : Nat → AV) (rs0 : Rs) (c0 : Nat) (recs : List Rec) : Prop where
  dst : ∀ (j : Nat) (r : Rec) (d : Nat), recs[j]? = some r → r.o.dst = some d → d < n
  step : ∀ (j : Nat) (r : Rec), recs[j]? = some r → r.w = true → LStep G P r.o (evA (envN (rootE recs (below j) rs0) (envE recs (below j) e0) (usedBy r.o.op))) (rootE recs (below j) rs0) r.c r.out r.rs' r.c' r.ids r.mod
  ids : ∀ (j : Nat) (r : Rec), recs[j]? = some r → r.w = true → ∀ i ∈ (usedBy r.o.op).flatMap (fun u => idA (rootE recs (below j) rs0) (envE recs (below j) e0 u)), i ∈ r.ids
  wanted : ∀ (j : Nat) (r : Rec), recs[j]? = some r → ∀ R F w (tmps : Array Value), (∀ t ∈ guardTmp ops r.o, VR R F w (envE recs (below j) e0 t) (tmps.getD t undef)) → Region.wanted r.o (yielded ops tmps) = r.w
  off : ∀ (j : Nat) (r : Rec), recs[j]? = some r → r.w = false → r.out = .tup []
  mod : ∀ (j : Nat) (r : Rec), recs[j]? = some r → ∀ i ∈ r.mod, i < r.c
  cc : ∀ (j : Nat) (r : Rec), recs[j]? = some r → r.c ≤ r.c'
  c0 : ∀ (j : Nat) (r : Rec), recs[j]? = some r → c0 ≤ r.c
  mono : ∀ (i j : Nat) (a b : Rec), i < j → recs[i]? = some a → recs[j]? = some b → a.c' ≤ b.c

theorem lst_below {β : Type} {l l' : List (Option β)} {j : Nat} {b : β} (h : j ≤ l.length) : lst (l ++ l') (below j) 0 b = lst l (below j) 0 b := by
  rw [lst_append]
  have : ∀ {l : List (Option β)} {E : Nat → Bool} {i : Nat} {b : β}, (∀ k, E (i + k) = false) → lst l E i b = b := by
    intro l
    induction l with
    | nil => intro E i b _; rfl
    | cons o l ih =>
      intro E i b h
      unfold lst
      rw [ih fun k => by have := h (k + 1); rwa [show i + (k + 1) = i + 1 + k by omega] at this, show E i = false from h 0]; rfl
  refine this fun k => ?_
  unfold below
  rw [Bool.eq_false_iff]
  intro hb
  have := Nat.blt_eq.mp hb
  omega

theorem lst_all {β : Type} {l : List (Option β)} {b : β} : lst l (below l.length) 0 b = lst l tt 0 b := by
  refine lst_congr fun k y hk => ?_
  have := (List.getElem?_eq_some_iff.1 hk).1
  unfold below tt
  rw [Nat.zero_add]
  exact Nat.blt_eq.mpr this

theorem envE_below {recs post : List Rec} {j : Nat} {e0 : Nat → AV} (h : j ≤ recs.length) : envE (recs ++ post) (below j) e0 = envE recs (below j) e0 := by
  funext t; unfold envE; rw [List.map_append]; exact lst_below (by simpa using h)
theorem rootE_below {recs post : List Rec} {j : Nat} {rs0 : Rs} (h : j ≤ recs.length) : rootE (recs ++ post) (below j) rs0 = rootE recs (below j) rs0 := by
  funext t; unfold rootE; rw [List.map_append]; exact lst_below (by simpa using h)
theorem envE_all {recs : List Rec} {e0 : Nat → AV} : envE recs (below recs.length) e0 = envE recs tt e0 := by
  funext t; unfold envE; have := lst_all (l := recs.map fun r => r.envU t) (b := e0 t); simpa using this
theorem rootE_all {recs : List Rec} {rs0 : Rs} : rootE recs (below recs.length) rs0 = rootE recs tt rs0 := by
  funext t; unfold rootE; have := lst_all (l := recs.map fun r => r.rootU t) (b := rs0 t); simpa using this

theorem envE_snoc {recs : List Rec} {r : Rec} {e0 : Nat → AV} : envE (recs ++ [r]) tt e0 = fun t => (r.envU t).getD (envE recs tt e0 t) := by
  funext t; unfold envE; rw [List.map_append, lst_append]; rfl
theorem rootE_snoc {recs : List Rec} {r : Rec} {rs0 : Rs} : rootE (recs ++ [r]) tt rs0 = fun t => (r.rootU t).getD (rootE recs tt rs0 t) := by
  funext t; unfold rootE; rw [List.map_append, lst_append]; rfl

theorem touch_iff {r : Rec} {j : Nat} : r.touch j = true ↔ r.w = true ∧ ((r.c ≤ j ∧ j < r.c') ∨ j ∈ r.mod) := by
  unfold Rec.touch
  simp only [Bool.and_eq_true, Bool.or_eq_true]
  constructor
  · rintro ⟨h, ⟨h1, h2⟩ | h1⟩
    · exact ⟨h, .inl ⟨Nat.ble_eq.mp h1, Nat.blt_eq.mp h2⟩⟩
    · exact ⟨h, .inr (memB_iff.1 h1)⟩
  · rintro ⟨h, ⟨h1, h2⟩ | h1⟩
    · exact ⟨h, .inl ⟨Nat.ble_eq.mpr h1, Nat.blt_eq.mpr h2⟩⟩
    · exact ⟨h, .inr (memB_iff.2 h1)⟩

theorem rootU_merge {r : Rec} {rs : Rs} (hw : r.w = true) : (fun t => (r.rootU t).getD (rs t)) = merge r.c r.c' r.mod rs r.rs' := by
  funext t
  unfold Rec.rootU
  cases ht : r.touch t with
  | true => rw [merge_at (touch_iff.1 ht).2]; rfl
  | false => rw [merge_off fun h => by rw [touch_iff.2 ⟨hw, h⟩] at ht; cases ht]; rfl

theorem rootU_off {r : Rec} {rs : Rs} (hw : r.w = false) : (fun t => (r.rootU t).getD (rs t)) = rs := by
  funext t
  unfold Rec.rootU Rec.touch
  rw [hw]; rfl

theorem envU_put {r : Rec} {e : Nat → AV} {d : Nat} (hd : r.o.dst = some d) : (fun t => (r.envU t).getD (e t)) = setE e d r.out := by
  funext t
  unfold Rec.envU setE
  rw [hd]
  simp only
  cases Nat.beq t d <;> rfl
theorem envU_none {r : Rec} {e : Nat → AV} (hd : r.o.dst = none) : (fun t => (r.envU t).getD (e t)) = e := by
  funext t
  unfold Rec.envU
  rw [hd]; rfl

/-- one more -/
theorem Tr.snoc {P : Program} {n : Nat} {ops : Array Oper} {e0 : Nat → AV} {rs0 : Rs} {c0 : Nat} {recs : List Rec} {r : Rec} (h : Tr G P n ops e0 rs0 c0 recs)
    (hdst : ∀ d, r.o.dst = some d → d < n)
    (hstep : r.w = true → LStep G P r.o (evA (envN (rootE recs tt rs0) (envE recs tt e0) (usedBy r.o.op))) (rootE recs tt rs0) r.c r.out r.rs' r.c' r.ids r.mod)
    (hids : r.w = true → ∀ i ∈ (usedBy r.o.op).flatMap (fun u => idA (rootE recs tt rs0) (envE recs tt e0 u)), i ∈ r.ids)
    (hwanted : ∀ R F w (tmps : Array Value), (∀ t ∈ guardTmp ops r.o, VR R F w (envE recs tt e0 t) (tmps.getD t undef)) → Region.wanted r.o (yielded ops tmps) = r.w)
    (hoff : r.w = false → r.out = .tup []) (hmod : ∀ i ∈ r.mod, i < r.c) (hcc : r.c ≤ r.c') (hc0 : c0 ≤ r.c) (hmono : ∀ (q : Rec), q ∈ recs → q.c' ≤ r.c) : Tr G P n ops e0 rs0 c0 (recs ++ [r]) := by
  have split : ∀ (j : Nat) (q : Rec), (recs ++ [r])[j]? = some q → (recs[j]? = some q ∧ j ≤ recs.length) ∨ (j = recs.length ∧ q = r) := by
    intro j q hq
    by_cases hj : j < recs.length
    · rw [List.getElem?_append_left hj] at hq; exact .inl ⟨hq, Nat.le_of_lt hj⟩
    · rw [List.getElem?_append_right (by omega)] at hq
      have hlt := (List.getElem?_eq_some_iff.1 hq).1
      simp at hlt
      have : j - recs.length = 0 := by omega
      rw [this] at hq
      simp at hq
      exact .inr ⟨by omega, hq.symm⟩
  refine ⟨fun j q d hq hd => ?_, fun j q hq hw => ?_, fun j q hq hw => ?_, fun j q hq => ?_, fun j q hq hw => ?_, fun j q hq => ?_, fun j q hq => ?_, fun j q hq => ?_, fun i j a b hij ha hb => ?_⟩
  case refine_9 =>
    rcases split j b hb with ⟨h1, hj⟩ | ⟨rfl, rfl⟩
    · rw [List.getElem?_append_left (by omega)] at ha
      exact h.mono i j a b hij ha h1
    · rw [List.getElem?_append_left (by omega)] at ha
      exact hmono a (List.mem_of_getElem? ha)
  all_goals rcases split j q hq with ⟨h1, hj⟩ | ⟨rfl, rfl⟩
  · exact h.dst j q d h1 hd
  · exact hdst d hd
  · rw [envE_below hj, rootE_below hj]; exact h.step j q h1 hw
  · rw [envE_below (Nat.le_refl _), rootE_below (Nat.le_refl _), envE_all, rootE_all]; exact hstep hw
  · rw [envE_below hj, rootE_below hj]; exact h.ids j q h1 hw
  · rw [envE_below (Nat.le_refl _), rootE_below (Nat.le_refl _), envE_all, rootE_all]; exact hids hw
  · rw [envE_below hj]; exact h.wanted j q h1
  · rw [envE_below (Nat.le_refl _), envE_all]; exact hwanted
  · exact h.off j q h1 hw
  · exact hoff hw
  · exact h.mod j q h1
  · exact hmod
  · exact h.cc j q h1
  · exact hcc
  · exact h.c0 j q h1
  · exact hc0

theorem drawK_tr {α : Type} {P : Program} {cx : Cx} (hcx : CxOk G P cx) {n : Nat} {ops : Array Oper} {e0 : Nat → AV} {rs0 : Rs} {c0 : Nat} {K : (Nat → AV) → Rs → Nat → Option α} {x : α} :
    ∀ (l : List Oper) (recs : List Rec) (e : Nat → AV) (rs : Rs) (c : Nat), drawK cx n ops l e rs c recs K = some x → Tr G P n ops e0 rs0 c0 recs → e = envE recs tt e0 → rs = rootE recs tt rs0 → c0 ≤ c → (∀ (r : Rec), r ∈ recs → r.c' ≤ c) →
      ∃ recs' c', Tr G P n ops e0 rs0 c0 recs' ∧ drawB ops recs' = true ∧ recs'.map Rec.o = recs.map Rec.o ++ l ∧ K (envE recs' tt e0) (rootE recs' tt rs0) c' = some x ∧ c0 ≤ c' ∧ ∀ (r : Rec), r ∈ recs' → r.c' ≤ c'
  | [], recs, e, rs, c, h, ht, he, hr, hc, hm => by
    unfold drawK at h
    obtain ⟨hb, h⟩ := cond_t h
    exact ⟨recs, c, ht, hb, by simp, by rw [← he, ← hr]; exact h, hc, hm⟩
  | o :: l, recs, e, rs, c, h, ht, he, hr, hc, hm => by
    unfold drawK at h
    rcases guardK_ok2 h with ⟨h, hw⟩ | ⟨h, hw⟩
    · obtain ⟨out, rs', c', ids, mod, hk, hstep⟩ := opK_ok hcx (o := o) rfl h
      obtain ⟨hk, hml⟩ := mrgK_ok hk
      have hcc := hstep.1
      let r : Rec := ⟨o, true, out, rs', c, c', ids ++ (usedBy o.op).flatMap (fun u => idA rs (e u)), mod⟩
      have hst : LStep G P r.o (evA (envN (rootE recs tt rs0) (envE recs tt e0) (usedBy r.o.op))) (rootE recs tt rs0) r.c r.out r.rs' r.c' r.ids r.mod := by
        rw [← he, ← hr]
        exact ⟨hstep.1, fun rsG F R w ρ hids hnew hs hρ => hstep.2 rsG F R w ρ (fun j hj => hids j (List.mem_append_left _ hj)) hnew hs hρ⟩
      have hput : ∃ e', drawK cx n ops l e' (merge c c' mod rs rs') c' (recs ++ [r]) K = some x ∧ (∀ d, o.dst = some d → d < n) ∧ e' = envE (recs ++ [r]) tt e0 := by
        unfold putK at hk
        split at hk
        · rename_i hd
          exact ⟨e, hk, fun d h => by (rw [hd] at h; cases h), by rw [envE_snoc, ← he]; exact (envU_none (r := r) hd).symm⟩
        · rename_i d hd
          obtain ⟨hdn, hk⟩ := cond_t hk
          exact ⟨_, hk, fun d' h => by (rw [hd] at h; injection h with h; subst h; exact Nat.blt_eq.mp hdn), by rw [envE_snoc, ← he]; exact (envU_put (r := r) hd).symm⟩
      obtain ⟨e', hk, hdn, he'⟩ := hput
      have := drawK_tr hcx l (recs ++ [r]) e' _ c' hk
        (ht.snoc hdn (fun _ => hst) (fun _ i hi => List.mem_append_right _ (by rw [he, hr]; exact hi)) (fun R F w tmps hv => hw R F w tmps (by rw [he]; exact hv)) (fun h => by cases h) hml hcc hc hm)
        he' (by rw [rootE_snoc, ← hr]; exact (rootU_merge (r := r) rfl).symm) (Nat.le_trans hc hcc) (fun q hq => by
          rcases List.mem_append.1 hq with h1 | h1
          · exact Nat.le_trans (hm q h1) hcc
          · simp at h1; subst h1; exact Nat.le_refl _)
      obtain ⟨recs', c2, k1, k2, k3, k4, k5, k6⟩ := this
      exact ⟨recs', c2, k1, k2, by rw [k3, List.map_append, List.append_assoc]; rfl, k4, k5, k6⟩
    · let r : Rec := ⟨o, false, .tup [], rs, c, c, [], []⟩
      have hput : ∃ e', drawK cx n ops l e' rs c (recs ++ [r]) K = some x ∧ (∀ d, o.dst = some d → d < n) ∧ e' = envE (recs ++ [r]) tt e0 := by
        unfold putK at h
        split at h
        · rename_i hd
          exact ⟨e, h, fun d h => by (rw [hd] at h; cases h), by rw [envE_snoc, ← he]; exact (envU_none (r := r) hd).symm⟩
        · rename_i d hd
          obtain ⟨hdn, hk⟩ := cond_t h
          exact ⟨_, hk, fun d' h => by (rw [hd] at h; injection h with h; subst h; exact Nat.blt_eq.mp hdn), by rw [envE_snoc, ← he]; exact (envU_put (r := r) hd).symm⟩
      obtain ⟨e', hk, hdn, he'⟩ := hput
      have := drawK_tr hcx l (recs ++ [r]) e' _ c hk
        (ht.snoc hdn (fun h => by cases h) (fun h => by cases h) (fun R F w tmps hv => hw R F w tmps (by rw [he]; exact hv)) (fun _ => rfl) (fun i hi => by cases hi) (Nat.le_refl _) hc hm)
        he' (by rw [rootE_snoc, ← hr]; exact (rootU_off (r := r) rfl).symm) hc (fun q hq => by
          rcases List.mem_append.1 hq with h1 | h1
          · exact hm q h1
          · simp at h1; subst h1; exact Nat.le_refl _)
      obtain ⟨recs', c2, k1, k2, k3, k4, k5, k6⟩ := this
      exact ⟨recs', c2, k1, k2, by rw [k3, List.map_append, List.append_assoc]; rfl, k4, k5, k6⟩
end Go.Sx

namespace Go.Sx
open Go
set_option linter.unusedVariables false
set_option linter.unusedSimpArgs false

/-! ### Masks -/
theorem foldl_mask {acc : List Nat} : ∀ (l : List Edge) (m i : Nat), (l.foldl (fun m e => cond (Region.binds .any e) (Nat.lor (Nat.lor m (Nat.pow 2 e.on)) (acc.getD e.on 0)) m) m).testBit i = true →
    m.testBit i = true ∨ ∃ e ∈ l, Region.binds .any e = true ∧ (e.on = i ∨ (acc.getD e.on 0).testBit i = true)
  | [], m, i, h => .inl h
  | e :: l, m, i, h => by
    simp only [List.foldl_cons] at h
    rcases foldl_mask l _ i h with h1 | ⟨e', h1, h2⟩
    · cases hb : Region.binds .any e with
      | false => rw [hb] at h1; exact .inl h1
      | true =>
        rw [hb] at h1
        have h1 : ((m ||| 2 ^ e.on) ||| (acc.getD e.on 0)).testBit i = true := h1
        rw [Nat.testBit_or, Nat.testBit_or, Bool.or_eq_true, Bool.or_eq_true, Nat.testBit_two_pow] at h1
        rcases h1 with (h1 | h1) | h1
        · exact .inl h1
        · exact .inr ⟨e, by simp, hb, .inl (by simpa using h1)⟩
        · exact .inr ⟨e, by simp, hb, .inr h1⟩
    · exact .inr ⟨e', by simp [h1], h2⟩

theorem masks_pre : ∀ (l : List Oper) (acc : List Nat), ∃ r, masks l acc = acc ++ r
  | [], acc => ⟨[], by simp [masks]⟩
  | o :: l, acc => by
    obtain ⟨r, hr⟩ := masks_pre l (acc ++ [maskOf acc o])
    exact ⟨maskOf acc o :: r, by simp [masks, hr]⟩

theorem masks_at : ∀ (l : List Oper) (acc : List Nat) (k : Nat) (o : Oper), l[k]? = some o → (masks l acc).getD (acc.length + k) 0 = maskOf ((masks l acc).take (acc.length + k)) o
  | [], acc, k, o, h => by simp at h
  | o' :: l, acc, 0, o, h => by
    simp at h; subst h
    obtain ⟨r, hr⟩ := masks_pre l (acc ++ [maskOf acc o'])
    simp [masks, hr]
  | o' :: l, acc, k + 1, o, h => by
    have := masks_at l (acc ++ [maskOf acc o']) k o (by simpa using h)
    unfold masks
    rw [List.length_append] at this
    simpa [Nat.add_assoc, Nat.add_comm 1 k] using this

/-- the operations of an order's beginning: with each all that are ahead of it -/
def Down (ops : Array Oper) (E : Nat → Bool) : Prop := ∀ j o, ops[j]? = some o → E j = true → ∀ e ∈ o.after, Region.binds .any e = true → E e.on = true

theorem backB_ok : ∀ {l : List Oper} {i : Nat}, backB l i = true → ∀ k o, l[k]? = some o → ∀ e ∈ o.after, Region.binds .any e = true → e.on < i + k
  | [], i, h, k, o, hk => by simp at hk
  | o' :: l, i, h, 0, o, hk => by
    simp at hk; subst hk
    simp only [backB, Bool.and_eq_true, List.all_eq_true] at h
    intro e he hb
    have := h.1 e (by simpa using he)
    rw [hb] at this
    simpa [Nat.blt_eq] using this
  | o' :: l, i, h, k + 1, o, hk => by
    simp only [backB, Bool.and_eq_true] at h
    intro e he hb
    have := backB_ok h.2 k o (by simpa using hk) e he hb
    omega

theorem mask_down {ops : Array Oper} {E : Nat → Bool} (hback : backB ops.toList 0 = true) (hd : Down ops E) : ∀ (j i : Nat) (o : Oper), ops[j]? = some o → (∀ e ∈ o.after, Region.binds .any e = true → E e.on = true) →
    ((masks ops.toList []).getD j 0).testBit i = true → E i = true := by
  intro j
  induction j using Nat.strongRecOn with
  | _ j ih =>
    intro i o ho hpre ht
    have hol : ops.toList[j]? = some o := by simpa using ho
    have := masks_at ops.toList [] j o hol
    simp only [List.length_nil, Nat.zero_add] at this
    rw [this] at ht
    rcases foldl_mask _ _ _ ht with h1 | ⟨e, he, hb, h1⟩
    · simp at h1
    · have he' : e ∈ o.after := by simpa using he
      have hlt := backB_ok hback j o hol e he' hb
      rw [Nat.zero_add] at hlt
      have hE := hpre e he' hb
      rcases h1 with h1 | h1
      · rw [← h1]; exact hE
      · have hin : e.on < ops.size := Nat.lt_trans hlt (Array.getElem?_eq_some_iff.1 ho).1
        have h2 : ((masks ops.toList []).take j).getD e.on 0 = (masks ops.toList []).getD e.on 0 := by
          simp only [List.getD_eq_getElem?_getD, List.getElem?_take, hlt, if_true]
        rw [h2] at h1
        exact ih e.on hlt i _ (Array.getElem?_eq_getElem hin) (hd e.on _ (Array.getElem?_eq_getElem hin) hE) h1

/-! ### Pairs -/
theorem rowB_ok {ops : Array Oper} {b : Rec} {mask : Nat} : ∀ {l : List Rec} {i : Nat}, rowB ops b mask l i = true → ∀ k a, l[k]? = some a → mask.testBit (i + k) = true ∨ pairB ops a b = true
  | [], i, h, k, a, hk => by simp at hk
  | a' :: l, i, h, 0, a, hk => by
    simp at hk; subst hk
    simp only [rowB, Bool.and_eq_true, Bool.or_eq_true] at h
    exact h.1
  | a' :: l, i, h, k + 1, a, hk => by
    simp only [rowB, Bool.and_eq_true] at h
    have := rowB_ok h.2 k a (by simpa using hk)
    rwa [show i + 1 + k = i + (k + 1) by omega] at this

theorem allB_ok {ops : Array Oper} {ms : List Nat} {all : List Rec} : ∀ {l : List Rec} {j : Nat}, allB ops ms all l j = true → ∀ k b, l[k]? = some b → rowB ops b (ms.getD (j + k) 0) (all.take (j + k)) 0 = true
  | [], j, h, k, b, hk => by simp at hk
  | b' :: l, j, h, 0, b, hk => by
    simp at hk; subst hk
    simp only [allB, Bool.and_eq_true] at h
    exact h.1
  | b' :: l, j, h, k + 1, b, hk => by
    simp only [allB, Bool.and_eq_true] at h
    have := allB_ok h.2 k b (by simpa using hk)
    rwa [show j + 1 + k = j + (k + 1) by omega] at this

/-- what two that may come in either order don't do to each other -/
structure Apart (ops : Array Oper) (a b : Rec) : Prop where
  d1 : ∀ t, a.o.dst = some t → t ∉ looks ops b.o
  d2 : ∀ t, b.o.dst = some t → t ∉ looks ops a.o
  d3 : ∀ t, a.o.dst = some t → b.o.dst ≠ some t
  i1 : ∀ j ∈ b.ids, a.touch j = false
  i2 : ∀ j ∈ a.ids, b.touch j = false
  m : ∀ j, a.touch j = true → b.touch j = false

theorem pairB_ok {ops : Array Oper} {a b : Rec} (h : pairB ops a b = true) : Apart ops a b := by
  simp only [pairB, Bool.and_eq_true, List.all_eq_true, Bool.not_eq_true', Bool.or_eq_true] at h
  obtain ⟨⟨⟨⟨⟨⟨⟨h1, h2⟩, h3⟩, h4⟩, h5⟩, h6⟩, h7⟩, h8⟩ := h
  have off : ∀ {d : Option Nat} {l : List Nat}, offB d l = true → ∀ t, d = some t → t ∉ l := by
    intro d l h t ht hm
    rw [ht] at h
    simp [offB, memB_iff.2 hm] at h
  refine ⟨off h1, off h2, fun t ht hb => off h3 t ht (by rw [hb]; simp), h4, h5, fun j hj => ?_⟩
  rw [Bool.eq_false_iff]
  intro hbj
  obtain ⟨wa, ta⟩ := touch_iff.1 hj
  obtain ⟨wb, tb⟩ := touch_iff.1 hbj
  rcases ta with ta | ta
  · rcases tb with tb | tb
    · rcases h8 with (h8 | h8) | h8
      · have := Nat.ble_eq.mp h8; omega
      · have := Nat.ble_eq.mp h8; omega
      · rw [wa, wb] at h8; cases h8
    · have := h6 j tb; rw [hj] at this; cases this
  · have := h7 j ta; rw [hbj] at this; cases this

theorem Apart.symm {ops : Array Oper} {a b : Rec} (h : Apart ops a b) : Apart ops b a :=
  ⟨h.d2, h.d1, fun t hb ha => h.d3 t ha hb, h.i2, h.i1, fun j hb => by
    cases ha : a.touch j with
    | false => rfl
    | true => rw [h.m j ha] at hb; cases hb⟩
end Go.Sx

namespace Go.Sx
open Go
variable {G : Gl}
set_option linter.unusedVariables false
set_option linter.unusedSimpArgs false

/-- how many are left -/
def cntF : List Bool → Nat
  | [] => 0
  | b :: r => cond b 0 1 + cntF r

theorem cntF_set : ∀ {l : List Bool} {j : Nat}, l[j]? = some false → cntF (l.set j true) + 1 = cntF l
  | [], j, h => by simp at h
  | b :: r, 0, h => by simp at h; subst h; simp [cntF]; omega
  | b :: r, j + 1, h => by
    have := cntF_set (l := r) (j := j) (by simpa using h)
    simp only [List.set_cons_succ, cntF]; omega

theorem cntF_zero : ∀ {l : List Bool} {j : Nat}, cntF l = 0 → j < l.length → l[j]? = some true
  | [], j, _, h => by simp at h
  | b :: r, 0, h, _ => by cases b <;> simp [cntF] at h ⊢
  | b :: r, j + 1, h, hj => by
    simp only [cntF] at h
    simpa using cntF_zero (l := r) (j := j) (by omega) (by simpa using hj)

theorem cntF_rep (n : Nat) : cntF (List.replicate n false) = n := by
  induction n with
  | zero => rfl
  | succ n ih => simp [List.replicate_succ, cntF, ih]; omega

section
variable {α : Type} {P : Program} {B : Base} {n : Nat} {ops : Array Oper} {e0 : Nat → AV} {rs0 : Rs} {c0 cf : Nat} {recs : List Rec}

def done (L : Array Bool) : Nat → Bool := fun i => L.getD i false

structure Inv (B : Base) (n : Nat) (ops : Array Oper) (e0 : Nat → AV) (rs0 : Rs) (cf : Nat) (recs : List Rec) (L : Array Bool) (a : Act) (w : World) : Prop where
  len : L.size = ops.size
  down : Down ops (done L)
  st : ∃ F R, Sat F R w (rootE recs (done L) rs0) ∧ Since B F R w ∧ EnvR R F w (envE recs (done L) e0) a.tmps ∧ (∀ j, cf ≤ j → (R j).live = false ∧ rootE recs (done L) rs0 j = .dead) ∧
    ∀ (i : Nat) (r : Rec), recs[i]? = some r → r.w = true → done L i = false → ∀ k, r.c ≤ k → k < r.c' → (R k).live = false ∧ rootE recs (done L) rs0 k = .dead
  size : a.tmps.size = n
  defers : a.defers = []

theorem envU_some {r : Rec} {t : Nat} {y : AV} (h : r.envU t = some y) : r.o.dst = some t ∧ y = r.out := by
  unfold Rec.envU at h
  split at h
  · rename_i d hd
    cases hb : Nat.beq t d with
    | true => rw [hb] at h; injection h with h; rw [hd, Nat.eq_of_beq_eq_true hb]; exact ⟨rfl, h.symm⟩
    | false => rw [hb] at h; cases h
  · cases h

theorem rootU_some {r : Rec} {j : Nat} {y : Root} (h : r.rootU j = some y) : r.touch j = true := by
  unfold Rec.rootU at h
  cases ht : r.touch j with
  | true => rfl
  | false => rw [ht] at h; cases h

theorem map_get {β : Type} {f : Rec → Option β} {k : Nat} {y : β} (h : (recs.map f)[k]? = some (some y)) : ∃ r, recs[k]? = some r ∧ f r = some y := by
  rw [List.getElem?_map] at h
  cases hr : recs[k]? with
  | none => rw [hr] at h; cases h
  | some r => rw [hr] at h; exact ⟨r, rfl, by simpa using h⟩

theorem any_step (hgk : GOk G B) (hops : ops.toList = recs.map Rec.o) (htr : Tr G P n ops e0 rs0 c0 recs) (hdraw : drawB ops recs = true) (hcf : ∀ (r : Rec), r ∈ recs → r.c' ≤ cf) {L : Array Bool} {a : Act} {w : World} (hi : Inv B n ops e0 rs0 cf recs L a w)
    {j : Nat} (hj : j ∈ Region.ready .any ops L) {Q : Exit → Act → World → Prop} {K : Act → World → Prop} (hK : ∀ a' w', Inv B n ops e0 rs0 cf recs (L.setIfInBounds j true) a' w' → K a' w') : wpOp P ops Q j K a w := by
  simp only [drawB, Bool.and_eq_true] at hdraw
  obtain ⟨hback, hall⟩ := hdraw
  obtain ⟨hun, o, ho, hpre0⟩ := mem_ready.1 hj
  have hjs : j < ops.size := (Array.getElem?_eq_some_iff.1 ho).1
  have hjL : j < L.size := by rw [hi.len]; exact hjs
  have hEj : done L j = false := by
    unfold done
    simp only [Array.getD_eq_getD_getElem?, Array.getElem?_eq_getElem hjL, Option.getD_some] at hun ⊢
    exact hun
  have hpre : ∀ e ∈ o.after, Region.binds .any e = true → done L e.on = true := hpre0
  -- its record
  have hrec : ∃ r, recs[j]? = some r ∧ r.o = o := by
    have h1 : ops.toList[j]? = some o := by simpa using ho
    rw [hops, List.getElem?_map] at h1
    cases hr : recs[j]? with
    | none => rw [hr] at h1; cases h1
    | some r => rw [hr] at h1; exact ⟨r, rfl, by simpa using h1⟩
  obtain ⟨r, hr, hro⟩ := hrec
  subst hro
  have opAt : ∀ (k : Nat) (q : Rec), recs[k]? = some q → ops[k]? = some q.o := by
    intro k q hq
    have : ops.toList[k]? = some q.o := by rw [hops, List.getElem?_map, hq]; rfl
    simpa using this
  -- which may come in either order
  have later : ∀ (k : Nat) (q : Rec), recs[k]? = some q → j < k → done L k = true → Apart ops r q := by
    intro k q hq hjk hk
    have h1 := allB_ok hall k q hq
    rw [Nat.zero_add] at h1
    have h2 := rowB_ok h1 j r (by rw [List.getElem?_take]; simp [hjk, hr])
    rw [Nat.zero_add] at h2
    rcases h2 with h2 | h2
    · have := mask_down hback hi.down k j q.o (opAt k q hq) (hi.down k q.o (opAt k q hq) hk) h2
      rw [hEj] at this; cases this
    · exact pairB_ok h2
  have earlier : ∀ (k : Nat) (q : Rec), recs[k]? = some q → k < j → done L k = false → Apart ops q r := by
    intro k q hq hkj hk
    have h1 := allB_ok hall j r hr
    rw [Nat.zero_add] at h1
    have h2 := rowB_ok h1 k q (by rw [List.getElem?_take]; simp [hkj, hq])
    rw [Nat.zero_add] at h2
    rcases h2 with h2 | h2
    · have := mask_down hback hi.down j k r.o ho hpre h2
      rw [hk] at this; cases this
    · exact pairB_ok h2
  have both : ∀ (k : Nat) (q : Rec), recs[k]? = some q → k ≠ j → done L k ≠ below j k → Apart ops q r := by
    intro k q hq hkj hne
    by_cases hlt : k < j
    · have hb : below j k = true := Nat.blt_eq.mpr hlt
      exact earlier k q hq hlt (by cases h : done L k with | false => rfl | true => rw [h, hb] at hne; exact absurd rfl hne)
    · have hb : below j k = false := by unfold below; rw [Bool.eq_false_iff]; intro h; exact hlt (Nat.blt_eq.mp h)
      exact (later k q hq (by omega) (by cases h : done L k with | true => rfl | false => rw [h, hb] at hne; exact absurd rfl hne)).symm
  have hbj : below j j = false := by unfold below; rw [Bool.eq_false_iff]; intro h; have := Nat.blt_eq.mp h; omega
  -- what it looks at is as it was in the order of the text
  have envA : ∀ t ∈ looks ops r.o, envE recs (done L) e0 t = envE recs (below j) e0 t := by
    intro t ht
    refine lst_congr fun k y hk => ?_
    rw [Nat.zero_add]
    obtain ⟨q, hq, hy⟩ := map_get hk
    by_cases hkj : k = j
    · subst hkj; rw [hEj, hbj]
    · apply Decidable.byContradiction
      intro hne
      exact (both k q hq hkj hne).d1 t (envU_some hy).1 ht
  have rootA : ∀ i ∈ r.ids, rootE recs (done L) rs0 i = rootE recs (below j) rs0 i := by
    intro i hii
    refine lst_congr fun k y hk => ?_
    rw [Nat.zero_add]
    obtain ⟨q, hq, hy⟩ := map_get hk
    by_cases hkj : k = j
    · subst hkj; rw [hEj, hbj]
    · apply Decidable.byContradiction
      intro hne
      have := (both k q hq hkj hne).i1 i hii
      rw [rootU_some hy] at this; cases this
  -- and then
  have done' : ∀ k, done (L.setIfInBounds j true) k = (Nat.beq k j || done L k) := by
    intro k
    unfold done
    by_cases hkj : k = j
    · subst hkj
      simp [hjL]
    · have : Nat.beq k j = false := by rw [Bool.eq_false_iff]; intro h; exact hkj (Nat.eq_of_beq_eq_true h)
      rw [this, Bool.false_or, getD_set_ne false (Ne.symm hkj)]
  have doneNe : ∀ k, k ≠ j → done (L.setIfInBounds j true) k = done L k := fun k hk => by
    rw [done' k]
    have : Nat.beq k j = false := by rw [Bool.eq_false_iff]; intro h; exact hk (Nat.eq_of_beq_eq_true h)
    rw [this, Bool.false_or]
  have doneJ : done (L.setIfInBounds j true) j = true := by rw [done' j, Nat.beq_refl]; rfl
  have envC : envE recs (done (L.setIfInBounds j true)) e0 = fun t => (r.envU t).getD (envE recs (done L) e0 t) := by
    funext t
    cases hu : r.envU t with
    | some y =>
      refine lst_last (j := j) (by rw [List.getElem?_map, hr, Option.map_some, hu]; rfl) (by rw [Nat.zero_add]; exact doneJ) fun k z hjk hk => ?_
      rw [Nat.zero_add, doneNe k (by omega)]
      obtain ⟨q, hq, hz⟩ := map_get hk
      rw [Bool.eq_false_iff]
      intro hE
      exact (later k q hq hjk hE).d3 t (envU_some hu).1 (envU_some hz).1
    | none =>
      refine lst_congr fun k z hk => ?_
      rw [Nat.zero_add]
      refine doneNe k fun hkj => ?_
      obtain ⟨q, hq, hz⟩ := map_get hk
      rw [hkj, hr] at hq
      injection hq with hq
      rw [← hq, hu] at hz; cases hz
  have rootC : rootE recs (done (L.setIfInBounds j true)) rs0 = fun t => (r.rootU t).getD (rootE recs (done L) rs0 t) := by
    funext t
    cases hu : r.rootU t with
    | some y =>
      refine lst_last (j := j) (by rw [List.getElem?_map, hr, Option.map_some, hu]; rfl) (by rw [Nat.zero_add]; exact doneJ) fun k z hjk hk => ?_
      rw [Nat.zero_add, doneNe k (by omega)]
      obtain ⟨q, hq, hz⟩ := map_get hk
      rw [Bool.eq_false_iff]
      intro hE
      have := (later k q hq hjk hE).m t (rootU_some hu)
      rw [rootU_some hz] at this; cases this
    | none =>
      refine lst_congr fun k z hk => ?_
      rw [Nat.zero_add]
      refine doneNe k fun hkj => ?_
      obtain ⟨q, hq, hz⟩ := map_get hk
      rw [hkj, hr] at hq
      injection hq with hq
      rw [← hq, hu] at hz; cases hz
  have down' : Down ops (done (L.setIfInBounds j true)) := by
    intro k q hq hk e he hb
    rw [done' e.on]
    by_cases hkj : k = j
    · subst hkj
      rw [ho] at hq; injection hq with hq; subst hq
      rw [hpre e he hb]; simp
    · rw [doneNe k hkj] at hk
      rw [hi.down k q hq hk e he hb]; simp
  have len' : (L.setIfInBounds j true).size = ops.size := by simp [hi.len]
  obtain ⟨F, R, s1, s2, s3, s4, s5⟩ := hi.st
  have hwant := htr.wanted j r hr R F w a.tmps (fun t ht => by rw [← envA t (List.mem_append_right _ ht)]; exact s3 t)
  -- the new state's environment
  have hput : ∀ {R' : Nat → RV} {F' : Nat → Prop} {w' : World} {v : Value}, EnvR R' F' w' (envE recs (done L) e0) a.tmps → VR R' F' w' r.out v → EnvR R' F' w' (envE recs (done (L.setIfInBounds j true)) e0) (a.put r.o.dst v).tmps := by
    intro R' F' w' v he hv
    rw [envC]
    cases hd : r.o.dst with
    | none => rw [envU_none hd]; exact he
    | some d => rw [envU_put hd]; exact put_env he hv (by rw [hi.size]; exact htr.dst j r d hr hd)
  have hsz : ∀ v, (a.put r.o.dst v).tmps.size = n := fun v => by cases hd : r.o.dst <;> simp [Act.put, hi.size]
  have hdf : ∀ v, (a.put r.o.dst v).defers = [] := fun v => by cases hd : r.o.dst <;> simp [Act.put, hi.defers]
  unfold Go.wpOp
  rw [ho]
  simp only
  cases hw : r.w with
  | true =>
    rw [hw] at hwant
    rw [if_pos hwant]
    refine .inl ?_
    have hstep := (htr.step j r hr hw).2 (rootE recs (done L) rs0) F R w a.eval rootA (fun k h1 h2 => s5 j r hr hw hEj k h1 h2) s1 ⟨fun x => ?_, fun _ => rfl, hgk F R w s2⟩
    · refine hstep.wp fun v w' hv => ?_
      obtain ⟨F', R', hg, hs', hout⟩ := hv
      have hrE : rootE recs (done (L.setIfInBounds j true)) rs0 = merge r.c r.c' r.mod (rootE recs (done L) rs0) r.rs' := by rw [rootC, rootU_merge hw]
      refine hK _ _ ⟨len', down', ⟨F', R', by rw [hrE]; exact hs', s2.goes hg, hput (s3.goes hg (hg.agree s1)) hout, fun k hk => ?_, fun i q hq hqw hqi k h1 h2 => ?_⟩, hsz v, hdf v⟩
      · have h1 := hcf r (List.mem_of_getElem? hr)
        have h2 := htr.cc j r hr
        have hn : ¬ (r.c ≤ k ∧ k < r.c') := by omega
        refine ⟨(hg.hdr k hn).1.trans (s4 k hk).1, ?_⟩
        rw [hrE, merge_off]
        · exact (s4 k hk).2
        · rintro (h | h)
          · exact hn h
          · have := htr.mod j r hr k h; omega
      · have hij : i ≠ j := fun e => by rw [e, doneJ] at hqi; cases hqi
        have hqi' : done L i = false := by rw [← doneNe i hij]; exact hqi
        have hn : ¬ (r.c ≤ k ∧ k < r.c') := by
          rcases Nat.lt_or_gt_of_ne hij with h | h
          · have := htr.mono i j q r h hq hr; omega
          · have := htr.mono j i r q h hr hq; omega
        refine ⟨(hg.hdr k hn).1.trans (s5 i q hq hqw hqi' k h1 h2).1, ?_⟩
        rw [hrE, merge_off]
        · exact (s5 i q hq hqw hqi' k h1 h2).2
        · rintro (h | h)
          · exact hn h
          · rcases Nat.lt_or_gt_of_ne hij with h3 | h3
            · have h4 := (earlier i q hq h3 hqi').m k (touch_iff.2 ⟨hqw, .inl ⟨h1, h2⟩⟩)
              rw [touch_iff.2 ⟨hw, .inr h⟩] at h4; cases h4
            · have h4 := htr.mono j i r q h3 hr hq
              have h5 := htr.mod j r hr k h
              have h6 := htr.cc j r hr
              omega
    · have hn := envN_ok (R := R) (F := F) (w := w) (rs := rootE recs (below j) rs0) (e := envE recs (below j) e0) (v := fun t => a.tmps.getD t undef) (us := usedBy r.o.op)
        (fun i hii => by rw [← rootA i (htr.ids j r hr hw i hii)]; exact s1.ok i) (fun t ht => by rw [← envA t (List.mem_append_left _ ht)]; exact s3 t)
      exact evA_env hn x
  | false =>
    rw [hw] at hwant
    rw [if_neg (by rw [hwant]; simp)]
    have hrE : rootE recs (done (L.setIfInBounds j true)) rs0 = rootE recs (done L) rs0 := by rw [rootC, rootU_off hw]
    refine hK _ _ ⟨len', down', ⟨F, R, by rw [hrE]; exact s1, s2, hput s3 (by rw [htr.off j r hr hw]; exact ⟨[], rfl, .nil⟩), fun k hk => by rw [hrE]; exact s4 k hk, fun i q hq hqw hqi k h1 h2 => ?_⟩, hsz undef, hdf undef⟩
    rw [hrE]
    have hij : i ≠ j := fun e => by rw [e, doneJ] at hqi; cases hqi
    exact s5 i q hq hqw (by rw [← doneNe i hij]; exact hqi) k h1 h2

theorem any_all (hgk : GOk G B) (hops : ops.toList = recs.map Rec.o) (htr : Tr G P n ops e0 rs0 c0 recs) (hdraw : drawB ops recs = true) (hcf : ∀ (r : Rec), r ∈ recs → r.c' ≤ cf) {Q : Exit → Act → World → Prop}
    (hQ : ∀ a w, SatA B n ⟨envE recs tt e0, rootE recs tt rs0, cf⟩ a w → Q .normal a w) :
    ∀ (fuel : Nat) (L : Array Bool) (a : Act) (w : World), cntF L.toList = fuel → Inv B n ops e0 rs0 cf recs L a w → wpAny P .any ops Q fuel L a w := by
  have fin : ∀ (L : Array Bool) (a : Act) (w : World), (∀ i, i < ops.size → done L i = true) → Inv B n ops e0 rs0 cf recs L a w → Q .normal a w := by
    intro L a w hall hi
    have hlen : recs.length = ops.size := by have := congrArg List.length hops; simpa using this.symm
    have h1 : envE recs (done L) e0 = envE recs tt e0 := by
      funext t
      refine lst_congr fun k y hk => ?_
      have := (List.getElem?_eq_some_iff.1 hk).1
      rw [Nat.zero_add, hall k (by simp at this; omega)]; rfl
    have h2 : rootE recs (done L) rs0 = rootE recs tt rs0 := by
      funext t
      refine lst_congr fun k y hk => ?_
      have := (List.getElem?_eq_some_iff.1 hk).1
      rw [Nat.zero_add, hall k (by simp at this; omega)]; rfl
    obtain ⟨F, R, s1, s2, s3, s4, s5⟩ := hi.st
    rw [h1] at s3
    rw [h2] at s1 s4
    exact hQ a w ⟨⟨F, R, s1, s2, s3, s4⟩, hi.size, hi.defers⟩
  have none_ready : ∀ (L : Array Bool), L.size = ops.size → Region.ready .any ops L = [] → ∀ i, i < ops.size → done L i = true := by
    intro L hlen hr i
    have hback : backB ops.toList 0 = true := by simp only [drawB, Bool.and_eq_true] at hdraw; exact hdraw.1
    induction i using Nat.strongRecOn with
    | _ i ih =>
      intro his
      cases hd : done L i with
      | true => rfl
      | false =>
        exfalso
        have hmem : i ∈ Region.ready .any ops L := by
          rw [mem_ready]
          have hiL : i < L.size := by omega
          refine ⟨?_, ops[i], Array.getElem?_eq_getElem his, fun e he hb => ?_⟩
          · unfold done at hd
            simp only [Array.getD_eq_getD_getElem?, Array.getElem?_eq_getElem hiL, Option.getD_some] at hd ⊢
            exact hd
          · have hlt := backB_ok hback i ops[i] (by simp [his]) e he hb
            exact ih e.on (by omega) (by omega)
        rw [hr] at hmem; cases hmem
  intro fuel
  induction fuel with
  | zero =>
    intro L a w hc hi
    have hall : ∀ i, i < ops.size → done L i = true := fun i his => by
      have h1 := cntF_zero hc (j := i) (by simp [hi.len, his])
      unfold done
      rw [Array.getD_eq_getD_getElem?]
      have : L[i]? = some true := by simpa using h1
      rw [this]; rfl
    refine ⟨?_, fin L a w hall hi⟩
    apply List.eq_nil_iff_forall_not_mem.2
    intro i hmem
    obtain ⟨h1, o, h2, _⟩ := mem_ready.1 hmem
    have his := (Array.getElem?_eq_some_iff.1 h2).1
    have h3 := hall i his
    have hiL : i < L.size := by rw [hi.len]; exact his
    unfold done at h3
    simp only [Array.getD_eq_getD_getElem?, Array.getElem?_eq_getElem hiL, Option.getD_some] at h1 h3
    rw [h3] at h1; cases h1
  | succ fuel ih =>
    intro L a w hc hi
    refine ⟨fun hr => fin L a w (none_ready L hi.len hr) hi, fun j hj => ?_⟩
    refine any_step hgk hops htr hdraw hcf hi hj fun a' w' hi' => ih _ a' w' ?_ hi'
    obtain ⟨h1, o, h2, _⟩ := mem_ready.1 hj
    have hjs := (Array.getElem?_eq_some_iff.1 h2).1
    have hjL : j < L.size := by rw [hi.len]; exact hjs
    have hf : L.toList[j]? = some false := by
      simp only [Array.getD_eq_getD_getElem?, Array.getElem?_eq_getElem hjL, Option.getD_some] at h1
      simp [hjL, h1]
    have := cntF_set hf
    simp only [Array.toList_setIfInBounds]
    omega

/-- a region whose order is drawn -/
theorem draw_ok {cx : Cx} (hcx : CxOk G P cx) (hgk : GOk G B) {id : Nat} {K : (Nat → AV) → Rs → Nat → Option α} {r : α} {Q : Exit → Act → World → Prop}
    (hK : ∀ e rs c a w, K e rs c = some r → SatA B n ⟨e, rs, c⟩ a w → Q .normal a w) {e : Nat → AV} {rs : Rs} {c : Nat} {a : Act} {w : World}
    (h : drawK cx n ops ops.toList e rs c [] K = some r) (hs : SatA B n ⟨e, rs, c⟩ a w) : (Code.region id ops true).wp P Q a w := by
  obtain ⟨recs, cf, htr, hdraw, hmap, hk, hc, hcf⟩ := drawK_tr hcx (e0 := e) (rs0 := rs) (c0 := c) ops.toList [] e rs c h
    ⟨fun j r d h => by simp at h, fun j r h => by simp at h, fun j r h => by simp at h, fun j r h => by simp at h, fun j r h => by simp at h, fun j r h => by simp at h, fun j r h => by simp at h, fun j r h => by simp at h, fun i j a b _ h => by simp at h⟩ rfl rfl (Nat.le_refl _) (fun r hr => by cases hr)
  have hops : ops.toList = recs.map Rec.o := by rw [hmap]; rfl
  refine wp_region_any hcx.mixed ?_
  have hdead : ∀ k, done (Array.replicate ops.size false) k = false := fun k => by
    unfold done
    rw [Array.getD_eq_getD_getElem?, Array.getElem?_replicate]
    split <;> rfl
  have hz : ∀ {β : Type} {l : List (Option β)} {b : β}, lst l (done (Array.replicate ops.size false)) 0 b = b := by
    intro β l b
    rw [lst_congr (E' := below 0) (fun k y _ => by rw [hdead]; rfl)]
    have := lst_below (l := []) (l' := l) (j := 0) (b := b) (Nat.le_refl _)
    exact this
  have he : envE recs (done (Array.replicate ops.size false)) e = e := by funext t; exact hz
  have hrr : rootE recs (done (Array.replicate ops.size false)) rs = rs := by funext t; exact hz
  obtain ⟨⟨F, R, s1, s2, s3, s4⟩, hsz, hdf⟩ := hs
  have hg := Sat.idle (w' := { w with drawn := w.drawn + 1 }) s1 (fun _ _ => rfl) (Nat.le_refl _) rfl rfl rfl
  refine any_all hgk hops htr hdraw hcf (fun a w hs => hK _ _ _ a w hk hs) ops.size _ a _ (by simp [cntF_rep]) ⟨by simp, fun j o _ hj => (by rw [hdead j] at hj; cases hj), ⟨F, R, by rw [hrr]; exact hg.2, s2.goes hg.1, by rw [he]; exact s3.goes hg.1 (hg.1.agree s1), fun j hj => ?_, fun i q hq hqw _ k h1 h2 => ?_⟩, hsz, hdf⟩
  · rw [hrr]; exact s4 j (Nat.le_trans hc hj)
  · rw [hrr]; exact s4 k (Nat.le_trans (htr.c0 i q hq) h1)
end
end Go.Sx

namespace Go.Sx
open Go
set_option linter.unusedVariables false
set_option linter.unusedSimpArgs false

inductive Ex where
  | normal | exit (id : Nat) | ret

abbrev KC (α : Type) := Ex → (Nat → AV) → Rs → Nat → Option α

structure Cut (α : Type) where
  tm : Tmpl
  ts : List T
  F : Den ts → Option α

/-! ### A state is brought into a form -/
def anchL : Nat → List (Nat × Nat)
  | 0 => []
  | m + 1 => (m, m) :: anchL m

def matR (m : Tmpl) : List RF → Nat → List (Nat × Nat) → St → St
  | [], _, _, s => s
  | f :: fs, j, d, s => matR m fs (j + 1) d (match f with | .box ls => matB m.roots (assoc j d) ls 0 s | _ => s)

/-- rows that the form holds as read-only below -/
def shwIds : List RF → List Nat → List Nat
  | f :: fs, i :: is => (match f with | .row false _ => i :: shwIds fs is | _ => shwIds fs is)
  | _, _ => []

/-- rows of rows that the form holds so -/
def mtIds : List RF → List Nat → List Nat
  | f :: fs, i :: is => (match f with | .mat _ => i :: mtIds fs is | _ => mtIds fs is)
  | _, _ => []

def settle (m : Tmpl) (anch : Nat) (e : Nat → AV) (rs : Rs) (c : Nat) : Option (List Dat) :=
  let s1 := matE m.roots m.slots ⟨e, rs, c⟩
  let d1 := discR s1.rs m.roots 0 (discE s1.e m.slots (anchL anch, []))
  let s2 := matR m m.roots 0 d1.1 s1
  let d2 := disc m s2.e s2.rs (anchL anch)
  chkT m d2.1 anch ⟨s2.e, matAll (shwAll (frzAll s2.rs d2.2) (shwIds m.roots d2.1)) (mtIds m.roots d2.1), s2.c⟩

theorem SatS.matR {B : Base} {m : Tmpl} {d : List (Nat × Nat)} : ∀ {l : List RF} {j : Nat} {s : St} {tmps : Array Value} {w : World}, SatS B s tmps w → SatS B (matR m l j d s) tmps w
  | [], _, _, _, _, h => h
  | f :: fs, j, s, tmps, w, h => by
    unfold Go.Sx.matR
    apply SatS.matR
    split
    · exact h.matB
    · exact h

theorem settle_ok {m : Tmpl} {anch : Nat} {e : Nat → AV} {rs : Rs} {c : Nat} {l : List Dat} (h : settle m anch e rs c = some l) : ∃ s', mkT m l = some s' ∧
    ∀ (B : Base) (tmps : Array Value) (w : World), (∀ j v, B.A j = some v → j < anch) → SatS B ⟨e, rs, c⟩ tmps w → SatS B s' tmps w := by
  obtain ⟨s', hmk, hsc, hlen, hnd, hlt, hchk⟩ := chkT_ok (show chkT m _ anch _ = some l from h)
  refine ⟨s', hmk, fun B tmps w hA hs => ?_⟩
  obtain ⟨F, R, h1, h2, h3, h4⟩ := ((((hs.matE (rfs := m.roots) (l := m.slots)).matR (m := m) (l := m.roots) (j := 0) (d := (discR (matE m.roots m.slots ⟨e, rs, c⟩).rs m.roots 0 (discE (matE m.roots m.slots ⟨e, rs, c⟩).e m.slots (anchL anch, []))).1)).frz _).shw _).mat _
  obtain ⟨k1, k2, k3, k4, k5⟩ := hchk R F w tmps h1 h3
  refine ⟨F, _, k1, ⟨h2.rest, fun j b hb => ?_, h2.Fnew, h2.sub, h2.size, h2.os, h2.tape, h2.output, fun j v hv => ?_⟩, k2, k3⟩
  · obtain ⟨i, _, hi⟩ := k4 j b hb
    exact h2.own i b hi
  · obtain ⟨a1, a2⟩ := k5 j (hA j v hv)
    obtain ⟨b1, b2⟩ := h2.anch j v hv
    exact ⟨a1.trans b1, a2.trans b2⟩

def goCut {α : Type} (cut : Cut α) (anch : Nat) (e : Nat → AV) (rs : Rs) (c : Nat) : Option α :=
  match settle cut.tm anch e rs c with
  | some l => (match ofL cut.ts l with | some x => cut.F x | none => none)
  | none => none

def orCut {α : Type} (o : Option (Cut α)) (anch : Nat) (e : Nat → AV) (rs : Rs) (c : Nat) (other : Option α) : Option α :=
  match o with
  | some cut => goCut cut anch e rs c
  | none => other

open Classical in
/-- two ways that come to the same -/
noncomputable def bothO {α : Type} (x y : Option α) : Option α := if x = y then x else none

theorem bothO_some {α : Type} {x y : Option α} {r : α} (h : bothO x y = some r) : x = some r ∧ y = some r := by
  unfold bothO at h
  split at h
  · rename_i e; exact ⟨h, e ▸ h⟩
  · cases h
theorem bothO_self {α : Type} (x : Option α) : bothO x x = x := by unfold bothO; rw [if_pos rfl]

/-! ### Code -/
noncomputable section
variable {α : Type} (cx : Cx) (n anch : Nat) (cuts : Nat → Option (Cut α))

def bodyK : Code → Nat → (Nat → AV) → Rs → Nat → KC α → Option α
  | .skip, _, e, rs, c, K => K .normal e rs c
  | .label _, _, e, rs, c, K => K .normal e rs c
  | .region _ ops false, _, e, rs, c, K => seqK cx n ops (List.range ops.size) e rs c (K .normal)
  | .region _ ops true, _, e, rs, c, K => drawK cx n ops ops.toList e rs c [] (K .normal)
  | .seq a b, p, e, rs, c, K =>
    orCut (cuts (2 * p)) anch e rs c (bodyK a (2 * p) e rs c fun x e rs c =>
      match x with
      | .normal => orCut (cuts (2 * p + 1)) anch e rs c (bodyK b (2 * p + 1) e rs c K)
      | x => K x e rs c)
  | .cond x a b, p, e, rs, c, K =>
    (match evA e x with
     | .c (.l (.dat .bool t)) => cond t (orCut (cuts (2 * p)) anch e rs c (bodyK a (2 * p) e rs c K)) (orCut (cuts (2 * p + 1)) anch e rs c (bodyK b (2 * p + 1) e rs c K))
     | .c (.l .anyb) => bothO (orCut (cuts (2 * p)) anch e rs c (bodyK a (2 * p) e rs c K)) (orCut (cuts (2 * p + 1)) anch e rs c (bodyK b (2 * p + 1) e rs c K))
     | _ => none)
  | .block id b, p, e, rs, c, K =>
    orCut (cuts (2 * p)) anch e rs c (bodyK b (2 * p) e rs c fun x e rs c =>
      match x with
      | .exit i => cond (Nat.beq i id) (K .normal e rs c) (K (.exit i) e rs c)
      | x => K x e rs c)
  | .loop b, p, e, rs, c, K =>
    orCut (cuts (2 * p)) anch e rs c (bodyK b (2 * p) e rs c fun x e rs c =>
      match x with
      | .normal => orCut (cuts p) anch e rs c none
      | x => K x e rs c)
  | .exit id, _, e, rs, c, K => K (.exit id) e rs c
  | .ret, _, e, rs, c, K => K .ret e rs c
  | _, _, _, _, _, _ => none

/-- the code at a path from the root (the last step first), and what comes behind it -/
def navK (root : Code) (K0 : KC α) : List Bool → Option (Code × Nat × KC α)
  | [] => some (root, 1, K0)
  | d :: π =>
    match navK root K0 π with
    | some (.seq a b, p, K) => (match d with
      | false => some (a, 2 * p, fun x e rs c =>
        match x with
        | .normal => orCut (cuts (2 * p + 1)) anch e rs c (bodyK cx n anch cuts b (2 * p + 1) e rs c K)
        | x => K x e rs c)
      | true => some (b, 2 * p + 1, K))
    | some (.cond _ a b, p, K) => (match d with | false => some (a, 2 * p, K) | true => some (b, 2 * p + 1, K))
    | some (.block id b, p, K) => (match d with
      | false => some (b, 2 * p, fun x e rs c =>
        match x with
        | .exit i => cond (Nat.beq i id) (K .normal e rs c) (K (.exit i) e rs c)
        | x => K x e rs c)
      | true => none)
    | some (.loop b, p, K) => (match d with
      | false => some (b, 2 * p, fun x e rs c =>
        match x with
        | .normal => orCut (cuts p) anch e rs c none
        | x => K x e rs c)
      | true => none)
    | _ => none

/-- what the code at a path does from data -/
def runK (root : Code) (K0 : KC α) (π : List Bool) (tm : Tmpl) (ts : List T) (x : Den ts) : Option α :=
  match mkT tm (toL ts x) with
  | some s => (match navK cx n anch cuts root K0 π with | some (c, p, K) => bodyK cx n anch cuts c p s.e s.rs s.c K | none => none)
  | none => none
end

def encP : List Bool → Nat
  | [] => 1
  | d :: π => 2 * encP π + cond d 1 0

theorem encP_pos : ∀ π, 1 ≤ encP π
  | [] => Nat.le_refl _
  | d :: π => by have := encP_pos π; simp only [encP]; omega

theorem encP_inj : ∀ {π π' : List Bool}, encP π = encP π' → π = π'
  | [], [], _ => rfl
  | [], d :: π', h => by have := encP_pos π'; simp only [encP] at h; omega
  | d :: π, [], h => by have := encP_pos π; simp only [encP] at h; omega
  | d :: π, d' :: π', h => by
    simp only [encP] at h
    have hd : d = d' := by cases d <;> cases d' <;> simp at h <;> first | rfl | omega
    subst hd
    have : encP π = encP π' := by omega
    rw [encP_inj this]

/-! ### Loops -/
theorem exitTo_len : ∀ {k k' : List Item} {id : Nat}, exitTo id k = some k' → k'.length ≤ k.length := by
  intro k
  induction k with
  | nil => intro k' id h; simp [exitTo] at h
  | cons x k ih =>
    intro k' id h
    cases x <;> simp only [exitTo] at h <;> (try split at h) <;> first
      | (have := ih h; simp; omega)
      | (injection h with h; subst h; simp)
      | cases h

theorem steps_from {P : Program} {m m1 m' : Machine} (h : Steps P m m') (h1 : step P m = .next m1) (hne : m' ≠ m) : Steps P m1 m' := by
  obtain ⟨n, hn⟩ := h
  cases n with
  | zero => simp [runN] at hn; exact absurd hn.symm hne
  | succ n => simp only [runN, h1] at hn; exact ⟨n, hn⟩

theorem lone_todo {b : Frame} {a a' : Act} {k k' : List Item} {cs : List Frame} {w w' : World} (h : lone (b.at a k) cs w = lone (b.at a' k') cs w') : k = k' := by
  have h1 := congrArg (fun m : Machine => m.gs.toList.map fun g => g.frame.todo) h
  simpa [lone, Frame.at] using h1

theorem lone_mode {f f' : Frame} {cs : List Frame} {w w' : World} (h : lone f cs w = lone f' cs w') : f.mode = f'.mode := by
  have h1 := congrArg (fun m : Machine => m.gs.toList.map fun g => g.frame.mode) h
  simpa [lone] using h1

/-- one round, and then the loop again -/
theorem wp_loop_again {P : Program} {c : Code} {Q : Exit → Act → World → Prop} {a : Act} {w : World} (hQ : ∀ a w, ¬ Q .outgrown a w) (hQg : ∀ l a w, ¬ Q (.goto l) a w)
    (h : c.wp P (Exit.then ((Code.loop c).wp P Q) Q) a w) : (Code.loop c).wp P Q a w := by
  intro b k cs
  obtain ⟨e, a₁, w₁, hq, harr⟩ := h b (.inLoop c :: k) cs
  cases e with
  | normal =>
    obtain ⟨e₂, a₂, w₂, hq₂, harr₂⟩ := hq b k cs
    have hs : Steps P (lone (b.at a (.code (.loop c) :: k)) cs w) (lone (b.at a₁ (.code c :: .inLoop c :: k)) cs w₁) := .head step_loop (Steps.trans harr (.one step_inLoop))
    have h1 := step_loop (P := P) (b := b) (a := a₁) (k := k) (cs := cs) (w := w₁) (c := c)
    refine ⟨e₂, a₂, w₂, hq₂, ?_⟩
    cases e₂ with
    | normal =>
      refine hs.trans (steps_from harr₂ h1 fun e => ?_)
      have := congrArg List.length (lone_todo e)
      simp at this
    | exit id =>
      intro k' hk
      refine hs.trans (steps_from (harr₂ k' hk) h1 fun e => ?_)
      have h2 := congrArg List.length (lone_todo e)
      have h3 := exitTo_len hk
      simp at h2; omega
    | goto l => exact absurd hq₂ (hQg l _ _)
    | ret =>
      obtain ⟨todo, ht⟩ := harr₂
      refine ⟨todo, hs.trans (steps_from ht h1 fun e => ?_)⟩
      have := lone_mode e
      simp [Frame.at] at this
    | panic ch =>
      obtain ⟨todo, ht⟩ := harr₂
      refine ⟨todo, hs.trans (steps_from ht h1 fun e => ?_)⟩
      have := lone_mode e
      simp [Frame.at] at this
    | outgrown => exact absurd hq₂ (hQ _ _)
  | exit id => exact ⟨_, a₁, w₁, hq, .of_steps (.one step_loop) (.pass (x := .inLoop c) rfl (fun _ _ => .inl (by simp)) harr)⟩
  | goto l => exact absurd hq (hQg l _ _)
  | ret => exact ⟨_, a₁, w₁, hq, .of_steps (.one step_loop) (.pass (x := .inLoop c) rfl (fun _ _ => .inl (by simp)) harr)⟩
  | panic ch => exact ⟨_, a₁, w₁, hq, .of_steps (.one step_loop) (.pass (x := .inLoop c) rfl (fun _ _ => .inl (by simp)) harr)⟩
  | outgrown => exact absurd hq (hQ _ _)
end Go.Sx

namespace Go.Sx
open Go
variable {G : Gl}
set_option linter.unusedVariables false
set_option linter.unusedSimpArgs false

def Ex.to : Ex → Exit
  | .normal => .normal
  | .exit id => .exit id
  | .ret => .ret

structure CutF (α : Type) where
  path : List Bool
  p : Nat
  tm : Tmpl
  ts : List T
  F : Nat → Den ts → Option α

def findCut {α : Type} (k : Nat) : List (CutF α) → Nat → Option (Cut α)
  | [], _ => none
  | c :: r, p => cond (Nat.beq p c.p) (some ⟨c.tm, c.ts, c.F k⟩) (findCut k r p)

section
variable {α : Type} {P : Program} {cx : Cx} {n anch : Nat} {B : Base}

abbrev QP (α : Type) := α → Exit → Act → World → Prop

/-- it ends in no other way -/
def QFine (Q : QP α) : Prop := ∀ r, (∀ a w, ¬ Q r .outgrown a w) ∧ ∀ l a w, ¬ Q r (.goto l) a w

def KOk (B : Base) (n : Nat) (K : KC α) (Q : QP α) : Prop := ∀ x e rs c a w r, K x e rs c = some r → SatA B n ⟨e, rs, c⟩ a w → Q r x.to a w

def CutOk (P : Program) (B : Base) (n : Nat) (o : Option (Cut α)) (code : Code) (Q : QP α) : Prop :=
  ∀ cut, o = some cut → ∀ x r, cut.F x = some r → ∀ s, mkT cut.tm (toL cut.ts x) = some s → ∀ a w, SatA B n s a w → code.wp P (Q r) a w

def seqQ (P : Program) (b : Code) (Q : QP α) : QP α := fun r => Exit.then (b.wp P (Q r)) (Q r)
def blkQ (id : Nat) (Q : QP α) : QP α := fun r => Exit.inBlock id (Q r)

theorem seqQ_fine {b : Code} {Q : QP α} (h : QFine Q) : QFine (seqQ P b Q) := fun r => ⟨fun a w => (h r).1 a w, fun l a w => (h r).2 l a w⟩
theorem blkQ_fine {id : Nat} {Q : QP α} (h : QFine Q) : QFine (blkQ id Q) := fun r => ⟨fun a w => (h r).1 a w, fun l a w => (h r).2 l a w⟩

def navQ (P : Program) (root : Code) (Q0 : QP α) : List Bool → Option (Code × QP α)
  | [] => some (root, Q0)
  | d :: π =>
    match navQ P root Q0 π with
    | some (.seq a b, Q) => (match d with | false => some (a, seqQ P b Q) | true => some (b, Q))
    | some (.cond _ a b, Q) => (match d with | false => some (a, Q) | true => some (b, Q))
    | some (.block id b, Q) => (match d with | false => some (b, blkQ id Q) | true => none)
    | some (.loop b, Q) => (match d with | false => some (b, seqQ P (.loop b) Q) | true => none)
    | _ => none

theorem orCut_ok {o : Option (Cut α)} {code : Code} {Q : QP α} {e : Nat → AV} {rs : Rs} {c : Nat} {other : Option α} {r : α} {a : Act} {w : World} (hA : ∀ j v, B.A j = some v → j < anch)
    (h : orCut o anch e rs c other = some r) (hs : SatA B n ⟨e, rs, c⟩ a w) (hc : CutOk P B n o code Q) (ho : other = some r → code.wp P (Q r) a w) : code.wp P (Q r) a w := by
  unfold orCut at h
  split at h
  · rename_i cut
    unfold goCut at h
    split at h
    · rename_i l hl
      split at h
      · rename_i x hx
        obtain ⟨s', hmk, hsat⟩ := settle_ok hl
        rw [← toL_ofL hx] at hmk
        exact hc cut rfl x r h s' hmk a w ⟨hsat B a.tmps w hA hs.sat, hs.size, hs.defers⟩
      · cases h
    · cases h
  · exact ho h

/-- all cuts do what they say -/
def AllCuts (P : Program) (B : Base) (n : Nat) (cuts : Nat → Option (Cut α)) (root : Code) (Q0 : QP α) : Prop :=
  ∀ π code Q, navQ P root Q0 π = some (code, Q) → CutOk P B n (cuts (encP π)) code Q

theorem navQ_fine {root : Code} {Q0 : QP α} (h0 : QFine Q0) : ∀ {π : List Bool} {code : Code} {Q : QP α}, navQ P root Q0 π = some (code, Q) → QFine Q
  | [], code, Q, h => by injection h with h; injection h with h1 h2; subst h2; exact h0
  | d :: π, code, Q, h => by
    unfold navQ at h
    split at h
    · rename_i a b Q' hn
      have hf := navQ_fine h0 hn
      cases d <;> injection h with h <;> injection h with h1 h2 <;> subst h2
      · exact seqQ_fine hf
      · exact hf
    · rename_i x a b Q' hn
      have hf := navQ_fine h0 hn
      cases d <;> injection h with h <;> injection h with h1 h2 <;> subst h2 <;> exact hf
    · rename_i id b Q' hn
      have hf := navQ_fine h0 hn
      cases d
      · injection h with h; injection h with h1 h2; subst h2; exact blkQ_fine hf
      · cases h
    · rename_i b Q' hn
      have hf := navQ_fine h0 hn
      cases d
      · injection h with h; injection h with h1 h2; subst h2; exact seqQ_fine hf
      · cases h
    · cases h

theorem body_ok (hcx : CxOk G P cx) (hgk : GOk G B) (hA : ∀ j v, B.A j = some v → j < anch) {cuts : Nat → Option (Cut α)} {root : Code} {Q0 : QP α} (h0 : QFine Q0) (hcuts : AllCuts P B n cuts root Q0) :
    ∀ (code : Code) (π : List Bool) (Q : QP α) (K : KC α) (e : Nat → AV) (rs : Rs) (c : Nat) (a : Act) (w : World) (r : α), navQ P root Q0 π = some (code, Q) → KOk B n K Q →
      bodyK cx n anch cuts code (encP π) e rs c K = some r → SatA B n ⟨e, rs, c⟩ a w → code.wp P (Q r) a w := by
  intro code
  induction code with
  | skip => intro π Q K e rs c a w r hn hK h hs; exact wp_skip (hK .normal e rs c a w r h hs)
  | label l => intro π Q K e rs c a w r hn hK h hs; exact wp_label (hK .normal e rs c a w r h hs)
  | region id ops draw =>
    intro π Q K e rs c a w r hn hK h hs
    cases draw with
    | false => exact wp_region (seqK_ok hcx hgk (fun e rs c a w h hs => hK .normal e rs c a w r h hs) _ e rs c a w h hs)
    | true => exact draw_ok hcx hgk (fun e rs c a w h hs => hK .normal e rs c a w r h hs) h hs
  | seq x y ihx ihy =>
    intro π Q K e rs c a w r hn hK h hs
    have hx : navQ P root Q0 (false :: π) = some (x, seqQ P y Q) := by unfold navQ; rw [hn]
    have hy : navQ P root Q0 (true :: π) = some (y, Q) := by unfold navQ; rw [hn]
    refine wp_seq ?_
    refine orCut_ok (Q := seqQ P y Q) hA h hs (hcuts _ _ _ hx) fun h => ?_
    refine ihx (false :: π) (seqQ P y Q) _ e rs c a w r hx ?_ h hs
    intro ex e rs c a w r h hs
    cases ex with
    | normal =>
      refine orCut_ok (Q := Q) hA h hs (hcuts _ _ _ hy) fun h => ?_
      exact ihy (true :: π) Q K e rs c a w r hy hK h hs
    | exit id => exact hK _ e rs c a w r h hs
    | ret => exact hK _ e rs c a w r h hs
  | cond x y z ihy ihz =>
    intro π Q K e rs c a w r hn hK h hs
    have hy : navQ P root Q0 (false :: π) = some (y, Q) := by unfold navQ; rw [hn]
    have hz : navQ P root Q0 (true :: π) = some (z, Q) := by unfold navQ; rw [hn]
    unfold bodyK at h
    split at h
    · rename_i t hx
      obtain ⟨F, R, s1, s2, s3, s4⟩ := hs.sat
      have hb := evA_env (a := a) s3 x
      rw [hx] at hb
      have hb := VR_bool hb
      refine wp_cond_split hb (fun ht => ?_) (fun ht => ?_)
      · rw [ht] at h
        exact orCut_ok (Q := Q) hA h hs (hcuts _ _ _ hy) fun h => ihy (false :: π) Q K e rs c a w r hy hK h hs
      · rw [ht] at h
        exact orCut_ok (Q := Q) hA h hs (hcuts _ _ _ hz) fun h => ihz (true :: π) Q K e rs c a w r hz hK h hs
    · rename_i hx
      obtain ⟨F, R, s1, s2, s3, s4⟩ := hs.sat
      have hb := evA_env (a := a) s3 x
      rw [hx] at hb
      obtain ⟨t, hb⟩ := hb
      obtain ⟨h1, h2⟩ := bothO_some h
      refine wp_cond_split hb (fun ht => ?_) (fun ht => ?_)
      · exact orCut_ok (Q := Q) hA h1 hs (hcuts _ _ _ hy) fun h => ihy (false :: π) Q K e rs c a w r hy hK h hs
      · exact orCut_ok (Q := Q) hA h2 hs (hcuts _ _ _ hz) fun h => ihz (true :: π) Q K e rs c a w r hz hK h hs
    · cases h
  | block id b ih =>
    intro π Q K e rs c a w r hn hK h hs
    have hx : navQ P root Q0 (false :: π) = some (b, blkQ id Q) := by unfold navQ; rw [hn]
    refine wp_block ?_
    refine orCut_ok (Q := blkQ id Q) hA h hs (hcuts _ _ _ hx) fun h => ?_
    refine ih (false :: π) (blkQ id Q) _ e rs c a w r hx ?_ h hs
    intro ex e rs c a w r h hs
    cases ex with
    | normal => exact hK .normal e rs c a w r h hs
    | ret => exact hK .ret e rs c a w r h hs
    | exit i =>
      show (if i = id then Q r .normal a w else Q r (.exit i) a w)
      rcases cond_some h with ⟨hi, h⟩ | ⟨hi, h⟩
      · rw [if_pos (Nat.eq_of_beq_eq_true hi)]; exact hK .normal e rs c a w r h hs
      · rw [if_neg (fun e => by rw [e, Nat.beq_refl] at hi; cases hi)]; exact hK (.exit i) e rs c a w r h hs
  | loop b ih =>
    intro π Q K e rs c a w r hn hK h hs
    have hx : navQ P root Q0 (false :: π) = some (b, seqQ P (.loop b) Q) := by unfold navQ; rw [hn]
    have hf := navQ_fine h0 hn
    refine wp_loop_again (hf r).1 (hf r).2 ?_
    refine orCut_ok (Q := seqQ P (.loop b) Q) hA h hs (hcuts _ _ _ hx) fun h => ?_
    refine ih (false :: π) (seqQ P (.loop b) Q) _ e rs c a w r hx ?_ h hs
    intro ex e rs c a w r h hs
    cases ex with
    | normal => exact orCut_ok (Q := Q) hA h hs (hcuts _ _ _ hn) fun h => by cases h
    | exit id => exact hK _ e rs c a w r h hs
    | ret => exact hK _ e rs c a w r h hs
  | exit id => intro π Q K e rs c a w r hn hK h hs; exact wp_exit (hK (.exit id) e rs c a w r h hs)
  | ret => intro π Q K e rs c a w r hn hK h hs; exact wp_ret (hK .ret e rs c a w r h hs)
  | _ => intro π Q K e rs c a w r hn hK h hs; cases h

theorem nav_ok (hcx : CxOk G P cx) (hgk : GOk G B) (hA : ∀ j v, B.A j = some v → j < anch) {cuts : Nat → Option (Cut α)} {root : Code} {Q0 : QP α} {K0 : KC α} (h0 : QFine Q0) (hcuts : AllCuts P B n cuts root Q0) (hK0 : KOk B n K0 Q0) :
    ∀ {π : List Bool} {code : Code} {p : Nat} {K : KC α}, navK cx n anch cuts root K0 π = some (code, p, K) → ∃ Q, navQ P root Q0 π = some (code, Q) ∧ p = encP π ∧ KOk B n K Q
  | [], code, p, K, h => by
    injection h with h; injection h with h1 h2; injection h2 with h2 h3
    subst h1 h2 h3
    exact ⟨Q0, rfl, rfl, hK0⟩
  | d :: π, code, p, K, h => by
    unfold navK at h
    split at h
    · rename_i x y p' K' hn
      obtain ⟨Q, hq, hp, hK⟩ := nav_ok hcx hgk hA h0 hcuts hK0 hn
      have hy : navQ P root Q0 (true :: π) = some (y, Q) := by unfold navQ; rw [hq]
      cases d <;> injection h with h <;> injection h with h1 h2 <;> injection h2 with h2 h3 <;> subst h1 h2 h3
      · refine ⟨seqQ P y Q, by unfold navQ; rw [hq], by rw [hp]; rfl, ?_⟩
        intro ex e rs c a w r h hs
        cases ex with
        | normal =>
          rw [hp] at h
          refine orCut_ok (Q := Q) hA h hs (hcuts _ _ _ hy) fun h => ?_
          exact body_ok hcx hgk hA h0 hcuts y (true :: π) Q K' e rs c a w r hy hK h hs
        | exit id => exact hK _ e rs c a w r h hs
        | ret => exact hK _ e rs c a w r h hs
      · exact ⟨Q, hy, by rw [hp]; rfl, hK⟩
    · rename_i x y z p' K' hn
      obtain ⟨Q, hq, hp, hK⟩ := nav_ok hcx hgk hA h0 hcuts hK0 hn
      cases d <;> injection h with h <;> injection h with h1 h2 <;> injection h2 with h2 h3 <;> subst h1 h2 h3
      · exact ⟨Q, by unfold navQ; rw [hq], by rw [hp]; rfl, hK⟩
      · exact ⟨Q, by unfold navQ; rw [hq], by rw [hp]; rfl, hK⟩
    · rename_i id b p' K' hn
      obtain ⟨Q, hq, hp, hK⟩ := nav_ok hcx hgk hA h0 hcuts hK0 hn
      cases d
      · injection h with h; injection h with h1 h2; injection h2 with h2 h3; subst h1 h2 h3
        refine ⟨blkQ id Q, by unfold navQ; rw [hq], by rw [hp]; rfl, ?_⟩
        intro ex e rs c a w r h hs
        cases ex with
        | normal => exact hK .normal e rs c a w r h hs
        | ret => exact hK .ret e rs c a w r h hs
        | exit i =>
          show (if i = id then Q r .normal a w else Q r (.exit i) a w)
          rcases cond_some h with ⟨hi, h⟩ | ⟨hi, h⟩
          · rw [if_pos (Nat.eq_of_beq_eq_true hi)]; exact hK .normal e rs c a w r h hs
          · rw [if_neg (fun e => by rw [e, Nat.beq_refl] at hi; cases hi)]; exact hK (.exit i) e rs c a w r h hs
      · cases h
    · rename_i b p' K' hn
      obtain ⟨Q, hq, hp, hK⟩ := nav_ok hcx hgk hA h0 hcuts hK0 hn
      cases d
      · injection h with h; injection h with h1 h2; injection h2 with h2 h3; subst h1 h2 h3
        refine ⟨seqQ P (.loop b) Q, by unfold navQ; rw [hq], by rw [hp]; rfl, ?_⟩
        intro ex e rs c a w r h hs
        cases ex with
        | normal => rw [hp] at h; exact orCut_ok (Q := Q) hA h hs (hcuts _ _ _ hq) fun h => by cases h
        | exit id => exact hK _ e rs c a w r h hs
        | ret => exact hK _ e rs c a w r h hs
      · cases h
    · cases h

/-- the cuts of a function: each is none at 0, and one more round of its code at k + 1 -/
structure CutsAre (cx : Cx) (n anch : Nat) (cl : List (CutF α)) (root : Code) (K0 : KC α) : Prop where
  enc : ∀ c ∈ cl, c.p = encP c.path
  zero : ∀ c ∈ cl, ∀ x, c.F 0 x = none
  next : ∀ c ∈ cl, ∀ k x, c.F (k + 1) x = runK cx n anch (findCut k cl) root K0 c.path c.tm c.ts x

theorem findCut_mem {k : Nat} {cut : Cut α} : ∀ {cl : List (CutF α)} {p : Nat}, findCut k cl p = some cut → ∃ c ∈ cl, p = c.p ∧ cut = ⟨c.tm, c.ts, c.F k⟩
  | [], p, h => by cases h
  | c :: cl, p, h => by
    unfold findCut at h
    cases hb : Nat.beq p c.p with
    | true => rw [hb] at h; injection h with h; exact ⟨c, by simp, Nat.eq_of_beq_eq_true hb, h.symm⟩
    | false =>
      rw [hb] at h
      obtain ⟨c', h1, h2⟩ := findCut_mem (show findCut k cl p = some cut from h)
      exact ⟨c', by simp [h1], h2⟩

theorem allCuts_ok (hcx : CxOk G P cx) (hgk : GOk G B) (hA : ∀ j v, B.A j = some v → j < anch) {cl : List (CutF α)} {root : Code} {Q0 : QP α} {K0 : KC α} (h0 : QFine Q0) (hK0 : KOk B n K0 Q0) (hcl : CutsAre cx n anch cl root K0) :
    ∀ k, AllCuts P B n (findCut k cl) root Q0
  | 0 => fun π code Q hn cut hcut x r hx => by
    obtain ⟨c, hc, _, rfl⟩ := findCut_mem hcut
    rw [show (⟨c.tm, c.ts, c.F 0⟩ : Cut α).F = c.F 0 from rfl, hcl.zero c hc x] at hx
    cases hx
  | k + 1 => fun π code Q hn cut hcut x r hx s hs a w hsat => by
    have ih := allCuts_ok hcx hgk hA h0 hK0 hcl k
    obtain ⟨c, hc, hp, rfl⟩ := findCut_mem hcut
    rw [show (⟨c.tm, c.ts, c.F (k + 1)⟩ : Cut α).F = c.F (k + 1) from rfl, hcl.next c hc k x] at hx
    unfold runK at hx
    rw [show mkT c.tm (toL c.ts x) = some s from hs] at hx
    simp only at hx
    split at hx
    · rename_i code' p' K' hnav
      have hπ : c.path = π := encP_inj ((hcl.enc c hc).symm.trans hp.symm)
      obtain ⟨Q', hq, hp', hK⟩ := nav_ok hcx hgk hA h0 ih hK0 hnav
      rw [hπ] at hq hp'
      rw [hn] at hq
      injection hq with hq
      injection hq with hq1 hq2
      subst hq1 hq2
      rw [hp'] at hx
      exact body_ok hcx hgk hA h0 ih code π Q K' s.e s.rs s.c a w r hn hK hx hsat
    · cases hx

/-- a function's code from its start -/
theorem code_ok (hcx : CxOk G P cx) (hgk : GOk G B) (hA : ∀ j v, B.A j = some v → j < anch) {cl : List (CutF α)} {root : Code} {Q0 : QP α} {K0 : KC α} (h0 : QFine Q0) (hK0 : KOk B n K0 Q0) (hcl : CutsAre cx n anch cl root K0) {k : Nat} {s : St} {r : α} {a : Act} {w : World}
    (h : orCut (findCut k cl 1) anch s.e s.rs s.c (bodyK cx n anch (findCut k cl) root 1 s.e s.rs s.c K0) = some r) (hs : SatA B n s a w) : root.wp P (Q0 r) a w := by
  have hc := allCuts_ok hcx hgk hA h0 hK0 hcl k
  exact orCut_ok (Q := Q0) hA h hs (hc [] root Q0 rfl) fun h => body_ok hcx hgk hA h0 hc root [] Q0 K0 s.e s.rs s.c a w r rfl hK0 h hs
end
end Go.Sx

namespace Go.Sx
open Go
variable {G : Gl}
set_option linter.unusedVariables false
set_option linter.unusedSimpArgs false

def resVals {α : Type} (Γ : Nat → Option TI) (rs : Rs) (e : Nat → AV) : List ResultVar → (List CV → Option α) → Option α
  | [], k => k []
  | .tmp t :: r, k => (match e t with | .c v => resVals Γ rs e r (fun l => k (v :: l)) | _ => none)
  | .cell a t :: r, k => loadK Γ rs t (e a) (fun v _ => match v with | .c v => resVals Γ rs e r (fun l => k (v :: l)) | _ => none)

def oneResult (tmps : Array Value) : ResultVar → Sem Value
  | .tmp t => pure (tmps.getD t undef)
  | .cell a t => do loadVar t (← asAddr (tmps.getD a undef))

section
variable {α : Type} {P : Program} {cx : Cx}

theorem resVals_ok {Γ : Nat → Option TI} (hΓ : TyOk P Γ) {rs : Rs} {e : Nat → AV} : ∀ {l : List ResultVar} {k : List CV → Option α} {r : α}, resVals Γ rs e l k = some r → ∃ cvs, k cvs = some r ∧
    ∀ F R w (tmps : Array Value), Sat F R w rs → EnvR R F w e tmps → ∃ vs : List Value, (l.mapM (oneResult tmps)).run P w = .ok vs w ∧ All2 (CR R F w) cvs vs
  | [], k, r, h => ⟨[], h, fun F R w tmps hs he => ⟨[], rfl, .nil⟩⟩
  | .tmp t :: l, k, r, h => by
    unfold resVals at h
    split at h
    · rename_i v hv
      obtain ⟨cvs, hk, hr⟩ := resVals_ok hΓ h
      refine ⟨v :: cvs, hk, fun F R w tmps hs he => ?_⟩
      obtain ⟨vs, h1, h2⟩ := hr F R w tmps hs he
      have h3 := he t
      rw [hv] at h3
      refine ⟨tmps.getD t undef :: vs, ?_, .cons h3 h2⟩
      rw [List.mapM_cons]
      have : (oneResult tmps (.tmp t)).run P w = .ok (tmps.getD t undef) w := rfl
      rw [bind_ok this, bind_ok h1]; rfl
    · cases h
  | .cell a t :: l, k, r, h => by
    unfold resVals at h
    have hop : ∃ out ids, (fun (v : AV) (_ : List Nat) => (match v with | .c v => resVals Γ rs e l (fun l => k (v :: l)) | _ => none)) out ids = some r ∧ Quiet Gl.triv P (.load t (.tmp a)) 0 (evA e) rs out ids :=
      loadK_ok (G := Gl.triv) hΓ (a := .tmp a) (ρA := evA e) h
    obtain ⟨out, ids, hk, hq⟩ := hop
    simp only at hk
    split at hk
    · rename_i v
      obtain ⟨cvs, hk, hr⟩ := resVals_ok hΓ hk
      refine ⟨v :: cvs, hk, fun F R w tmps hs he => ?_⟩
      obtain ⟨vs, h1, h2⟩ := hr F R w tmps hs he
      obtain ⟨u, hu, hv⟩ := hq F R w (Act.eval ⟨tmps, []⟩) (fun j _ => hs.ok j) ⟨fun x => evA_env (a := ⟨tmps, []⟩) he x, fun _ => rfl, trivial⟩ { dst := none, op := .load t (.tmp a), type := 0, pos := "", after := #[], guard := none } rfl rfl
      have hu' : (Instr.loadAt t (tmps.getD a undef)).run P w = .ok u w := by
        unfold execOp at hu
        simp only at hu
        rw [run_bind'] at hu
        have : Act.eval ⟨tmps, []⟩ (.tmp a) = tmps.getD a undef := rfl
        rw [this] at hu
        generalize (Instr.loadAt t (tmps.getD a undef)).run P w = res at hu ⊢
        cases res with
        | ok v' w' =>
          have : Result.ok (Next.value v') w' = Result.ok (Next.value u) w := hu
          injection this with h1 h2
          injection h1 with h1
          rw [h1, h2]
        | halt x w' => cases hu
      refine ⟨u :: vs, ?_, .cons hv h2⟩
      rw [List.mapM_cons]
      have : (oneResult tmps (.cell a t)).run P w = .ok u w := by
        show (do loadVar t (← asAddr (tmps.getD a undef)) : Sem Value).run P w = _
        generalize tmps.getD a undef = v0 at hu' ⊢
        cases v0 with
        | pointer p => cases p <;> first | exact hu' | cases hu'
        | _ => cases hu'
      rw [bind_ok this, bind_ok h1]; rfl
    · cases hk

theorem run_results {fn : Func} {tmps : Array Value} {vs : List Value} {w : World} (h : (fn.results.toList.mapM (oneResult tmps)).run P w = .ok vs w) :
    (results fn tmps).run P w = .ok (if h : vs.toArray.size = 1 then vs.toArray[0] else .tuple vs.toArray) w := by
  have h1 : (fn.results.mapM (oneResult tmps)).run P w = .ok vs.toArray w := by
    rw [Array.mapM_eq_mapM_toList]
    show (List.toArray <$> fn.results.toList.mapM (oneResult tmps)).run P w = _
    rw [map_eq_pure_bind, bind_ok h]; rfl
  have h3 : results fn tmps = (fn.results.mapM (oneResult tmps) >>= fun vs => pure (if h : vs.size = 1 then vs[0] else .tuple vs)) := by
    unfold results
    refine congrArg (fun m => m >>= _) ?_
    refine congrArg (fun g => Array.mapM g fn.results) ?_
    funext x; cases x <;> rfl
  rw [h3, bind_ok h1]
  rfl

/-- numbers 0, 1, .. -/
def slotsAre : List (Nat × CF) → Nat → Bool
  | [], _ => true
  | (t, _) :: r, i => Nat.beq t i && slotsAre r (i + 1)

def cvAt : List CV → Nat → AV
  | [], _ => .none
  | v :: r, i => (match i with | 0 => .c v | j + 1 => cvAt r j)

/-- a function gives its results -/
def retK (cx : Cx) (anch : Nat) (sig : Sig) (res : List ResultVar) : KC (Den sig.us) := fun x e rs c =>
  match x with
  | .exit _ => none
  | _ => resVals cx.Γ rs e res fun cvs =>
    cond (Nat.beq cvs.length sig.out.slots.length)
      (match settle sig.out anch (cvAt cvs) rs c with
       | some l => ofL sig.us l
       | none => none) none

theorem mkE_at : ∀ {fs : List (Nat × CF)} {l r : List Dat} {as : List (Nat × CV)} {i : Nat}, mkE fs l = some (as, r) → slotsAre fs i = true → as.length = fs.length ∧ ∀ j, lookE as (i + j) = cvAt (as.map Prod.snd) j
  | [], l, r, as, i, h, _ => by injection h with h; injection h with h1 h2; subst h1; exact ⟨rfl, fun j => rfl⟩
  | (t, f) :: fs, l, r, as, i, h, hs => by
    simp only [mkE] at h
    simp only [slotsAre, Bool.and_eq_true] at hs
    split at h
    · rename_i a1 l1 h1
      split at h
      · rename_i as2 l2 h2
        injection h with h; injection h with h3 h4; subst h3
        obtain ⟨k1, k2⟩ := mkE_at (i := i + 1) h2 hs.2
        refine ⟨by simp [k1], fun j => ?_⟩
        have ht := Nat.eq_of_beq_eq_true hs.1
        subst ht
        cases j with
        | zero => simp [lookE, cvAt]
        | succ j =>
          simp only [lookE, List.map_cons, cvAt]
          have : Nat.beq (t + (j + 1)) t = false := by
            rw [Bool.eq_false_iff]; intro e; have := Nat.eq_of_beq_eq_true e; omega
          rw [this]
          have h5 := k2 j
          rw [show t + 1 + j = t + (j + 1) by omega] at h5
          exact h5
      · cases h
    · cases h

theorem cvAt_all {R : Nat → RV} {F : Nat → Prop} {w : World} : ∀ {cvs : List CV} {vs : List Value}, cvs.length = vs.length → (∀ j, VR R F w (cvAt cvs j) (vs.toArray.getD j undef)) → All2 (CR R F w) cvs vs
  | [], [], _, _ => .nil
  | v :: cvs, u :: vs, hl, h => by
    refine .cons (h 0) (cvAt_all (by simpa using hl) fun j => ?_)
    have := h (j + 1)
    simp only [cvAt, Array.getD_eq_getD_getElem?, List.getElem?_toArray, List.getElem?_cons_succ] at this ⊢
    exact this
  | [], _ :: _, hl, _ => by simp at hl
  | _ :: _, [], hl, _ => by simp at hl

theorem cvAt_env {R : Nat → RV} {F : Nat → Prop} {w : World} : ∀ {cvs : List CV} {vs : List Value}, All2 (CR R F w) cvs vs → EnvR R F w (cvAt cvs) vs.toArray
  | [], [], .nil, t => trivial
  | v :: cvs, u :: vs, .cons h1 h2, 0 => h1
  | v :: cvs, u :: vs, .cons h1 h2, t + 1 => by
    have := cvAt_env h2 t
    simpa [cvAt, Array.getD_eq_getD_getElem?] using this

def postQ (P : Program) (fn : Func) (sig : Sig) (B : Base) : QP (Den sig.us) := fun r e a w =>
  match e with
  | .normal | .ret => a.defers = [] ∧ ∃ v, (results fn a.tmps).run P w = .ok v w ∧ Post sig B r v w
  | _ => False

theorem postQ_fine {fn : Func} {sig : Sig} {B : Base} : QFine (postQ P fn sig B) := fun r => ⟨fun a w h => h, fun l a w h => h⟩

theorem ret_ok (hcx : CxOk G P cx) {fn : Func} {sig : Sig} {anch n : Nat} {B : Base} (hA : ∀ j v, B.A j = some v → j < anch) (hsl : slotsAre sig.out.slots 0 = true) : KOk B n (retK cx anch sig fn.results.toList) (postQ P fn sig B) := by
  intro x e rs c a w r h hs
  have main : (resVals cx.Γ rs e fn.results.toList fun cvs => cond (Nat.beq cvs.length sig.out.slots.length) (match settle sig.out anch (cvAt cvs) rs c with | some l => ofL sig.us l | none => none) none) = some r →
      a.defers = [] ∧ ∃ v, (results fn a.tmps).run P w = .ok v w ∧ Post sig B r v w := by
    intro h
    obtain ⟨cvs, hk, hr⟩ := resVals_ok hcx.ty h
    obtain ⟨hlen, hk⟩ := cond_t hk
    have hlen := Nat.eq_of_beq_eq_true hlen
    split at hk
    · rename_i l hl
      obtain ⟨F, R, s1, s2, s3, s4⟩ := hs.sat
      obtain ⟨vs, hrun, hall⟩ := hr F R w a.tmps s1 s3
      obtain ⟨s', hmk, hset⟩ := settle_ok hl
      obtain ⟨F1, R1, t1, t2, t3, t4⟩ := hset B vs.toArray w hA ⟨F, R, s1, s2, cvAt_env hall, s4⟩
      refine ⟨hs.defers, _, run_results hrun, ?_⟩
      have hto := toL_ofL hk
      unfold mkT at hmk
      split at hmk
      · rename_i rts l1 hm1
        split at hmk
        · rename_i es hm2
          injection hmk with hmk
          subst hmk
          obtain ⟨k1, k2⟩ := mkE_at hm2 hsl
          refine ⟨rts, es.map Prod.snd, by unfold mkO; rw [hto, hm1]; simp only; rw [hm2], F1, R1, t1, t2, ?_⟩
          have hcl := hall.length
          have hall2 : All2 (CR R1 F1 w) (es.map Prod.snd) vs := cvAt_all (by rw [List.length_map, k1, ← hcl, hlen]) fun j => by
            have := t3 j
            simp only at this
            rw [← k2 j, Nat.zero_add]; exact this
          generalize es.map Prod.snd = cs at hall2
          cases hall2 with
          | nil => trivial
          | cons h1 h2 =>
            cases h2 with
            | nil => exact h1
            | cons h3 h4 => exact ⟨_, by rw [dif_neg (by simp)], .cons h1 (.cons h3 h4)⟩
        · cases hmk
      · cases hmk
    · cases hk
  cases x with
  | normal => exact main h
  | ret => exact main h
  | exit id => cases h

/-- numbers of the arguments' temporaries -/
structure FnIs (P : Program) (f : FuncId) (sig : Sig) (fn : Func) (body : Code) : Prop where
  isFn : P.funcs[f]? = some fn
  isBody : fn.body = some body
  name : (fn.name == "runtime.NumGoroutine") = false
  args : sig.n ≤ fn.ntmps
  slots : slotsAre sig.out.slots 0 = true
  wf : sig.out.wf = true
  le : sig.inn.roots.length ≤ sig.out.roots.length

/-- A function keeps to what its code does to abstract values. -/
theorem fn_ok (hcx : CxOk G P cx) {f : FuncId} {sig : Sig} {fn : Func} {body : Code} (hf : FnIs P f sig fn body) {cl : List (CutF (Den sig.us))}
    (hcl : CutsAre cx fn.ntmps sig.inn.roots.length cl body (retK cx sig.inn.roots.length sig fn.results.toList)) {k : Nat} {F : Den sig.ts → Option (Den sig.us)}
    (hF : ∀ x, F x = (match mkT sig.inn (toL sig.ts x) with
      | some s => orCut (findCut k cl 1) sig.inn.roots.length s.e s.rs s.c (bodyK cx fn.ntmps sig.inn.roots.length (findCut k cl) body 1 s.e s.rs s.c (retK cx sig.inn.roots.length sig fn.results.toList))
      | none => none)) : Meets G P f sig F := by
  refine ⟨hf.wf, hf.le, fun x r hx s hs => ?_⟩
  rw [hF x, hs] at hx
  simp only at hx
  have hsc : s.c = sig.inn.roots.length := by
    unfold mkT at hs
    split at hs
    · split at hs
      · injection hs with hs; subst hs; rfl
      · cases hs
    · cases hs
  intro F0 R0 w0 args h1 h2 h3 h4 h5 h6g
  have hgk : GOk G (BaseOf F0 R0 w0 sig.inn.roots.length) := fun F R w hs => G.mono h6g hs.sub fun b hb => hs.rest b (h1.Flt b hb) fun ⟨j, hj⟩ => h1.nF j b hj hb
  unfold Runs
  have hcall : (callFunc f args).run P w0 = .ok (.enter f args) w0 := by
    unfold callFunc program
    simp [bind, Sem.bind, Sem.run, hf.isFn, hf.name, hf.isBody, pure]
    have := hf.name
    simp at this
    simp [this, Sem.run]
  rw [hcall]
  simp only
  refine calls_of_wp hf.isFn hf.isBody ?_
  have hA : ∀ j v, (BaseOf F0 R0 w0 sig.inn.roots.length).A j = some v → j < sig.inn.roots.length := by
    intro j v hv
    have : (if j < sig.inn.roots.length then some (R0 j).hdr else none) = some v := hv
    split at this
    · assumption
    · cases this
  have hwp := code_ok (n := fn.ntmps) (B := BaseOf F0 R0 w0 sig.inn.roots.length) hcx hgk hA (postQ_fine (P := P) (fn := fn) (sig := sig)) (ret_ok hcx hA hf.slots) hcl (a := ⟨args ++ Array.replicate (fn.ntmps - args.size) undef, []⟩) (w := w0) hx
    ⟨⟨F0, R0, h1, ⟨fun _ _ _ => rfl, fun j b hb => .inl ⟨j, hb⟩, fun b hb => .inl hb, fun b hb => hb, Nat.le_refl _, rfl, rfl, rfl, fun j v hv => ?_⟩, fun t => ?_, fun j hj => h2 j (by rw [← hsc]; exact hj)⟩, ?_, rfl⟩
  · refine wp_mono hwp fun e a w hq => ?_
    cases e with
    | normal => obtain ⟨q1, v, q2, q3⟩ := hq; exact ⟨q1, v, q2, v, rfl, q3⟩
    | ret => obtain ⟨q1, v, q2, q3⟩ := hq; exact ⟨q1, v, q2, v, rfl, q3⟩
    | _ => exact hq.elim
  · have : (if j < sig.inn.roots.length then some (R0 j).hdr else none) = some v := hv
    split at this
    · rename_i hj; injection this with this; exact ⟨h5 j hj, this⟩
    · cases this
  · have h6 := h3 t
    have : (args ++ Array.replicate (fn.ntmps - args.size) undef).getD t undef = args.getD t undef := by
      simp only [Array.getD_eq_getD_getElem?]
      by_cases ht : t < args.size
      · rw [Array.getElem?_append_left ht]
      · rw [Array.getElem?_append_right (by omega), Array.getElem?_eq_none (by omega : args.size ≤ t)]
        rw [Array.getElem?_replicate]
        split <;> rfl
    simp only [this]; exact h6
  · have := hf.args
    simp; omega
end
end Go.Sx

namespace Go.Sx
open Go

def lookΓ : List (Nat × TI) → Nat → Option TI
  | [], _ => none
  | (t, i) :: r, x => cond (Nat.beq x t) (some i) (lookΓ r x)

theorem lookΓ_mem : ∀ {l : List (Nat × TI)} {t : Nat} {i : TI}, lookΓ l t = some i → (t, i) ∈ l
  | [], t, i, h => by cases h
  | (t', i') :: r, t, i, h => by
    unfold lookΓ at h
    cases hb : Nat.beq t t' with
    | true =>
      rw [hb] at h
      have h : some i' = some i := h
      injection h with h
      rw [Nat.eq_of_beq_eq_true hb, h]; simp
    | false =>
      rw [hb] at h
      exact List.mem_cons_of_mem _ (lookΓ_mem (show lookΓ r t = some i from h))

theorem tyOk_of {P : Program} {l : List (Nat × TI)} (h : (l.all fun p => tyCheck P p.1 p.2) = true) : TyOk P (lookΓ l) :=
  ⟨fun t i ht => List.all_eq_true.1 h (t, i) (lookΓ_mem ht)⟩

def lookC : List (Nat × Contract) → Nat → List Contract
  | [], _ => []
  | (t, i) :: r, x => cond (Nat.beq x t) (i :: lookC r x) (lookC r x)

theorem lookC_mem : ∀ {l : List (Nat × Contract)} {t : Nat} {i : Contract}, i ∈ lookC l t → (t, i) ∈ l
  | [], t, i, h => by cases h
  | (t', i') :: r, t, i, h => by
    unfold lookC at h
    cases hb : Nat.beq t t' with
    | true =>
      rw [hb] at h
      have h : i ∈ i' :: lookC r t := h
      rcases List.mem_cons.1 h with e | e
      · rw [Nat.eq_of_beq_eq_true hb, e]; simp
      · exact List.mem_cons_of_mem _ (lookC_mem e)
    | false =>
      rw [hb] at h
      exact List.mem_cons_of_mem _ (lookC_mem (show i ∈ lookC r t from h))
end Go.Sx

namespace Go.Sx
open Go
variable {G : Gl}

def bodyOf (fn : Func) : Code := match fn.body with | some c => c | none => .skip

noncomputable def runF (cx : Cx) (fn : Func) (sig : Sig) (cl : List (CutF (Den sig.us))) (k : Nat) (π : List Bool) (tm : Tmpl) (ts : List T) (x : Den ts) : Option (Den sig.us) :=
  runK cx fn.ntmps sig.inn.roots.length (findCut k cl) (bodyOf fn) (retK cx sig.inn.roots.length sig fn.results.toList) π tm ts x

noncomputable def startF (cx : Cx) (fn : Func) (sig : Sig) (cl : List (CutF (Den sig.us))) (k : Nat) (x : Den sig.ts) : Option (Den sig.us) :=
  match mkT sig.inn (toL sig.ts x) with
  | some s => orCut (findCut k cl 1) sig.inn.roots.length s.e s.rs s.c (bodyK cx fn.ntmps sig.inn.roots.length (findCut k cl) (bodyOf fn) 1 s.e s.rs s.c (retK cx sig.inn.roots.length sig fn.results.toList))
  | none => none

def CutL (cx : Cx) (fn : Func) (sig : Sig) (cl : List (CutF (Den sig.us))) : List (CutF (Den sig.us)) → Prop
  | [] => True
  | c :: r => (c.p = encP c.path ∧ (∀ x, c.F 0 x = none) ∧ ∀ k x, c.F (k + 1) x = runF cx fn sig cl k c.path c.tm c.ts x) ∧ CutL cx fn sig cl r

def fnChk (fn : Func) (sig : Sig) : Bool :=
  fn.body.isSome && !(fn.name == "runtime.NumGoroutine") && Nat.ble sig.n fn.ntmps && slotsAre sig.out.slots 0 && sig.out.wf && Nat.ble sig.inn.roots.length sig.out.roots.length

theorem CutL.mem {cx : Cx} {fn : Func} {sig : Sig} {cl : List (CutF (Den sig.us))} : ∀ {l : List (CutF (Den sig.us))}, CutL cx fn sig cl l → ∀ c ∈ l, c.p = encP c.path ∧ (∀ x, c.F 0 x = none) ∧ ∀ k x, c.F (k + 1) x = runF cx fn sig cl k c.path c.tm c.ts x
  | [], _, c, hc => by cases hc
  | c' :: l, h, c, hc => by
    rcases List.mem_cons.1 hc with e | e
    · rw [e]; exact h.1
    · exact CutL.mem h.2 c e

theorem fn_is {P : Program} {cx : Cx} (hcx : CxOk G P cx) {f : FuncId} {fn : Func} {sig : Sig} (hf : P.funcs[f]? = some fn) (hchk : fnChk fn sig = true) {cl : List (CutF (Den sig.us))} (hcl : CutL cx fn sig cl cl)
    {k : Nat} {F : Den sig.ts → Option (Den sig.us)} (hF : ∀ x, F x = startF cx fn sig cl k x) : Meets G P f sig F := by
  simp only [fnChk, Bool.and_eq_true, Bool.not_eq_true', Option.isSome_iff_exists] at hchk
  obtain ⟨⟨⟨⟨⟨⟨body, hb⟩, hn⟩, hsz⟩, hsl⟩, hw⟩, hle⟩ := hchk
  have hbo : bodyOf fn = body := by unfold bodyOf; rw [hb]
  refine fn_ok hcx (fn := fn) (body := body) ⟨hf, hb, hn, Nat.ble_eq.mp hsz, hsl, hw, Nat.ble_eq.mp hle⟩ (cl := cl) ⟨fun c hc => (hcl.mem c hc).1, fun c hc => (hcl.mem c hc).2.1, fun c hc k x => ?_⟩ (k := k) (fun x => ?_)
  · rw [(hcl.mem c hc).2.2 k x]; unfold runF; rw [hbo]
  · rw [hF x]; unfold startF; rw [hbo]
    try (cases mkT sig.inn (toL sig.ts x) <;> rfl)

/-- the contracts of a list keep -/
def ConL (G : Gl) (P : Program) : List (Nat × Contract) → Prop
  | [] => True
  | (f, c) :: r => Meets G P f c.sig c.F ∧ ConL G P r

theorem ConL.mem {P : Program} : ∀ {l : List (Nat × Contract)}, ConL G P l → ∀ {f : Nat} {c : Contract}, (f, c) ∈ l → Meets G P f c.sig c.F
  | [], _, f, c, h => by cases h
  | (f', c') :: l, h, f, c, hm => by
    rcases List.mem_cons.1 hm with e | e
    · injection e with e1 e2; subst e1 e2; exact h.1
    · exact ConL.mem h.2 e

theorem cx_is {P : Program} {win : Bool} {Γ : List (Nat × TI)} (hΓ : TyOk P (lookΓ Γ)) (hm : P.follows .mixedOrders = true) {l : List (Nat × Contract)} (h : ConL G P l) : CxOk G P ⟨lookΓ Γ, lookC l, win⟩ :=
  ⟨hΓ, fun _ _ hc => h.mem (lookC_mem hc), hm⟩

/-! ### Words for data -/
/-- a value shared -/
@[reducible] def lett {α β : Type} (e : α) (f : α → β) : β := f e
abbrev w64 (x : Int) : Int := IntKind.wrap .i64 x
abbrev wr (k : IntKind) (x : Int) : Int := IntKind.wrap k x
abbrev andI (k : IntKind) (x y : Int) : Int := IntKind.wrap k (BitVec.ofInt k.bits x &&& BitVec.ofInt k.bits y).toNat
abbrev orI (k : IntKind) (x y : Int) : Int := IntKind.wrap k (BitVec.ofInt k.bits x ||| BitVec.ofInt k.bits y).toNat
abbrev xorI (k : IntKind) (x y : Int) : Int := IntKind.wrap k (BitVec.ofInt k.bits x ^^^ BitVec.ofInt k.bits y).toNat
abbrev notI (k : IntKind) (x : Int) : Int := IntKind.wrap k (BitVec.ofInt k.bits (if k.signed then -1 else k.max) ^^^ BitVec.ofInt k.bits x).toNat
abbrev shlI (k : IntKind) (x y : Int) : Int := IntKind.wrap k (x * 2 ^ (min y.toNat k.bits))
abbrev shrI (k : IntKind) (x y : Int) : Int := Int.fdiv x (2 ^ (min y.toNat k.bits))
abbrev sEq (x y : ByteArray) : Bool := ByteArray.toList x == ByteArray.toList y
abbrev sLt (x y : ByteArray) : Bool := Op.bytesLess (ByteArray.toList x) (ByteArray.toList y)
abbrev sLen (x : ByteArray) : Int := (ByteArray.size x : Int)
abbrev lLen {α : Type} (x : List α) : Int := (List.length x : Int)
abbrev cutS (s : ByteArray) (l h : Nat) : ByteArray := ByteArray.extract s l h
abbrev cutL {α : Type} (x : List α) (l h : Nat) : List α := List.drop l (List.take h x)
abbrev getL {α : Type} (x : List α) (i : Int) (z : α) : α := List.getD x (Int.toNat i) z
end Go.Sx

namespace Go.Sx
open Go Go.RowKit
set_option linter.unusedVariables false
set_option linter.unusedSimpArgs false

theorem runs_calls {P : Program} {f : FuncId} {fn : Func} {args : Array Value} {w : World} {Q : Value → World → Prop} (hf : P.funcs[f]? = some fn) (hb : fn.body.isSome = true) (hn : (fn.name == "runtime.NumGoroutine") = false)
    (h : Runs P f args w Q) : Calls P f args w fun e w' => ∃ v, e = .returned v ∧ Q v w' := by
  have hcall : (callFunc f args).run P w = .ok (.enter f args) w := by
    obtain ⟨body, hb⟩ := Option.isSome_iff_exists.1 hb
    unfold callFunc program
    simp [bind, Sem.bind, Sem.run, hf, hb, pure]
    simp at hn
    simp [hn, Sem.run]
  unfold Runs at h
  rw [hcall] at h
  exact h

/-- what came in is read-only -/
abbrev R0 : Nat → RV := fun _ => ⟨false, undef, []⟩
abbrev old (W : World) : Nat → Prop := fun b => b < W.heap.size

theorem law_walkG {G : Gl} {P : Program} {f : FuncId} {fn : Func} {n : Nat} {slots : List (Nat × CF)} {ts : List T} {F : Den ts → Option (Den [.bool])}
    (hm : Meets G P f ⟨n, ⟨[], slots⟩, ts, ⟨[], [(0, .l (.dat .bool))]⟩, [.bool]⟩ F) (hf : P.funcs[f]? = some fn) (hb : fn.body.isSome = true) (hn : (fn.name == "runtime.NumGoroutine") = false)
    {x : Den ts} {b : Bool} (hF : F x = some (b, ())) {es : List (Nat × CV)} (hs : mkE slots (toL ts x) = some (es, [])) {args : Array Value} {W : World}
    (hsz : args.size = n) (hv : ∀ t, VR R0 (old W) W (lookE es t) (args.getD t undef)) (hg : G.p (old W) W) : Calls P f args W fun e W' => e = .returned (.bool b) ∧ Below W.heap.size W W' := by
  have h := hm.ok x (b, ()) hF ⟨lookE es, lookR [], 0⟩ (by show (match mkE slots (toL ts x) with | some (e, []) => some _ | _ => none) = _; rw [hs]; rfl) (old W) R0 W args
    ⟨fun j => rfl, fun j => List.nodup_nil, fun i j _ b hb => by (cases hb), fun j b hb => by (cases hb), fun j b hb => by (cases hb), fun b hb => hb⟩ (fun j _ => ⟨rfl, rfl⟩) hv hsz (fun j hj => by (cases hj)) hg
  refine (runs_calls hf hb hn h).mono fun e W' ⟨v, he, rts, cvs, hmo, F1, R1, hs1, hsi, hr⟩ => ?_
  have hmo' : some (([] : List Root), [CV.l (.dat .bool b)]) = some (rts, cvs) := hmo
  injection hmo' with hmo'
  injection hmo' with h1 h2
  subst h1 h2
  have hvb := VR_bool (show VR R1 F1 W' (dB b) v from hr)
  rw [he, hvb]
  exact ⟨rfl, hsi.os, hsi.tape, hsi.output, hsi.size, fun k hk => hsi.rest k hk fun ⟨j, hj⟩ => by cases hj⟩

theorem law_walk {P : Program} {f : FuncId} {fn : Func} {n : Nat} {slots : List (Nat × CF)} {ts : List T} {F : Den ts → Option (Den [.bool])}
    (hm : Meets Gl.triv P f ⟨n, ⟨[], slots⟩, ts, ⟨[], [(0, .l (.dat .bool))]⟩, [.bool]⟩ F) (hf : P.funcs[f]? = some fn) (hb : fn.body.isSome = true) (hn : (fn.name == "runtime.NumGoroutine") = false)
    {x : Den ts} {b : Bool} (hF : F x = some (b, ())) {es : List (Nat × CV)} (hs : mkE slots (toL ts x) = some (es, [])) {args : Array Value} {W : World}
    (hsz : args.size = n) (hv : ∀ t, VR R0 (old W) W (lookE es t) (args.getD t undef)) : Calls P f args W fun e W' => e = .returned (.bool b) ∧ Below W.heap.size W W' :=
  law_walkG hm hf hb hn hF hs hsz hv trivial

theorem cap_str {s : ByteArray} {n : Nat} (h : s.size ≤ n) (hn : n ≤ cap) : s.size ≤ cap := Nat.le_trans h hn
end Go.Sx

namespace Go.Sx
open Go
set_option linter.unusedVariables false
set_option linter.unusedSimpArgs false

theorem wr_ok {k : IntKind} {x : Int} (h : if k.signed then -(2 ^ (k.bits - 1) : Int) ≤ x ∧ x < 2 ^ (k.bits - 1) else 0 ≤ x ∧ x < 2 ^ k.bits) : wr k x = x := (wrap_iff k x).2 h

theorem w64_ok {x : Int} (h1 : -9223372036854775808 ≤ x) (h2 : x < 9223372036854775808) : IntKind.wrap .i64 x = x := by
  rw [wrap_iff]; simp only [IntKind.signed, IntKind.bits]; simp; omega

theorem u32_ok {x : Int} (h1 : 0 ≤ x) (h2 : x < 4294967296) : IntKind.wrap .u32 x = x := by
  rw [wrap_iff]; simp only [IntKind.signed, IntKind.bits]; simp; omega

theorem bv_nat {w n : Nat} (h : n < 2 ^ w) : (BitVec.ofInt w (n : Int)).toNat = n := by
  simp [BitVec.toNat_ofInt]
  exact Nat.mod_eq_of_lt h

theorem xor_i64 {a b : Nat} (ha : a < 2 ^ 63) (hb : b < 2 ^ 63) : xorI .i64 (a : Int) (b : Int) = ((a ^^^ b : Nat) : Int) := by
  unfold xorI
  rw [BitVec.toNat_xor, bv_nat (Nat.lt_of_lt_of_le ha (by decide)), bv_nat (Nat.lt_of_lt_of_le hb (by decide))]
  have := Nat.xor_lt_two_pow ha hb
  exact w64_ok (by omega) (by omega)

theorem xor_u32 {a b : Nat} (ha : a < 2 ^ 32) (hb : b < 2 ^ 32) : xorI .u32 (a : Int) (b : Int) = ((a ^^^ b : Nat) : Int) := by
  unfold xorI
  rw [BitVec.toNat_xor, bv_nat (w := IntKind.u32.bits) ha, bv_nat (w := IntKind.u32.bits) hb]
  have := Nat.xor_lt_two_pow ha hb
  exact u32_ok (by omega) (by omega)

theorem and_u32 {a b : Nat} (ha : a < 2 ^ 32) (hb : b < 2 ^ 32) : andI .u32 (a : Int) (b : Int) = ((a &&& b : Nat) : Int) := by
  unfold andI
  rw [BitVec.toNat_and, bv_nat (w := IntKind.u32.bits) ha, bv_nat (w := IntKind.u32.bits) hb]
  have : a &&& b ≤ a := Nat.and_le_left
  exact u32_ok (by omega) (by omega)

theorem not_u32 {a : Nat} (ha : a < 2 ^ 32) : notI .u32 (a : Int) = ((a ^^^ 4294967295 : Nat) : Int) := by
  have := xor_u32 (show 4294967295 < 2 ^ 32 by decide) ha
  rw [Nat.xor_comm] at this
  exact this

theorem shr_u32 {a : Nat} : shrI .u32 (a : Int) 1 = ((a / 2 : Nat) : Int) := by
  unfold shrI
  show Int.fdiv (a : Int) (2 ^ 1) = _
  rw [Int.fdiv_eq_ediv_of_nonneg _ (by decide)]
  omega

theorem byteAt_nat (s : ByteArray) (i : Int) : byteAt s i = (((s.data.getD i.toNat 0).toNat : Nat) : Int) := rfl
end Go.Sx

namespace Go.Sx
open Go
set_option linter.unusedVariables false
set_option linter.unusedSimpArgs false

/-- it answers, and what it answers is such -/
def Ok {α : Type} (o : Option α) (P : α → Prop) : Prop := ∃ y, o = some y ∧ P y

theorem Ok.mono {α : Type} {o : Option α} {P Q : α → Prop} (h : Ok o P) (i : ∀ y, P y → Q y) : Ok o Q := by
  obtain ⟨y, e, p⟩ := h
  exact ⟨y, e, i y p⟩
theorem ok_some {α : Type} {y : α} {P : α → Prop} (h : P y) : Ok (some y) P := ⟨y, rfl, h⟩
theorem ok_bind {α β : Type} {o : Option α} {f : α → Option β} {Q : α → Prop} {P : β → Prop} (h : Ok o Q) (i : ∀ y, Q y → Ok (f y) P) : Ok (Option.bind o f) P := by
  obtain ⟨y, e, p⟩ := h
  rw [e]
  exact i y p
theorem ok_eq {α : Type} {o : Option α} {y : α} {P : α → Prop} (h : o = some y) (p : P y) : Ok o P := ⟨y, h, p⟩
theorem ok_lett {α β : Type} {e : α} {f : α → Option β} {P : β → Prop} (h : ∀ v, v = e → Ok (f v) P) : Ok (lett e f) P := h e rfl
theorem ok_chk {α : Type} {p : Prop} [Decidable p] {x y : Option α} {P : α → Prop} (h : p) (hx : Ok x P) : Ok (cond (decide p) x y) P := by
  rw [decide_eq_true h]; exact hx
theorem ok_if {α : Type} {p : Prop} [Decidable p] {x y : Option α} {P : α → Prop} (hx : p → Ok x P) (hy : ¬ p → Ok y P) : Ok (cond (decide p) x y) P := by
  by_cases h : p
  · rw [decide_eq_true h]; exact hx h
  · rw [decide_eq_false h]; exact hy h
theorem ok_cond {α : Type} {b : Bool} {x y : Option α} {P : α → Prop} (hx : b = true → Ok x P) (hy : b = false → Ok y P) : Ok (cond b x y) P := by
  cases b
  · exact hy rfl
  · exact hx rfl
theorem ok_ieq {α : Type} {a b : Int} {x y : Option α} {P : α → Prop} (hx : a = b → Ok x P) (hy : a ≠ b → Ok y P) : Ok (cond (a == b) x y) P :=
  ok_cond (fun h => hx (by simpa using h)) (fun h => hy (by simpa using h))
theorem ok_ine {α : Type} {a b : Int} {x y : Option α} {P : α → Prop} (h : a ≠ b) (hy : Ok y P) : Ok (cond (a == b) x y) P :=
  ok_cond (fun e => absurd (by simpa using e) h) (fun _ => hy)

theorem getL_mem {α : Type} {xs : List α} {k : Int} {z : α} (h0 : 0 ≤ k) (h1 : k < lLen xs) : getL xs k z ∈ xs := by
  unfold getL lLen at *
  have : k.toNat < xs.length := by omega
  rw [List.getD_eq_getElem?_getD, List.getElem?_eq_getElem this]
  exact List.getElem_mem this

theorem append_size (a b : ByteArray) : (ByteArray.append a b).size = a.size + b.size := ByteArray.size_append
theorem cutS_size (s : ByteArray) (l h : Nat) : (cutS s l h).size ≤ s.size := by
  unfold cutS; rw [ByteArray.size_extract]; omega
theorem strOfNums_size (l : List Int) : (strOfNums l).size = l.length := by
  unfold strOfNums
  simp [ByteArray.size]

/-- all strings of a list are so short, and it has so many -/
def Strs (n d : Nat) (xs : List ByteArray) : Prop := xs.length ≤ n ∧ ∀ s ∈ xs, s.size ≤ d
theorem Strs.get {n d : Nat} {xs : List ByteArray} (h : Strs n d xs) {k : Int} : (getL xs k ByteArray.empty).size ≤ d := by
  by_cases hk : k.toNat < xs.length
  · apply h.2
    unfold getL
    rw [List.getD_eq_getElem?_getD, List.getElem?_eq_getElem hk]
    exact List.getElem_mem hk
  · unfold getL
    rw [List.getD_eq_getElem?_getD, List.getElem?_eq_none (by omega)]
    simp
theorem Strs.nil {n d : Nat} : Strs n d [] := ⟨by simp, by simp⟩
theorem Strs.snoc {n d : Nat} {xs : List ByteArray} {s : ByteArray} (h : Strs n d xs) (hs : s.size ≤ d) : Strs (n + 1) d (List.append xs [s]) := by
  constructor
  · have := h.1
    simp; omega
  · intro x hx
    simp at hx
    rcases hx with hx | rfl
    · exact h.2 x hx
    · exact hs
theorem Strs.mono {n d n' d' : Nat} {xs : List ByteArray} (h : Strs n d xs) (hn : n ≤ n') (hd : d ≤ d') : Strs n' d' xs :=
  ⟨Nat.le_trans h.1 hn, fun s hs => Nat.le_trans (h.2 s hs) hd⟩
end Go.Sx

namespace Go.Sx
open Go Go.RowKit
set_option linter.unusedVariables false
set_option linter.unusedSimpArgs false

def IsRow (k : IntKind) (w : World) (a : Option Addr) (len c : Nat) (zs : List Int) : Prop :=
  (a = none ∧ len = 0 ∧ c = 0 ∧ zs = []) ∨
  ∃ x, a = some x ∧ len ≤ c ∧ c ≤ maxLen ∧ zs.length = c ∧ (∀ i, i < zs.length → w.cell? (x.add i) = some (.int k (zs.getD i 0))) ∧ ∀ n ∈ zs, (Lit.int k n).wf = true

theorem IsRow.len {k : IntKind} {w : World} {a : Option Addr} {len c : Nat} {zs : List Int} (h : IsRow k w a len c zs) : (zs.take len).length = len := by
  rcases h with ⟨_, rfl, _, rfl⟩ | ⟨x, _, h1, _, h2, _, _⟩
  · rfl
  · rw [List.length_take]; omega

theorem wf_wrap {k : IntKind} {n : Int} (h : (Lit.int k n).wf = true) : k.wrap n = n := by
  rw [wrap_iff]
  cases k <;> simp [Lit.wf, IntKind.min, IntKind.max, IntKind.signed, IntKind.bits] at h ⊢ <;> omega

theorem IsRow.byt {w : World} {a : Option Addr} {len c : Nat} {zs : List Int} (h : IsRow .u8 w a len c zs) : ∀ n ∈ zs.take len, 0 ≤ n ∧ n < 256 := by
  intro n hn
  have hn := List.mem_of_mem_take hn
  rcases h with ⟨_, _, _, rfl⟩ | ⟨x, _, _, _, _, _, h⟩
  · cases hn
  · have := h n hn
    simp [Lit.wf, IntKind.min, IntKind.max, IntKind.signed, IntKind.bits] at this
    omega

theorem IsRow.read {k : IntKind} {w : World} {a : Option Addr} {len c : Nat} {zs : List Int} (h : IsRow k w a len c zs) (hl : len ≤ cap) :
    LR R0 (old w) w (.dat (.list (.int k)) (zs.take len)) (.slice a len c) := by
  have he := h.len
  show RdL (old w) w (.list (.int k)) (zs.take len) [.slice a len c]
  refine ⟨a, c, by rw [show List.length (zs.take len) = len from he], ?_, by rw [show List.length (zs.take len) = len from he]; exact hl, ?_⟩
  · rw [show List.length (zs.take len) = len from he]
    rcases h with ⟨_, rfl, _, _⟩ | ⟨x, _, h1, _⟩
    · omega
    · exact h1
  · intro i n hi
    have hi' : (zs.take len)[i]? = some n := hi
    obtain ⟨hi1, hi2⟩ := List.getElem?_eq_some_iff.1 hi'
    rcases h with ⟨_, _, _, rfl⟩ | ⟨x, h0, h1, h2, h3, h4, h5⟩
    · simp at hi1
    · have hz : i < zs.length := by rw [List.length_take] at hi1; omega
      have hn : zs.getD i 0 = n := by
        rw [List.getD_eq_getElem?_getD, List.getElem?_eq_getElem hz]
        rw [List.getElem_take] at hi2
        exact hi2
      have hc := h4 i hz
      rw [hn] at hc
      have hc0 := h4 0 (by omega)
      obtain ⟨b, o, sp⟩ := x
      have hsp : sp = none := by simpa [Addr.add] using World.cell?_spot hc0
      subst hsp
      have hb : b < w.heap.size := by
        have hc0' : w.cell? ⟨b, o, none⟩ = some (.int k (zs.getD 0 0)) := by simpa [Addr.add] using hc0
        unfold World.cell? at hc0'
        cases hh : w.heap[b]? with
        | none => rw [show w.heap[(⟨b, o, none⟩ : Addr).block]? = none from hh] at hc0'; cases hc0'
        | some v => exact (Array.getElem?_eq_some_iff.1 hh).1
      refine ⟨b, o, [.int k n], h0, hb, ⟨rfl, wf_wrap (h5 n (by rw [← hn, List.getD_eq_getElem?_getD, List.getElem?_eq_getElem hz]; exact List.getElem_mem hz))⟩, ?_⟩
      intro j v hj
      cases j with
      | succ j => simp at hj
      | zero =>
        simp at hj
        subst hj
        have : (⟨b, o + i * (T.int k).n + 0, none⟩ : Addr) = (⟨b, o, none⟩ : Addr).add i := by
          simp only [T.n, Addr.add]
          split
          · rename_i e; subst e; simp
          · simp
        rw [this]; exact hc

open Go.ChangeShapes Go.WideShapes in
/-- a slice of whole numbers is no longer than its weight allows -/
theorem sized_ints {H : Type} {enc : TypeId × Value → H} {P : Program} {W : World} {base : Nat} {spare : Nat → Bool} {held : Bool} {t e : TypeId} {k : IntKind} {a : Option Addr} {len cp : Nat} {d : DataW H} {ps : List MemPlace} {ts : List TypeId} {ds : List (DataW H)} {j : Nat}
    (hsz : (DataW.weightsEach P ts ds).all (· ≤ reachBytes) = true) (ht : ts[j]? = some t) (hd : ds[j]? = some d) (hu : P.underlying t = some (.slice e)) (he : P.underlying e = some (.int k)) (hc : P.cellsOf e = 1) {B : Nat} (hB : P.bytesOf e = B) (hB1 : 1 ≤ B)
    (h : DataW.Trod enc P W base spare held t (.slice a len cp) d ps) : len ≤ cap := by
  obtain ⟨fuel, hf⟩ := h
  rcases open_ints hu he hc hf with ⟨hcs, _⟩ | ⟨x, l, c, zs, hcs, _, hl, _, hz, hx, _, _⟩
  · simp [Value.cells] at hcs
    obtain ⟨rfl, rfl, rfl⟩ := hcs
    exact Nat.zero_le _
  · simp [Value.cells] at hcs
    obtain ⟨rfl, rfl, rfl⟩ := hcs
    obtain ⟨hx, _⟩ := Prod.mk.inj hx
    subst hx
    have z := sized_slice hsz ht hd hu
    rw [hB] at z
    have hl2 : len ≤ zs.length := by
      rw [hz]
      split
      · exact hl
      · exact Nat.le_refl _
    have h1 : (lits (H := H) k (zs.take len)).length + (lits (H := H) k (zs.drop len)).length = zs.length := by
      simp [lits]
      omega
    rw [h1] at z
    have z2 : len * 1 ≤ len * B := Nat.mul_le_mul_left _ hB1
    have z3 := Nat.le_trans (Nat.mul_le_mul_right B hl2) z
    have z4 := reachBytes_lt
    show len ≤ 2 ^ 47
    omega
end Go.Sx

namespace Go.Sx
open Go
variable {G : Gl}
set_option linter.unusedVariables false
set_option linter.unusedSimpArgs false

abbrev idxByteSig : Sig := ⟨2, ⟨[], [(0, .l (.dat (.str))), (1, .l (.dat (.int .u8)))]⟩, [.str, .int .u8], ⟨[], [(0, .l (.dat (.int .i64)))]⟩, [.int .i64]⟩
abbrev cntByteSig : Sig := idxByteSig
def idxByteF (x : Den [.str, .int .u8]) : Option (Den [.int .i64]) := some (Lib.indexByte x.1.data.toList x.2.1.toNat.toUInt8, ())
def cntByteF (x : Den [.str, .int .u8]) : Option (Den [.int .i64]) := some (((Lib.countByte x.1.data.toList x.2.1.toNat.toUInt8 : Nat) : Int), ())

theorem ext_meets {P : Program} {f : FuncId} {fn : Func} (hf : P.funcs[f]? = some fn) (hname : (fn.name == "runtime.NumGoroutine") = false) (hb : fn.body.isNone = true) (hn : Extern.findNext fn = none)
    {e : Array Value → Sem Value} (he : Extern.find fn = some e) {g : ByteArray → Int → Int}
    (hrun : ∀ (s : ByteArray) (c : Int) (w : World), (e #[.string s, .int .u8 c]).run P w = .ok (.int .i64 (g s c)) w) (hw : ∀ (s : ByteArray) (c : Int), s.size ≤ cap → IntKind.i64.wrap (g s c) = g s c) :
    Meets G P f idxByteSig (fun x => some (g x.1 x.2.1, ())) := by
  refine ⟨by rfl, by decide, fun x r hF s hs F0 R0 w0 args hsat hdead henv hsz hlive _ => ?_⟩
  injection hF with hF
  subst hF
  obtain ⟨str, c, u⟩ := x
  injection hs with hs
  subst hs
  have h0 := henv 0
  have h1 := henv 1
  obtain ⟨e0, c0⟩ := VR_str (show VR R0 F0 w0 (dS str) _ from h0)
  obtain ⟨e1, c1⟩ := VR_int (show VR R0 F0 w0 (dI .u8 c) _ from h1)
  have hargs : args = #[.string str, .int .u8 c] := by
    have hsz' : args.size = 2 := hsz
    apply Array.ext
    · simpa using hsz'
    · intro i h2 h3
      have h4 : i < 2 := by simpa using h3
      rcases (show i = 0 ∨ i = 1 by omega) with rfl | rfl
      · have := e0
        rw [Array.getD_eq_getD_getElem?, Array.getElem?_eq_getElem h2] at this
        simpa using this
      · have := e1
        rw [Array.getD_eq_getD_getElem?, Array.getElem?_eq_getElem h2] at this
        simpa using this
  unfold Runs
  rw [hargs, run_callFunc_extern hf hname hb hn he, hrun]
  simp only [Result.andThen]
  refine ⟨[], [.l (.dat (.int .i64) (g str c))], rfl, F0, R0, hsat, ?_, VR_int' (hw str c c0)⟩
  refine ⟨fun _ _ _ => rfl, fun j b hb => .inl ⟨j, hb⟩, fun b hb => .inl hb, fun b hb => hb, Nat.le_refl _, rfl, rfl, rfl, fun j v hv => ?_⟩
  simp [BaseOf] at hv

theorem indexByte_lt : ∀ (l : List UInt8) (c : UInt8), Lib.indexByte l c < l.length ∧ -1 ≤ Lib.indexByte l c
  | [], c => by simp [Lib.indexByte]
  | b :: l, c => by
    have := indexByte_lt l c
    unfold Lib.indexByte
    simp only [List.length_cons]
    split
    · omega
    · split <;> omega

theorem idxByte_meets {P : Program} {f : FuncId} {fn : Func} (hf : P.funcs[f]? = some fn) (hname : (fn.name == "runtime.NumGoroutine") = false) (hb : fn.body.isNone = true) (hn : Extern.findNext fn = none)
    (he : Extern.find fn = some Extern.BytealgIndexByte.indexByte) : Meets G P f idxByteSig idxByteF :=
  ext_meets hf hname hb hn he (g := fun s c => Lib.indexByte s.data.toList c.toNat.toUInt8) (fun s c w => Lib.run_indexByteString s c w) (fun s c hs => by
    have := indexByte_lt s.data.toList c.toNat.toUInt8
    have h2 : s.data.toList.length = s.size := by rw [Array.length_toList]; rfl
    have h3 : s.size ≤ 140737488355328 := hs
    exact w64_ok (by omega) (by omega))

theorem cntByte_meets {P : Program} {f : FuncId} {fn : Func} (hf : P.funcs[f]? = some fn) (hname : (fn.name == "runtime.NumGoroutine") = false) (hb : fn.body.isNone = true) (hn : Extern.findNext fn = none)
    (he : Extern.find fn = some Extern.BytealgCount.count) : Meets G P f cntByteSig cntByteF :=
  ext_meets hf hname hb hn he (g := fun s c => ((Lib.countByte s.data.toList c.toNat.toUInt8 : Nat) : Int)) (fun s c w => Lib.run_countString s c w) (fun s c hs => by
    have : Lib.countByte s.data.toList c.toNat.toUInt8 ≤ s.data.toList.length := List.count_le_length
    have h2 : s.data.toList.length = s.size := by rw [Array.length_toList]; rfl
    have h3 : s.size ≤ 140737488355328 := hs
    exact w64_ok (by omega) (by omega))
end Go.Sx

namespace Go.Sx
open Go
set_option linter.unusedVariables false
set_option linter.unusedSimpArgs false

abbrev bL (s : ByteArray) : List UInt8 := s.data.toList

theorem bL_len (s : ByteArray) : (bL s).length = s.size := by rw [Array.length_toList]; rfl
theorem bL_inj {a b : ByteArray} (h : bL a = bL b) : a = b := by
  cases a with | mk a => cases b with | mk b =>
  have : a = b := Array.toList_inj.1 h
  rw [this]
theorem bL_cut (s : ByteArray) (l h : Nat) : bL (cutS s l h) = ((bL s).take h).drop l := by
  unfold cutS bL
  rw [ByteArray.data_extract, Array.toList_extract, List.extract_eq_take_drop, List.drop_take]
theorem bL_append (a b : ByteArray) : bL (ByteArray.append a b) = bL a ++ bL b := by
  show (a ++ b).data.toList = _
  rw [ByteArray.data_append, Array.toList_append]
theorem byteAt_bL (s : ByteArray) (i : Int) : byteAt s i = ((((bL s).getD i.toNat 0).toNat : Nat) : Int) := by
  rw [byteAt_nat]
  congr 2
  unfold bL
  rw [Array.getD_eq_getD_getElem?, List.getD_eq_getElem?_getD, Array.getElem?_toList]
theorem sEq_bL (s t : ByteArray) : sEq s t = (bL s == bL t) := by
  unfold sEq
  rw [Lib.toList_data, Lib.toList_data]
theorem sEq_iff {s t : ByteArray} : sEq s t = true ↔ s = t := by
  rw [sEq_bL, beq_iff_eq]
  exact ⟨bL_inj, fun h => by rw [h]⟩
theorem sEq_self (s : ByteArray) : sEq s s = true := sEq_iff.2 rfl
theorem sEq_dec (s t : ByteArray) : sEq s t = decide (s = t) := by
  by_cases h : s = t
  · rw [decide_eq_true h]; exact sEq_iff.2 h
  · rw [decide_eq_false h]
    cases e : sEq s t with
    | false => rfl
    | true => exact absurd (sEq_iff.1 e) h
theorem sLt_bL (s t : ByteArray) : sLt s t = Op.bytesLess (bL s) (bL t) := by
  unfold sLt
  rw [Lib.toList_data, Lib.toList_data]

theorem less_irrefl : ∀ l : List UInt8, Op.bytesLess l l = false
  | [] => rfl
  | a :: l => by
    unfold Op.bytesLess
    rw [less_irrefl l]
    have : ¬ a < a := by simp
    simp
theorem less_trans : ∀ {a b c : List UInt8}, Op.bytesLess a b = true → Op.bytesLess b c = true → Op.bytesLess a c = true
  | _, [], _, h, _ => by cases ‹List UInt8› <;> simp [Op.bytesLess] at h
  | _, _ :: _, [], _, h => by simp [Op.bytesLess] at h
  | [], _ :: _, _ :: _, _, _ => rfl
  | a :: x, b :: y, c :: z, h, k => by
    simp only [Op.bytesLess, Bool.or_eq_true, Bool.and_eq_true, decide_eq_true_eq, beq_iff_eq] at h k ⊢
    rcases h with h | ⟨rfl, h⟩
    · rcases k with k | ⟨rfl, k⟩
      · exact .inl (UInt8.lt_trans h k)
      · exact .inl h
    · rcases k with k | ⟨rfl, k⟩
      · exact .inl k
      · exact .inr ⟨rfl, less_trans h k⟩
theorem less_total : ∀ (a b : List UInt8), Op.bytesLess a b = true ∨ a = b ∨ Op.bytesLess b a = true
  | [], [] => .inr (.inl rfl)
  | [], _ :: _ => .inl rfl
  | _ :: _, [] => .inr (.inr rfl)
  | a :: x, b :: y => by
    simp only [Op.bytesLess, Bool.or_eq_true, Bool.and_eq_true, decide_eq_true_eq, beq_iff_eq]
    by_cases h1 : a < b
    · exact .inl (.inl h1)
    · by_cases h2 : b < a
      · exact .inr (.inr (.inl h2))
      · have : a = b := UInt8.le_antisymm (UInt8.not_lt.1 h2) (UInt8.not_lt.1 h1)
        subst this
        rcases less_total x y with h | h | h
        · exact .inl (.inr ⟨rfl, h⟩)
        · subst h; exact .inr (.inl rfl)
        · exact .inr (.inr (.inr ⟨rfl, h⟩))
theorem less_asymm {a b : List UInt8} (h : Op.bytesLess a b = true) : Op.bytesLess b a = false := by
  cases k : Op.bytesLess b a with
  | false => rfl
  | true => have := less_trans h k; rw [less_irrefl] at this; cases this
/-- what goes on is behind -/
theorem less_prefix : ∀ (a : List UInt8) (c : UInt8) (r : List UInt8), Op.bytesLess a (a ++ c :: r) = true
  | [], _, _ => rfl
  | a :: x, c, r => by
    simp only [List.cons_append, Op.bytesLess, Bool.or_eq_true, Bool.and_eq_true, decide_eq_true_eq, beq_iff_eq]
    exact .inr ⟨by simp, less_prefix x c r⟩
/-- at most, in the words of the program: the other way round -/
theorem le_not_less (a b : List UInt8) : (Op.bytesLess a b || a == b) = !Op.bytesLess b a := by
  rcases less_total a b with h | h | h
  · rw [h, less_asymm h]; rfl
  · subst h; rw [less_irrefl]; simp
  · rw [h, less_asymm h]
    have : (a == b) = false := by
      rw [beq_eq_false_iff_ne]
      rintro rfl
      rw [less_irrefl] at h; cases h
    rw [this]; rfl
end Go.Sx

namespace Go.Sx
open Go Go.RowKit Go.ChangeShapes Go.WideShapes
set_option linter.unusedVariables false
set_option linter.unusedSimpArgs false

def fshape (sh : TypeId → T → Bool) (P : Program) : List Field → Nat → T → Bool
  | [f], off, t => sh f.type t && (f.offset == off) && (P.cellsOf f.type == t.n)
  | f :: fs, off, .pair a b => sh f.type a && (f.offset == off) && (P.cellsOf f.type == a.n) && fshape sh P fs (off + a.n) b
  | _, _, _ => false

/-- a type of the program whose values read as such data -/
def tshape (P : Program) : Nat → TypeId → T → Bool
  | 0, _, _ => false
  | n + 1, t, T =>
    match P.underlying t, T with
    | some .bool, .bool => true
    | some (.int k), .int k' => decide (k = k')
    | some .string, .str => true
    | some (.slice e), .list T' => tshape P n e T' && (P.cellsOf e == T'.n) && Nat.ble 1 (P.bytesOf e)
    | some (.struct fs), T => fshape (tshape P n) P fs.toList 0 T && (P.cellsOf t == T.n)
    | _, _ => false

theorem weightsAll_mem {H : Type} {P : Program} {e : TypeId} : ∀ {ds : List (DataW H)} {j : Nat} {d : DataW H}, ds[j]? = some d → ∀ n ∈ d.weights P e, n ∈ DataW.weightsAll P e ds
  | [], j, d, h => by simp at h
  | a :: r, 0, d, h => by
    simp at h; subst h
    intro n hn
    rw [DataW.weightsAll]
    exact List.mem_append_left _ hn
  | a :: r, j + 1, d, h => by
    intro n hn
    rw [DataW.weightsAll]
    exact List.mem_append_right _ (weightsAll_mem (by simpa using h) n hn)

section
variable {H : Type} {enc : TypeId × Value → H} {P : Program} {w : World} {base : Nat} {spare : Nat → Bool} {held : Bool}

theorem cells_at {a : Addr} {n i : Nat} {cs : List Value} (h : w.cells? base (a.add (i * n)) n = some cs) (hn : 0 < n) {b o : Nat} (ha : a = ⟨b, o, none⟩) : cs.length = n ∧ CellsAt w b (o + i * n) cs ∧ b < w.heap.size := by
  subst ha
  have hs := World.cells?_some h
  have hb := World.cells?_block h hn
  refine ⟨hs.2.1, fun j v hj => ?_, ?_⟩
  · have hjn : j < n := by rw [← hs.2.1]; exact (List.getElem?_eq_some_iff.1 hj).1
    have := hs.2.2 j hjn
    rw [hj] at this
    rw [← this]
    congr 1
    unfold Addr.add
    by_cases h1 : i * n = 0
    · rw [if_pos h1]
      by_cases h2 : j = 0
      · rw [if_pos h2, h1, h2]; simp
      · rw [if_neg h2, h1]; simp
    · rw [if_neg h1]
      by_cases h2 : j = 0
      · rw [if_pos h2, h2]; simp
      · rw [if_neg h2]
  · have : ((⟨b, o, none⟩ : Addr).add (i * n)).block = b := by
      unfold Addr.add; split <;> rfl
    rwa [this] at hb

theorem spot_none {a : Addr} {n : Nat} {cs : List Value} (h : w.cells? base (a.add (0 * n)) n = some cs) (hn : 0 < n) : ∃ b o, a = ⟨b, o, none⟩ := by
  have hs := World.cells?_some h
  have hl : 0 < cs.length := by rw [hs.2.1]; exact hn
  have h0 := hs.2.2 0 hn
  rw [List.getElem?_eq_getElem hl] at h0
  have : w.cell? a = some cs[0] := by simpa [Addr.add] using h0
  obtain ⟨b, o, sp⟩ := a
  have hsp : sp = none := by simpa using World.cell?_spot this
  exact ⟨b, o, by rw [hsp]⟩

theorem field_read {sh : TypeId → T → Bool} {n : Nat}
    (ih : ∀ (t : TypeId) (T : T) (cs : List Value) (x : DataW H × List MemPlace), sh t T = true → DataW.trod enc P w base spare held n t cs = some x → (∀ k ∈ x.1.weights P t, k ≤ reachBytes) → ∃ v : T.den, RdL (fun b => b < w.heap.size) w T v cs) :
    ∀ (fs : List Field) (off : Nat) (T : T) (cs : List Value) (xs : List (DataW H × List MemPlace)), fshape sh P fs off T = true → cs.length = off + T.n →
      (∀ (i : Nat) (f : Field), fs[i]? = some f → DataW.trod enc P w base spare held n f.type ((cs.drop f.offset).take (P.cellsOf f.type)) = xs[i]?) → fs.length = xs.length →
      (∀ k ∈ DataW.weightsEach P (fs.map (·.type)) (xs.map (·.1)), k ≤ reachBytes) →
      ∃ v : T.den, RdL (fun b => b < w.heap.size) w T v (cs.drop off)
  | [], off, T, cs, xs, h, _, _, _, _ => by cases T <;> cases h
  | [f], off, T, cs, xs, h, hl, hx, hn, hw => by
    have h' : (sh f.type T && (f.offset == off) && (P.cellsOf f.type == T.n)) = true := by cases T <;> exact h
    simp only [Bool.and_eq_true, beq_iff_eq] at h'
    obtain ⟨⟨h1, h2⟩, h3⟩ := h'
    match xs, hn with
    | [y], _ =>
      have := hx 0 f rfl
      rw [h2, h3, List.take_of_length_le (by rw [List.length_drop]; omega)] at this
      exact ih f.type T _ y h1 (by simpa using this) (fun k hk => hw k (by simp [DataW.weightsEach]; exact hk))
  | f :: g :: fs, off, T, cs, xs, h, hl, hx, hn, hw => by
    cases T with
    | pair a b =>
      have h' : (sh f.type a && (f.offset == off) && (P.cellsOf f.type == a.n) && fshape sh P (g :: fs) (off + a.n) b) = true := h
      simp only [Bool.and_eq_true, beq_iff_eq] at h'
      obtain ⟨⟨⟨h1, h2⟩, h3⟩, h4⟩ := h'
      match xs, hn with
      | y :: ys, hn =>
        have hy := hx 0 f rfl
        rw [h2, h3] at hy
        have hln : cs.length = off + (a.n + b.n) := hl
        obtain ⟨va, ra⟩ := ih f.type a _ y h1 (by simpa using hy) (fun k hk => hw k (by simp [DataW.weightsEach]; exact .inl hk))
        obtain ⟨vb, rb⟩ := field_read ih (g :: fs) (off + a.n) b cs ys h4 (by omega) (fun i f' hf' => by simpa using hx (i + 1) f' (by simpa using hf')) (by simpa using hn)
          (fun k hk => hw k (by
            rw [List.map_cons, List.map_cons (l := ys)]
            show k ∈ _ ++ DataW.weightsEach P ((g :: fs).map (·.type)) (ys.map (·.1))
            exact List.mem_append_right _ hk))
        refine ⟨(va, vb), (cs.drop off).take a.n, cs.drop (off + a.n), ?_, ra, rb⟩
        rw [← List.drop_drop]
        exact (List.take_append_drop _ _).symm
    | _ => cases h

theorem trod_read : ∀ (n : Nat) (t : TypeId) (T : T), tshape P n t T = true → ∀ (fuel : Nat) (cs : List Value) (x : DataW H × List MemPlace), DataW.trod enc P w base spare held fuel t cs = some x →
    (∀ k ∈ x.1.weights P t, k ≤ reachBytes) → ∃ v : T.den, RdL (fun b => b < w.heap.size) w T v cs := by
  intro n
  induction n with
  | zero => intro t T h; cases h
  | succ n ih =>
    intro t T h fuel cs x hx hw
    unfold tshape at h
    split at h
    · rename_i hu
      obtain ⟨b, rfl, rfl⟩ := DataW.trod_bool hu hx
      exact ⟨b, rfl⟩
    · rename_i k k' hu
      have hk : k = k' := of_decide_eq_true h
      subst hk
      obtain ⟨m, rfl, rfl, hwf⟩ := DataW.trod_int hu hx
      exact ⟨m, rfl, wf_wrap hwf⟩
    · rename_i hu
      obtain ⟨s, rfl, rfl, _⟩ := DataW.trod_string hu hx
      refine ⟨s, rfl, ?_⟩
      have := hw s.data.toList.length (by simp [DataW.weights])
      rw [Array.length_toList] at this
      exact Nat.le_trans (show s.size ≤ reachBytes from this) (by decide)
    · rename_i e T' hu
      simp only [Bool.and_eq_true, beq_iff_eq] at h
      obtain ⟨⟨h1, h2⟩, h3⟩ := h
      have h3 : 1 ≤ P.bytesOf e := Nat.le_of_ble_eq_true h3
      have hn := T'.n_pos
      rcases DataW.trod_slice hu hx with ⟨rfl, rfl⟩ | ⟨a, len, c, elems, rest, fu, _, rfl, rfl, _, hl, hm, hlen, hel, _, _⟩
      · exact ⟨[], none, 0, rfl, Nat.le_refl _, Nat.zero_le _, fun i y hy => by simp at hy⟩
      · have hcap : len ≤ cap := by
          have := hw ((elems.map (·.1)).length * P.bytesOf e + (rest.map (·.1)).length * P.bytesOf e) (by
            simp only [DataW.weights, hu]
            rw [← Nat.add_mul]
            exact List.mem_cons_self)
          rw [List.length_map, hlen] at this
          have h4 : len * 1 ≤ len * P.bytesOf e := Nat.mul_le_mul_left _ h3
          have h5 : reachBytes ≤ cap := by decide
          omega
        have each : ∀ i, i < len → ∃ v : T'.den, ∃ cs', w.cells? base (a.add (i * T'.n)) T'.n = some cs' ∧ RdL (fun b => b < w.heap.size) w T' v cs' := by
          intro i hi
          have hi' : i < elems.length := by omega
          have := hel i hi
          rw [List.getElem?_eq_getElem hi', h2, Option.bind_eq_some_iff] at this
          obtain ⟨cs', hc, hd⟩ := this
          obtain ⟨v, hv⟩ := ih e T' h1 fu cs' _ hd (fun k hk => hw k (by
            simp only [DataW.weights, hu]
            refine List.mem_cons_of_mem _ (List.mem_append_left _ (weightsAll_mem (j := i) ?_ k hk))
            rw [List.getElem?_map, List.getElem?_eq_getElem hi']; rfl))
          exact ⟨v, cs', hc, hv⟩
        have all : ∀ m, m ≤ len → ∃ vs : List T'.den, vs.length = m ∧ ∀ (i : Nat) v, vs[i]? = some v → ∃ cs', w.cells? base (a.add (i * T'.n)) T'.n = some cs' ∧ RdL (fun b => b < w.heap.size) w T' v cs' := by
          intro m
          induction m with
          | zero => intro _; exact ⟨[], rfl, fun i v hv => by simp at hv⟩
          | succ m ihm =>
            intro hm
            obtain ⟨vs, hvl, hvs⟩ := ihm (by omega)
            obtain ⟨v, cs', hc, hv⟩ := each m (by omega)
            refine ⟨vs ++ [v], by simp [hvl], fun i u hu => ?_⟩
            rw [List.getElem?_append] at hu
            split at hu
            · exact hvs i u hu
            · rename_i hge
              have : i = m := by
                have := (List.getElem?_eq_some_iff.1 hu).1
                simp at this; omega
              subst this
              rw [hvl] at hu
              simp at hu
              subst hu
              exact ⟨cs', hc, hv⟩
        obtain ⟨vs, hvl, hvs⟩ := all len (Nat.le_refl _)
        refine ⟨vs, some a, c, by rw [hvl], by rw [show List.length vs = len from hvl]; exact hl, by rw [show List.length vs = len from hvl]; exact hcap, fun i v hv => ?_⟩
        have hi : i < len := by rw [← hvl]; exact (List.getElem?_eq_some_iff.1 hv).1
        obtain ⟨cs', hc, hr⟩ := hvs i v hv
        obtain ⟨v0, cs0, hc0, _⟩ := each 0 (by omega)
        obtain ⟨b, o, ha⟩ := spot_none hc0 hn
        obtain ⟨_, hcells, hb⟩ := cells_at hc hn ha
        exact ⟨b, o, cs', by rw [ha], hb, hr, hcells⟩
    · rename_i fs hu
      simp only [Bool.and_eq_true, beq_iff_eq] at h
      obtain ⟨h1, h2⟩ := h
      obtain ⟨xs, fu, _, rfl, hl, hxl, hf⟩ := DataW.trod_struct hu hx
      obtain ⟨v, hv⟩ := field_read (n := fu) (fun t T cs x hs hx hw => ih t T hs fu cs x hx hw) fs.toList 0 _ cs xs h1 (by rw [hl, h2]; omega) (fun i f hf' => hf i f (by simpa using hf')) (by simp [hxl])
        (fun k hk => hw k (by simp only [DataW.weights, hu]; exact hk))
      rw [List.drop_zero] at hv
      exact ⟨v, hv⟩
    · cases h

/-- a datum's sizes are such that it can be -/
def Bnd : (t : T) → t.den → Prop
  | .str, s => ByteArray.size s ≤ cap
  | .list t, xs => List.length xs ≤ cap ∧ ∀ x ∈ (show List t.den from xs), Bnd t x
  | .pair a b, x => Bnd a x.1 ∧ Bnd b x.2
  | .int k, n => k.wrap n = n
  | _, _ => True

theorem RdL.bnd {F : Nat → Prop} {w : World} : ∀ {t : T} {x : t.den} {cs : List Value}, RdL F w t x cs → Bnd t x
  | .str, _, _, h => h.2
  | .list t, xs, _, ⟨A, c, _, _, h2, h3⟩ => ⟨h2, fun x hx => by
      obtain ⟨i, hi, rfl⟩ := List.getElem_of_mem hx
      obtain ⟨_, _, _, _, _, hr, _⟩ := h3 i _ (List.getElem?_eq_getElem hi)
      exact hr.bnd⟩
  | .pair _ _, (_, _), _, ⟨_, _, _, h1, h2⟩ => ⟨h1.bnd, h2.bnd⟩
  | .int _, _, _, h => h.2
  | .bool, _, _, _ => trivial
  | .raw, _, _, _ => trivial
  | .sp _, _, _, _ => trivial

/-- an argument, as the executor takes it -/
theorem arg_read {n : Nat} {t : TypeId} {T : T} (hs : tshape P n t T = true) {v : Value} {d : DataW H} {ps : List MemPlace} {ts : List TypeId} {ds : List (DataW H)} {j : Nat}
    (hsz : (DataW.weightsEach P ts ds).all (· ≤ reachBytes) = true) (ht : ts[j]? = some t) (hd : ds[j]? = some d) (h : DataW.Trod enc P w base spare held t v d ps) :
    ∃ x : T.den, RdL (fun b => b < w.heap.size) w T x v.cells.toList := by
  obtain ⟨fuel, hf⟩ := h
  exact trod_read n t T hs fuel _ _ hf (fun k hk => by
    have := List.all_eq_true.1 hsz _ (DataW.weights_mem_each ht hd k hk)
    simpa using this)
end

/-- the cells of a datum, one abstract value each -/
def leaves : (t : T) → t.den → List LV
  | .pair a b, x => leaves a x.1 ++ leaves b x.2
  | t, x => [.dat t x]
theorem all2_append {α β : Type} {r : α → β → Prop} : ∀ {a c : List α} {b d : List β}, All2 r a b → All2 r c d → All2 r (a ++ c) (b ++ d)
  | _, _, _, _, .nil, h => h
  | _, _, _, _, .cons h1 h2, k => .cons h1 (all2_append h2 k)
theorem leaf_ok {R : Nat → RV} {F : Nat → Prop} {w : World} {t : T} {x : t.den} {cs : List Value} (hn : t.n = 1) (h : RdL F w t x cs) : All2 (LR R F w) [.dat t x] cs := by
  have hl := RdL.length h
  rw [hn] at hl
  match cs, hl with
  | [v], _ => exact .cons h .nil
theorem leaves_ok {R : Nat → RV} {F : Nat → Prop} {w : World} : ∀ {t : T} {x : t.den} {cs : List Value}, RdL F w t x cs → All2 (LR R F w) (leaves t x) cs
  | .pair a b, (x, y), cs, h => by
    obtain ⟨c1, c2, rfl, h1, h2⟩ := h
    exact all2_append (leaves_ok h1) (leaves_ok h2)
  | .str, _, _, h => leaf_ok rfl h
  | .int _, _, _, h => leaf_ok rfl h
  | .bool, _, _, h => leaf_ok rfl h
  | .raw, _, _, h => leaf_ok rfl h
  | .list _, _, _, h => leaf_ok rfl h
  | .sp _, _, _, h => leaf_ok rfl h
/-- a struct that is handed over, cell by cell -/
theorem agg_read {R : Nat → RV} {F : Nat → Prop} {w : World} {t : T} {x : t.den} {c : Array Value} (h : RdL F w t x (Value.agg c).cells.toList) : CR R F w (.agg (leaves t x)) (.agg c) :=
  ⟨c.toList, by simp, leaves_ok (by simpa [Value.cells] using h)⟩
end Go.Sx

namespace Go.Sx
open Go Go.RowKit
set_option linter.unusedVariables false
set_option linter.unusedSimpArgs false

def ifaceV (v : Value) : Prop := v = .nilIface ∨ ∃ t x, v = .iface t x
/-- two variables hold errors, and nothing turns them -/
def errG (gs gr : Nat) : Gl where
  p F w := (F gs ∧ ∃ v, w.cell? ⟨gs, 0, none⟩ = some v ∧ ifaceV v) ∧ F gr ∧ ∃ v, w.cell? ⟨gr, 0, none⟩ = some v ∧ ifaceV v
  mono h hs ha := by
    obtain ⟨⟨h1, v, h2, h3⟩, h4, u, h5, h6⟩ := h
    exact ⟨⟨hs _ h1, v, by rw [cell_of_heap (ha _ h1)]; exact h2, h3⟩, hs _ h4, u, by rw [cell_of_heap (ha _ h4)]; exact h5, h6⟩

abbrev atoiSig : Sig := ⟨1, ⟨[], [(0, .l (.dat (.str)))]⟩, [.str], ⟨[], [(0, .l (.dat (.int .i64))), (1, .l .err)]⟩, [.int .i64, .bool]⟩
def atoiV (s : ByteArray) : Int × Bool := match Lib.atoiAll s.data.toList with | .ok v => (v, false) | .range => (Lib.atoiSat s.data.toList, true) | _ => (0, true)
def atoiF (x : Den [.str]) : Option (Den [.int .i64, .bool]) := some ((atoiV x.1).1, (atoiV x.1).2, ())

theorem atoi_meets {P : Program} {f : FuncId} {fn : Func} {gs gr : Nat} (hf : P.funcs[f]? = some fn) (hb : fn.body.isSome = true) (hname : (fn.name == "runtime.NumGoroutine") = false)
    (h1 : ∀ (s : ByteArray), s.size ≤ cap → ∀ v, Lib.atoiAll s.data.toList = .ok v → ∀ w, Calls P f #[.string s] w fun e w' => e = .returned (.tuple #[.int .i64 v, .nilIface]) ∧ Below w.heap.size w w')
    (h2 : ∀ (s : ByteArray), s.size ≤ cap → (∀ v, Lib.atoiAll s.data.toList ≠ .ok v) → Lib.atoiAll s.data.toList ≠ .range → ∀ ev w, w.cell? ⟨gs, 0, none⟩ = some ev → ifaceV ev → Calls P f #[.string s] w fun e w' => ∃ t x, e = .returned (.tuple #[.int .i64 0, .iface t x]) ∧ Below w.heap.size w w')
    (h3 : ∀ (s : ByteArray), s.size ≤ cap → Lib.atoiAll s.data.toList = .range → ∀ ev w, w.cell? ⟨gr, 0, none⟩ = some ev → ifaceV ev → Calls P f #[.string s] w fun e w' => ∃ t x, e = .returned (.tuple #[.int .i64 (Lib.atoiSat s.data.toList), .iface t x]) ∧ Below w.heap.size w w') :
    Meets (errG gs gr) P f atoiSig atoiF := by
  refine ⟨by rfl, by decide, fun x r hF s hs F0 R0 w0 args hsat hdead henv hsz hlive hg => ?_⟩
  injection hF with hF
  subst hF
  obtain ⟨str, u⟩ := x
  injection hs with hs
  subst hs
  obtain ⟨e0, c0⟩ := VR_str (show VR R0 F0 w0 (dS str) _ from henv 0)
  have hargs : args = #[.string str] := by
    have hsz' : args.size = 1 := hsz
    apply Array.ext
    · simpa using hsz'
    · intro i h2 h3
      have h4 : i < 1 := by simpa using h3
      have h5 : i = 0 := by omega
      subst h5
      have := e0
      rw [Array.getD_eq_getD_getElem?, Array.getElem?_eq_getElem h2] at this
      simpa using this
  have hcall : ∀ args w, (callFunc f args).run P w = .ok (.enter f args) w := fun args w => by
    obtain ⟨body, hb⟩ := Option.isSome_iff_exists.1 hb
    unfold callFunc program
    simp [bind, Sem.bind, Sem.run, hf, hb, pure]
    simp at hname
    simp [hname]
  have hdd : ∀ j, (R0 j).S = [] := fun j => hsat.ok j
  have key : Calls P f #[.string str] w0 fun e w' => ∃ v, e = .returned (.tuple #[.int .i64 (atoiV str).1, v]) ∧ (if (atoiV str).2 then ∃ t x, v = .iface t x else v = .nilIface) ∧ Below w0.heap.size w0 w' := by
    obtain ⟨⟨_, vs, hgs, his⟩, _, vr, hgr, hir⟩ := hg
    unfold atoiV
    cases hk : Lib.atoiAll str.data.toList
    · exact (h1 str c0 _ hk w0).mono fun e w' ⟨he, hbl⟩ => ⟨_, he, rfl, hbl⟩
    · exact (h2 str c0 (fun v => by rw [hk]; intro h; cases h) (by rw [hk]; intro h; cases h) vs w0 hgs his).mono fun e w' ⟨t, x, he, hbl⟩ => ⟨_, he, ⟨t, x, rfl⟩, hbl⟩
    · exact (h3 str c0 hk vr w0 hgr hir).mono fun e w' ⟨t, x, he, hbl⟩ => ⟨_, he, ⟨t, x, rfl⟩, hbl⟩
  have hbd : IntKind.i64.wrap (atoiV str).1 = (atoiV str).1 := by
    unfold atoiV
    have hsb := Lib.atoiSat_bounds str.data.toList
    cases hk : Lib.atoiAll str.data.toList
    · rename_i v; have := Lib.atoiAll_bounds hk; show IntKind.i64.wrap v = v; exact w64_ok (by omega) (by omega)
    · rfl
    · show IntKind.i64.wrap (Lib.atoiSat str.data.toList) = Lib.atoiSat str.data.toList; exact w64_ok (by omega) (by omega)
  unfold Runs
  rw [hargs, hcall]
  refine key.mono fun e w' ⟨v, he, hv, hbl⟩ => ⟨_, he, [], [.l (.dat (.int .i64) (atoiV str).1), .l (.err (atoiV str).2)], rfl, F0, R0, ?_, ?_, ?_⟩
  · exact ⟨fun j => hsat.ok j, hsat.nd, hsat.dj, fun j b hb => (by rw [hdd] at hb; cases hb), hsat.nF, fun b hb => Nat.lt_of_lt_of_le (hsat.Flt b hb) hbl.size⟩
  · refine ⟨fun b h4 h5 => hbl.block b h4, fun j b hb => .inl ⟨j, hb⟩, fun b hb => .inl hb, fun b hb => hb, hbl.size, hbl.os, hbl.tape, hbl.output, fun j v hv => ?_⟩
    simp [BaseOf] at hv
  · exact ⟨[.int .i64 (atoiV str).1, v], rfl, .cons (show CR R0 F0 w' (.l (.dat (.int .i64) (atoiV str).1)) _ from ⟨rfl, hbd⟩) (.cons hv .nil)⟩

/-- a variable of the list that holds an error: its cell -/
theorem laid_iface {P : Program} {n nm : String} {d : DataW Unit} {r : List (String × DataW Unit)} {W : World} {g : Nat} {ti : TypeId} {ms : Array (String × TypeId)}
    (h : laidMet P ((n, .iface nm d) :: r) W) (hg : P.globalNamed n = some g) (ht : (P.globals[g]?).map (·.type) = some ti) (hi : P.underlying ti = some (.interface ms)) :
    old W g ∧ ∃ v, W.cell? ⟨g, 0, none⟩ = some v ∧ ifaceV v := by
  obtain ⟨ps, ⟨g0, t0, cs0, f0, p0, q0, hg0, ht0, hv0, hd0, _, e0⟩, _, hrows⟩ := h
  obtain rfl := Option.some.inj (hg.symm.trans hg0)
  obtain rfl := Option.some.inj (ht.symm.trans ht0)
  obtain ⟨l0⟩ := cs0
  obtain ⟨f1, u, v, h1, _, _⟩ := iface_of_trod hi hd0
  have h1 : l0 = [.iface u v] := h1
  subst h1
  have hc : W.cell? ⟨g, 0, none⟩ = some (.iface u v) := by simpa using World.var?_cell hg hv0 0
  refine ⟨?_, _, hc, .inr ⟨u, v, rfl⟩⟩
  rcases Nat.lt_or_ge g W.heap.size with h' | h'
  · exact h'
  · simp [World.cell?, Array.getElem?_eq_none h'] at hc
end Go.Sx
