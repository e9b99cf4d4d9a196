/- Part 4 of a library of this repo: what a function of the program does to abstract values, and that this is sound. Holds for every program. -/
import Derived.Laws.Sem
import Derived.Test.YthbdbfbdllcifaaSxC
namespace Go.Sx
open Go
set_option linter.unusedVariables false
set_option linter.unusedSimpArgs false

/-- what a function's state must be -/
structure SatA (B : Base) (n : Nat) (s : St) (a : Act) (w : World) : Prop where
  sat : SatS B s a.tmps w
  size : a.tmps.size = n
  defers : a.defers = []

def mrg (c c' : Nat) (mod : List Nat) (rsG rs' : Rs) : Rs := fun j => cond ((Nat.ble c j && Nat.blt j c') || memB j mod) (rs' j) (rsG j)

theorem mrg_eq (c c' : Nat) (mod : List Nat) (rsG rs' : Rs) : mrg c c' mod rsG rs' = merge c c' mod rsG rs' := by
  funext j
  unfold mrg merge
  by_cases h : (c ≤ j ∧ j < c') ∨ j ∈ mod
  · rw [if_pos h]
    have : ((Nat.ble c j && Nat.blt j c') || memB j mod) = true := by
      rcases h with ⟨h1, h2⟩ | h
      · simp [Nat.ble_eq.mpr h1, Nat.blt_eq.mpr h2]
      · simp [memB_iff.2 h]
    rw [this]; rfl
  · rw [if_neg h]
    have : ((Nat.ble c j && Nat.blt j c') || memB j mod) = false := by
      rw [Bool.eq_false_iff]
      intro hc
      apply h
      simp only [Bool.or_eq_true, Bool.and_eq_true] at hc
      rcases hc with ⟨h1, h2⟩ | h1
      · exact .inl ⟨Nat.ble_eq.mp h1, Nat.blt_eq.mp h2⟩
      · exact .inr (memB_iff.1 h1)
    rw [this]; rfl

def mrgK {α : Type} (c c' : Nat) (mod : List Nat) (rs rs' : Rs) (k : Rs → Option α) : Option α :=
  match mod with
  | [] => cond (Nat.beq c c') (k rs) (k (mrg c c' [] rs rs'))
  | _ :: _ => cond (mod.all fun j => Nat.blt j c) (k (mrg c c' mod rs rs')) none

theorem mrgK_ok {α : Type} {c c' : Nat} {mod : List Nat} {rs rs' : Rs} {k : Rs → Option α} {r : α} (h : mrgK c c' mod rs rs' k = some r) : k (merge c c' mod rs rs') = some r ∧ ∀ j ∈ mod, j < c := by
  unfold mrgK at h
  split at h
  · rcases cond_some h with ⟨he, h⟩ | ⟨_, h⟩
    · rw [← Nat.eq_of_beq_eq_true he, merge_nil]; exact ⟨h, fun j hj => by cases hj⟩
    · rw [mrg_eq] at h; exact ⟨h, fun j hj => by cases hj⟩
  · obtain ⟨ha, h⟩ := cond_t h
    rw [mrg_eq] at h
    exact ⟨h, fun j hj => Nat.blt_eq.mp (List.all_eq_true.1 ha j hj)⟩

def putK {α : Type} (n : Nat) (e : Nat → AV) (dst : Option Tmp) (out : AV) (k : (Nat → AV) → Option α) : Option α :=
  match dst with
  | none => k e
  | some d => cond (Nat.blt d n) (k (setE e d out)) none

theorem put_env {R : Nat → RV} {F : Nat → Prop} {w : World} {e : Nat → AV} {tmps : Array Value} {d : Nat} {out : AV} {v : Value} (h : EnvR R F w e tmps) (hv : VR R F w out v) (hd : d < tmps.size) : EnvR R F w (setE e d out) (tmps.setIfInBounds d v) := by
  intro t
  by_cases ht : t = d
  · subst ht
    rw [setE_same]
    simpa [Array.getD_eq_getD_getElem?, hd] using hv
  · rw [setE_other _ _ ht]
    have : (tmps.setIfInBounds d v).getD t undef = tmps.getD t undef := by
      simp only [Array.getD_eq_getD_getElem?]
      rw [Array.getElem?_setIfInBounds_ne (Ne.symm ht)]
    rw [this]; exact h t

theorem putK_ok {α : Type} {n : Nat} {B : Base} {e : Nat → AV} {rs : Rs} {c : Nat} {dst : Option Tmp} {out : AV} {k : (Nat → AV) → Option α} {r : α} (h : putK n e dst out k = some r) : ∃ e', k e' = some r ∧
    ∀ (a : Act) (w : World) (v : Value) F R, Sat F R w rs → Since B F R w → EnvR R F w e a.tmps → (∀ j, c ≤ j → (R j).live = false ∧ rs j = .dead) → a.tmps.size = n → a.defers = [] → VR R F w out v → SatA B n ⟨e', rs, c⟩ (a.put dst v) w := by
  unfold putK at h
  split at h
  · exact ⟨e, h, fun a w v F R h1 h2 h3 h4 h5 h6 h7 => ⟨⟨F, R, h1, h2, h3, h4⟩, h5, h6⟩⟩
  · rename_i d
    obtain ⟨hd, h⟩ := cond_t h
    refine ⟨_, h, fun a w v F R h1 h2 h3 h4 h5 h6 h7 => ⟨⟨F, R, h1, h2, put_env h3 h7 (by rw [h5]; exact Nat.blt_eq.mp hd), h4⟩, ?_, h6⟩⟩
    simp [Act.put, h5]

def guardK {α : Type} (ops : Array Oper) (e : Nat → AV) (g : Option (Nat × Bool)) (yes no : Option α) : Option α :=
  match g with
  | none => yes
  | some (j, want) =>
    (match (ops[j]?).bind (·.dst) with
     | none => no
     | some d =>
       (match e d with
        | .c (.l (.dat .bool b)) => cond b (cond want yes no) (cond want no yes)
        | .tup [] => no
        | _ => none))

theorem guardK_ok {α : Type} {ops : Array Oper} {e : Nat → AV} {o : Oper} {yes no : Option α} {r : α} (h : guardK ops e o.guard yes no = some r) :
    (yes = some r ∧ ∀ R F w (tmps : Array Value), EnvR R F w e tmps → Region.wanted o (yielded ops tmps) = true) ∨ (no = some r ∧ ∀ R F w (tmps : Array Value), EnvR R F w e tmps → Region.wanted o (yielded ops tmps) = false) := by
  unfold guardK at h
  split at h
  · rename_i hg
    exact .inl ⟨h, fun R F w tmps _ => by simp [Region.wanted, hg]⟩
  · rename_i j want hg
    split at h
    · rename_i hd
      exact .inr ⟨h, fun R F w tmps _ => by simp [Region.wanted, hg, yielded, hd]⟩
    · rename_i d hd
      split at h
      · rename_i b he
        have key : ∀ R F w (tmps : Array Value), EnvR R F w e tmps → Region.wanted o (yielded ops tmps) = (b == want) := by
          intro R F w tmps hv
          have hv := hv d
          rw [he] at hv
          have hb := VR_bool hv
          have hd' : tmps[d]? = some (.bool b) := by
            rw [Array.getD_eq_getD_getElem?] at hb
            cases hq : tmps[d]? with
            | none => rw [hq] at hb; cases hb
            | some u => rw [hq] at hb; simp at hb; rw [hb]
          simp [Region.wanted, hg, yielded, hd, hd']
        cases b <;> cases want <;> simp only [cond] at h
        · exact .inl ⟨h, fun R F w tmps hv => (key R F w tmps hv).trans rfl⟩
        · exact .inr ⟨h, fun R F w tmps hv => (key R F w tmps hv).trans rfl⟩
        · exact .inr ⟨h, fun R F w tmps hv => (key R F w tmps hv).trans rfl⟩
        · exact .inl ⟨h, fun R F w tmps hv => (key R F w tmps hv).trans rfl⟩
      · rename_i he
        refine .inr ⟨h, fun R F w tmps hv => ?_⟩
        have hv := hv d
        rw [he] at hv
        obtain ⟨vs, hvv, hall⟩ := hv
        cases hall
        have : yielded ops tmps j = none := by
          unfold yielded
          rw [hd]
          simp only [Option.bind_some]
          rw [Array.getD_eq_getD_getElem?] at hvv
          cases hq : tmps[d]? with
          | none => rfl
          | some u => rw [hq] at hvv; simp at hvv; rw [hvv]
        simp [Region.wanted, hg, this]
      · cases h

/-- the operations of a list, one after the other -/
def seqK {α : Type} (cx : Cx) (n : Nat) (ops : Array Oper) : List Nat → (Nat → AV) → Rs → Nat → ((Nat → AV) → Rs → Nat → Option α) → Option α
  | [], e, rs, c, K => K e rs c
  | i :: r, e, rs, c, K =>
    match ops[i]? with
    | none => seqK cx n ops r e rs c K
    | some o =>
      guardK ops e o.guard
        (opK cx o.op (evA (envN rs e (usedBy o.op))) rs c fun out rs' c' _ mod => mrgK c c' mod rs rs' fun rs2 => putK n e o.dst out fun e' => seqK cx n ops r e' rs2 c' K)
        (putK n e o.dst (.tup []) fun e' => seqK cx n ops r e' rs c K)

theorem evA_env {R : Nat → RV} {F : Nat → Prop} {w : World} {e : Nat → AV} {a : Act} (h : ∀ t, VR R F w (e t) (a.tmps.getD t undef)) (x : Operand) : VR R F w (evA e x) (a.eval x) := evA_ok (e := e) h x

theorem seqK_ok {α : Type} {P : Program} {cx : Cx} (hcx : CxOk P cx) {B : Base} {n : Nat} {ops : Array Oper} {K : (Nat → AV) → Rs → Nat → Option α} {r : α} {Q : Exit → Act → World → Prop}
    (hK : ∀ e rs c a w, K e rs c = some r → SatA B n ⟨e, rs, c⟩ a w → Q .normal a w) :
    ∀ (l : List Nat) (e : Nat → AV) (rs : Rs) (c : Nat) (a : Act) (w : World), seqK cx n ops l e rs c K = some r → SatA B n ⟨e, rs, c⟩ a w → wpOps P ops Q l a w
  | [], e, rs, c, a, w, h, hs => hK e rs c a w h hs
  | i :: l, e, rs, c, a, w, h, hs => by
    unfold seqK at h
    unfold wpOps
    cases ho : ops[i]? with
    | none =>
      rw [ho] at h
      exact seqK_ok hcx hK l e rs c a w h hs
    | some o =>
      rw [ho] at h
      simp only at h ⊢
      obtain ⟨⟨F, R, h1, h2, h3, h4⟩, hsz, hdf⟩ := hs
      rcases guardK_ok h with ⟨h, hw⟩ | ⟨h, hw⟩
      · rw [if_pos (hw R F w a.tmps h3)]
        refine .inl ?_
        obtain ⟨out, rs', c', ids, mod, hk, hcc, hst⟩ := opK_ok hcx (o := o) rfl h
        obtain ⟨hk, hml⟩ := mrgK_ok hk
        obtain ⟨e', hk, hput⟩ := putK_ok (B := B) (rs := merge c c' mod rs rs') (c := c') hk
        have hn := envN_ok (rs := rs) (us := usedBy o.op) (fun j _ => h1.ok j) h3
        have hd := hst rs F R w a.eval (fun _ _ => rfl) (fun j hj _ => h4 j hj) h1 (fun x => evA_env hn x)
        refine hd.wp fun v w' hv => ?_
        obtain ⟨F', R', hg, hs', hout⟩ := hv
        refine seqK_ok hcx hK l e' _ c' _ _ hk (hput a w' v F' R' hs' (h2.goes hg) (h3.goes hg (hg.agree h1)) (fun j hj => ?_) hsz hdf hout)
        have hj : c' ≤ j := hj
        have hnn : ¬ (c ≤ j ∧ j < c') := by omega
        have hjm : c ≤ j := by omega
        refine ⟨(hg.hdr j hnn).1.trans (h4 j hjm).1, ?_⟩
        -- a number that is not taken is not in there
        have hdead := (h4 j hjm).2
        by_cases hm : j ∈ mod
        · have := hml j hm; omega
        · rw [merge_off (by rintro (h | h); exact hnn h; exact hm h)]; exact hdead
      · rw [if_neg (by rw [hw R F w a.tmps h3]; simp)]
        obtain ⟨e', hk, hput⟩ := putK_ok (B := B) (rs := rs) (c := c) h
        exact seqK_ok hcx hK l e' rs c _ _ hk (hput a w undef F R h1 h2 h3 h4 hsz hdf ⟨[], rfl, .nil⟩)
end Go.Sx

namespace Go.Sx
open Go
set_option linter.unusedVariables false
set_option linter.unusedSimpArgs false

inductive Ex where
  | normal | exit (id : Nat) | ret

abbrev KC (α : Type) := Ex → (Nat → AV) → Rs → Nat → Option α

structure Cut (α : Type) where
  tm : Tmpl
  ts : List T
  F : Den ts → Option α

/-! ### A state is brought into a form -/
def anchL : Nat → List (Nat × Nat)
  | 0 => []
  | m + 1 => (m, m) :: anchL m

def matR (m : Tmpl) : List RF → Nat → List (Nat × Nat) → St → St
  | [], _, _, s => s
  | f :: fs, j, d, s => matR m fs (j + 1) d (match f with | .box ls => matB m.roots (assoc j d) ls 0 s | _ => s)

def settle (m : Tmpl) (anch : Nat) (e : Nat → AV) (rs : Rs) (c : Nat) : Option (List Dat) :=
  let s1 := matE m.roots m.slots ⟨e, rs, c⟩
  let d1 := discR s1.rs m.roots 0 (discE s1.e m.slots (anchL anch, []))
  let s2 := matR m m.roots 0 d1.1 s1
  let d2 := disc m s2.e s2.rs (anchL anch)
  chkT m d2.1 anch ⟨s2.e, frzAll s2.rs d2.2, s2.c⟩

theorem SatS.matR {B : Base} {m : Tmpl} {d : List (Nat × Nat)} : ∀ {l : List RF} {j : Nat} {s : St} {tmps : Array Value} {w : World}, SatS B s tmps w → SatS B (matR m l j d s) tmps w
  | [], _, _, _, _, h => h
  | f :: fs, j, s, tmps, w, h => by
    unfold Go.Sx.matR
    apply SatS.matR
    split
    · exact h.matB
    · exact h

theorem settle_ok {m : Tmpl} {anch : Nat} {e : Nat → AV} {rs : Rs} {c : Nat} {l : List Dat} (h : settle m anch e rs c = some l) : ∃ s', mkT m l = some s' ∧
    ∀ (B : Base) (tmps : Array Value) (w : World), (∀ j v, B.A j = some v → j < anch) → SatS B ⟨e, rs, c⟩ tmps w → SatS B s' tmps w := by
  obtain ⟨s', hmk, hsc, hlen, hnd, hlt, hchk⟩ := chkT_ok (show chkT m _ anch _ = some l from h)
  refine ⟨s', hmk, fun B tmps w hA hs => ?_⟩
  obtain ⟨F, R, h1, h2, h3, h4⟩ := ((hs.matE (rfs := m.roots) (l := m.slots)).matR (m := m) (l := m.roots) (j := 0) (d := (discR (matE m.roots m.slots ⟨e, rs, c⟩).rs m.roots 0 (discE (matE m.roots m.slots ⟨e, rs, c⟩).e m.slots (anchL anch, []))).1)).frz _
  obtain ⟨k1, k2, k3, k4, k5⟩ := hchk R F w tmps h1 h3
  refine ⟨F, _, k1, ⟨h2.rest, fun j b hb => ?_, h2.Fnew, h2.sub, h2.size, h2.os, h2.tape, h2.output, fun j v hv => ?_⟩, k2, k3⟩
  · obtain ⟨i, _, hi⟩ := k4 j b hb
    exact h2.own i b hi
  · obtain ⟨a1, a2⟩ := k5 j (hA j v hv)
    obtain ⟨b1, b2⟩ := h2.anch j v hv
    exact ⟨a1.trans b1, a2.trans b2⟩

def goCut {α : Type} (cut : Cut α) (anch : Nat) (e : Nat → AV) (rs : Rs) (c : Nat) : Option α :=
  match settle cut.tm anch e rs c with
  | some l => (match ofL cut.ts l with | some x => cut.F x | none => none)
  | none => none

def orCut {α : Type} (o : Option (Cut α)) (anch : Nat) (e : Nat → AV) (rs : Rs) (c : Nat) (other : Option α) : Option α :=
  match o with
  | some cut => goCut cut anch e rs c
  | none => other

/-! ### Code -/
section
variable {α : Type} (cx : Cx) (n anch : Nat) (cuts : Nat → Option (Cut α))

def bodyK : Code → Nat → (Nat → AV) → Rs → Nat → KC α → Option α
  | .skip, _, e, rs, c, K => K .normal e rs c
  | .label _, _, e, rs, c, K => K .normal e rs c
  | .region _ ops false, _, e, rs, c, K => seqK cx n ops (List.range ops.size) e rs c (K .normal)
  | .seq a b, p, e, rs, c, K =>
    orCut (cuts (2 * p)) anch e rs c (bodyK a (2 * p) e rs c fun x e rs c =>
      match x with
      | .normal => orCut (cuts (2 * p + 1)) anch e rs c (bodyK b (2 * p + 1) e rs c K)
      | x => K x e rs c)
  | .cond x a b, p, e, rs, c, K =>
    (match evA e x with
     | .c (.l (.dat .bool t)) => cond t (orCut (cuts (2 * p)) anch e rs c (bodyK a (2 * p) e rs c K)) (orCut (cuts (2 * p + 1)) anch e rs c (bodyK b (2 * p + 1) e rs c K))
     | _ => none)
  | .block id b, p, e, rs, c, K =>
    orCut (cuts (2 * p)) anch e rs c (bodyK b (2 * p) e rs c fun x e rs c =>
      match x with
      | .exit i => cond (Nat.beq i id) (K .normal e rs c) (K (.exit i) e rs c)
      | x => K x e rs c)
  | .loop b, p, e, rs, c, K =>
    orCut (cuts (2 * p)) anch e rs c (bodyK b (2 * p) e rs c fun x e rs c =>
      match x with
      | .normal => orCut (cuts p) anch e rs c none
      | x => K x e rs c)
  | .exit id, _, e, rs, c, K => K (.exit id) e rs c
  | .ret, _, e, rs, c, K => K .ret e rs c
  | _, _, _, _, _, _ => none

/-- the code at a path from the root (the last step first), and what comes behind it -/
def navK (root : Code) (K0 : KC α) : List Bool → Option (Code × Nat × KC α)
  | [] => some (root, 1, K0)
  | d :: π =>
    match navK root K0 π with
    | some (.seq a b, p, K) => (match d with
      | false => some (a, 2 * p, fun x e rs c =>
        match x with
        | .normal => orCut (cuts (2 * p + 1)) anch e rs c (bodyK cx n anch cuts b (2 * p + 1) e rs c K)
        | x => K x e rs c)
      | true => some (b, 2 * p + 1, K))
    | some (.cond _ a b, p, K) => (match d with | false => some (a, 2 * p, K) | true => some (b, 2 * p + 1, K))
    | some (.block id b, p, K) => (match d with
      | false => some (b, 2 * p, fun x e rs c =>
        match x with
        | .exit i => cond (Nat.beq i id) (K .normal e rs c) (K (.exit i) e rs c)
        | x => K x e rs c)
      | true => none)
    | some (.loop b, p, K) => (match d with
      | false => some (b, 2 * p, fun x e rs c =>
        match x with
        | .normal => orCut (cuts p) anch e rs c none
        | x => K x e rs c)
      | true => none)
    | _ => none

/-- what the code at a path does from data -/
def runK (root : Code) (K0 : KC α) (π : List Bool) (tm : Tmpl) (ts : List T) (x : Den ts) : Option α :=
  match mkT tm (toL ts x) with
  | some s => (match navK cx n anch cuts root K0 π with | some (c, p, K) => bodyK cx n anch cuts c p s.e s.rs s.c K | none => none)
  | none => none
end

def encP : List Bool → Nat
  | [] => 1
  | d :: π => 2 * encP π + cond d 1 0

theorem encP_pos : ∀ π, 1 ≤ encP π
  | [] => Nat.le_refl _
  | d :: π => by have := encP_pos π; simp only [encP]; omega

theorem encP_inj : ∀ {π π' : List Bool}, encP π = encP π' → π = π'
  | [], [], _ => rfl
  | [], d :: π', h => by have := encP_pos π'; simp only [encP] at h; omega
  | d :: π, [], h => by have := encP_pos π; simp only [encP] at h; omega
  | d :: π, d' :: π', h => by
    simp only [encP] at h
    have hd : d = d' := by cases d <;> cases d' <;> simp at h <;> first | rfl | omega
    subst hd
    have : encP π = encP π' := by omega
    rw [encP_inj this]

/-! ### Loops -/
theorem exitTo_len : ∀ {k k' : List Item} {id : Nat}, exitTo id k = some k' → k'.length ≤ k.length := by
  intro k
  induction k with
  | nil => intro k' id h; simp [exitTo] at h
  | cons x k ih =>
    intro k' id h
    cases x <;> simp only [exitTo] at h <;> (try split at h) <;> first
      | (have := ih h; simp; omega)
      | (injection h with h; subst h; simp)
      | cases h

theorem steps_from {P : Program} {m m1 m' : Machine} (h : Steps P m m') (h1 : step P m = .next m1) (hne : m' ≠ m) : Steps P m1 m' := by
  obtain ⟨n, hn⟩ := h
  cases n with
  | zero => simp [runN] at hn; exact absurd hn.symm hne
  | succ n => simp only [runN, h1] at hn; exact ⟨n, hn⟩

theorem lone_todo {b : Frame} {a a' : Act} {k k' : List Item} {cs : List Frame} {w w' : World} (h : lone (b.at a k) cs w = lone (b.at a' k') cs w') : k = k' := by
  have h1 := congrArg (fun m : Machine => m.gs.toList.map fun g => g.frame.todo) h
  simpa [lone, Frame.at] using h1

theorem lone_mode {f f' : Frame} {cs : List Frame} {w w' : World} (h : lone f cs w = lone f' cs w') : f.mode = f'.mode := by
  have h1 := congrArg (fun m : Machine => m.gs.toList.map fun g => g.frame.mode) h
  simpa [lone] using h1

/-- one round, and then the loop again -/
theorem wp_loop_again {P : Program} {c : Code} {Q : Exit → Act → World → Prop} {a : Act} {w : World} (hQ : ∀ a w, ¬ Q .outgrown a w) (hQg : ∀ l a w, ¬ Q (.goto l) a w)
    (h : c.wp P (Exit.then ((Code.loop c).wp P Q) Q) a w) : (Code.loop c).wp P Q a w := by
  intro b k cs
  obtain ⟨e, a₁, w₁, hq, harr⟩ := h b (.inLoop c :: k) cs
  cases e with
  | normal =>
    obtain ⟨e₂, a₂, w₂, hq₂, harr₂⟩ := hq b k cs
    have hs : Steps P (lone (b.at a (.code (.loop c) :: k)) cs w) (lone (b.at a₁ (.code c :: .inLoop c :: k)) cs w₁) := .head step_loop (Steps.trans harr (.one step_inLoop))
    have h1 := step_loop (P := P) (b := b) (a := a₁) (k := k) (cs := cs) (w := w₁) (c := c)
    refine ⟨e₂, a₂, w₂, hq₂, ?_⟩
    cases e₂ with
    | normal =>
      refine hs.trans (steps_from harr₂ h1 fun e => ?_)
      have := congrArg List.length (lone_todo e)
      simp at this
    | exit id =>
      intro k' hk
      refine hs.trans (steps_from (harr₂ k' hk) h1 fun e => ?_)
      have h2 := congrArg List.length (lone_todo e)
      have h3 := exitTo_len hk
      simp at h2; omega
    | goto l => exact absurd hq₂ (hQg l _ _)
    | ret =>
      obtain ⟨todo, ht⟩ := harr₂
      refine ⟨todo, hs.trans (steps_from ht h1 fun e => ?_)⟩
      have := lone_mode e
      simp [Frame.at] at this
    | panic ch =>
      obtain ⟨todo, ht⟩ := harr₂
      refine ⟨todo, hs.trans (steps_from ht h1 fun e => ?_)⟩
      have := lone_mode e
      simp [Frame.at] at this
    | outgrown => exact absurd hq₂ (hQ _ _)
  | exit id => exact ⟨_, a₁, w₁, hq, .of_steps (.one step_loop) (.pass (x := .inLoop c) rfl (fun _ _ => .inl (by simp)) harr)⟩
  | goto l => exact absurd hq (hQg l _ _)
  | ret => exact ⟨_, a₁, w₁, hq, .of_steps (.one step_loop) (.pass (x := .inLoop c) rfl (fun _ _ => .inl (by simp)) harr)⟩
  | panic ch => exact ⟨_, a₁, w₁, hq, .of_steps (.one step_loop) (.pass (x := .inLoop c) rfl (fun _ _ => .inl (by simp)) harr)⟩
  | outgrown => exact absurd hq (hQ _ _)
end Go.Sx

namespace Go.Sx
open Go
set_option linter.unusedVariables false
set_option linter.unusedSimpArgs false

def Ex.to : Ex → Exit
  | .normal => .normal
  | .exit id => .exit id
  | .ret => .ret

structure CutF (α : Type) where
  path : List Bool
  p : Nat
  tm : Tmpl
  ts : List T
  F : Nat → Den ts → Option α

def findCut {α : Type} (k : Nat) : List (CutF α) → Nat → Option (Cut α)
  | [], _ => none
  | c :: r, p => cond (Nat.beq p c.p) (some ⟨c.tm, c.ts, c.F k⟩) (findCut k r p)

section
variable {α : Type} {P : Program} {cx : Cx} {n anch : Nat} {B : Base}

abbrev QP (α : Type) := α → Exit → Act → World → Prop

/-- it ends in no other way -/
def QFine (Q : QP α) : Prop := ∀ r, (∀ a w, ¬ Q r .outgrown a w) ∧ ∀ l a w, ¬ Q r (.goto l) a w

def KOk (B : Base) (n : Nat) (K : KC α) (Q : QP α) : Prop := ∀ x e rs c a w r, K x e rs c = some r → SatA B n ⟨e, rs, c⟩ a w → Q r x.to a w

def CutOk (P : Program) (B : Base) (n : Nat) (o : Option (Cut α)) (code : Code) (Q : QP α) : Prop :=
  ∀ cut, o = some cut → ∀ x r, cut.F x = some r → ∀ s, mkT cut.tm (toL cut.ts x) = some s → ∀ a w, SatA B n s a w → code.wp P (Q r) a w

def seqQ (P : Program) (b : Code) (Q : QP α) : QP α := fun r => Exit.then (b.wp P (Q r)) (Q r)
def blkQ (id : Nat) (Q : QP α) : QP α := fun r => Exit.inBlock id (Q r)

theorem seqQ_fine {b : Code} {Q : QP α} (h : QFine Q) : QFine (seqQ P b Q) := fun r => ⟨fun a w => (h r).1 a w, fun l a w => (h r).2 l a w⟩
theorem blkQ_fine {id : Nat} {Q : QP α} (h : QFine Q) : QFine (blkQ id Q) := fun r => ⟨fun a w => (h r).1 a w, fun l a w => (h r).2 l a w⟩

def navQ (P : Program) (root : Code) (Q0 : QP α) : List Bool → Option (Code × QP α)
  | [] => some (root, Q0)
  | d :: π =>
    match navQ P root Q0 π with
    | some (.seq a b, Q) => (match d with | false => some (a, seqQ P b Q) | true => some (b, Q))
    | some (.cond _ a b, Q) => (match d with | false => some (a, Q) | true => some (b, Q))
    | some (.block id b, Q) => (match d with | false => some (b, blkQ id Q) | true => none)
    | some (.loop b, Q) => (match d with | false => some (b, seqQ P (.loop b) Q) | true => none)
    | _ => none

theorem orCut_ok {o : Option (Cut α)} {code : Code} {Q : QP α} {e : Nat → AV} {rs : Rs} {c : Nat} {other : Option α} {r : α} {a : Act} {w : World} (hA : ∀ j v, B.A j = some v → j < anch)
    (h : orCut o anch e rs c other = some r) (hs : SatA B n ⟨e, rs, c⟩ a w) (hc : CutOk P B n o code Q) (ho : other = some r → code.wp P (Q r) a w) : code.wp P (Q r) a w := by
  unfold orCut at h
  split at h
  · rename_i cut
    unfold goCut at h
    split at h
    · rename_i l hl
      split at h
      · rename_i x hx
        obtain ⟨s', hmk, hsat⟩ := settle_ok hl
        rw [← toL_ofL hx] at hmk
        exact hc cut rfl x r h s' hmk a w ⟨hsat B a.tmps w hA hs.sat, hs.size, hs.defers⟩
      · cases h
    · cases h
  · exact ho h

/-- all cuts do what they say -/
def AllCuts (P : Program) (B : Base) (n : Nat) (cuts : Nat → Option (Cut α)) (root : Code) (Q0 : QP α) : Prop :=
  ∀ π code Q, navQ P root Q0 π = some (code, Q) → CutOk P B n (cuts (encP π)) code Q

theorem navQ_fine {root : Code} {Q0 : QP α} (h0 : QFine Q0) : ∀ {π : List Bool} {code : Code} {Q : QP α}, navQ P root Q0 π = some (code, Q) → QFine Q
  | [], code, Q, h => by injection h with h; injection h with h1 h2; subst h2; exact h0
  | d :: π, code, Q, h => by
    unfold navQ at h
    split at h
    · rename_i a b Q' hn
      have hf := navQ_fine h0 hn
      cases d <;> injection h with h <;> injection h with h1 h2 <;> subst h2
      · exact seqQ_fine hf
      · exact hf
    · rename_i x a b Q' hn
      have hf := navQ_fine h0 hn
      cases d <;> injection h with h <;> injection h with h1 h2 <;> subst h2 <;> exact hf
    · rename_i id b Q' hn
      have hf := navQ_fine h0 hn
      cases d
      · injection h with h; injection h with h1 h2; subst h2; exact blkQ_fine hf
      · cases h
    · rename_i b Q' hn
      have hf := navQ_fine h0 hn
      cases d
      · injection h with h; injection h with h1 h2; subst h2; exact seqQ_fine hf
      · cases h
    · cases h

theorem body_ok (hcx : CxOk P cx) (hA : ∀ j v, B.A j = some v → j < anch) {cuts : Nat → Option (Cut α)} {root : Code} {Q0 : QP α} (h0 : QFine Q0) (hcuts : AllCuts P B n cuts root Q0) :
    ∀ (code : Code) (π : List Bool) (Q : QP α) (K : KC α) (e : Nat → AV) (rs : Rs) (c : Nat) (a : Act) (w : World) (r : α), navQ P root Q0 π = some (code, Q) → KOk B n K Q →
      bodyK cx n anch cuts code (encP π) e rs c K = some r → SatA B n ⟨e, rs, c⟩ a w → code.wp P (Q r) a w := by
  intro code
  induction code with
  | skip => intro π Q K e rs c a w r hn hK h hs; exact wp_skip (hK .normal e rs c a w r h hs)
  | label l => intro π Q K e rs c a w r hn hK h hs; exact wp_label (hK .normal e rs c a w r h hs)
  | region id ops draw =>
    intro π Q K e rs c a w r hn hK h hs
    cases draw with
    | false => exact wp_region (seqK_ok hcx (fun e rs c a w h hs => hK .normal e rs c a w r h hs) _ e rs c a w h hs)
    | true => cases h
  | seq x y ihx ihy =>
    intro π Q K e rs c a w r hn hK h hs
    have hx : navQ P root Q0 (false :: π) = some (x, seqQ P y Q) := by unfold navQ; rw [hn]
    have hy : navQ P root Q0 (true :: π) = some (y, Q) := by unfold navQ; rw [hn]
    refine wp_seq ?_
    refine orCut_ok (Q := seqQ P y Q) hA h hs (hcuts _ _ _ hx) fun h => ?_
    refine ihx (false :: π) (seqQ P y Q) _ e rs c a w r hx ?_ h hs
    intro ex e rs c a w r h hs
    cases ex with
    | normal =>
      refine orCut_ok (Q := Q) hA h hs (hcuts _ _ _ hy) fun h => ?_
      exact ihy (true :: π) Q K e rs c a w r hy hK h hs
    | exit id => exact hK _ e rs c a w r h hs
    | ret => exact hK _ e rs c a w r h hs
  | cond x y z ihy ihz =>
    intro π Q K e rs c a w r hn hK h hs
    have hy : navQ P root Q0 (false :: π) = some (y, Q) := by unfold navQ; rw [hn]
    have hz : navQ P root Q0 (true :: π) = some (z, Q) := by unfold navQ; rw [hn]
    unfold bodyK at h
    split at h
    · rename_i t hx
      obtain ⟨F, R, s1, s2, s3, s4⟩ := hs.sat
      have hb := evA_env (a := a) s3 x
      rw [hx] at hb
      have hb := VR_bool hb
      refine wp_cond_split hb (fun ht => ?_) (fun ht => ?_)
      · rw [ht] at h
        exact orCut_ok (Q := Q) hA h hs (hcuts _ _ _ hy) fun h => ihy (false :: π) Q K e rs c a w r hy hK h hs
      · rw [ht] at h
        exact orCut_ok (Q := Q) hA h hs (hcuts _ _ _ hz) fun h => ihz (true :: π) Q K e rs c a w r hz hK h hs
    · cases h
  | block id b ih =>
    intro π Q K e rs c a w r hn hK h hs
    have hx : navQ P root Q0 (false :: π) = some (b, blkQ id Q) := by unfold navQ; rw [hn]
    refine wp_block ?_
    refine orCut_ok (Q := blkQ id Q) hA h hs (hcuts _ _ _ hx) fun h => ?_
    refine ih (false :: π) (blkQ id Q) _ e rs c a w r hx ?_ h hs
    intro ex e rs c a w r h hs
    cases ex with
    | normal => exact hK .normal e rs c a w r h hs
    | ret => exact hK .ret e rs c a w r h hs
    | exit i =>
      show (if i = id then Q r .normal a w else Q r (.exit i) a w)
      rcases cond_some h with ⟨hi, h⟩ | ⟨hi, h⟩
      · rw [if_pos (Nat.eq_of_beq_eq_true hi)]; exact hK .normal e rs c a w r h hs
      · rw [if_neg (fun e => by rw [e, Nat.beq_refl] at hi; cases hi)]; exact hK (.exit i) e rs c a w r h hs
  | loop b ih =>
    intro π Q K e rs c a w r hn hK h hs
    have hx : navQ P root Q0 (false :: π) = some (b, seqQ P (.loop b) Q) := by unfold navQ; rw [hn]
    have hf := navQ_fine h0 hn
    refine wp_loop_again (hf r).1 (hf r).2 ?_
    refine orCut_ok (Q := seqQ P (.loop b) Q) hA h hs (hcuts _ _ _ hx) fun h => ?_
    refine ih (false :: π) (seqQ P (.loop b) Q) _ e rs c a w r hx ?_ h hs
    intro ex e rs c a w r h hs
    cases ex with
    | normal => exact orCut_ok (Q := Q) hA h hs (hcuts _ _ _ hn) fun h => by cases h
    | exit id => exact hK _ e rs c a w r h hs
    | ret => exact hK _ e rs c a w r h hs
  | exit id => intro π Q K e rs c a w r hn hK h hs; exact wp_exit (hK (.exit id) e rs c a w r h hs)
  | ret => intro π Q K e rs c a w r hn hK h hs; exact wp_ret (hK .ret e rs c a w r h hs)
  | _ => intro π Q K e rs c a w r hn hK h hs; cases h

theorem nav_ok (hcx : CxOk P cx) (hA : ∀ j v, B.A j = some v → j < anch) {cuts : Nat → Option (Cut α)} {root : Code} {Q0 : QP α} {K0 : KC α} (h0 : QFine Q0) (hcuts : AllCuts P B n cuts root Q0) (hK0 : KOk B n K0 Q0) :
    ∀ {π : List Bool} {code : Code} {p : Nat} {K : KC α}, navK cx n anch cuts root K0 π = some (code, p, K) → ∃ Q, navQ P root Q0 π = some (code, Q) ∧ p = encP π ∧ KOk B n K Q
  | [], code, p, K, h => by
    injection h with h; injection h with h1 h2; injection h2 with h2 h3
    subst h1 h2 h3
    exact ⟨Q0, rfl, rfl, hK0⟩
  | d :: π, code, p, K, h => by
    unfold navK at h
    split at h
    · rename_i x y p' K' hn
      obtain ⟨Q, hq, hp, hK⟩ := nav_ok hcx hA h0 hcuts hK0 hn
      have hy : navQ P root Q0 (true :: π) = some (y, Q) := by unfold navQ; rw [hq]
      cases d <;> injection h with h <;> injection h with h1 h2 <;> injection h2 with h2 h3 <;> subst h1 h2 h3
      · refine ⟨seqQ P y Q, by unfold navQ; rw [hq], by rw [hp]; rfl, ?_⟩
        intro ex e rs c a w r h hs
        cases ex with
        | normal =>
          rw [hp] at h
          refine orCut_ok (Q := Q) hA h hs (hcuts _ _ _ hy) fun h => ?_
          exact body_ok hcx hA h0 hcuts y (true :: π) Q K' e rs c a w r hy hK h hs
        | exit id => exact hK _ e rs c a w r h hs
        | ret => exact hK _ e rs c a w r h hs
      · exact ⟨Q, hy, by rw [hp]; rfl, hK⟩
    · rename_i x y z p' K' hn
      obtain ⟨Q, hq, hp, hK⟩ := nav_ok hcx hA h0 hcuts hK0 hn
      cases d <;> injection h with h <;> injection h with h1 h2 <;> injection h2 with h2 h3 <;> subst h1 h2 h3
      · exact ⟨Q, by unfold navQ; rw [hq], by rw [hp]; rfl, hK⟩
      · exact ⟨Q, by unfold navQ; rw [hq], by rw [hp]; rfl, hK⟩
    · rename_i id b p' K' hn
      obtain ⟨Q, hq, hp, hK⟩ := nav_ok hcx hA h0 hcuts hK0 hn
      cases d
      · injection h with h; injection h with h1 h2; injection h2 with h2 h3; subst h1 h2 h3
        refine ⟨blkQ id Q, by unfold navQ; rw [hq], by rw [hp]; rfl, ?_⟩
        intro ex e rs c a w r h hs
        cases ex with
        | normal => exact hK .normal e rs c a w r h hs
        | ret => exact hK .ret e rs c a w r h hs
        | exit i =>
          show (if i = id then Q r .normal a w else Q r (.exit i) a w)
          rcases cond_some h with ⟨hi, h⟩ | ⟨hi, h⟩
          · rw [if_pos (Nat.eq_of_beq_eq_true hi)]; exact hK .normal e rs c a w r h hs
          · rw [if_neg (fun e => by rw [e, Nat.beq_refl] at hi; cases hi)]; exact hK (.exit i) e rs c a w r h hs
      · cases h
    · rename_i b p' K' hn
      obtain ⟨Q, hq, hp, hK⟩ := nav_ok hcx hA h0 hcuts hK0 hn
      cases d
      · injection h with h; injection h with h1 h2; injection h2 with h2 h3; subst h1 h2 h3
        refine ⟨seqQ P (.loop b) Q, by unfold navQ; rw [hq], by rw [hp]; rfl, ?_⟩
        intro ex e rs c a w r h hs
        cases ex with
        | normal => rw [hp] at h; exact orCut_ok (Q := Q) hA h hs (hcuts _ _ _ hq) fun h => by cases h
        | exit id => exact hK _ e rs c a w r h hs
        | ret => exact hK _ e rs c a w r h hs
      · cases h
    · cases h

/-- the cuts of a function: each is none at 0, and one more round of its code at k + 1 -/
structure CutsAre (cx : Cx) (n anch : Nat) (cl : List (CutF α)) (root : Code) (K0 : KC α) : Prop where
  enc : ∀ c ∈ cl, c.p = encP c.path
  zero : ∀ c ∈ cl, ∀ x, c.F 0 x = none
  next : ∀ c ∈ cl, ∀ k x, c.F (k + 1) x = runK cx n anch (findCut k cl) root K0 c.path c.tm c.ts x

theorem findCut_mem {k : Nat} {cut : Cut α} : ∀ {cl : List (CutF α)} {p : Nat}, findCut k cl p = some cut → ∃ c ∈ cl, p = c.p ∧ cut = ⟨c.tm, c.ts, c.F k⟩
  | [], p, h => by cases h
  | c :: cl, p, h => by
    unfold findCut at h
    cases hb : Nat.beq p c.p with
    | true => rw [hb] at h; injection h with h; exact ⟨c, by simp, Nat.eq_of_beq_eq_true hb, h.symm⟩
    | false =>
      rw [hb] at h
      obtain ⟨c', h1, h2⟩ := findCut_mem (show findCut k cl p = some cut from h)
      exact ⟨c', by simp [h1], h2⟩

theorem allCuts_ok (hcx : CxOk P cx) (hA : ∀ j v, B.A j = some v → j < anch) {cl : List (CutF α)} {root : Code} {Q0 : QP α} {K0 : KC α} (h0 : QFine Q0) (hK0 : KOk B n K0 Q0) (hcl : CutsAre cx n anch cl root K0) :
    ∀ k, AllCuts P B n (findCut k cl) root Q0
  | 0 => fun π code Q hn cut hcut x r hx => by
    obtain ⟨c, hc, _, rfl⟩ := findCut_mem hcut
    rw [show (⟨c.tm, c.ts, c.F 0⟩ : Cut α).F = c.F 0 from rfl, hcl.zero c hc x] at hx
    cases hx
  | k + 1 => fun π code Q hn cut hcut x r hx s hs a w hsat => by
    have ih := allCuts_ok hcx hA h0 hK0 hcl k
    obtain ⟨c, hc, hp, rfl⟩ := findCut_mem hcut
    rw [show (⟨c.tm, c.ts, c.F (k + 1)⟩ : Cut α).F = c.F (k + 1) from rfl, hcl.next c hc k x] at hx
    unfold runK at hx
    rw [show mkT c.tm (toL c.ts x) = some s from hs] at hx
    simp only at hx
    split at hx
    · rename_i code' p' K' hnav
      have hπ : c.path = π := encP_inj ((hcl.enc c hc).symm.trans hp.symm)
      obtain ⟨Q', hq, hp', hK⟩ := nav_ok hcx hA h0 ih hK0 hnav
      rw [hπ] at hq hp'
      rw [hn] at hq
      injection hq with hq
      injection hq with hq1 hq2
      subst hq1 hq2
      rw [hp'] at hx
      exact body_ok hcx hA h0 ih code π Q K' s.e s.rs s.c a w r hn hK hx hsat
    · cases hx

/-- a function's code from its start -/
theorem code_ok (hcx : CxOk P cx) (hA : ∀ j v, B.A j = some v → j < anch) {cl : List (CutF α)} {root : Code} {Q0 : QP α} {K0 : KC α} (h0 : QFine Q0) (hK0 : KOk B n K0 Q0) (hcl : CutsAre cx n anch cl root K0) {k : Nat} {s : St} {r : α} {a : Act} {w : World}
    (h : orCut (findCut k cl 1) anch s.e s.rs s.c (bodyK cx n anch (findCut k cl) root 1 s.e s.rs s.c K0) = some r) (hs : SatA B n s a w) : root.wp P (Q0 r) a w := by
  have hc := allCuts_ok hcx hA h0 hK0 hcl k
  exact orCut_ok (Q := Q0) hA h hs (hc [] root Q0 rfl) fun h => body_ok hcx hA h0 hc root [] Q0 K0 s.e s.rs s.c a w r rfl hK0 h hs
end
end Go.Sx

namespace Go.Sx
open Go
set_option linter.unusedVariables false
set_option linter.unusedSimpArgs false

def resVals {α : Type} (Γ : Nat → Option TI) (rs : Rs) (e : Nat → AV) : List ResultVar → (List CV → Option α) → Option α
  | [], k => k []
  | .tmp t :: r, k => (match e t with | .c v => resVals Γ rs e r (fun l => k (v :: l)) | _ => none)
  | .cell a t :: r, k => loadK Γ rs t (e a) (fun v _ => match v with | .c v => resVals Γ rs e r (fun l => k (v :: l)) | _ => none)

def oneResult (tmps : Array Value) : ResultVar → Sem Value
  | .tmp t => pure (tmps.getD t undef)
  | .cell a t => do loadVar t (← asAddr (tmps.getD a undef))

section
variable {α : Type} {P : Program} {cx : Cx}

theorem resVals_ok {Γ : Nat → Option TI} (hΓ : TyOk P Γ) {rs : Rs} {e : Nat → AV} : ∀ {l : List ResultVar} {k : List CV → Option α} {r : α}, resVals Γ rs e l k = some r → ∃ cvs, k cvs = some r ∧
    ∀ F R w (tmps : Array Value), Sat F R w rs → EnvR R F w e tmps → ∃ vs : List Value, (l.mapM (oneResult tmps)).run P w = .ok vs w ∧ All2 (CR R F w) cvs vs
  | [], k, r, h => ⟨[], h, fun F R w tmps hs he => ⟨[], rfl, .nil⟩⟩
  | .tmp t :: l, k, r, h => by
    unfold resVals at h
    split at h
    · rename_i v hv
      obtain ⟨cvs, hk, hr⟩ := resVals_ok hΓ h
      refine ⟨v :: cvs, hk, fun F R w tmps hs he => ?_⟩
      obtain ⟨vs, h1, h2⟩ := hr F R w tmps hs he
      have h3 := he t
      rw [hv] at h3
      refine ⟨tmps.getD t undef :: vs, ?_, .cons h3 h2⟩
      rw [List.mapM_cons]
      have : (oneResult tmps (.tmp t)).run P w = .ok (tmps.getD t undef) w := rfl
      rw [bind_ok this, bind_ok h1]; rfl
    · cases h
  | .cell a t :: l, k, r, h => by
    unfold resVals at h
    have hop : ∃ out ids, (fun (v : AV) (_ : List Nat) => (match v with | .c v => resVals Γ rs e l (fun l => k (v :: l)) | _ => none)) out ids = some r ∧ Quiet P (.load t (.tmp a)) 0 (evA e) rs out ids :=
      loadK_ok hΓ (a := .tmp a) (ρA := evA e) h
    obtain ⟨out, ids, hk, hq⟩ := hop
    simp only at hk
    split at hk
    · rename_i v
      obtain ⟨cvs, hk, hr⟩ := resVals_ok hΓ hk
      refine ⟨v :: cvs, hk, fun F R w tmps hs he => ?_⟩
      obtain ⟨vs, h1, h2⟩ := hr F R w tmps hs he
      obtain ⟨u, hu, hv⟩ := hq F R w (Act.eval ⟨tmps, []⟩) (fun j _ => hs.ok j) (fun x => evA_env (a := ⟨tmps, []⟩) he x) { dst := none, op := .load t (.tmp a), type := 0, pos := "", after := #[], guard := none } rfl rfl
      have hu' : (Instr.loadAt t (tmps.getD a undef)).run P w = .ok u w := by
        unfold execOp at hu
        simp only at hu
        rw [run_bind'] at hu
        have : Act.eval ⟨tmps, []⟩ (.tmp a) = tmps.getD a undef := rfl
        rw [this] at hu
        generalize (Instr.loadAt t (tmps.getD a undef)).run P w = res at hu ⊢
        cases res with
        | ok v' w' =>
          have : Result.ok (Next.value v') w' = Result.ok (Next.value u) w := hu
          injection this with h1 h2
          injection h1 with h1
          rw [h1, h2]
        | halt x w' => cases hu
      refine ⟨u :: vs, ?_, .cons hv h2⟩
      rw [List.mapM_cons]
      have : (oneResult tmps (.cell a t)).run P w = .ok u w := by
        show (do loadVar t (← asAddr (tmps.getD a undef)) : Sem Value).run P w = _
        generalize tmps.getD a undef = v0 at hu' ⊢
        cases v0 with
        | pointer p => cases p <;> first | exact hu' | cases hu'
        | _ => cases hu'
      rw [bind_ok this, bind_ok h1]; rfl
    · cases hk

theorem run_results {fn : Func} {tmps : Array Value} {vs : List Value} {w : World} (h : (fn.results.toList.mapM (oneResult tmps)).run P w = .ok vs w) :
    (results fn tmps).run P w = .ok (if h : vs.toArray.size = 1 then vs.toArray[0] else .tuple vs.toArray) w := by
  have h1 : (fn.results.mapM (oneResult tmps)).run P w = .ok vs.toArray w := by
    rw [Array.mapM_eq_mapM_toList]
    show (List.toArray <$> fn.results.toList.mapM (oneResult tmps)).run P w = _
    rw [map_eq_pure_bind, bind_ok h]; rfl
  have h3 : results fn tmps = (fn.results.mapM (oneResult tmps) >>= fun vs => pure (if h : vs.size = 1 then vs[0] else .tuple vs)) := by
    unfold results
    refine congrArg (fun m => m >>= _) ?_
    refine congrArg (fun g => Array.mapM g fn.results) ?_
    funext x; cases x <;> rfl
  rw [h3, bind_ok h1]
  rfl

/-- numbers 0, 1, .. -/
def slotsAre : List (Nat × CF) → Nat → Bool
  | [], _ => true
  | (t, _) :: r, i => Nat.beq t i && slotsAre r (i + 1)

def cvAt : List CV → Nat → AV
  | [], _ => .none
  | v :: r, i => (match i with | 0 => .c v | j + 1 => cvAt r j)

/-- a function gives its results -/
def retK (cx : Cx) (anch : Nat) (sig : Sig) (res : List ResultVar) : KC (Den sig.us) := fun x e rs c =>
  match x with
  | .exit _ => none
  | _ => resVals cx.Γ rs e res fun cvs =>
    cond (Nat.beq cvs.length sig.out.slots.length)
      (match settle sig.out anch (cvAt cvs) rs c with
       | some l => ofL sig.us l
       | none => none) none

theorem mkE_at : ∀ {fs : List (Nat × CF)} {l r : List Dat} {as : List (Nat × CV)} {i : Nat}, mkE fs l = some (as, r) → slotsAre fs i = true → as.length = fs.length ∧ ∀ j, lookE as (i + j) = cvAt (as.map Prod.snd) j
  | [], l, r, as, i, h, _ => by injection h with h; injection h with h1 h2; subst h1; exact ⟨rfl, fun j => rfl⟩
  | (t, f) :: fs, l, r, as, i, h, hs => by
    simp only [mkE] at h
    simp only [slotsAre, Bool.and_eq_true] at hs
    split at h
    · rename_i a1 l1 h1
      split at h
      · rename_i as2 l2 h2
        injection h with h; injection h with h3 h4; subst h3
        obtain ⟨k1, k2⟩ := mkE_at (i := i + 1) h2 hs.2
        refine ⟨by simp [k1], fun j => ?_⟩
        have ht := Nat.eq_of_beq_eq_true hs.1
        subst ht
        cases j with
        | zero => simp [lookE, cvAt]
        | succ j =>
          simp only [lookE, List.map_cons, cvAt]
          have : Nat.beq (t + (j + 1)) t = false := by
            rw [Bool.eq_false_iff]; intro e; have := Nat.eq_of_beq_eq_true e; omega
          rw [this]
          have h5 := k2 j
          rw [show t + 1 + j = t + (j + 1) by omega] at h5
          exact h5
      · cases h
    · cases h

theorem cvAt_all {R : Nat → RV} {F : Nat → Prop} {w : World} : ∀ {cvs : List CV} {vs : List Value}, cvs.length = vs.length → (∀ j, VR R F w (cvAt cvs j) (vs.toArray.getD j undef)) → All2 (CR R F w) cvs vs
  | [], [], _, _ => .nil
  | v :: cvs, u :: vs, hl, h => by
    refine .cons (h 0) (cvAt_all (by simpa using hl) fun j => ?_)
    have := h (j + 1)
    simp only [cvAt, Array.getD_eq_getD_getElem?, List.getElem?_toArray, List.getElem?_cons_succ] at this ⊢
    exact this
  | [], _ :: _, hl, _ => by simp at hl
  | _ :: _, [], hl, _ => by simp at hl

theorem cvAt_env {R : Nat → RV} {F : Nat → Prop} {w : World} : ∀ {cvs : List CV} {vs : List Value}, All2 (CR R F w) cvs vs → EnvR R F w (cvAt cvs) vs.toArray
  | [], [], .nil, t => trivial
  | v :: cvs, u :: vs, .cons h1 h2, 0 => h1
  | v :: cvs, u :: vs, .cons h1 h2, t + 1 => by
    have := cvAt_env h2 t
    simpa [cvAt, Array.getD_eq_getD_getElem?] using this

def postQ (P : Program) (fn : Func) (sig : Sig) (B : Base) : QP (Den sig.us) := fun r e a w =>
  match e with
  | .normal | .ret => a.defers = [] ∧ ∃ v, (results fn a.tmps).run P w = .ok v w ∧ Post sig B r v w
  | _ => False

theorem postQ_fine {fn : Func} {sig : Sig} {B : Base} : QFine (postQ P fn sig B) := fun r => ⟨fun a w h => h, fun l a w h => h⟩

theorem ret_ok (hcx : CxOk P cx) {fn : Func} {sig : Sig} {anch n : Nat} {B : Base} (hA : ∀ j v, B.A j = some v → j < anch) (hsl : slotsAre sig.out.slots 0 = true) : KOk B n (retK cx anch sig fn.results.toList) (postQ P fn sig B) := by
  intro x e rs c a w r h hs
  have main : (resVals cx.Γ rs e fn.results.toList fun cvs => cond (Nat.beq cvs.length sig.out.slots.length) (match settle sig.out anch (cvAt cvs) rs c with | some l => ofL sig.us l | none => none) none) = some r →
      a.defers = [] ∧ ∃ v, (results fn a.tmps).run P w = .ok v w ∧ Post sig B r v w := by
    intro h
    obtain ⟨cvs, hk, hr⟩ := resVals_ok hcx.ty h
    obtain ⟨hlen, hk⟩ := cond_t hk
    have hlen := Nat.eq_of_beq_eq_true hlen
    split at hk
    · rename_i l hl
      obtain ⟨F, R, s1, s2, s3, s4⟩ := hs.sat
      obtain ⟨vs, hrun, hall⟩ := hr F R w a.tmps s1 s3
      obtain ⟨s', hmk, hset⟩ := settle_ok hl
      obtain ⟨F1, R1, t1, t2, t3, t4⟩ := hset B vs.toArray w hA ⟨F, R, s1, s2, cvAt_env hall, s4⟩
      refine ⟨hs.defers, _, run_results hrun, ?_⟩
      have hto := toL_ofL hk
      unfold mkT at hmk
      split at hmk
      · rename_i rts l1 hm1
        split at hmk
        · rename_i es hm2
          injection hmk with hmk
          subst hmk
          obtain ⟨k1, k2⟩ := mkE_at hm2 hsl
          refine ⟨rts, es.map Prod.snd, by unfold mkO; rw [hto, hm1]; simp only; rw [hm2], F1, R1, t1, t2, ?_⟩
          have hcl := hall.length
          have hall2 : All2 (CR R1 F1 w) (es.map Prod.snd) vs := cvAt_all (by rw [List.length_map, k1, ← hcl, hlen]) fun j => by
            have := t3 j
            simp only at this
            rw [← k2 j, Nat.zero_add]; exact this
          generalize es.map Prod.snd = cs at hall2
          cases hall2 with
          | nil => trivial
          | cons h1 h2 =>
            cases h2 with
            | nil => exact h1
            | cons h3 h4 => exact ⟨_, by rw [dif_neg (by simp)], .cons h1 (.cons h3 h4)⟩
        · cases hmk
      · cases hmk
    · cases hk
  cases x with
  | normal => exact main h
  | ret => exact main h
  | exit id => cases h

/-- numbers of the arguments' temporaries -/
structure FnIs (P : Program) (f : FuncId) (sig : Sig) (fn : Func) (body : Code) : Prop where
  isFn : P.funcs[f]? = some fn
  isBody : fn.body = some body
  name : (fn.name == "runtime.NumGoroutine") = false
  args : sig.n ≤ fn.ntmps
  slots : slotsAre sig.out.slots 0 = true
  wf : sig.out.wf = true
  le : sig.inn.roots.length ≤ sig.out.roots.length

/-- A function keeps to what its code does to abstract values. -/
theorem fn_ok (hcx : CxOk P cx) {f : FuncId} {sig : Sig} {fn : Func} {body : Code} (hf : FnIs P f sig fn body) {cl : List (CutF (Den sig.us))}
    (hcl : CutsAre cx fn.ntmps sig.inn.roots.length cl body (retK cx sig.inn.roots.length sig fn.results.toList)) {k : Nat} {F : Den sig.ts → Option (Den sig.us)}
    (hF : ∀ x, F x = (match mkT sig.inn (toL sig.ts x) with
      | some s => orCut (findCut k cl 1) sig.inn.roots.length s.e s.rs s.c (bodyK cx fn.ntmps sig.inn.roots.length (findCut k cl) body 1 s.e s.rs s.c (retK cx sig.inn.roots.length sig fn.results.toList))
      | none => none)) : Meets P f sig F := by
  refine ⟨hf.wf, hf.le, fun x r hx s hs => ?_⟩
  rw [hF x, hs] at hx
  simp only at hx
  have hsc : s.c = sig.inn.roots.length := by
    unfold mkT at hs
    split at hs
    · split at hs
      · injection hs with hs; subst hs; rfl
      · cases hs
    · cases hs
  intro F0 R0 w0 args h1 h2 h3 h4 h5
  unfold Runs
  have hcall : (callFunc f args).run P w0 = .ok (.enter f args) w0 := by
    unfold callFunc program
    simp [bind, Sem.bind, Sem.run, hf.isFn, hf.name, hf.isBody, pure]
    have := hf.name
    simp at this
    simp [this, Sem.run]
  rw [hcall]
  simp only
  refine calls_of_wp hf.isFn hf.isBody ?_
  have hA : ∀ j v, (BaseOf F0 R0 w0 sig.inn.roots.length).A j = some v → j < sig.inn.roots.length := by
    intro j v hv
    have : (if j < sig.inn.roots.length then some (R0 j).hdr else none) = some v := hv
    split at this
    · assumption
    · cases this
  have hwp := code_ok (n := fn.ntmps) (B := BaseOf F0 R0 w0 sig.inn.roots.length) hcx hA (postQ_fine (P := P) (fn := fn) (sig := sig)) (ret_ok hcx hA hf.slots) hcl (a := ⟨args ++ Array.replicate (fn.ntmps - args.size) undef, []⟩) (w := w0) hx
    ⟨⟨F0, R0, h1, ⟨fun _ _ _ => rfl, fun j b hb => .inl ⟨j, hb⟩, fun b hb => .inl hb, fun b hb => hb, Nat.le_refl _, rfl, rfl, rfl, fun j v hv => ?_⟩, fun t => ?_, fun j hj => h2 j (by rw [← hsc]; exact hj)⟩, ?_, rfl⟩
  · refine wp_mono hwp fun e a w hq => ?_
    cases e with
    | normal => obtain ⟨q1, v, q2, q3⟩ := hq; exact ⟨q1, v, q2, v, rfl, q3⟩
    | ret => obtain ⟨q1, v, q2, q3⟩ := hq; exact ⟨q1, v, q2, v, rfl, q3⟩
    | _ => exact hq.elim
  · have : (if j < sig.inn.roots.length then some (R0 j).hdr else none) = some v := hv
    split at this
    · rename_i hj; injection this with this; exact ⟨h5 j hj, this⟩
    · cases this
  · have h6 := h3 t
    have : (args ++ Array.replicate (fn.ntmps - args.size) undef).getD t undef = args.getD t undef := by
      simp only [Array.getD_eq_getD_getElem?]
      by_cases ht : t < args.size
      · rw [Array.getElem?_append_left ht]
      · rw [Array.getElem?_append_right (by omega), Array.getElem?_eq_none (by omega : args.size ≤ t)]
        rw [Array.getElem?_replicate]
        split <;> rfl
    simp only [this]; exact h6
  · have := hf.args
    simp; omega
end
end Go.Sx

namespace Go.Sx
open Go

def lookΓ : List (Nat × TI) → Nat → Option TI
  | [], _ => none
  | (t, i) :: r, x => cond (Nat.beq x t) (some i) (lookΓ r x)

theorem lookΓ_mem : ∀ {l : List (Nat × TI)} {t : Nat} {i : TI}, lookΓ l t = some i → (t, i) ∈ l
  | [], t, i, h => by cases h
  | (t', i') :: r, t, i, h => by
    unfold lookΓ at h
    cases hb : Nat.beq t t' with
    | true =>
      rw [hb] at h
      have h : some i' = some i := h
      injection h with h
      rw [Nat.eq_of_beq_eq_true hb, h]; simp
    | false =>
      rw [hb] at h
      exact List.mem_cons_of_mem _ (lookΓ_mem (show lookΓ r t = some i from h))

theorem tyOk_of {P : Program} {l : List (Nat × TI)} (h : (l.all fun p => tyCheck P p.1 p.2) = true) : TyOk P (lookΓ l) :=
  ⟨fun t i ht => List.all_eq_true.1 h (t, i) (lookΓ_mem ht)⟩

def lookC : List (Nat × Contract) → Nat → List Contract
  | [], _ => []
  | (t, i) :: r, x => cond (Nat.beq x t) (i :: lookC r x) (lookC r x)

theorem lookC_mem : ∀ {l : List (Nat × Contract)} {t : Nat} {i : Contract}, i ∈ lookC l t → (t, i) ∈ l
  | [], t, i, h => by cases h
  | (t', i') :: r, t, i, h => by
    unfold lookC at h
    cases hb : Nat.beq t t' with
    | true =>
      rw [hb] at h
      have h : i ∈ i' :: lookC r t := h
      rcases List.mem_cons.1 h with e | e
      · rw [Nat.eq_of_beq_eq_true hb, e]; simp
      · exact List.mem_cons_of_mem _ (lookC_mem e)
    | false =>
      rw [hb] at h
      exact List.mem_cons_of_mem _ (lookC_mem (show i ∈ lookC r t from h))
end Go.Sx

namespace Go.Sx
open Go

def bodyOf (fn : Func) : Code := match fn.body with | some c => c | none => .skip

def runF (cx : Cx) (fn : Func) (sig : Sig) (cl : List (CutF (Den sig.us))) (k : Nat) (π : List Bool) (tm : Tmpl) (ts : List T) (x : Den ts) : Option (Den sig.us) :=
  runK cx fn.ntmps sig.inn.roots.length (findCut k cl) (bodyOf fn) (retK cx sig.inn.roots.length sig fn.results.toList) π tm ts x

def startF (cx : Cx) (fn : Func) (sig : Sig) (cl : List (CutF (Den sig.us))) (k : Nat) (x : Den sig.ts) : Option (Den sig.us) :=
  match mkT sig.inn (toL sig.ts x) with
  | some s => orCut (findCut k cl 1) sig.inn.roots.length s.e s.rs s.c (bodyK cx fn.ntmps sig.inn.roots.length (findCut k cl) (bodyOf fn) 1 s.e s.rs s.c (retK cx sig.inn.roots.length sig fn.results.toList))
  | none => none

def CutL (cx : Cx) (fn : Func) (sig : Sig) (cl : List (CutF (Den sig.us))) : List (CutF (Den sig.us)) → Prop
  | [] => True
  | c :: r => (c.p = encP c.path ∧ (∀ x, c.F 0 x = none) ∧ ∀ k x, c.F (k + 1) x = runF cx fn sig cl k c.path c.tm c.ts x) ∧ CutL cx fn sig cl r

def fnChk (fn : Func) (sig : Sig) : Bool :=
  fn.body.isSome && !(fn.name == "runtime.NumGoroutine") && Nat.ble sig.n fn.ntmps && slotsAre sig.out.slots 0 && sig.out.wf && Nat.ble sig.inn.roots.length sig.out.roots.length

theorem CutL.mem {cx : Cx} {fn : Func} {sig : Sig} {cl : List (CutF (Den sig.us))} : ∀ {l : List (CutF (Den sig.us))}, CutL cx fn sig cl l → ∀ c ∈ l, c.p = encP c.path ∧ (∀ x, c.F 0 x = none) ∧ ∀ k x, c.F (k + 1) x = runF cx fn sig cl k c.path c.tm c.ts x
  | [], _, c, hc => by cases hc
  | c' :: l, h, c, hc => by
    rcases List.mem_cons.1 hc with e | e
    · rw [e]; exact h.1
    · exact CutL.mem h.2 c e

theorem fn_is {P : Program} {cx : Cx} (hcx : CxOk P cx) {f : FuncId} {fn : Func} {sig : Sig} (hf : P.funcs[f]? = some fn) (hchk : fnChk fn sig = true) {cl : List (CutF (Den sig.us))} (hcl : CutL cx fn sig cl cl)
    {k : Nat} {F : Den sig.ts → Option (Den sig.us)} (hF : ∀ x, F x = startF cx fn sig cl k x) : Meets P f sig F := by
  simp only [fnChk, Bool.and_eq_true, Bool.not_eq_true', Option.isSome_iff_exists] at hchk
  obtain ⟨⟨⟨⟨⟨⟨body, hb⟩, hn⟩, hsz⟩, hsl⟩, hw⟩, hle⟩ := hchk
  have hbo : bodyOf fn = body := by unfold bodyOf; rw [hb]
  refine fn_ok hcx (fn := fn) (body := body) ⟨hf, hb, hn, Nat.ble_eq.mp hsz, hsl, hw, Nat.ble_eq.mp hle⟩ (cl := cl) ⟨fun c hc => (hcl.mem c hc).1, fun c hc => (hcl.mem c hc).2.1, fun c hc k x => ?_⟩ (k := k) (fun x => ?_)
  · rw [(hcl.mem c hc).2.2 k x]; unfold runF; rw [hbo]
  · rw [hF x]; unfold startF; rw [hbo]
    try (cases mkT sig.inn (toL sig.ts x) <;> rfl)

/-- the contracts of a list keep -/
def ConL (P : Program) : List (Nat × Contract) → Prop
  | [] => True
  | (f, c) :: r => Meets P f c.sig c.F ∧ ConL P r

theorem ConL.mem {P : Program} : ∀ {l : List (Nat × Contract)}, ConL P l → ∀ {f : Nat} {c : Contract}, (f, c) ∈ l → Meets P f c.sig c.F
  | [], _, f, c, h => by cases h
  | (f', c') :: l, h, f, c, hm => by
    rcases List.mem_cons.1 hm with e | e
    · injection e with e1 e2; subst e1 e2; exact h.1
    · exact ConL.mem h.2 e

theorem cx_is {P : Program} {Γ : List (Nat × TI)} (hΓ : TyOk P (lookΓ Γ)) {l : List (Nat × Contract)} (h : ConL P l) : CxOk P ⟨lookΓ Γ, lookC l⟩ :=
  ⟨hΓ, fun _ _ hc => h.mem (lookC_mem hc)⟩

/-! ### Words for data -/
abbrev w64 (x : Int) : Int := IntKind.wrap .i64 x
abbrev wr (k : IntKind) (x : Int) : Int := IntKind.wrap k x
abbrev andI (k : IntKind) (x y : Int) : Int := IntKind.wrap k (BitVec.ofInt k.bits x &&& BitVec.ofInt k.bits y).toNat
abbrev orI (k : IntKind) (x y : Int) : Int := IntKind.wrap k (BitVec.ofInt k.bits x ||| BitVec.ofInt k.bits y).toNat
abbrev xorI (k : IntKind) (x y : Int) : Int := IntKind.wrap k (BitVec.ofInt k.bits x ^^^ BitVec.ofInt k.bits y).toNat
abbrev notI (k : IntKind) (x : Int) : Int := IntKind.wrap k (BitVec.ofInt k.bits (if k.signed then -1 else k.max) ^^^ BitVec.ofInt k.bits x).toNat
abbrev shlI (k : IntKind) (x y : Int) : Int := IntKind.wrap k (x * 2 ^ (min y.toNat k.bits))
abbrev shrI (k : IntKind) (x y : Int) : Int := Int.fdiv x (2 ^ (min y.toNat k.bits))
abbrev sEq (x y : ByteArray) : Bool := ByteArray.toList x == ByteArray.toList y
abbrev sLt (x y : ByteArray) : Bool := Op.bytesLess (ByteArray.toList x) (ByteArray.toList y)
abbrev sLen (x : ByteArray) : Int := (ByteArray.size x : Int)
abbrev lLen {α : Type} (x : List α) : Int := (List.length x : Int)
abbrev cutS (s : ByteArray) (l h : Nat) : ByteArray := ByteArray.extract s l h
abbrev cutL {α : Type} (x : List α) (l h : Nat) : List α := List.drop l (List.take h x)
abbrev getL {α : Type} (x : List α) (i : Int) (z : α) : α := List.getD x (Int.toNat i) z
end Go.Sx

namespace Go.Sx
open Go Go.RowKit
set_option linter.unusedVariables false
set_option linter.unusedSimpArgs false

theorem runs_calls {P : Program} {f : FuncId} {fn : Func} {args : Array Value} {w : World} {Q : Value → World → Prop} (hf : P.funcs[f]? = some fn) (hb : fn.body.isSome = true) (hn : (fn.name == "runtime.NumGoroutine") = false)
    (h : Runs P f args w Q) : Calls P f args w fun e w' => ∃ v, e = .returned v ∧ Q v w' := by
  have hcall : (callFunc f args).run P w = .ok (.enter f args) w := by
    obtain ⟨body, hb⟩ := Option.isSome_iff_exists.1 hb
    unfold callFunc program
    simp [bind, Sem.bind, Sem.run, hf, hb, pure]
    simp at hn
    simp [hn, Sem.run]
  unfold Runs at h
  rw [hcall] at h
  exact h

/-- what came in is read-only -/
abbrev R0 : Nat → RV := fun _ => ⟨false, undef, []⟩
abbrev old (W : World) : Nat → Prop := fun b => b < W.heap.size

theorem law_walk {P : Program} {f : FuncId} {fn : Func} {n : Nat} {slots : List (Nat × CF)} {ts : List T} {F : Den ts → Option (Den [.bool])}
    (hm : Meets P f ⟨n, ⟨[], slots⟩, ts, ⟨[], [(0, .l (.dat .bool))]⟩, [.bool]⟩ F) (hf : P.funcs[f]? = some fn) (hb : fn.body.isSome = true) (hn : (fn.name == "runtime.NumGoroutine") = false)
    {x : Den ts} {b : Bool} (hF : F x = some (b, ())) {es : List (Nat × CV)} (hs : mkE slots (toL ts x) = some (es, [])) {args : Array Value} {W : World}
    (hsz : args.size = n) (hv : ∀ t, VR R0 (old W) W (lookE es t) (args.getD t undef)) : Calls P f args W fun e W' => e = .returned (.bool b) ∧ Below W.heap.size W W' := by
  have h := hm.ok x (b, ()) hF ⟨lookE es, lookR [], 0⟩ (by show (match mkE slots (toL ts x) with | some (e, []) => some _ | _ => none) = _; rw [hs]; rfl) (old W) R0 W args
    ⟨fun j => rfl, fun j => List.nodup_nil, fun i j _ b hb => by (cases hb), fun j b hb => by (cases hb), fun j b hb => by (cases hb), fun b hb => hb⟩ (fun j _ => ⟨rfl, rfl⟩) hv hsz (fun j hj => by (cases hj))
  refine (runs_calls hf hb hn h).mono fun e W' ⟨v, he, rts, cvs, hmo, F1, R1, hs1, hsi, hr⟩ => ?_
  have hmo' : some (([] : List Root), [CV.l (.dat .bool b)]) = some (rts, cvs) := hmo
  injection hmo' with hmo'
  injection hmo' with h1 h2
  subst h1 h2
  have hvb := VR_bool (show VR R1 F1 W' (dB b) v from hr)
  rw [he, hvb]
  exact ⟨rfl, hsi.os, hsi.tape, hsi.output, hsi.size, fun k hk => hsi.rest k hk fun ⟨j, hj⟩ => by cases hj⟩

theorem cap_str {s : ByteArray} {n : Nat} (h : s.size ≤ n) (hn : n ≤ cap) : s.size ≤ cap := Nat.le_trans h hn
end Go.Sx

namespace Go.Sx
open Go
set_option linter.unusedVariables false
set_option linter.unusedSimpArgs false

theorem wr_ok {k : IntKind} {x : Int} (h : if k.signed then -(2 ^ (k.bits - 1) : Int) ≤ x ∧ x < 2 ^ (k.bits - 1) else 0 ≤ x ∧ x < 2 ^ k.bits) : wr k x = x := (wrap_iff k x).2 h

theorem w64_ok {x : Int} (h1 : -9223372036854775808 ≤ x) (h2 : x < 9223372036854775808) : IntKind.wrap .i64 x = x := by
  rw [wrap_iff]; simp only [IntKind.signed, IntKind.bits]; simp; omega

theorem u32_ok {x : Int} (h1 : 0 ≤ x) (h2 : x < 4294967296) : IntKind.wrap .u32 x = x := by
  rw [wrap_iff]; simp only [IntKind.signed, IntKind.bits]; simp; omega

theorem bv_nat {w n : Nat} (h : n < 2 ^ w) : (BitVec.ofInt w (n : Int)).toNat = n := by
  simp [BitVec.toNat_ofInt]
  exact Nat.mod_eq_of_lt h

theorem xor_i64 {a b : Nat} (ha : a < 2 ^ 63) (hb : b < 2 ^ 63) : xorI .i64 (a : Int) (b : Int) = ((a ^^^ b : Nat) : Int) := by
  unfold xorI
  rw [BitVec.toNat_xor, bv_nat (Nat.lt_of_lt_of_le ha (by decide)), bv_nat (Nat.lt_of_lt_of_le hb (by decide))]
  have := Nat.xor_lt_two_pow ha hb
  exact w64_ok (by omega) (by omega)

theorem xor_u32 {a b : Nat} (ha : a < 2 ^ 32) (hb : b < 2 ^ 32) : xorI .u32 (a : Int) (b : Int) = ((a ^^^ b : Nat) : Int) := by
  unfold xorI
  rw [BitVec.toNat_xor, bv_nat (w := IntKind.u32.bits) ha, bv_nat (w := IntKind.u32.bits) hb]
  have := Nat.xor_lt_two_pow ha hb
  exact u32_ok (by omega) (by omega)

theorem and_u32 {a b : Nat} (ha : a < 2 ^ 32) (hb : b < 2 ^ 32) : andI .u32 (a : Int) (b : Int) = ((a &&& b : Nat) : Int) := by
  unfold andI
  rw [BitVec.toNat_and, bv_nat (w := IntKind.u32.bits) ha, bv_nat (w := IntKind.u32.bits) hb]
  have : a &&& b ≤ a := Nat.and_le_left
  exact u32_ok (by omega) (by omega)

theorem not_u32 {a : Nat} (ha : a < 2 ^ 32) : notI .u32 (a : Int) = ((a ^^^ 4294967295 : Nat) : Int) := by
  have := xor_u32 (show 4294967295 < 2 ^ 32 by decide) ha
  rw [Nat.xor_comm] at this
  exact this

theorem shr_u32 {a : Nat} : shrI .u32 (a : Int) 1 = ((a / 2 : Nat) : Int) := by
  unfold shrI
  show Int.fdiv (a : Int) (2 ^ 1) = _
  rw [Int.fdiv_eq_ediv_of_nonneg _ (by decide)]
  omega

theorem byteAt_nat (s : ByteArray) (i : Int) : byteAt s i = (((s.data.getD i.toNat 0).toNat : Nat) : Int) := rfl
end Go.Sx
