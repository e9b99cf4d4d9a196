/- Part 1 of a library of this repo: what a function of the program does to abstract values, and that this is sound. Holds for every program. -/
import Derived.Below
import Derived.KernelRfl
import Derived.Laws.Tables
import Derived.Orders
import GoSem.Dispatch
set_option linter.unusedVariables false
namespace Go.Sx
open Go

inductive All2 {α β : Type} (r : α → β → Prop) : List α → List β → Prop where
  | nil : All2 r [] []
  | cons {a : α} {b : β} {l : List α} {m : List β} : r a b → All2 r l m → All2 r (a :: l) (b :: m)

theorem All2.imp {α β : Type} {r s : α → β → Prop} (h : ∀ a b, r a b → s a b) {l : List α} {m : List β} (k : All2 r l m) : All2 s l m := by
  induction k with
  | nil => exact .nil
  | cons hab _ ih => exact .cons (h _ _ hab) ih

theorem All2.length {α β : Type} {r : α → β → Prop} {l : List α} {m : List β} (k : All2 r l m) : l.length = m.length := by
  induction k with
  | nil => rfl
  | cons _ _ ih => simp [ih]

theorem All2.get {α β : Type} {r : α → β → Prop} {l : List α} {m : List β} (k : All2 r l m) {i : Nat} {a : α} (h : l[i]? = some a) : ∃ b, m[i]? = some b ∧ r a b := by
  induction k generalizing i with
  | nil => simp at h
  | cons hab _ ih =>
    cases i with
    | zero => simp at h; subst h; exact ⟨_, rfl, hab⟩
    | succ i => simp at h; simpa using ih h

theorem All2.get' {α β : Type} {r : α → β → Prop} {l : List α} {m : List β} (k : All2 r l m) {i : Nat} {b : β} (h : m[i]? = some b) : ∃ a, l[i]? = some a ∧ r a b := by
  induction k generalizing i with
  | nil => simp at h
  | cons hab _ ih =>
    cases i with
    | zero => simp at h; subst h; exact ⟨_, rfl, hab⟩
    | succ i => simp at h; simpa using ih h

theorem All2.append {α β : Type} {r : α → β → Prop} {l l' : List α} {m m' : List β} (k : All2 r l m) (k' : All2 r l' m') : All2 r (l ++ l') (m ++ m') := by
  induction k with
  | nil => exact k'
  | cons hab _ ih => exact .cons hab ih

theorem All2.split {α β : Type} {r : α → β → Prop} : ∀ {l l' : List α} {m : List β}, All2 r (l ++ l') m → ∃ m1 m2, m = m1 ++ m2 ∧ All2 r l m1 ∧ All2 r l' m2
  | [], _, m, h => ⟨[], m, rfl, .nil, h⟩
  | a :: l, l', _, .cons hab h => by
    obtain ⟨m1, m2, e, h1, h2⟩ := All2.split h
    exact ⟨_ :: m1, m2, by rw [e]; rfl, .cons hab h1, h2⟩

theorem All2.set {α β : Type} {r : α → β → Prop} {l : List α} {m : List β} (k : All2 r l m) (i : Nat) {a : α} {b : β} (h : r a b) : All2 r (l.set i a) (m.set i b) := by
  induction k generalizing i with
  | nil => exact .nil
  | cons hab hk ih =>
    cases i with
    | zero => exact .cons h hk
    | succ i => exact .cons hab (ih i)

theorem All2.of_map {α β γ : Type} {r : α → β → Prop} {f : γ → α} {g : γ → β} (h : ∀ c, r (f c) (g c)) : ∀ l : List γ, All2 r (l.map f) (l.map g)
  | [] => .nil
  | c :: l => .cons (h c) (All2.of_map h l)

/-! ## Data -/
inductive T where
  | int (k : IntKind) | bool | str | raw | list (t : T) | pair (a b : T) | sp (t : T)
  deriving DecidableEq

@[reducible] def T.den : T → Type
  | .int _ => Int
  | .bool => Bool
  | .str => ByteArray
  | .raw => Value
  | .list t => List t.den
  | .sp t => List t.den × Nat
  | .pair a b => a.den × b.den

def T.n : T → Nat
  | .pair a b => a.n + b.n
  | _ => 1

/-- no slice inside -/
def T.plain : T → Bool
  | .list _ | .sp _ => false
  | .pair a b => a.plain && b.plain
  | _ => true

def T.zero : (t : T) → t.den
  | .int _ => (0 : Int)
  | .bool => false
  | .str => ByteArray.empty
  | .raw => Value.slice none 0 0
  | .list _ => []
  | .sp _ => ([], 0)
  | .pair a b => (a.zero, b.zero)

theorem T.n_pos : ∀ t : T, 0 < t.n
  | .pair a b => by have := a.n_pos; simp only [T.n]; omega
  | .int _ | .bool | .str | .raw | .list _ | .sp _ => by simp [T.n]

def cap : Nat := 2 ^ 47

/-! ## Reading: cells that hold a datum, in blocks that F names -/
def CellsAt (w : World) (b o : Nat) (cs : List Value) : Prop := ∀ j v, cs[j]? = some v → w.cell? ⟨b, o + j, none⟩ = some v

/-- one cell -/
def one : Value → Bool
  | .agg _ | .tuple _ => false
  | _ => true

def RdL (F : Nat → Prop) (w : World) : (t : T) → t.den → List Value → Prop
  | .int k, n, cs => cs = [.int k n] ∧ k.wrap n = n
  | .bool, b, cs => cs = [.bool b]
  | .str, s, cs => cs = [.string s] ∧ s.size ≤ cap
  | .raw, v, cs => cs = [v] ∧ one v = true
  | .list t, xs, cs => ∃ A c, cs = [.slice A (List.length xs) c] ∧ List.length xs ≤ c ∧ List.length xs ≤ cap ∧
      ∀ i x, (show List t.den from xs)[i]? = some x → ∃ b o cs', A = some ⟨b, o, none⟩ ∧ F b ∧ RdL F w t x cs' ∧ CellsAt w b (o + i * t.n) cs'
  | .sp t, x, cs => ∃ A c, cs = [.slice A x.2 c] ∧ x.2 ≤ List.length x.1 ∧ List.length x.1 ≤ c ∧ List.length x.1 ≤ cap ∧
      ∀ i y, (show List t.den from x.1)[i]? = some y → ∃ b o cs', A = some ⟨b, o, none⟩ ∧ F b ∧ RdL F w t y cs' ∧ CellsAt w b (o + i * t.n) cs'
  | .pair a b, (x, y), cs => ∃ c1 c2, cs = c1 ++ c2 ∧ RdL F w a x c1 ∧ RdL F w b y c2

/-- two worlds agree on the blocks that F names -/
def Agree (F : Nat → Prop) (w w' : World) : Prop := ∀ b, F b → w'.heap[b]? = w.heap[b]?

theorem Agree.refl (F : Nat → Prop) (w : World) : Agree F w w := fun _ _ => rfl
theorem Agree.trans {F : Nat → Prop} {a b c : World} (h : Agree F a b) (k : Agree F b c) : Agree F a c := fun x hx => (k x hx).trans (h x hx)
theorem Agree.mono {F G : Nat → Prop} {w w' : World} (h : Agree G w w') (hs : ∀ b, F b → G b) : Agree F w w' := fun b hb => h b (hs b hb)

theorem cell_of_heap {w w' : World} {b o : Nat} (h : w'.heap[b]? = w.heap[b]?) : w'.cell? ⟨b, o, none⟩ = w.cell? ⟨b, o, none⟩ := by
  simp [World.cell?, h]

theorem CellsAt.agree {w w' : World} {b o : Nat} {cs : List Value} (h : CellsAt w b o cs) (e : w'.heap[b]? = w.heap[b]?) : CellsAt w' b o cs :=
  fun j v hj => by rw [cell_of_heap e]; exact h j v hj

theorem RdL.length {F : Nat → Prop} {w : World} : ∀ {t : T} {x : t.den} {cs : List Value}, RdL F w t x cs → cs.length = t.n
  | .int _, _, _, h => by simp [h.1, T.n]
  | .bool, _, _, h => by simp only [RdL] at h; simp [h, T.n]
  | .str, _, _, h => by simp [h.1, T.n]
  | .raw, _, _, h => by simp [h.1, T.n]
  | .list _, _, _, ⟨_, _, h, _⟩ => by simp [h, T.n]
  | .sp _, _, _, ⟨_, _, h, _⟩ => by simp [h, T.n]
  | .pair _ _, (_, _), _, ⟨_, _, h, h1, h2⟩ => by subst h; simp [T.n, h1.length, h2.length]

theorem RdL.mono {F F' : Nat → Prop} {w w' : World} (hF : ∀ b, F b → F' b) (hw : Agree F w w') : ∀ {t : T} {x : t.den} {cs : List Value}, RdL F w t x cs → RdL F' w' t x cs
  | .int _, _, _, h => h
  | .bool, _, _, h => h
  | .str, _, _, h => h
  | .raw, _, _, h => h
  | .list t, xs, _, ⟨A, c, h, h1, h2, h3⟩ => ⟨A, c, h, h1, h2, fun i x hx => by
      obtain ⟨b, o, cs', ha, hb, hr, hc⟩ := h3 i x hx
      exact ⟨b, o, cs', ha, hF b hb, hr.mono hF hw, hc.agree (hw b hb)⟩⟩
  | .sp t, _, _, ⟨A, c, h, h0, h1, h2, h3⟩ => ⟨A, c, h, h0, h1, h2, fun i x hx => by
      obtain ⟨b, o, cs', ha, hb, hr, hc⟩ := h3 i x hx
      exact ⟨b, o, cs', ha, hF b hb, hr.mono hF hw, hc.agree (hw b hb)⟩⟩
  | .pair _ _, (_, _), _, ⟨c1, c2, h, h1, h2⟩ => ⟨c1, c2, h, h1.mono hF hw, h2.mono hF hw⟩

/-! ## Owning: cells that hold a datum, all of whose rows lie in blocks of its own -/
def RowAt {α : Type} (w : World) (n : Nat) (E : α → List Value → List Nat → Prop) (xs : List α) (v : Value) (S : List Nat) : Prop :=
  xs.length ≤ cap ∧ ((xs = [] ∧ (∃ A, v = .slice A 0 0) ∧ S = []) ∨
    ∃ b o c arr ty fz Ss, v = .slice (some ⟨b, o, none⟩) xs.length c ∧ xs.length ≤ c ∧ w.heap[b]? = some (.cells arr ty fz) ∧ (∀ i, i < arr.size → fz.1 ≤ i → fz.2 ≤ i) ∧ o + c * n ≤ arr.size ∧
      S = b :: List.flatten Ss ∧ Ss.length = xs.length ∧
      ∀ i x, xs[i]? = some x → ∃ cs, cs.length = n ∧ E x cs (Ss.getD i []) ∧ ∀ j u, cs[j]? = some u → arr[o + i * n + j]? = some u)

theorem row_ptr {α : Type} {w : World} {n : Nat} {E : α → List Value → List Nat → Prop} {xs : List α} {v : Value} {S : List Nat} (h : RowAt w n E xs v S) {A : Option Addr} {l c : Nat} (e : v = .slice A l c) (h0 : 0 < l) : ∃ b o, A = some ⟨b, o, none⟩ := by
  rcases h.2 with ⟨_, ⟨A', h1⟩, _⟩ | ⟨b, o, c', arr, ty, fz, Ss, h1, _⟩
  · rw [h1] at e; injection e with _ e2 _; omega
  · rw [h1] at e; injection e with e1 _ _; exact ⟨b, o, e1.symm⟩

/-- a slice of the first k -/
def cutV (k : Nat) : Value → Value
  | .slice A _ c => .slice A k c
  | v => v
theorem one_cutV (k : Nat) (v : Value) : one (cutV k v) = one v := by cases v <;> rfl

def OwnL (w : World) : (t : T) → t.den → List Value → List Nat → Prop
  | .int k, n, cs, S => (cs = [.int k n] ∧ k.wrap n = n) ∧ S = []
  | .bool, b, cs, S => cs = [.bool b] ∧ S = []
  | .str, s, cs, S => (cs = [.string s] ∧ s.size ≤ cap) ∧ S = []
  | .raw, v, cs, S => (cs = [v] ∧ one v = true) ∧ S = []
  | .list t, xs, cs, S => ∃ v, cs = [v] ∧ RowAt w t.n (fun x cs' S' => OwnL w t x cs' S') (show List t.den from xs) v S
  | .sp t, x, cs, S => x.2 ≤ List.length x.1 ∧ ∃ v, cs = [cutV x.2 v] ∧ RowAt w t.n (fun z cs' S' => OwnL w t z cs' S') (show List t.den from x.1) v S
  | .pair a b, (x, y), cs, S => ∃ c1 c2 S1 S2, cs = c1 ++ c2 ∧ S = S1 ++ S2 ∧ OwnL w a x c1 S1 ∧ OwnL w b y c2 S2

/-- an element of a row: owned to the bottom, or read-only below -/
def ElL (F : Nat → Prop) (w : World) (deep : Bool) (t : T) (x : t.den) (cs : List Value) (S : List Nat) : Prop :=
  if deep then OwnL w t x cs S else RdL F w t x cs ∧ S = []

theorem RowAt.imp {α : Type} {w w' : World} {n : Nat} {E E' : α → List Value → List Nat → Prop} {xs : List α} {v : Value} {S : List Nat}
    (h : RowAt w n E xs v S) (hw : ∀ b ∈ S, w'.heap[b]? = w.heap[b]?)
    (hE : ∀ x cs S', (∀ b ∈ S', b ∈ S) → E x cs S' → E' x cs S') : RowAt w' n E' xs v S := by
  obtain ⟨hl, h | ⟨b, o, c, arr, ty, fz, Ss, h1, h2, h3, hz, h4, h5, h6, h7⟩⟩ := h
  · exact ⟨hl, .inl h⟩
  · refine ⟨hl, .inr ⟨b, o, c, arr, ty, fz, Ss, h1, h2, ?_, hz, h4, h5, h6, fun i x hx => ?_⟩⟩
    · rw [hw b (by simp [h5])]; exact h3
    · obtain ⟨cs, k1, k2, k3⟩ := h7 i x hx
      refine ⟨cs, k1, hE x cs _ (fun y hy => ?_) k2, k3⟩
      rw [h5]
      refine List.mem_cons_of_mem _ (List.mem_flatten.2 ⟨Ss.getD i [], ?_, hy⟩)
      have hi : i < Ss.length := by rw [h6]; exact (List.getElem?_eq_some_iff.1 hx).1
      rw [List.getD_eq_getElem?_getD, List.getElem?_eq_getElem hi]; exact List.getElem_mem hi

theorem OwnL.agree {w w' : World} : ∀ {t : T} {x : t.den} {cs : List Value} {S : List Nat}, OwnL w t x cs S → (∀ b ∈ S, w'.heap[b]? = w.heap[b]?) → OwnL w' t x cs S
  | .int _, _, _, _, h, _ => h
  | .bool, _, _, _, h, _ => h
  | .str, _, _, _, h, _ => h
  | .raw, _, _, _, h, _ => h
  | .list t, xs, cs, S, ⟨v, hv, h⟩, hw => ⟨v, hv, h.imp hw (fun _ _ _ hS hE => OwnL.agree hE (fun b hb => hw b (hS b hb)))⟩
  | .sp t, x, cs, S, ⟨hk, v, hv, h⟩, hw => ⟨hk, v, hv, h.imp hw (fun _ _ _ hS hE => OwnL.agree hE (fun b hb => hw b (hS b hb)))⟩
  | .pair _ _, (_, _), _, _, ⟨c1, c2, S1, S2, h, hS, h1, h2⟩, hw => ⟨c1, c2, S1, S2, h, hS, h1.agree (fun b hb => hw b (by simp [hS, hb])), h2.agree (fun b hb => hw b (by simp [hS, hb]))⟩

theorem OwnL.length {w : World} : ∀ {t : T} {x : t.den} {cs : List Value} {S : List Nat}, OwnL w t x cs S → cs.length = t.n
  | .int _, _, _, _, h => by simp [h.1.1, T.n]
  | .bool, _, _, _, h => by simp [h.1, T.n]
  | .str, _, _, _, h => by simp [h.1.1, T.n]
  | .raw, _, _, _, h => by simp [h.1.1, T.n]
  | .list _, _, _, _, ⟨_, h, _⟩ => by simp [h, T.n]
  | .sp _, _, _, _, ⟨_, _, h, _⟩ => by simp [h, T.n]
  | .pair _ _, (_, _), _, _, ⟨_, _, _, _, h, _, h1, h2⟩ => by subst h; simp [T.n, h1.length, h2.length]

/-- What is owned can be read, where its blocks are among those that are named. -/
theorem OwnL.read {F : Nat → Prop} {w : World} : ∀ {t : T} {x : t.den} {cs : List Value} {S : List Nat}, OwnL w t x cs S → (∀ b ∈ S, F b) → RdL F w t x cs
  | .int _, _, _, _, h, _ => h.1
  | .bool, _, _, _, h, _ => h.1
  | .str, _, _, _, h, _ => h.1
  | .raw, _, _, _, h, _ => h.1
  | .sp t, x, cs, S, ⟨hk, v, hv, hl, h⟩, hF => by
    rcases h with ⟨hx, ⟨A0, hv'⟩, hS⟩ | ⟨b, o, c, arr, ty, fz, Ss, h1, h2, h3, hz, h4, h5, h6, h7⟩
    · have hx0 : x.1 = [] := hx
      have hk0 : x.2 = 0 := by rw [hx0] at hk; simpa using hk
      refine ⟨A0, 0, ?_, hk, ?_, ?_, ?_⟩
      · rw [hv, hv', hk0]; rfl
      · rw [hx0]; simp
      · rw [hx0]; simp
      · intro i y hi; rw [show (x.1 : List t.den) = [] from hx] at hi; simp at hi
    · refine ⟨some ⟨b, o, none⟩, c, by rw [hv, h1]; rfl, hk, h2, hl, fun i y hy => ?_⟩
      obtain ⟨cs', k1, k2, k3⟩ := h7 i y hy
      have hi : i < Ss.length := by rw [h6]; exact (List.getElem?_eq_some_iff.1 hy).1
      refine ⟨b, o, cs', rfl, hF b (by simp [h5]), OwnL.read k2 (fun y hy => hF y ?_), ?_⟩
      · rw [h5]
        refine List.mem_cons_of_mem _ (List.mem_flatten.2 ⟨Ss.getD i [], ?_, hy⟩)
        rw [List.getD_eq_getElem?_getD, List.getElem?_eq_getElem hi]; exact List.getElem_mem hi
      · intro j u hu
        have := k3 j u hu
        simp [World.cell?, h3, this]
  | .pair _ _, (_, _), _, _, ⟨c1, c2, S1, S2, h, hS, h1, h2⟩, hF => ⟨c1, c2, h, h1.read (fun b hb => hF b (by simp [hS, hb])), h2.read (fun b hb => hF b (by simp [hS, hb]))⟩
  | .list t, xs, cs, S, ⟨v, hv, hl, h⟩, hF => by
    rcases h with ⟨hx, ⟨A0, hv'⟩, hS⟩ | ⟨b, o, c, arr, ty, fz, Ss, h1, h2, h3, hz, h4, h5, h6, h7⟩
    · refine ⟨A0, 0, ?_, ?_, ?_, ?_⟩
      · rw [hv, hv', show xs = [] from hx]; rfl
      · rw [show xs = [] from hx]; simp
      · rw [show xs = [] from hx]; simp
      · intro i x hi; rw [show xs = [] from hx] at hi; simp at hi
    · refine ⟨some ⟨b, o, none⟩, c, by rw [hv, h1], h2, hl, fun i x hx => ?_⟩
      obtain ⟨cs', k1, k2, k3⟩ := h7 i x hx
      have hi : i < Ss.length := by rw [h6]; exact (List.getElem?_eq_some_iff.1 hx).1
      refine ⟨b, o, cs', rfl, hF b (by simp [h5]), OwnL.read k2 (fun y hy => hF y ?_), ?_⟩
      · rw [h5]
        refine List.mem_cons_of_mem _ (List.mem_flatten.2 ⟨Ss.getD i [], ?_, hy⟩)
        rw [List.getD_eq_getElem?_getD, List.getElem?_eq_getElem hi]; exact List.getElem_mem hi
      · intro j u hu
        have := k3 j u hu
        simp [World.cell?, h3, this]

/-! ## A datum without one of its slices, which is owned by something else -/
def HoleL (w : World) : (t : T) → Nat → Value → t.den → List Value → List Nat → Prop
  | .pair a b, off, h, (x, y), cs, S =>
    if off < a.n then ∃ c1 c2 S1 S2, cs = c1 ++ c2 ∧ S = S1 ++ S2 ∧ HoleL w a off h x c1 S1 ∧ OwnL w b y c2 S2
    else ∃ c1 c2 S1 S2, cs = c1 ++ c2 ∧ S = S1 ++ S2 ∧ OwnL w a x c1 S1 ∧ HoleL w b (off - a.n) h y c2 S2
  | .sp _, off, h, _, cs, S => off = 0 ∧ cs = [h] ∧ S = []
  | _, _, _, _, _, _ => False

theorem HoleL.agree {w w' : World} : ∀ {t : T} {off : Nat} {h : Value} {x : t.den} {cs : List Value} {S : List Nat}, HoleL w t off h x cs S → (∀ b ∈ S, w'.heap[b]? = w.heap[b]?) → HoleL w' t off h x cs S
  | .pair a b, off, h, (x, y), cs, S, hh, hw => by
    unfold HoleL at hh ⊢
    split at hh
    · rename_i ho
      obtain ⟨c1, c2, S1, S2, e, eS, h1, h2⟩ := hh
      rw [if_pos ho]
      exact ⟨c1, c2, S1, S2, e, eS, HoleL.agree h1 (fun b hb => hw b (by simp [eS, hb])), h2.agree (fun b hb => hw b (by simp [eS, hb]))⟩
    · rename_i ho
      obtain ⟨c1, c2, S1, S2, e, eS, h1, h2⟩ := hh
      rw [if_neg ho]
      exact ⟨c1, c2, S1, S2, e, eS, h1.agree (fun b hb => hw b (by simp [eS, hb])), HoleL.agree h2 (fun b hb => hw b (by simp [eS, hb]))⟩
  | .sp _, _, _, _, _, _, hh, _ => hh
  | .int _, _, _, _, _, _, hh, _ => hh.elim
  | .bool, _, _, _, _, _, hh, _ => hh.elim
  | .str, _, _, _, _, _, hh, _ => hh.elim
  | .raw, _, _, _, _, _, hh, _ => hh.elim
  | .list _, _, _, _, _, _, hh, _ => hh.elim

theorem HoleL.length {w : World} : ∀ {t : T} {off : Nat} {h : Value} {x : t.den} {cs : List Value} {S : List Nat}, HoleL w t off h x cs S → cs.length = t.n
  | .pair a b, off, h, (x, y), cs, S, hh => by
    unfold HoleL at hh
    split at hh
    · obtain ⟨c1, c2, S1, S2, e, eS, h1, h2⟩ := hh
      subst e; simp [T.n, HoleL.length h1, h2.length]
    · obtain ⟨c1, c2, S1, S2, e, eS, h1, h2⟩ := hh
      subst e; simp [T.n, h1.length, HoleL.length h2]
  | .sp _, _, _, _, _, _, ⟨_, h, _⟩ => by simp [h, T.n]
  | .int _, _, _, _, _, _, hh => hh.elim
  | .bool, _, _, _, _, _, hh => hh.elim
  | .str, _, _, _, _, _, hh => hh.elim
  | .raw, _, _, _, _, _, hh => hh.elim
  | .list _, _, _, _, _, _, hh => hh.elim

/-- the slice at a place of a datum -/
def getSp : (t : T) → Nat → t.den → Option ((u : T) × (List u.den × Nat))
  | .pair a b, off, x => if off < a.n then getSp a off x.1 else getSp b (off - a.n) x.2
  | .sp u, off, x => (match off with | 0 => some ⟨u, x⟩ | _ => none)
  | _, _, _ => none
/-- another slice there -/
def setSp (u : T) (y : List u.den × Nat) : (t : T) → Nat → t.den → Option t.den
  | .pair a b, off, x => if off < a.n then (match setSp u y a off x.1 with | some z => some (z, x.2) | none => none) else (match setSp u y b (off - a.n) x.2 with | some z => some (x.1, z) | none => none)
  | .sp u', off, x => (match off with | 0 => if h : u = u' then some (h ▸ y) else none | _ => none)
  | _, _, _ => none

theorem OwnL.hole {w : World} : ∀ {t : T} {off : Nat} {x : t.den} {u : T} {y : List u.den × Nat} {cs : List Value} {S : List Nat}, OwnL w t x cs S → getSp t off x = some ⟨u, y⟩ →
    ∃ h S1 S2, cs[off]? = some h ∧ HoleL w t off h x cs S1 ∧ OwnL w (.sp u) y [h] S2 ∧ (∀ b, b ∈ S ↔ b ∈ S1 ∨ b ∈ S2) ∧ (S.Nodup → S1.Nodup ∧ S2.Nodup ∧ ∀ b ∈ S1, b ∉ S2)
  | .pair a b, off, (x, y'), u, y, cs, S, ⟨c1, c2, Sa, Sb, e, eS, h1, h2⟩, hg => by
    subst e eS
    have hl1 := h1.length
    unfold getSp at hg
    split at hg
    · rename_i ho
      obtain ⟨h, S1, S2, k1, k2, k3, k4, k5⟩ := OwnL.hole h1 hg
      refine ⟨h, S1 ++ Sb, S2, by rw [List.getElem?_append_left (by omega)]; exact k1, ?_, k3, fun b => ?_, fun hn => ?_⟩
      · unfold HoleL; rw [if_pos ho]; exact ⟨c1, c2, S1, Sb, rfl, rfl, k2, h2⟩
      · simp only [List.mem_append, k4]; constructor
        · rintro ((h | h) | h) <;> simp [h]
        · rintro ((h | h) | h) <;> simp [h]
      · obtain ⟨n1, n2, n3⟩ := List.nodup_append.1 hn
        obtain ⟨m1, m2, m3⟩ := k5 n1
        refine ⟨List.nodup_append.2 ⟨m1, n2, fun p hp q hq => n3 p ((k4 p).2 (.inl hp)) q hq⟩, m2, fun b hb hb2 => ?_⟩
        rcases List.mem_append.1 hb with hb | hb
        · exact m3 b hb hb2
        · exact n3 b ((k4 b).2 (.inr hb2)) b hb rfl
    · rename_i ho
      obtain ⟨h, S1, S2, k1, k2, k3, k4, k5⟩ := OwnL.hole h2 hg
      refine ⟨h, Sa ++ S1, S2, by rw [List.getElem?_append_right (by omega), hl1]; exact k1, ?_, k3, fun b => ?_, fun hn => ?_⟩
      · unfold HoleL; rw [if_neg ho]; exact ⟨c1, c2, Sa, S1, rfl, rfl, h1, k2⟩
      · simp only [List.mem_append, k4]; constructor
        · rintro (h | (h | h)) <;> simp [h]
        · rintro ((h | h) | h) <;> simp [h]
      · obtain ⟨n1, n2, n3⟩ := List.nodup_append.1 hn
        obtain ⟨m1, m2, m3⟩ := k5 n2
        refine ⟨List.nodup_append.2 ⟨n1, m1, fun p hp q hq => n3 p hp q ((k4 q).2 (.inl hq))⟩, m2, fun b hb hb2 => ?_⟩
        rcases List.mem_append.1 hb with hb | hb
        · exact n3 b hb b ((k4 b).2 (.inr hb2)) rfl
        · exact m3 b hb hb2
  | .sp u', off, x, u, y, cs, S, h, hg => by
    unfold getSp at hg
    split at hg
    · injection hg with hg
      injection hg with e1 e2
      subst e1
      have e2 := eq_of_heq e2
      subst e2
      obtain ⟨hk, v, hv, hr⟩ := h
      refine ⟨cutV x.2 v, [], S, by rw [hv]; rfl, ⟨rfl, hv, rfl⟩, ⟨hk, v, rfl, hr⟩, fun b => by simp, fun hn => ⟨List.nodup_nil, hn, fun b hb => by cases hb⟩⟩
    · cases hg
  | .int _, _, _, _, _, _, _, _, hg => by cases hg
  | .bool, _, _, _, _, _, _, _, hg => by cases hg
  | .str, _, _, _, _, _, _, _, hg => by cases hg
  | .raw, _, _, _, _, _, _, _, hg => by cases hg
  | .list _, _, _, _, _, _, _, _, hg => by cases hg

theorem HoleL.plug {w : World} : ∀ {t : T} {off : Nat} {x z : t.den} {u : T} {y : List u.den × Nat} {h : Value} {cs : List Value} {S1 S2 : List Nat}, HoleL w t off h x cs S1 → OwnL w (.sp u) y [h] S2 → setSp u y t off x = some z →
    ∃ S, OwnL w t z cs S ∧ (∀ b, b ∈ S ↔ b ∈ S1 ∨ b ∈ S2) ∧ (S1.Nodup → S2.Nodup → (∀ b ∈ S1, b ∉ S2) → S.Nodup)
  | .pair a b, off, (x, x'), z, u, y, h, cs, S1, S2, hh, ho, hs => by
    unfold HoleL at hh
    unfold setSp at hs
    by_cases hlt : off < a.n
    · rw [if_pos hlt] at hh hs
      obtain ⟨c1, c2, Sa, Sb, e, eS, h1, h2⟩ := hh
      split at hs
      · rename_i z1 hz1
        injection hs with hs
        subst hs e eS
        obtain ⟨S, k1, k2, k3⟩ := HoleL.plug h1 ho hz1
        refine ⟨S ++ Sb, ⟨c1, c2, S, Sb, rfl, rfl, k1, h2⟩, fun b => ?_, fun n1 n2 n3 => ?_⟩
        · simp only [List.mem_append, k2]; constructor
          · rintro ((h | h) | h) <;> simp [h]
          · rintro ((h | h) | h) <;> simp [h]
        · obtain ⟨m1, m2, m3⟩ := List.nodup_append.1 n1
          refine List.nodup_append.2 ⟨k3 m1 n2 fun b hb => n3 b (List.mem_append_left _ hb), m2, fun p hp q hq e => ?_⟩
          subst e
          rcases (k2 p).1 hp with hp | hp
          · exact m3 p hp p hq rfl
          · exact n3 p (List.mem_append_right _ hq) hp
      · cases hs
    · rw [if_neg hlt] at hh hs
      obtain ⟨c1, c2, Sa, Sb, e, eS, h1, h2⟩ := hh
      split at hs
      · rename_i z1 hz1
        injection hs with hs
        subst hs e eS
        obtain ⟨S, k1, k2, k3⟩ := HoleL.plug h2 ho hz1
        refine ⟨Sa ++ S, ⟨c1, c2, Sa, S, rfl, rfl, h1, k1⟩, fun b => ?_, fun n1 n2 n3 => ?_⟩
        · simp only [List.mem_append, k2]; constructor
          · rintro (h | (h | h)) <;> simp [h]
          · rintro ((h | h) | h) <;> simp [h]
        · obtain ⟨m1, m2, m3⟩ := List.nodup_append.1 n1
          refine List.nodup_append.2 ⟨m1, k3 m2 n2 fun b hb => n3 b (List.mem_append_right _ hb), fun p hp q hq e => ?_⟩
          subst e
          rcases (k2 p).1 hq with hq | hq
          · exact m3 p hp p hq rfl
          · exact n3 p (List.mem_append_left _ hp) hq
      · cases hs
  | .sp u', off, x, z, u, y, h, cs, S1, S2, hh, ho, hs => by
    unfold setSp at hs
    split at hs
    · split at hs
      · rename_i e
        subst e
        injection hs with hs
        subst hs
        obtain ⟨_, e1, e2⟩ := hh
        subst e1 e2
        exact ⟨S2, ho, fun b => by simp, fun _ n2 _ => n2⟩
      · cases hs
    · cases hs
  | .int _, _, _, _, _, _, _, _, _, _, hh, _, _ => hh.elim
  | .bool, _, _, _, _, _, _, _, _, _, hh, _, _ => hh.elim
  | .str, _, _, _, _, _, _, _, _, _, hh, _, _ => hh.elim
  | .raw, _, _, _, _, _, _, _, _, _, hh, _, _ => hh.elim
  | .list _, _, _, _, _, _, _, _, _, _, hh, _, _ => hh.elim

/-- the elements of a row with a hole -/
def HoleE (w : World) (t : T) (i off : Nat) (h : Value) (p : t.den × Nat) (cs : List Value) (S : List Nat) : Prop :=
  if p.2 = i then HoleL w t off h p.1 cs S else OwnL w t p.1 cs S

theorem HoleE.agree {w w' : World} {t : T} {i off : Nat} {h : Value} {p : t.den × Nat} {cs : List Value} {S : List Nat} (hh : HoleE w t i off h p cs S) (hw : ∀ b ∈ S, w'.heap[b]? = w.heap[b]?) : HoleE w' t i off h p cs S := by
  unfold HoleE at hh ⊢
  split at hh
  · rename_i hp; rw [if_pos hp]; exact hh.agree hw
  · rename_i hp; rw [if_neg hp]; exact hh.agree hw

/-! ## Abstract values -/
inductive LV where
  | any
  | dat (t : T) (x : t.den)          -- a datum; its rows are read-only
  | sl (id : Nat)                    -- the slice of root id
  | slv (id k : Nat)                 -- the first k of the slice of root id
  | slw (id l m n : Nat)             -- the elements l..m of the slice of root id, n cells each
  | nils                             -- the nil slice
  | err (some : Bool)                -- an error: nil or not
  | anyb                             -- true or false
  | ptr (id off : Nat)               -- the address of a cell of the variable id
  | el (id i n off : Nat)            -- the address of a cell of element i (of n cells) of the row id
  | rad (t : T) (x : t.den) (off : Nat)  -- the address of a cell of a datum in read-only memory
  | els (id i k : Nat)               -- the slice in row i of the rows of root id: k elements
  | eel (id i j : Nat)               -- the address of element j of row i of the rows of root id
  | fn (g : Nat) (caps : List Nat)   -- a function literal with the variables that it captured

inductive CV where
  | l (a : LV)
  | agg (as : List LV)

inductive AV where
  | none                             -- nothing is known
  | c (v : CV)
  | tup (vs : List CV)

inductive Root where
  | dead
  | box (cells : List LV)
  | row (deep : Bool) (t : T) (xs : List t.den)
  | ro (t : T) (xs : List t.den)     -- was a row; is read-only now
  | rowh (t : T) (xs : List t.den) (i off h k : Nat)  -- owned to the bottom, but for the slice at a place of element i: the first k of root h
  | mat (t : T) (xs : List (List t.den))  -- rows that are owned, below a row that nothing turns

abbrev Rs := Nat → Root

/-- what stands for a root in a world: is it there; the slice's value or the variable's address; the blocks that it owns -/
structure RV where
  live : Bool
  hdr : Value
  S : List Nat

def PtrR (R : Nat → RV) (id off : Nat) (v : Value) : Prop := (R id).live = true ∧ ∃ b, (R id).hdr = .pointer (some ⟨b, 0, none⟩) ∧ v = .pointer (some ⟨b, off, none⟩)

def LR (R : Nat → RV) (F : Nat → Prop) (w : World) : LV → Value → Prop
  | .any, v => one v = true
  | .dat t x, v => RdL F w t x [v]
  | .sl id, v => (R id).live = true ∧ v = (R id).hdr ∧ one v = true
  | .slv id k, v => (R id).live = true ∧ ∃ A l c, (R id).hdr = .slice A l c ∧ (k ≤ l ∧ (0 < k → ∃ b o, A = some ⟨b, o, none⟩)) ∧ v = .slice A k c
  | .slw id l m n, v => (R id).live = true ∧ ∃ A q c, (R id).hdr = .slice A q c ∧ l ≤ m ∧ m ≤ q ∧ v = .slice (if c = l then A else A.map (·.add (l * n))) (m - l) (c - l)
  | .nils, v => ∃ A, v = .slice A 0 0
  | .err b, v => if b then ∃ t x, v = .iface t x else v = .nilIface
  | .anyb, v => ∃ b, v = .bool b
  | .ptr id off, v => PtrR R id off v
  | .el id i n off, v => (R id).live = true ∧ ∃ b o l c, (R id).hdr = .slice (some ⟨b, o, none⟩) l c ∧ i < l ∧ v = .pointer (some ⟨b, o + i * n + off, none⟩)
  | .rad t x off, v => ∃ b o cs, v = .pointer (some ⟨b, o + off, none⟩) ∧ F b ∧ RdL F w t x cs ∧ CellsAt w b o cs
  | .els id i k, v => (R id).live = true ∧ k ≤ cap ∧ ∃ hs : List Value, RdL F w (.list .raw) hs [(R id).hdr] ∧ hs[i]? = some v ∧ ∃ A c, v = .slice A k c ∧ (0 < k → ∃ b o, A = some ⟨b, o, none⟩)
  | .eel id i j, v => (R id).live = true ∧ ∃ hs : List Value, RdL F w (.list .raw) hs [(R id).hdr] ∧ ∃ b o k c, hs[i]? = some (.slice (some ⟨b, o, none⟩) k c) ∧ j < k ∧ v = .pointer (some ⟨b, o + j, none⟩)
  | .fn g caps, v => ∃ vs : List Value, v = .func (.func g) #[] vs.toArray ∧ All2 (fun id u => PtrR R id 0 u) caps vs

def CR (R : Nat → RV) (F : Nat → Prop) (w : World) : CV → Value → Prop
  | .l a, v => LR R F w a v
  | .agg as, v => ∃ cs : List Value, v = .agg cs.toArray ∧ All2 (LR R F w) as cs

def VR (R : Nat → RV) (F : Nat → Prop) (w : World) : AV → Value → Prop
  | .none, _ => True
  | .c c, v => CR R F w c v
  | .tup l, v => ∃ vs : List Value, v = .tuple vs.toArray ∧ All2 (CR R F w) l vs

theorem LR.one {R : Nat → RV} {F : Nat → Prop} {w : World} {a : LV} {v : Value} (h : LR R F w a v) : one v = true := by
  cases a with
  | any => exact h
  | dat t x =>
    have hl := RdL.length h
    cases t with
    | int k => obtain ⟨e, _⟩ := h; simp at e; subst e; rfl
    | bool => have e : [v] = [_] := h; simp at e; subst e; rfl
    | str => obtain ⟨e, _⟩ := h; simp at e; subst e; rfl
    | raw => obtain ⟨e, h1⟩ := h; simp at e; subst e; exact h1
    | list t => obtain ⟨A, c, e, _⟩ := h; simp at e; subst e; rfl
    | sp t => obtain ⟨A, c, e, _⟩ := h; simp at e; subst e; rfl
    | pair a b =>
      have := a.n_pos; have := b.n_pos
      simp [T.n] at hl; omega
  | sl id => exact h.2.2
  | slv id k => obtain ⟨_, A, l, c, _, _, rfl⟩ := h; rfl
  | slw id l m n => obtain ⟨_, A, q, c, _, _, _, rfl⟩ := h; rfl
  | nils => obtain ⟨A, rfl⟩ := h; rfl
  | err b =>
    cases b with
    | true => obtain ⟨t, x, rfl⟩ := h; rfl
    | false => obtain rfl : v = .nilIface := h; rfl
  | anyb => obtain ⟨b, rfl⟩ := h; rfl
  | ptr id off => obtain ⟨_, b, _, rfl⟩ := h; rfl
  | el id i n off => obtain ⟨_, b, o, l, c, _, _, rfl⟩ := h; rfl
  | rad t x off => obtain ⟨b, o, cs, rfl, _⟩ := h; rfl
  | els id i k => obtain ⟨_, _, hs, _, _, A, c, rfl, _⟩ := h; rfl
  | eel id i j => obtain ⟨_, hs, _, b, o, k, c, _, _, rfl⟩ := h; rfl
  | fn g caps => obtain ⟨vs, rfl, _⟩ := h; rfl

theorem one_cells {v : Value} (h : one v = true) : v.cells = #[v] := by cases v <;> simp [one] at h <;> rfl

def CV.cells : CV → List LV
  | .l a => [a]
  | .agg as => as

theorem CR.cells {R : Nat → RV} {F : Nat → Prop} {w : World} {a : CV} {v : Value} (h : CR R F w a v) : All2 (LR R F w) a.cells v.cells.toList := by
  cases a with
  | l a => rw [one_cells (LR.one h)]; exact .cons h .nil
  | agg as => obtain ⟨cs, rfl, hf⟩ := h; simpa [Value.cells, CV.cells] using hf

def RootOk (F : Nat → Prop) (R : Nat → RV) (w : World) : Root → RV → Prop
  | .dead, r => r.S = []
  | .box ls, r => r.live = true ∧ ∃ b arr ty, r.hdr = .pointer (some ⟨b, 0, none⟩) ∧ r.S = [b] ∧ w.heap[b]? = some (.cells arr ty (0, 0)) ∧ All2 (LR R F w) ls arr.toList
  | .row deep t xs, r => r.live = true ∧ RowAt w t.n (ElL F w deep t) xs r.hdr r.S
  | .ro t xs, r => r.live = true ∧ r.S = [] ∧ RdL F w (.list t) xs [r.hdr]
  | .rowh t xs i off h k, r => r.live = true ∧ i < List.length xs ∧ (R h).live = true ∧ ∃ A l c, (R h).hdr = .slice A l c ∧ k ≤ l ∧ RowAt w t.n (HoleE w t i off (.slice A k c)) xs.zipIdx r.hdr r.S
  | .mat t xs, r => r.live = true ∧ t.plain = true ∧ t.n = 1 ∧ List.length xs ≤ cap ∧ ∃ (hs : List Value) (Ss : List (List Nat)), RdL F w (.list .raw) hs [r.hdr] ∧ hs.length = List.length xs ∧ Ss.length = List.length xs ∧ r.S = Ss.flatten ∧
      ∀ i (x : List t.den), xs[i]? = some x → RowAt w t.n (fun z cs S => OwnL w t z cs S) x (hs.getD i undef) (Ss.getD i [])

structure Sat (F : Nat → Prop) (R : Nat → RV) (w : World) (rs : Rs) : Prop where
  ok : ∀ j, RootOk F R w (rs j) (R j)
  nd : ∀ j, (R j).S.Nodup
  dj : ∀ i j, i ≠ j → ∀ b, b ∈ (R i).S → b ∉ (R j).S
  lt : ∀ j b, b ∈ (R j).S → b < w.heap.size
  nF : ∀ j b, b ∈ (R j).S → ¬ F b
  Flt : ∀ b, F b → b < w.heap.size

/-- from one state to another; 'new' are the roots that were made -/
structure Goes (F : Nat → Prop) (R : Nat → RV) (w : World) (F' : Nat → Prop) (R' : Nat → RV) (w' : World) (new : Nat → Prop) : Prop where
  was : ∀ j, new j → (R j).live = false
  hdr : ∀ j, ¬ new j → (R' j).live = (R j).live ∧ (R' j).hdr = (R j).hdr
  sub : ∀ b, F b → F' b
  rest : ∀ b, b < w.heap.size → (∀ j, b ∉ (R j).S) → w'.heap[b]? = w.heap[b]?
  own : ∀ j b, b ∈ (R' j).S → (∃ i, b ∈ (R i).S) ∨ w.heap.size ≤ b
  Fnew : ∀ b, F' b → F b ∨ (∃ i, b ∈ (R i).S) ∨ w.heap.size ≤ b
  size : w.heap.size ≤ w'.heap.size
  os : w'.os = w.os
  tape : w'.tape = w.tape
  output : w'.output = w.output

theorem Goes.refl (F : Nat → Prop) (R : Nat → RV) (w : World) (new : Nat → Prop) (h : ∀ j, ¬ new j) : Goes F R w F R w new :=
  ⟨fun j hj => (h j hj).elim, fun _ _ => ⟨rfl, rfl⟩, fun _ h => h, fun _ _ _ => rfl, fun j b h => .inl ⟨j, h⟩, fun _ h => .inl h, Nat.le_refl _, rfl, rfl, rfl⟩

theorem Goes.agree {F F' : Nat → Prop} {R R' : Nat → RV} {w w' : World} {rs : Rs} {new : Nat → Prop} (h : Goes F R w F' R' w' new) (hs : Sat F R w rs) : Agree F w w' :=
  fun b hb => h.rest b (hs.Flt b hb) (fun j hj => hs.nF j b hj hb)

theorem PtrR.goes {F F' : Nat → Prop} {R R' : Nat → RV} {w w' : World} {new : Nat → Prop} (h : Goes F R w F' R' w' new) {id off : Nat} {v : Value} (hv : PtrR R id off v) : PtrR R' id off v := by
  obtain ⟨hl, b, hb, hv⟩ := hv
  have hn : ¬ new id := fun hn => by rw [h.was id hn] at hl; cases hl
  exact ⟨(h.hdr id hn).1.trans hl, b, (h.hdr id hn).2.trans hb, hv⟩

theorem LR.goes {F F' : Nat → Prop} {R R' : Nat → RV} {w w' : World} {new : Nat → Prop} (h : Goes F R w F' R' w' new) (ha : Agree F w w') {a : LV} {v : Value} (hv : LR R F w a v) : LR R' F' w' a v := by
  have hn : ∀ id, (R id).live = true → ¬ new id := fun id hl hn => by rw [h.was id hn] at hl; cases hl
  cases a with
  | any => exact hv
  | dat t x => exact RdL.mono h.sub ha hv
  | sl id => exact ⟨(h.hdr id (hn id hv.1)).1.trans hv.1, hv.2.1.trans (h.hdr id (hn id hv.1)).2.symm, hv.2.2⟩
  | slv id k =>
    obtain ⟨hl, A, l, c, e, hk, hv⟩ := hv
    exact ⟨(h.hdr id (hn id hl)).1.trans hl, A, l, c, (h.hdr id (hn id hl)).2.trans e, hk, hv⟩
  | slw id l m n =>
    obtain ⟨hl, A, q, c, e, h1, h2, hv⟩ := hv
    exact ⟨(h.hdr id (hn id hl)).1.trans hl, A, q, c, (h.hdr id (hn id hl)).2.trans e, h1, h2, hv⟩
  | nils => exact hv
  | err b => exact hv
  | anyb => exact hv
  | ptr id off => exact PtrR.goes h hv
  | el id i n off =>
    obtain ⟨hl, b, o, l, c, hh, hil, e⟩ := hv
    exact ⟨(h.hdr id (hn id hl)).1.trans hl, b, o, l, c, (h.hdr id (hn id hl)).2.trans hh, hil, e⟩
  | rad t x off =>
    obtain ⟨b, o, cs, e, hF, hr, hc⟩ := hv
    exact ⟨b, o, cs, e, h.sub b hF, RdL.mono h.sub ha hr, hc.agree (ha b hF)⟩
  | els id i k =>
    obtain ⟨hl, hk, hs, h1, h2⟩ := hv
    refine ⟨(h.hdr id (hn id hl)).1.trans hl, hk, hs, ?_, h2⟩
    rw [(h.hdr id (hn id hl)).2]; exact RdL.mono h.sub ha h1
  | eel id i j =>
    obtain ⟨hl, hs, h1, h2⟩ := hv
    refine ⟨(h.hdr id (hn id hl)).1.trans hl, hs, ?_, h2⟩
    rw [(h.hdr id (hn id hl)).2]; exact RdL.mono h.sub ha h1
  | fn g caps =>
    obtain ⟨vs, e, hf⟩ := hv
    exact ⟨vs, e, hf.imp fun _ _ hp => PtrR.goes h hp⟩

theorem CR.goes {F F' : Nat → Prop} {R R' : Nat → RV} {w w' : World} {new : Nat → Prop} (h : Goes F R w F' R' w' new) (ha : Agree F w w') {a : CV} {v : Value} (hv : CR R F w a v) : CR R' F' w' a v := by
  cases a with
  | l a => exact LR.goes h ha hv
  | agg as => obtain ⟨cs, e, hf⟩ := hv; exact ⟨cs, e, hf.imp fun _ _ hp => LR.goes h ha hp⟩

theorem VR.goes {F F' : Nat → Prop} {R R' : Nat → RV} {w w' : World} {new : Nat → Prop} (h : Goes F R w F' R' w' new) (ha : Agree F w w') {a : AV} {v : Value} (hv : VR R F w a v) : VR R' F' w' a v := by
  cases a with
  | none => trivial
  | c a => exact CR.goes h ha hv
  | tup l => obtain ⟨vs, e, hf⟩ := hv; exact ⟨vs, e, hf.imp fun _ _ hp => CR.goes h ha hp⟩

theorem Goes.trans {F F1 F2 : Nat → Prop} {R R1 R2 : Nat → RV} {w w1 w2 : World} {n1 n2 new : Nat → Prop} (h : Goes F R w F1 R1 w1 n1) (k : Goes F1 R1 w1 F2 R2 w2 n2)
    (hnew : ∀ j, new j ↔ n1 j ∨ n2 j) (hlive : ∀ j, n2 j → ¬ n1 j) : Goes F R w F2 R2 w2 new := by
  refine ⟨fun j hj => ?_, fun j hj => ?_, fun b hb => k.sub b (h.sub b hb), fun b hb hS => ?_, fun j b hb => ?_, fun b hb => ?_, Nat.le_trans h.size k.size, k.os.trans h.os, k.tape.trans h.tape, k.output.trans h.output⟩
  · rcases (hnew j).1 hj with h1 | h2
    · exact h.was j h1
    · exact (h.hdr j (hlive j h2)).1 ▸ k.was j h2
  · have h1 : ¬ n1 j := fun e => hj ((hnew j).2 (.inl e))
    have h2 : ¬ n2 j := fun e => hj ((hnew j).2 (.inr e))
    exact ⟨(k.hdr j h2).1.trans (h.hdr j h1).1, (k.hdr j h2).2.trans (h.hdr j h1).2⟩
  · have e1 := h.rest b hb hS
    refine (k.rest b (Nat.lt_of_lt_of_le hb h.size) (fun j hj => ?_)).trans e1
    rcases h.own j b hj with ⟨i, hi⟩ | hge
    · exact hS i hi
    · omega
  · rcases k.own j b hb with ⟨i, hi⟩ | hge
    · exact h.own i b hi
    · exact .inr (Nat.le_trans h.size hge)
  · rcases k.Fnew b hb with h1 | ⟨i, hi⟩ | hge
    · exact h.Fnew b h1
    · exact .inr (h.own i b hi)
    · exact .inr (.inr (Nat.le_trans h.size hge))
end Go.Sx

namespace Go.Sx
open Go
set_option linter.unusedVariables false
set_option linter.unusedSimpArgs false

/-! ## Types of the program -/
inductive D where
  | bool | int (k : IntKind) | str | slice (e : Nat) | struct (fs : List (Nat × Nat)) | iface | other
  deriving DecidableEq

structure TI where
  size : Nat
  bytes : Nat
  agg : Bool
  d : D
  t : Option T
  deriving DecidableEq

def descD : TypeDesc → D
  | .bool => .bool
  | .int k => .int k
  | .string => .str
  | .slice e => .slice e
  | .struct fs => .struct (fs.toList.map fun f => (f.type, f.offset))
  | .interface _ => .iface
  | _ => .other

def aggD : TypeDesc → Bool
  | .struct _ | .array _ _ => true
  | _ => false

/-- do these cells hold the zero value of a datum -/
def zeroIs : T → List Value → Option (List Value)
  | .int k, cs => (match cs with | .int k' n :: r => if k' = k ∧ n = 0 then some r else none | _ => none)
  | .bool, cs => (match cs with | .bool b :: r => if b = false then some r else none | _ => none)
  | .str, cs => (match cs with | .string s :: r => if s.size = 0 then some r else none | _ => none)
  | .list _, cs | .sp _, cs => (match cs with | .slice none 0 0 :: r => some r | _ => none)
  | .raw, cs => (match cs with | .slice none 0 0 :: r => some r | _ => none)
  | .pair a b, cs => (zeroIs a cs).bind (zeroIs b)

def tyCheck (P : Program) (t : Nat) (i : TI) : Bool :=
  match P.info? t, P.underlying t with
  | some info, some desc =>
    info.size == i.size && info.bytes == i.bytes && aggD desc == i.agg && descD desc == i.d &&
    (match i.t with
     | none => true
     | some T => (match info.zero with | some z => (match zeroIs T z.cells.toList with | some [] => true | _ => false) | none => false) && T.n == i.size)
  | _, _ => false

structure TyOk (P : Program) (Γ : Nat → Option TI) : Prop where
  ok : ∀ t i, Γ t = some i → tyCheck P t i = true

section
variable {P : Program} {Γ : Nat → Option TI}

theorem TyOk.facts (h : TyOk P Γ) {t : Nat} {i : TI} (ht : Γ t = some i) : ∃ info desc, P.info? t = some info ∧ P.underlying t = some desc ∧
    info.size = i.size ∧ info.bytes = i.bytes ∧ aggD desc = i.agg ∧ descD desc = i.d ∧
    (∀ T, i.t = some T → (∃ z, info.zero = some z ∧ zeroIs T z.cells.toList = some []) ∧ T.n = i.size) := by
  have := h.ok t i ht
  unfold tyCheck at this
  split at this
  · rename_i info desc h1 h2
    simp only [Bool.and_eq_true, beq_iff_eq] at this
    obtain ⟨⟨⟨⟨a, b⟩, c⟩, d⟩, e⟩ := this
    refine ⟨info, desc, h1, h2, a, b, c, d, fun T hT => ?_⟩
    rw [hT] at e
    simp only [Bool.and_eq_true, beq_iff_eq] at e
    obtain ⟨e1, e2⟩ := e
    split at e1
    · rename_i z hz
      refine ⟨⟨z, hz, ?_⟩, e2⟩
      split at e1
      · rename_i h; exact h
      · cases e1
    · cases e1
  · cases this

theorem run_underlying {t : Nat} {d : TypeDesc} (h : P.underlying t = some d) (w : World) : (underlying t).run P w = .ok d w := by
  simp [underlying, program, bind, Sem.bind, Sem.run, h, pure]

theorem run_typeInfo {t : Nat} {d : TypeInfo} (h : P.info? t = some d) (w : World) : (typeInfo t).run P w = .ok d w := by
  simp [typeInfo, program, bind, Sem.bind, Sem.run, h, pure]

theorem run_bind {α β : Type} (s : Sem α) (f : α → Sem β) (w : World) : (s.bind f).run P w = match s.run P w with | .ok a w' => (f a).run P w' | .halt h w' => .halt h w' := by
  induction s generalizing w with
  | pure a => simp [Sem.bind, Sem.run]
  | load m a k ih =>
    simp only [Sem.bind, Sem.run]
    split
    · exact ih _ _
    · split
      · exact ih _ _
      · rfl
  | store m a v k ih =>
    cases v <;> simp only [Sem.bind, Sem.run] <;> (try rfl) <;>
    · split
      · split
        · rfl
        · exact ih _
      · split
        · exact ih _
        · rfl
  | new o k ih => simp only [Sem.bind, Sem.run]; exact ih _ _
  | shape r k ih => simp only [Sem.bind, Sem.run]; exact ih _ _
  | freeze a n k ih => simp only [Sem.bind, Sem.run]; exact ih _
  | frozen a k ih => simp only [Sem.bind, Sem.run]; exact ih _ _
  | getObj r k ih =>
    simp only [Sem.bind, Sem.run]
    split
    · rfl
    · exact ih _ _
    · rfl
  | setObj r o k ih =>
    simp only [Sem.bind, Sem.run]
    split
    · rfl
    · exact ih _
    · rfl
  | choose q k ih =>
    simp only [Sem.bind, Sem.run]
    split
    · exact ih _ _
    · exact ih _ _
  | sys c k ih => simp only [Sem.bind, Sem.run]; exact ih _ _
  | program k ih => simp only [Sem.bind, Sem.run]; exact ih _ _
  | mark m k ih => simp only [Sem.bind, Sem.run]; exact ih _
  | halt h => simp [Sem.bind, Sem.run]

theorem run_bind' {α β : Type} (s : Sem α) (f : α → Sem β) (w : World) : (s >>= f).run P w = match s.run P w with | .ok a w' => (f a).run P w' | .halt h w' => .halt h w' := run_bind s f w

theorem bind_ok {α β : Type} {s : Sem α} {f : α → Sem β} {w w' : World} {a : α} (h : s.run P w = .ok a w') : (s >>= f).run P w = (f a).run P w' := by
  rw [run_bind', h]

theorem run_pure {α : Type} (a : α) (w : World) : (pure a : Sem α).run P w = .ok a w := rfl

theorem run_sizeOf {t : Nat} {i : TypeInfo} (h : P.info? t = some i) (w : World) : (sizeOf t).run P w = .ok i.size w := by
  unfold sizeOf
  rw [bind_ok (run_typeInfo h w)]; rfl

theorem run_zeroValue {t : Nat} {i : TypeInfo} {z : Value} (h : P.info? t = some i) (hz : i.zero = some z) (w : World) : (zeroValue t).run P w = .ok z w := by
  unfold zeroValue
  rw [bind_ok (run_typeInfo h w), hz]; rfl

theorem run_isAgg {t : Nat} {d : TypeDesc} (h : P.underlying t = some d) (w : World) : (isAgg t).run P w = .ok (aggD d) w := by
  unfold isAgg
  rw [bind_ok (run_underlying h w)]
  cases d <;> rfl
end
end Go.Sx

namespace Go.Sx
open Go
set_option linter.unusedVariables false
set_option linter.unusedSimpArgs false

abbrev dI (k : IntKind) (n : Int) : AV := .c (.l (.dat (.int k) n))
abbrev dB (b : Bool) : AV := .c (.l (.dat .bool b))
abbrev dS (s : ByteArray) : AV := .c (.l (.dat .str s))

def constA : Value → AV
  | .int k n => if k.wrap n = n then dI k n else AV.none
  | .bool b => dB b
  | .string s => if s.size ≤ cap then dS s else AV.none
  | .slice none 0 0 => .c (.l .nils)
  | .nilIface => .c (.l (.err false))
  | _ => AV.none

def evA (e : Nat → AV) : Operand → AV
  | .tmp t => e t
  | .const v => constA v
  | .func f => .c (.l (.fn f []))
  | .global _ => AV.none

theorem VR_any (R : Nat → RV) (F : Nat → Prop) (w : World) (v : Value) : VR R F w AV.none v := trivial

theorem constA_ok (R : Nat → RV) (F : Nat → Prop) (w : World) (v : Value) : VR R F w (constA v) v := by
  unfold constA
  split
  · rename_i k n
    split
    · rename_i h; exact ⟨rfl, h⟩
    · trivial
  · rfl
  · split
    · rename_i h; exact ⟨rfl, h⟩
    · trivial
  · exact ⟨_, rfl⟩
  · rfl
  · trivial

def EnvR (R : Nat → RV) (F : Nat → Prop) (w : World) (e : Nat → AV) (tmps : Array Value) : Prop := ∀ t, VR R F w (e t) (tmps.getD t undef)

theorem evA_ok {R : Nat → RV} {F : Nat → Prop} {w : World} {e : Nat → AV} {a : Act} (h : EnvR R F w e a.tmps) (x : Operand) : VR R F w (evA e x) (a.eval x) := by
  cases x with
  | tmp t => simpa [evA, Act.eval] using h t
  | const v => exact constA_ok R F w v
  | func f => exact ⟨[], rfl, .nil⟩
  | global g => trivial

/-- what an operation comes to: it gives a value (at once, or by a call that returns one) -/
def Does (P : Program) (o : Oper) (ρ : Operand → Value) (w : World) (Q : Value → World → Prop) : Prop :=
  match (execOp ρ o).run P w with
  | .ok (.value v) w' => Q v w'
  | .ok .skip w' => Q undef w'
  | .ok (.enter f args) w' => Calls P f args w' (fun e w'' => ∃ v, e = .returned v ∧ Q v w'')
  | _ => False

theorem Does.wp {P : Program} {o : Oper} {a : Act} {w : World} {Q : Value → World → Prop} (h : Does P o a.eval w Q) {K : Act → World → Prop} {QQ : Exit → Act → World → Prop}
    (hk : ∀ v w', Q v w' → K (a.put o.dst v) w') : o.wp P a w K QQ := by
  unfold Does at h
  unfold Oper.wp Oper.upon
  split at h
  · rename_i v w' e; rw [e]; exact hk v w' h
  · rename_i w' e; rw [e]; exact hk undef w' h
  · rename_i f args w' e
    rw [e]
    refine Calls.mono h (fun e w'' he => ?_)
    obtain ⟨v, he, hq⟩ := he
    subst he
    exact hk v w'' hq
  · exact h.elim

def merge (c c' : Nat) (mod : List Nat) (rsG rs' : Rs) : Rs := fun j => if (c ≤ j ∧ j < c') ∨ j ∈ mod then rs' j else rsG j

/-- what is known of memory that nothing turns -/
structure Gl where
  p : (Nat → Prop) → World → Prop
  mono : ∀ {F F' : Nat → Prop} {w w' : World}, p F w → (∀ b, F b → F' b) → Agree F w w' → p F' w'
/-- nothing is known -/
def Gl.triv : Gl := ⟨fun _ _ => True, fun _ _ _ => trivial⟩
variable {G : Gl}

/-- what is known of the operands, and that a constant is its value -/
structure EnvOk (G : Gl) (R : Nat → RV) (F : Nat → Prop) (w : World) (ρA : Operand → AV) (ρ : Operand → Value) : Prop where
  vr : ∀ x, VR R F w (ρA x) (ρ x)
  cst : ∀ v, ρ (.const v) = v
  gl : G.p F w
instance {R : Nat → RV} {F : Nat → Prop} {w : World} {ρA : Operand → AV} {ρ : Operand → Value} : CoeFun (EnvOk G R F w ρA ρ) (fun _ => ∀ x, VR R F w (ρA x) (ρ x)) := ⟨EnvOk.vr⟩

/-- ONE OPERATION: from roots 'rs' (numbers below c are taken) to 'rs''; it looks at 'ids', it changes 'mod' and makes c..c'-1. Whatever else there is stays. -/
def LStep (G : Gl) (P : Program) (o : Oper) (ρA : Operand → AV) (rs : Rs) (c : Nat) (out : AV) (rs' : Rs) (c' : Nat) (ids mod : List Nat) : Prop :=
  c ≤ c' ∧ ∀ (rsG : Rs) (F : Nat → Prop) (R : Nat → RV) (w : World) (ρ : Operand → Value),
    (∀ j ∈ ids, rsG j = rs j) → (∀ j, c ≤ j → j < c' → (R j).live = false ∧ rsG j = .dead) →
    Sat F R w rsG → EnvOk G R F w ρA ρ →
    Does P o ρ w (fun v w' => ∃ F' R', Goes F R w F' R' w' (fun j => c ≤ j ∧ j < c') ∧ Sat F' R' w' (merge c c' mod rsG rs') ∧ VR R' F' w' out v)

theorem merge_nil (c : Nat) (rsG rs : Rs) : merge c c [] rsG rs = rsG := by
  funext j; simp only [merge]; rw [if_neg]; rintro (h | h)
  · omega
  · cases h

/-- an operation that only computes -/
theorem LStep.pure {P : Program} {o : Oper} {ρA : Operand → AV} {rs : Rs} {c : Nat} {out : AV} {ids : List Nat}
    (h : ∀ (F : Nat → Prop) (R : Nat → RV) (w : World) (ρ : Operand → Value), (∀ j ∈ ids, RootOk F R w (rs j) (R j)) → EnvOk G R F w ρA ρ →
      ∃ v, (execOp ρ o).run P w = .ok (.value v) w ∧ VR R F w out v) : LStep G P o ρA rs c out rs c ids [] := by
  refine ⟨Nat.le_refl _, fun rsG F R w ρ hids _ hs hv => ?_⟩
  obtain ⟨v, hr, ho⟩ := h F R w ρ (fun j hj => hids j hj ▸ hs.ok j) hv
  unfold Does
  rw [hr]
  refine ⟨F, R, Goes.refl _ _ _ _ (fun j => by omega), ?_, ho⟩
  rw [merge_nil]; exact hs

abbrev KT (α : Type) := AV → Rs → Nat → List Nat → List Nat → Option α

/-! ### Numbers, bools, strings -/
def binK {α : Type} (op : BinOp) (x y : AV) (k : AV → Option α) : Option α :=
  match op, x, y with
  | .add, .c (.l (.dat (.int a) x)), .c (.l (.dat (.int b) y)) => if a = b then k (dI a (a.wrap (x + y))) else none
  | .sub, .c (.l (.dat (.int a) x)), .c (.l (.dat (.int b) y)) => if a = b then k (dI a (a.wrap (x - y))) else none
  | .mul, .c (.l (.dat (.int a) x)), .c (.l (.dat (.int b) y)) => if a = b then k (dI a (a.wrap (x * y))) else none
  | .quo, .c (.l (.dat (.int a) x)), .c (.l (.dat (.int b) y)) => if a = b then cond (y == 0) none (k (dI a (a.wrap (Int.tdiv x y)))) else none
  | .rem, .c (.l (.dat (.int a) x)), .c (.l (.dat (.int b) y)) => if a = b then cond (y == 0) none (k (dI a (Int.tmod x y))) else none
  | .and, .c (.l (.dat (.int a) x)), .c (.l (.dat (.int b) y)) => if a = b then k (dI a (a.wrap (BitVec.ofInt a.bits x &&& BitVec.ofInt a.bits y).toNat)) else none
  | .or, .c (.l (.dat (.int a) x)), .c (.l (.dat (.int b) y)) => if a = b then k (dI a (a.wrap (BitVec.ofInt a.bits x ||| BitVec.ofInt a.bits y).toNat)) else none
  | .xor, .c (.l (.dat (.int a) x)), .c (.l (.dat (.int b) y)) => if a = b then k (dI a (a.wrap (BitVec.ofInt a.bits x ^^^ BitVec.ofInt a.bits y).toNat)) else none
  | .shl, .c (.l (.dat (.int a) x)), .c (.l (.dat (.int _) y)) => cond (decide (y < 0)) none (k (dI a (a.wrap (x * 2 ^ (min y.toNat a.bits)))))
  | .shr, .c (.l (.dat (.int a) x)), .c (.l (.dat (.int _) y)) => cond (decide (y < 0)) none (k (dI a (Int.fdiv x (2 ^ (min y.toNat a.bits)))))
  | .eql, .c (.l (.dat (.int a) x)), .c (.l (.dat (.int b) y)) => if a = b then k (dB (x == y)) else none
  | .neq, .c (.l (.dat (.int a) x)), .c (.l (.dat (.int b) y)) => if a = b then k (dB (x != y)) else none
  | .lss, .c (.l (.dat (.int a) x)), .c (.l (.dat (.int b) y)) => if a = b then k (dB (decide (x < y))) else none
  | .leq, .c (.l (.dat (.int a) x)), .c (.l (.dat (.int b) y)) => if a = b then k (dB (decide (x ≤ y))) else none
  | .gtr, .c (.l (.dat (.int a) x)), .c (.l (.dat (.int b) y)) => if a = b then k (dB (decide (x > y))) else none
  | .geq, .c (.l (.dat (.int a) x)), .c (.l (.dat (.int b) y)) => if a = b then k (dB (decide (x ≥ y))) else none
  | .add, .c (.l (.dat .str x)), .c (.l (.dat .str y)) => cond (decide (ByteArray.size x + ByteArray.size y ≤ cap)) (k (dS (ByteArray.append x y))) none
  | .eql, .c (.l (.dat .str x)), .c (.l (.dat .str y)) => k (dB (ByteArray.toList x == ByteArray.toList y))
  | .neq, .c (.l (.dat .str x)), .c (.l (.dat .str y)) => k (dB (!(ByteArray.toList x == ByteArray.toList y)))
  | .lss, .c (.l (.dat .str x)), .c (.l (.dat .str y)) => k (dB (Op.bytesLess (ByteArray.toList x) (ByteArray.toList y)))
  | .leq, .c (.l (.dat .str x)), .c (.l (.dat .str y)) => k (dB (Op.bytesLess (ByteArray.toList x) (ByteArray.toList y) || ByteArray.toList x == ByteArray.toList y))
  | .gtr, .c (.l (.dat .str x)), .c (.l (.dat .str y)) => k (dB (!(Op.bytesLess (ByteArray.toList x) (ByteArray.toList y) || ByteArray.toList x == ByteArray.toList y)))
  | .geq, .c (.l (.dat .str x)), .c (.l (.dat .str y)) => k (dB (!Op.bytesLess (ByteArray.toList x) (ByteArray.toList y)))
  | _, _, _ => none

/-! ### Ranges -/
theorem wrap_iff (k : IntKind) (n : Int) : k.wrap n = n ↔ (if k.signed then -(2 ^ (k.bits - 1) : Int) ≤ n ∧ n < 2 ^ (k.bits - 1) else 0 ≤ n ∧ n < 2 ^ k.bits) := by
  cases k <;> simp only [IntKind.wrap, IntKind.signed, IntKind.bits] <;> simp <;> (try split) <;> omega

theorem wrap_wrap (k : IntKind) (n : Int) : k.wrap (k.wrap n) = k.wrap n := by
  rw [wrap_iff]
  cases k <;> simp only [IntKind.wrap, IntKind.signed, IntKind.bits] <;> simp <;> (try split) <;> omega

theorem tmod_wrap (k : IntKind) (x y : Int) (hx : k.wrap x = x) (hy : k.wrap y = y) : k.wrap (Int.tmod x y) = Int.tmod x y := by
  rw [wrap_iff] at hx ⊢
  have h1 : (Int.tmod x y).natAbs ≤ x.natAbs := by rw [Int.natAbs_tmod]; exact Nat.mod_le _ _
  have h2 : 0 ≤ x → 0 ≤ Int.tmod x y := Int.tmod_nonneg y
  have h3 : x ≤ 0 → Int.tmod x y ≤ 0 := fun h => by
    have := Int.tmod_nonneg (a := -x) y (by omega)
    rw [Int.neg_tmod] at this; omega
  split <;> rename_i hk <;> simp only [hk, if_true, Bool.false_eq_true, if_false] at hx <;> omega

theorem fdiv_wrap (k : IntKind) (x : Int) (n : Nat) (hx : k.wrap x = x) : k.wrap (Int.fdiv x (2 ^ n)) = Int.fdiv x (2 ^ n) := by
  rw [wrap_iff] at hx ⊢
  have hp : (0 : Int) < 2 ^ n := Int.pow_pos (by omega)
  rw [Int.fdiv_eq_ediv_of_nonneg _ (Int.le_of_lt hp)]
  have h1 : 0 ≤ x → 0 ≤ x / 2 ^ n := fun h => Int.ediv_nonneg h (Int.le_of_lt hp)
  have h2 : 0 ≤ x → x / 2 ^ n ≤ x := fun h => Int.ediv_le_self _ h
  have h3 : x < 0 → x ≤ x / 2 ^ n := fun h => by
    apply Int.le_ediv_of_mul_le hp
    have : x * 2 ^ n ≤ x * 1 := Int.mul_le_mul_of_nonpos_left (by omega) (by omega)
    omega
  have h4 : x < 0 → x / 2 ^ n < 0 := fun h => Int.ediv_neg_of_neg_of_pos h hp
  split <;> rename_i hk <;> simp only [hk, if_true, Bool.false_eq_true, if_false] at hx <;> omega
end Go.Sx

namespace Go.Sx
open Go
set_option linter.unusedVariables false
set_option linter.unusedSimpArgs false

section
variable {P : Program} {R : Nat → RV} {F : Nat → Prop} {w : World}

theorem VR_int {k : IntKind} {n : Int} {v : Value} (h : VR R F w (dI k n) v) : v = .int k n ∧ k.wrap n = n := by
  obtain ⟨h1, h2⟩ := h; simp at h1; exact ⟨h1, h2⟩
theorem VR_bool {b : Bool} {v : Value} (h : VR R F w (dB b) v) : v = .bool b := by
  have : [v] = [Value.bool b] := h
  simpa using this
theorem VR_str {s : ByteArray} {v : Value} (h : VR R F w (dS s) v) : v = .string s ∧ s.size ≤ cap := by
  obtain ⟨h1, h2⟩ := h; simp at h1; exact ⟨h1, h2⟩
theorem VR_int' {k : IntKind} {n : Int} (h : k.wrap n = n) : VR R F w (dI k n) (.int k n) := ⟨rfl, h⟩
theorem VR_bool' {b : Bool} : VR R F w (dB b) (.bool b) := rfl
theorem VR_str' {s : ByteArray} (h : s.size ≤ cap) : VR R F w (dS s) (.string s) := ⟨rfl, h⟩

theorem binK_ok {α : Type} {op : BinOp} {x y : AV} {k : AV → Option α} {r : α} (h : binK op x y k = some r) :
    ∃ out, k out = some r ∧ ∀ (P : Program) (R : Nat → RV) (F : Nat → Prop) (w : World) (t : Nat) (ox oy : Operand) (vx vy : Value), VR R F w x vx → VR R F w y vy →
      ∃ v, (do eqGuard op t ox oy vx vy; binOp op t vx vy).run P w = .ok v w ∧ VR R F w out v := by
  unfold binK at h
  split at h
  all_goals (try (split at h))
  all_goals (try (cases h; done))
  all_goals first
    | (rename_i a x b y hab
       subst hab
       refine ⟨_, h, fun P R F w t ox oy vx vy hx hy => ?_⟩
       obtain ⟨rfl, h1⟩ := VR_int hx
       obtain ⟨rfl, h2⟩ := VR_int hy
       first
       | exact ⟨_, (by simp [eqGuard, binOp, Op.intArith, Op.intBits, Op.intCmp, Sem.run, bind, Sem.bind, pure]; done), VR_int' (wrap_wrap _ _)⟩
       | exact ⟨_, (by simp [eqGuard, binOp, Op.intArith, Op.intBits, Op.intCmp, Sem.run, bind, Sem.bind, pure]; done), VR_bool'⟩)
    | (rename_i x y
       refine ⟨_, h, fun P R F w t ox oy vx vy hx hy => ?_⟩
       obtain ⟨rfl, h1⟩ := VR_str hx
       obtain ⟨rfl, h2⟩ := VR_str hy
       exact ⟨_, (by simp [eqGuard, binOp, Op.stringOp, Sem.run, bind, Sem.bind, pure]; done), VR_bool'⟩)
    | skip
  · -- quo
    rename_i a x b y hab
    subst hab
    cases hy : (y == 0) with
    | true => rw [hy] at h; cases h
    | false =>
      rw [hy] at h
      have hy0 : ¬ y = 0 := by simpa using hy
      refine ⟨_, h, fun P R F w t ox oy vx vy hx hy => ?_⟩
      obtain ⟨rfl, h1⟩ := VR_int hx
      obtain ⟨rfl, h2⟩ := VR_int hy
      exact ⟨_, by simp [eqGuard, binOp, Op.intDiv, Sem.run, bind, Sem.bind, pure, hy0], VR_int' (wrap_wrap _ _)⟩
  · -- rem
    rename_i a x b y hab
    subst hab
    cases hy : (y == 0) with
    | true => rw [hy] at h; cases h
    | false =>
      rw [hy] at h
      have hy0 : ¬ y = 0 := by simpa using hy
      refine ⟨_, h, fun P R F w t ox oy vx vy hx hy => ?_⟩
      obtain ⟨rfl, h1⟩ := VR_int hx
      obtain ⟨rfl, h2⟩ := VR_int hy
      exact ⟨_, by simp [eqGuard, binOp, Op.intDiv, Sem.run, bind, Sem.bind, pure, hy0], VR_int' (tmod_wrap _ _ _ h1 h2)⟩
  · -- shl
    rename_i a x b y
    cases hy : decide (y < 0) with
    | true => rw [hy] at h; cases h
    | false =>
      rw [hy] at h
      have hy0 : ¬ y < 0 := by simpa using hy
      refine ⟨_, h, fun P R F w t ox oy vx vy hx hy => ?_⟩
      obtain ⟨rfl, h1⟩ := VR_int hx
      obtain ⟨rfl, h2⟩ := VR_int hy
      exact ⟨_, by simp only [eqGuard, binOp, Op.shift, Sem.run, bind, Sem.bind, pure, if_neg hy0, Bool.or_false, Bool.not_false, if_true, Bool.false_eq_true], VR_int' (wrap_wrap _ _)⟩
  · -- shr
    rename_i a x b y
    cases hy : decide (y < 0) with
    | true => rw [hy] at h; cases h
    | false =>
      rw [hy] at h
      have hy0 : ¬ y < 0 := by simpa using hy
      refine ⟨_, h, fun P R F w t ox oy vx vy hx hy => ?_⟩
      obtain ⟨rfl, h1⟩ := VR_int hx
      obtain ⟨rfl, h2⟩ := VR_int hy
      exact ⟨_, by simp only [eqGuard, binOp, Op.shift, Sem.run, bind, Sem.bind, pure, if_neg hy0, Bool.or_false, Bool.not_false, if_true, Bool.false_eq_true], VR_int' (fdiv_wrap _ _ _ h1)⟩
  · -- str add
    rename_i x y
    cases hy : decide (ByteArray.size x + ByteArray.size y ≤ cap) with
    | false => rw [hy] at h; cases h
    | true =>
      rw [hy] at h
      have hy0 : ByteArray.size x + ByteArray.size y ≤ cap := by simpa using hy
      refine ⟨_, h, fun P R F w t ox oy vx vy hx hy => ?_⟩
      obtain ⟨rfl, h1⟩ := VR_str hx
      obtain ⟨rfl, h2⟩ := VR_str hy
      have hm : ¬ (((x.size + y.size : Nat) : Int) > IntKind.i64.max) := by
        have : IntKind.i64.max = 9223372036854775807 := by decide
        rw [this]; unfold cap at hy0; omega
      exact ⟨_, by simp only [eqGuard, binOp, Op.stringOp, Sem.run, bind, Sem.bind, pure, if_neg hm, Bool.or_false, Bool.not_false, if_true, Bool.false_eq_true]; rfl, VR_str' (by show (ByteArray.append x y).size ≤ cap; have : (ByteArray.append x y).size = x.size + y.size := ByteArray.size_append; omega)⟩
end
end Go.Sx

namespace Go.Sx
open Go
set_option linter.unusedVariables false
set_option linter.unusedSimpArgs false

/-- the cells of a datum that is read-only below -/
def flat : (t : T) → t.den → List LV
  | .pair a b, (x, y) => flat a x ++ flat b y
  | .int k, n => [.dat (.int k) n]
  | .bool, b => [.dat .bool b]
  | .str, s => [.dat .str s]
  | .raw, v => [.dat .raw v]
  | .list t, xs => [.dat (.list t) xs]
  | .sp t, xs => [.dat (.sp t) xs]

/-- the cells of a datum that owns what is below: what is below can't be told from here -/
def flatD : (t : T) → t.den → List LV
  | .pair a b, (x, y) => flatD a x ++ flatD b y
  | .int k, n => [.dat (.int k) n]
  | .bool, b => [.dat .bool b]
  | .str, s => [.dat .str s]
  | .raw, v => [.dat .raw v]
  | .list t, xs => [.any]
  | .sp t, xs => [.any]

section
variable {P : Program} {R : Nat → RV} {F : Nat → Prop} {w : World}

theorem flat_ok : ∀ {t : T} {x : t.den} {cs : List Value}, RdL F w t x cs → All2 (LR R F w) (flat t x) cs
  | .int k, n, cs, h => by obtain ⟨rfl, h2⟩ := h; exact .cons ⟨rfl, h2⟩ .nil
  | .bool, b, cs, h => by obtain rfl : cs = [.bool b] := h; exact .cons rfl .nil
  | .str, s, cs, h => by obtain ⟨rfl, h2⟩ := h; exact .cons ⟨rfl, h2⟩ .nil
  | .raw, s, cs, h => by obtain ⟨rfl, h2⟩ := h; exact .cons ⟨rfl, h2⟩ .nil
  | .list t, xs, cs, h => by
    obtain ⟨A, c, rfl, h2⟩ := h
    exact .cons ⟨A, c, rfl, h2⟩ .nil
  | .sp t, xs, cs, h => by
    obtain ⟨A, c, rfl, h2⟩ := h
    exact .cons ⟨A, c, rfl, h2⟩ .nil
  | .pair a b, (x, y), cs, h => by
    obtain ⟨c1, c2, rfl, h1, h2⟩ := h
    exact (flat_ok h1).append (flat_ok h2)

theorem flatD_ok : ∀ {t : T} {x : t.den} {cs : List Value} {S : List Nat}, OwnL w t x cs S → All2 (LR R F w) (flatD t x) cs
  | .int k, n, cs, S, h => by obtain ⟨⟨rfl, h2⟩, _⟩ := h; exact .cons ⟨rfl, h2⟩ .nil
  | .bool, b, cs, S, h => by obtain ⟨rfl, _⟩ := h; exact .cons rfl .nil
  | .str, s, cs, S, h => by obtain ⟨⟨rfl, h2⟩, _⟩ := h; exact .cons ⟨rfl, h2⟩ .nil
  | .raw, s, cs, S, h => by obtain ⟨⟨rfl, h2⟩, _⟩ := h; exact .cons ⟨rfl, h2⟩ .nil
  | .list t, xs, cs, S, h => by
    obtain ⟨v, rfl, h2⟩ := h
    refine .cons ?_ .nil
    obtain ⟨_, h | ⟨_, _, _, _, _, _, _, h, _⟩⟩ := h2
    · obtain ⟨A, hA⟩ := h.2.1; rw [hA]; rfl
    · rw [h]; rfl
  | .sp t, xs, cs, S, h => by
    obtain ⟨_, v, rfl, h2⟩ := h
    refine .cons ?_ .nil
    show one (cutV _ v) = true
    rw [one_cutV]
    obtain ⟨_, h | ⟨_, _, _, _, _, _, _, h, _⟩⟩ := h2
    · obtain ⟨A, hA⟩ := h.2.1; rw [hA]; rfl
    · rw [h]; rfl
  | .pair a b, (x, y), cs, S, h => by
    obtain ⟨c1, c2, S1, S2, rfl, _, h1, h2⟩ := h
    exact (flatD_ok h1).append (flatD_ok h2)

/-! ### From one type of data to another: a list with what lies behind it, and the list alone -/
def mapE (t t' : T) (f : t.den → t'.den) (xs : List t.den) : List t'.den := if h : t = t' then h ▸ xs else xs.map f

def cvB : T → T → Bool
  | .pair a b, .pair a' b' => cvB a a' && cvB b b'
  | .list t, .list t' => cvB t t'
  | .sp t, .list t' => cvB t t'
  | .list t, .sp t' => cvB t t'
  | .sp t, .sp t' => cvB t t'
  | .int k, .int k' => decide (k = k')
  | .bool, .bool => true
  | .str, .str => true
  | .raw, .raw => true
  | _, _ => false

def cv : (a b : T) → a.den → b.den
  | .pair a b, .pair a' b', x => (cv a a' x.1, cv b b' x.2)
  | .list t, .list t', xs => mapE t t' (cv t t') xs
  | .sp t, .list t', x => mapE t t' (cv t t') (List.take x.2 x.1)
  | .list t, .sp t', xs => (mapE t t' (cv t t') xs, List.length xs)
  | .sp t, .sp t', x => (mapE t t' (cv t t') x.1, x.2)
  | .int _, .int _, x => x
  | .bool, .bool, x => x
  | .str, .str, x => x
  | .raw, .raw, x => x
  | _, b, _ => b.zero

theorem mapE_length {t t' : T} {f : t.den → t'.den} {xs : List t.den} : (mapE t t' f xs).length = xs.length := by
  unfold mapE
  split
  · rename_i h; subst h; rfl
  · simp

/-- reading an element as another type: either it is the same one, or it is turned -/
theorem mapE_get {t t' : T} {f : t.den → t'.den} {xs : List t.den} {i : Nat} {y : t'.den} (h : (mapE t t' f xs)[i]? = some y) {Q : t'.den → Prop}
    (h1 : ∀ (e : t = t') x, xs[i]? = some x → Q (e ▸ x)) (h2 : ∀ x, xs[i]? = some x → Q (f x)) : Q y := by
  unfold mapE at h
  split at h
  · rename_i e
    subst e
    exact h1 rfl y h
  · rw [List.getElem?_map] at h
    cases hx : xs[i]? with
    | none => rw [hx] at h; cases h
    | some x => rw [hx] at h; injection h with h; subst h; exact h2 x hx

theorem cvB_n : ∀ {a b : T}, cvB a b = true → a.n = b.n := by
  intro a
  induction a with
  | pair a b iha ihb =>
    intro c h
    cases c <;> simp only [cvB] at h <;> first | cases h | skip
    simp only [Bool.and_eq_true] at h
    simp only [T.n, iha h.1, ihb h.2]
  | list t ih => intro c h; cases c <;> simp only [cvB] at h <;> first | cases h | rfl
  | sp t ih => intro c h; cases c <;> simp only [cvB] at h <;> first | cases h | rfl
  | int k => intro c h; cases c <;> simp only [cvB] at h <;> first | cases h | rfl
  | bool => intro c h; cases c <;> simp only [cvB] at h <;> first | rfl | cases h
  | str => intro c h; cases c <;> simp only [cvB] at h <;> first | rfl | cases h
  | raw => intro c h; cases c <;> simp only [cvB] at h <;> first | rfl | cases h

theorem cv_rows {t t' : T} {xs : List t.den} {A : Option Addr} (hn : t.n = t'.n) (ih : ∀ (x : t.den) (cs : List Value), RdL F w t x cs → RdL F w t' (cv t t' x) cs)
    (h : ∀ i x, xs[i]? = some x → ∃ b o cs', A = some ⟨b, o, none⟩ ∧ F b ∧ RdL F w t x cs' ∧ CellsAt w b (o + i * t.n) cs') {i : Nat} {y : t'.den} (hy : (mapE t t' (cv t t') xs)[i]? = some y) :
    ∃ b o cs', A = some ⟨b, o, none⟩ ∧ F b ∧ RdL F w t' y cs' ∧ CellsAt w b (o + i * t'.n) cs' := by
  refine mapE_get hy (Q := fun y => ∃ b o cs', A = some ⟨b, o, none⟩ ∧ F b ∧ RdL F w t' y cs' ∧ CellsAt w b (o + i * t'.n) cs') (fun e x hx => ?_) (fun x hx => ?_)
  · subst e
    exact h i x hx
  · obtain ⟨b, o, cs', h1, h2, h3, h4⟩ := h i x hx
    exact ⟨b, o, cs', h1, h2, ih x cs' h3, by rw [← hn]; exact h4⟩

theorem cv_read : ∀ {a b : T}, cvB a b = true → ∀ {x : a.den} {cs : List Value}, RdL F w a x cs → RdL F w b (cv a b x) cs := by
  intro a
  induction a with
  | pair a b iha ihb =>
    intro c hc x cs h
    cases c <;> simp only [cvB] at hc <;> first | cases hc | skip
    simp only [Bool.and_eq_true] at hc
    obtain ⟨x, y⟩ := x
    obtain ⟨c1, c2, e, h1, h2⟩ := h
    exact ⟨c1, c2, e, iha hc.1 h1, ihb hc.2 h2⟩
  | list t ih =>
    intro c hc x cs h
    cases c <;> simp only [cvB] at hc <;> first | cases hc | skip
    · obtain ⟨A, c, e, h1, h2, h3⟩ := h
      refine ⟨A, c, ?_, ?_, ?_, fun i y hy => cv_rows (cvB_n hc) (fun x cs h => ih hc h) h3 hy⟩
      · simp only [cv]; rw [mapE_length]; exact e
      · simp only [cv]; rw [mapE_length]; exact h1
      · simp only [cv]; rw [mapE_length]; exact h2
    · obtain ⟨A, c, e, h1, h2, h3⟩ := h
      refine ⟨A, c, ?_, ?_, ?_, ?_, fun i y hy => cv_rows (cvB_n hc) (fun x cs h => ih hc h) h3 hy⟩
      · simp only [cv]; exact e
      · simp only [cv]; rw [mapE_length]; exact Nat.le_refl _
      · simp only [cv]; rw [mapE_length]; exact h1
      · simp only [cv]; rw [mapE_length]; exact h2
  | sp t ih =>
    intro c hc x cs h
    cases c <;> simp only [cvB] at hc <;> first | cases hc | skip
    · obtain ⟨A, c, e, h0, h1, h2, h3⟩ := h
      have hl : (List.take x.2 x.1).length = x.2 := by rw [List.length_take]; exact Nat.min_eq_left h0
      refine ⟨A, c, ?_, ?_, ?_, fun i y hy => cv_rows (cvB_n hc) (fun x cs h => ih hc h) (fun i z hz => ?_) hy⟩
      · simp only [cv]; rw [mapE_length, hl]; exact e
      · simp only [cv]; rw [mapE_length, hl]; exact Nat.le_trans h0 h1
      · simp only [cv]; rw [mapE_length, hl]; exact Nat.le_trans h0 h2
      · rw [List.getElem?_take] at hz
        split at hz
        · exact h3 i z hz
        · cases hz
    · obtain ⟨A, c, e, h0, h1, h2, h3⟩ := h
      refine ⟨A, c, ?_, ?_, ?_, ?_, fun i y hy => cv_rows (cvB_n hc) (fun x cs h => ih hc h) h3 hy⟩
      · simp only [cv]; exact e
      · simp only [cv]; rw [mapE_length]; exact h0
      · simp only [cv]; rw [mapE_length]; exact h1
      · simp only [cv]; rw [mapE_length]; exact h2
  | int k =>
    intro c hc x cs h
    cases c <;> simp only [cvB] at hc <;> first | cases hc | skip
    rename_i k'
    have hk : k = k' := of_decide_eq_true hc
    subst hk
    exact h
  | bool => intro c hc x cs h; cases c <;> simp only [cvB] at hc <;> first | exact h | cases hc
  | str => intro c hc x cs h; cases c <;> simp only [cvB] at hc <;> first | exact h | cases hc
  | raw => intro c hc x cs h; cases c <;> simp only [cvB] at hc <;> first | exact h | cases hc

def flatE (deep : Bool) (t : T) (x : t.den) : List LV := if deep then flatD t x else flat t x

theorem flatE_ok {deep : Bool} {t : T} {x : t.den} {cs : List Value} {S : List Nat} (h : ElL F w deep t x cs S) : All2 (LR R F w) (flatE deep t x) cs := by
  unfold ElL at h
  unfold flatE
  cases deep with
  | true => simp only [if_true] at h ⊢; exact flatD_ok h
  | false => simp only [Bool.false_eq_true, if_false] at h ⊢; exact flat_ok h.1

theorem All2.extract {α β : Type} {r : α → β → Prop} {l : List α} {m : List β} (k : All2 r l m) (i j : Nat) : All2 r ((l.drop i).take j) ((m.drop i).take j) := by
  induction k generalizing i j with
  | nil => simp; exact .nil
  | cons hab hk ih =>
    cases i with
    | zero =>
      cases j with
      | zero => simp; exact .nil
      | succ j => simpa using All2.cons hab (by simpa using ih 0 j)
    | succ i => simpa using ih i j

/-- some of a list of cells, as a value of a type of so many cells -/
def pickV {α : Type} (ls : List LV) (off size : Nat) (agg : Bool) (k : AV → Option α) : Option α :=
  if off + size ≤ ls.length then
    (if agg then k (.c (.agg ((ls.drop off).take size)))
     else if size = 1 then (match ls[off]? with | some a => k (.c (.l a)) | none => none) else none)
  else none

theorem pickV_ok {α : Type} {ls : List LV} {off size : Nat} {agg : Bool} {k : AV → Option α} {r : α} (h : pickV ls off size agg k = some r) :
    off + size ≤ ls.length ∧ (agg = false → size = 1) ∧ ∃ out, k out = some r ∧ ∀ (R : Nat → RV) (F : Nat → Prop) (w : World) (cs : List Value), All2 (LR R F w) ls cs →
      VR R F w out (if agg then .agg ((cs.drop off).take size).toArray else cs.getD off undef) := by
  unfold pickV at h
  split at h
  · rename_i hle
    refine ⟨hle, ?_⟩
    cases agg with
    | true =>
      simp only [if_true] at h
      refine ⟨fun e => (by cases e), _, h, fun R F w cs hc => ?_⟩
      exact ⟨_, rfl, hc.extract off size⟩
    | false =>
      simp only [Bool.false_eq_true, if_false] at h
      split at h
      · rename_i h1
        refine ⟨fun _ => h1, ?_⟩
        split at h
        · rename_i a ha
          refine ⟨_, h, fun R F w cs hc => ?_⟩
          obtain ⟨b, hb, hab⟩ := hc.get ha
          simp only [Bool.false_eq_true, if_false]
          rw [List.getD_eq_getElem?_getD, hb]
          exact hab
        · cases h
      · cases h
  · cases h

/-! ### Runs of loads -/
theorem run_load {a : Addr} {v : Value} (h : w.cell? a = some v) : (load a).run P w = .ok v w := by
  simp [load, Sem.run, h]

theorem add_off (b o n : Nat) : (⟨b, o, none⟩ : Addr).add n = ⟨b, o + n, none⟩ := by
  unfold Addr.add
  split
  · simp_all
  · rfl

theorem run_loadCellsFrom (b o : Nat) : ∀ (n i : Nat) (acc : Array Value) (cs : List Value), cs.length = n → CellsAt w b (o + i) cs →
    (loadCellsFrom ⟨b, o, none⟩ i n acc).run P w = .ok (acc ++ cs.toArray) w
  | 0, i, acc, cs, hl, hc => by
    obtain rfl := List.length_eq_zero_iff.1 hl
    simp [loadCellsFrom, run_pure]
  | n + 1, i, acc, c :: cs, hl, hc => by
    unfold loadCellsFrom
    rw [add_off, bind_ok (run_load (by simpa using hc 0 c rfl))]
    rw [run_loadCellsFrom b o n (i + 1) (acc.push c) cs (by simpa using hl) (fun j v hj => by have := hc (j + 1) v (by simpa using hj); rw [← this]; congr 2; omega)]
    simp

theorem CellsAt.sub {b o : Nat} {cs : List Value} (h : CellsAt w b o cs) (i n : Nat) : CellsAt w b (o + i) ((cs.drop i).take n) := fun j v hj => by
  have : cs[i + j]? = some v := by
    rw [List.getElem?_take] at hj
    split at hj
    · simpa using hj
    · cases hj
  have := h (i + j) v this
  rw [← this]; congr 2; omega

/-- a variable is read -/
theorem run_loadVar {t size : Nat} {agg : Bool} {b o off : Nat} {cs : List Value} (hs : (sizeOf t).run P w = .ok size w) (ha : (isAgg t).run P w = .ok agg w)
    (hc : CellsAt w b o cs) (hle : off + size ≤ cs.length) (h1 : agg = false → size = 1) :
    (loadVar t ⟨b, o + off, none⟩).run P w = .ok (if agg then .agg ((cs.drop off).take size).toArray else cs.getD off undef) w := by
  unfold loadVar
  rw [bind_ok ha]
  cases agg with
  | true =>
    simp only [if_true]
    rw [bind_ok hs]
    unfold loadCells
    have := run_loadCellsFrom (P := P) (w := w) b (o + off) size 0 #[] ((cs.drop off).take size) (by simp; omega) (by simpa using hc.sub off size)
    rw [bind_ok this]
    simp [run_pure]
  | false =>
    simp only [Bool.false_eq_true, if_false]
    have hs1 := h1 rfl
    have hlt : off < cs.length := by omega
    rw [run_load (v := cs[off]) (hc off _ (by simp [hlt]))]
    rw [List.getD_eq_getElem?_getD]
    simp [hlt]

theorem TyOk.size {Γ : Nat → Option TI} (h : TyOk P Γ) {t : Nat} {i : TI} (ht : Γ t = some i) (w : World) : (sizeOf t).run P w = .ok i.size w := by
  obtain ⟨info, desc, h1, h2, h3, _⟩ := h.facts ht
  rw [run_sizeOf h1, h3]

theorem TyOk.agg {Γ : Nat → Option TI} (h : TyOk P Γ) {t : Nat} {i : TI} (ht : Γ t = some i) (w : World) : (isAgg t).run P w = .ok i.agg w := by
  obtain ⟨info, desc, h1, h2, h3, h4, h5, _⟩ := h.facts ht
  rw [run_isAgg h2, h5]
end
end Go.Sx

namespace Go.Sx
open Go
variable {G : Gl}
set_option linter.unusedVariables false
set_option linter.unusedSimpArgs false

/-- what holds of the roots with these numbers -/
def RootsOk (F : Nat → Prop) (R : Nat → RV) (w : World) (rs : Rs) (ids : List Nat) : Prop := ∀ j ∈ ids, RootOk F R w (rs j) (R j)

/-- a quiet operation -/
def Quiet (G : Gl) (P : Program) (op : Op) (ty : TypeId) (ρA : Operand → AV) (rs : Rs) (out : AV) (ids : List Nat) : Prop :=
  ∀ (F : Nat → Prop) (R : Nat → RV) (w : World) (ρ : Operand → Value), RootsOk F R w rs ids → EnvOk G R F w ρA ρ →
    ∀ o : Oper, o.op = op → o.type = ty → ∃ v, (execOp ρ o).run P w = .ok (.value v) w ∧ VR R F w out v

abbrev KQ (α : Type) := AV → List Nat → Option α

section
variable {P : Program} {Γ : Nat → Option TI} {R : Nat → RV} {F : Nat → Prop} {w : World}

theorem run_v {s : Sem Value} {v : Value} {w w' : World} (h : s.run P w = .ok v w') : (do pure (Next.value (← s)) : Sem Next).run P w = .ok (.value v) w' := by
  rw [bind_ok h]; rfl

/-! ### A load -/
def loadK {α : Type} (Γ : Nat → Option TI) (rs : Rs) (t : TypeId) (a : AV) (k : KQ α) : Option α :=
  match Γ t with
  | none => none
  | some i =>
    match a with
    | .c (.l (.rad T x off)) => pickV (flat T x) off i.size i.agg (fun v => k v [])
    | .c (.l (.el id j n off)) =>
      (match rs id with
       | .row deep T xs => if T.n = n then pickV (flatE deep T (xs.getD j T.zero)) off i.size i.agg (fun v => k v [id]) else none
       | _ => none)
    | .c (.l (.ptr id off)) =>
      (match rs id with
       | .box ls => pickV ls off i.size i.agg (fun v => k v [id])
       | _ => none)
    | _ => none

theorem All2.cells {R : Nat → RV} {F : Nat → Prop} {w : World} {ls : List LV} {cs : List Value} (h : All2 (LR R F w) ls cs) : cs.length = ls.length := h.length.symm

theorem loadK_ok {α : Type} (hΓ : TyOk P Γ) {rs : Rs} {t : TypeId} {a : Operand} {ρA : Operand → AV} {ty : TypeId} {k : KQ α} {r : α} (h : loadK Γ rs t (ρA a) k = some r) :
    ∃ out ids, k out ids = some r ∧ Quiet G P (.load t a) ty ρA rs out ids := by
  unfold loadK at h
  split at h
  · cases h
  rename_i i hi
  split at h
  · -- read-only
    rename_i T x off ha
    obtain ⟨hle, h1, out, hk, hv⟩ := pickV_ok h
    refine ⟨out, [], hk, fun F R w ρ hr hρ o ho hty => ?_⟩
    have := hρ a
    rw [ha] at this
    obtain ⟨b, o', cs, hp, hF, hrd, hc⟩ := this
    refine ⟨_, ?_, hv R F w cs (flat_ok hrd)⟩
    unfold execOp
    rw [ho]
    apply run_v
    rw [hp]
    have hl : cs.length = (flat T x).length := (flat_ok (R := R) hrd).cells
    exact (bind_ok rfl).trans (run_loadVar (hΓ.size hi w) (hΓ.agg hi w) hc (by omega) h1)
  · -- an element
    rename_i id j n off ha
    split at h
    · rename_i deep T xs hrs
      split at h
      · rename_i hn
        obtain ⟨hle, h1, out, hk, hv⟩ := pickV_ok h
        refine ⟨out, [id], hk, fun F R w ρ hr hρ o ho hty => ?_⟩
        have := hρ a
        rw [ha] at this
        obtain ⟨hlive, b, o', l, c, hh, hjl, hp⟩ := this
        have hroot := hr id (by simp)
        rw [hrs] at hroot
        obtain ⟨_, hcap, hrow⟩ := hroot
        rcases hrow with ⟨hnil, ⟨A0, hv'⟩, _⟩ | ⟨b', o'', c', arr, ty', fz, Ss, e1, e2, e3, ez, e4, e5, e6, e7⟩
        · rw [hv'] at hh; injection hh with _ hh2; omega
        rw [e1] at hh
        injection hh with hh1 hh2 hh3
        injection hh1 with hh1
        injection hh1 with hb ho'
        subst hb ho' hh2
        have hj : j < xs.length := hjl
        obtain ⟨cs, k1, k2, k3⟩ := e7 j _ (List.getElem?_eq_getElem hj)
        have hx : xs.getD j T.zero = xs[j] := by simp [List.getD_eq_getElem?_getD, hj]
        rw [hx] at hle hv
        refine ⟨_, ?_, hv R F w cs (flatE_ok k2)⟩
        unfold execOp
        rw [ho]
        apply run_v
        rw [hp]
        have hl : cs.length = (flatE deep T xs[j]).length := (flatE_ok (R := R) k2).cells
        have hc : CellsAt w b' (o'' + j * n) cs := fun q u hu => by
          have := k3 q u hu
          rw [hn] at this
          simp [World.cell?, e3, this]
        exact (bind_ok rfl).trans (run_loadVar (hΓ.size hi w) (hΓ.agg hi w) hc (by omega) h1)
      · cases h
    · cases h
  · -- a variable
    rename_i id off ha
    split at h
    · rename_i ls hrs
      obtain ⟨hle, h1, out, hk, hv⟩ := pickV_ok h
      refine ⟨out, [id], hk, fun F R w ρ hr hρ o ho hty => ?_⟩
      have := hρ a
      rw [ha] at this
      obtain ⟨hlive, b, hh, hp⟩ := this
      have hroot := hr id (by simp)
      rw [hrs] at hroot
      obtain ⟨_, b', arr, ty', e1, e2, e3, e4⟩ := hroot
      rw [e1] at hh
      injection hh with hh1
      injection hh1 with hh1
      injection hh1 with hb
      subst hb
      refine ⟨_, ?_, hv R F w arr.toList e4⟩
      unfold execOp
      rw [ho]
      apply run_v
      rw [hp]
      have hl : arr.toList.length = ls.length := e4.cells
      have hc : CellsAt w b' 0 arr.toList := fun q u hu => by
        simp [World.cell?, e3]; simpa using hu
      have := run_loadVar (P := P) (t := t) (off := off) (hΓ.size hi w) (hΓ.agg hi w) hc (by omega) h1
      rw [Nat.zero_add] at this
      exact (bind_ok rfl).trans this
    · cases h
  · cases h
end
end Go.Sx

namespace Go.Sx
open Go
variable {G : Gl}
set_option linter.unusedVariables false
set_option linter.unusedSimpArgs false

section
variable {P : Program} {Γ : Nat → Option TI} {R : Nat → RV} {F : Nat → Prop} {w : World}

theorem descD_slice {d : TypeDesc} {e : Nat} (h : descD d = .slice e) : d = .slice e := by
  cases d <;> simp [descD] at h; subst h; rfl
theorem descD_str {d : TypeDesc} (h : descD d = .str) : d = .string := by
  cases d <;> simp [descD] at h; rfl
theorem descD_int {d : TypeDesc} {k : IntKind} (h : descD d = .int k) : d = .int k := by
  cases d <;> simp [descD] at h; subst h; rfl
theorem descD_struct {d : TypeDesc} {fs : List (Nat × Nat)} (h : descD d = .struct fs) : ∃ a, d = .struct a ∧ a.toList.map (fun f => (f.type, f.offset)) = fs := by
  cases d <;> simp only [descD] at h <;> first | (cases h; done) | skip
  rename_i a
  exact ⟨a, rfl, by injection h⟩

theorem TyOk.und {t : Nat} {i : TI} (hΓ : TyOk P Γ) (ht : Γ t = some i) : ∃ d, P.underlying t = some d ∧ descD d = i.d := by
  obtain ⟨info, desc, h1, h2, h3, h4, h5, h6, _⟩ := hΓ.facts ht
  exact ⟨desc, h2, h6⟩

theorem TyOk.slice {t : Nat} {i : TI} {e : Nat} (hΓ : TyOk P Γ) (ht : Γ t = some i) (hd : i.d = .slice e) (w : World) : (underlying t).run P w = .ok (.slice e) w := by
  obtain ⟨d, h1, h2⟩ := hΓ.und ht
  rw [hd] at h2
  rw [descD_slice h2] at h1
  exact run_underlying h1 w

theorem TyOk.str {t : Nat} {i : TI} (hΓ : TyOk P Γ) (ht : Γ t = some i) (hd : i.d = .str) (w : World) : (underlying t).run P w = .ok .string w := by
  obtain ⟨d, h1, h2⟩ := hΓ.und ht
  rw [hd] at h2
  rw [descD_str h2] at h1
  exact run_underlying h1 w

theorem TyOk.int {t : Nat} {i : TI} {k : IntKind} (hΓ : TyOk P Γ) (ht : Γ t = some i) (hd : i.d = .int k) (w : World) : (underlying t).run P w = .ok (.int k) w := by
  obtain ⟨d, h1, h2⟩ := hΓ.und ht
  rw [hd] at h2
  rw [descD_int h2] at h1
  exact run_underlying h1 w

theorem TyOk.struct {t : Nat} {i : TI} {fs : List (Nat × Nat)} (hΓ : TyOk P Γ) (ht : Γ t = some i) (hd : i.d = .struct fs) (w : World) :
    ∃ a, (underlying t).run P w = .ok (.struct a) w ∧ a.toList.map (fun f => (f.type, f.offset)) = fs := by
  obtain ⟨d, h1, h2⟩ := hΓ.und ht
  rw [hd] at h2
  obtain ⟨a, rfl, ha⟩ := descD_struct h2
  exact ⟨a, run_underlying h1 w, ha⟩

theorem cond_some {α : Type} {b : Bool} {x y : Option α} {r : α} (h : cond b x y = some r) : (b = true ∧ x = some r) ∨ (b = false ∧ y = some r) := by
  cases b with
  | true => exact .inl ⟨rfl, h⟩
  | false => exact .inr ⟨rfl, h⟩

theorem toNat_lt (n : Int) (l : Nat) (h0 : 0 ≤ n) (h1 : n < (l : Int)) : n.toNat < l := by omega

theorem cond_t {α : Type} {b : Bool} {x : Option α} {r : α} (h : cond b x none = some r) : b = true ∧ x = some r := by
  cases b with
  | true => exact ⟨rfl, h⟩
  | false => cases h

theorem cond_f {α : Type} {b : Bool} {x : Option α} {r : α} (h : cond b none x = some r) : b = false ∧ x = some r := by
  cases b with
  | false => exact ⟨rfl, h⟩
  | true => cases h

/-! ### An element's address -/
def indexAddrK {α : Type} (Γ : Nat → Option TI) (rs : Rs) (t : TypeId) (x i : AV) (k : KQ α) : Option α :=
  match Γ t with
  | some ⟨_, _, _, .slice e, _⟩ =>
    (match Γ e with
     | some ei =>
       (match i with
        | .c (.l (.dat (.int _) n)) =>
          (match x with
           | .c (.l (.dat (.list T) xs)) =>
             if ei.size = T.n then cond (decide ((0 : Int) ≤ n)) (cond (decide (n < (List.length xs : Int))) (k (.c (.l (.rad T (List.getD xs (Int.toNat n) T.zero) 0))) []) none) none else none
           | .c (.l (.dat (.sp T) y)) =>
             if ei.size = T.n then cond (decide ((0 : Int) ≤ n)) (cond (decide (n < (y.2 : Int))) (k (.c (.l (.rad T (List.getD y.1 (Int.toNat n) T.zero) 0))) []) none) none else none
           | .c (.l (.sl id)) =>
             (match rs id with
              | .row deep T xs =>
                if ei.size = T.n then cond (decide ((0 : Int) ≤ n)) (cond (decide (n < (List.length xs : Int))) (k (.c (.l (.el id (Int.toNat n) T.n 0))) [id]) none) none else none
              | _ => none)
           | .c (.l (.slv id kk)) =>
             cond (decide ((0 : Int) ≤ n)) (cond (decide (n < (kk : Int))) (k (.c (.l (.el id (Int.toNat n) ei.size 0))) []) none) none
           | _ => none)
        | _ => none)
     | none => none)
  | _ => none

theorem run_indexAt {t e size len c : Nat} {b o : Nat} {k : IntKind} {n : Int} (ht : (underlying t).run P w = .ok (.slice e) w) (hs : (sizeOf e).run P w = .ok size w) (h0 : 0 ≤ n) (h1 : n < (len : Int)) :
    (Instr.indexAt t (.slice (some ⟨b, o, none⟩) len c) (.int k n)).run P w = .ok (.pointer (some ⟨b, o + n.toNat * size, none⟩)) w := by
  unfold Instr.indexAt
  rw [bind_ok (a := (k, n)) (w' := w) rfl]
  rw [bind_ok ht]
  simp only
  rw [bind_ok (a := (some (⟨b, o, none⟩ : Addr), len, e)) (w' := w) rfl]
  simp only
  rw [bind_ok ht]
  rw [if_pos ⟨h0, h1⟩, bind_ok hs, add_off]
  rfl

theorem indexAddrK_ok {α : Type} (hΓ : TyOk P Γ) {rs : Rs} {t : TypeId} {x i : Operand} {ρA : Operand → AV} {ty : TypeId} {k : KQ α} {r : α} (h : indexAddrK Γ rs t (ρA x) (ρA i) k = some r) :
    ∃ out ids, k out ids = some r ∧ Quiet G P (.indexAddr t x i) ty ρA rs out ids := by
  unfold indexAddrK at h
  split at h
  · rename_i sz by' ag e tt hi
    split at h
    · rename_i ei hei
      split at h
      · rename_i kk n hn
        split at h
        · rename_i T xs hx
          split at h
          · rename_i hsz
            obtain ⟨h0, h⟩ := cond_t h
            obtain ⟨h1, h⟩ := cond_t h
            have h0 : (0 : Int) ≤ n := of_decide_eq_true h0
            have h1 : n < (List.length xs : Int) := of_decide_eq_true h1
            refine ⟨_, _, h, fun F R w ρ hr hρ o ho hty => ?_⟩
            have hvx := hρ x
            have hvi := hρ i
            rw [hx] at hvx
            rw [hn] at hvi
            obtain ⟨hvi, _⟩ := VR_int hvi
            obtain ⟨A, c, e1, e2, e3, e4⟩ := hvx
            simp only [List.cons.injEq, and_true] at e1
            have hlt : Int.toNat n < List.length xs := toNat_lt n _ h0 h1
            obtain ⟨b, o', cs, rfl, hF, hrd, hc⟩ := e4 n.toNat _ (List.getElem?_eq_getElem hlt)
            refine ⟨.pointer (some ⟨b, o' + n.toNat * T.n + 0, none⟩), ?_, ⟨b, o' + n.toNat * T.n, cs, rfl, hF, ?_, hc⟩⟩
            · unfold execOp
              rw [ho]
              apply run_v
              rw [e1, hvi, run_indexAt (hΓ.slice hi rfl w) (hΓ.size hei w) h0 h1, hsz]
              rfl
            · have : List.getD xs n.toNat T.zero = xs[n.toNat] := by simp [List.getD_eq_getElem?_getD, hlt]
              rw [this]; exact hrd
          · cases h
        · rename_i T y hx
          split at h
          · rename_i hsz
            obtain ⟨h0, h⟩ := cond_t h
            obtain ⟨h1, h⟩ := cond_t h
            have h0 : (0 : Int) ≤ n := of_decide_eq_true h0
            have h1 : n < (y.2 : Int) := of_decide_eq_true h1
            refine ⟨_, _, h, fun F R w ρ hr hρ o ho hty => ?_⟩
            have hvx := hρ x
            have hvi := hρ i
            rw [hx] at hvx
            rw [hn] at hvi
            obtain ⟨hvi, _⟩ := VR_int hvi
            obtain ⟨A, c, e1, e0, e2, e3, e4⟩ := hvx
            simp only [List.cons.injEq, and_true] at e1
            have hlt : Int.toNat n < List.length y.1 := Nat.lt_of_lt_of_le (toNat_lt n _ h0 h1) e0
            obtain ⟨b, o', cs, rfl, hF, hrd, hc⟩ := e4 n.toNat _ (List.getElem?_eq_getElem hlt)
            refine ⟨.pointer (some ⟨b, o' + n.toNat * T.n + 0, none⟩), ?_, ⟨b, o' + n.toNat * T.n, cs, rfl, hF, ?_, hc⟩⟩
            · unfold execOp
              rw [ho]
              apply run_v
              rw [e1, hvi, run_indexAt (hΓ.slice hi rfl w) (hΓ.size hei w) h0 h1, hsz]
              rfl
            · have : List.getD y.1 n.toNat T.zero = y.1[n.toNat] := by simp [List.getD_eq_getElem?_getD, hlt]
              rw [this]; exact hrd
          · cases h
        · rename_i id hx
          split at h
          · rename_i deep T xs hrs
            split at h
            · rename_i hsz
              obtain ⟨h0, h⟩ := cond_t h
              obtain ⟨h1, h⟩ := cond_t h
              have h0 : (0 : Int) ≤ n := of_decide_eq_true h0
              have h1 : n < (List.length xs : Int) := of_decide_eq_true h1
              refine ⟨_, _, h, fun F R w ρ hr hρ o ho hty => ?_⟩
              have hvx := hρ x
              have hvi := hρ i
              rw [hx] at hvx
              rw [hn] at hvi
              obtain ⟨hvi, _⟩ := VR_int hvi
              obtain ⟨hlive, hvx, _⟩ := hvx
              have hroot := hr id (by simp)
              rw [hrs] at hroot
              obtain ⟨_, hcap, hrow⟩ := hroot
              have hlt : Int.toNat n < List.length xs := toNat_lt n _ h0 h1
              rcases hrow with ⟨hnil, _⟩ | ⟨b', o'', c', arr, ty', fz, Ss, e1, e2, e3, ez, e4, e5, e6, e7⟩
              · rw [show xs = [] from hnil] at hlt; simp at hlt
              refine ⟨.pointer (some ⟨b', o'' + n.toNat * T.n + 0, none⟩), ?_, ⟨hlive, b', o'', _, c', e1, hlt, rfl⟩⟩
              unfold execOp
              rw [ho]
              apply run_v
              rw [hvx, hvi, e1, run_indexAt (hΓ.slice hi rfl w) (hΓ.size hei w) h0 h1, hsz]
              rfl
            · cases h
          · cases h
        · rename_i id kk' hx
          obtain ⟨h0, h⟩ := cond_t h
          obtain ⟨h1, h⟩ := cond_t h
          have h0 : (0 : Int) ≤ n := of_decide_eq_true h0
          have h1 : n < (kk' : Int) := of_decide_eq_true h1
          refine ⟨_, _, h, fun F R w ρ hr hρ o ho hty => ?_⟩
          have hvx := hρ x
          have hvi := hρ i
          rw [hx] at hvx
          rw [hn] at hvi
          obtain ⟨hvi, _⟩ := VR_int hvi
          obtain ⟨hlive, A, l, c, eh, ⟨hkl, hA⟩, hvx⟩ := hvx
          have hlk : Int.toNat n < kk' := toNat_lt n _ h0 h1
          obtain ⟨b', o'', rfl⟩ := hA (by omega)
          refine ⟨.pointer (some ⟨b', o'' + n.toNat * ei.size + 0, none⟩), ?_, ⟨hlive, b', o'', _, _, eh, by omega, rfl⟩⟩
          unfold execOp
          rw [ho]
          apply run_v
          rw [hvx, hvi, run_indexAt (hΓ.slice hi rfl w) (hΓ.size hei w) h0 h1]
          rfl
        · cases h
      · cases h
    · cases h
  · cases h

/-! ### A field's address -/
def fieldAddrK {α : Type} (Γ : Nat → Option TI) (s : TypeId) (x : AV) (j : Nat) (k : KQ α) : Option α :=
  match Γ s with
  | some ⟨_, _, _, .struct fs, _⟩ =>
    (match fs[j]? with
     | some (ft, off) =>
       (match Γ ft with
        | some fi =>
          if fi.size = 0 then none else
          (match x with
           | .c (.l (.rad T y o)) => k (.c (.l (.rad T y (o + off)))) []
           | .c (.l (.el id i n o)) => k (.c (.l (.el id i n (o + off)))) []
           | .c (.l (.ptr id o)) => k (.c (.l (.ptr id (o + off)))) []
           | _ => none)
        | none => none)
     | none => none)
  | _ => none

theorem run_fieldAt {s size b o : Nat} {fs : Array Field} {j : Nat} {f : Field} (hs : (underlying s).run P w = .ok (.struct fs) w) (hf : fs[j]? = some f) (hz : (sizeOf f.type).run P w = .ok size w) (h0 : size ≠ 0) :
    (Instr.fieldAt s (.pointer (some ⟨b, o, none⟩)) j).run P w = .ok (.pointer (some ⟨b, o + f.offset, none⟩)) w := by
  unfold Instr.fieldAt
  rw [bind_ok hs]
  simp only [hf]
  rw [bind_ok (a := (⟨b, o, none⟩ : Addr)) (w' := w) rfl]
  have : (fieldPlace ⟨b, o, none⟩ f).run P w = .ok (⟨b, o + f.offset, none⟩ : Addr) w := by
    unfold fieldPlace
    rw [bind_ok hz, if_neg h0, add_off]; rfl
  rw [bind_ok this]; rfl

theorem fieldAddrK_ok {α : Type} (hΓ : TyOk P Γ) {rs : Rs} {s : TypeId} {x : Operand} {j : Nat} {ρA : Operand → AV} {ty : TypeId} {k : KQ α} {r : α} (h : fieldAddrK Γ s (ρA x) j k = some r) :
    ∃ out ids, k out ids = some r ∧ Quiet G P (.fieldAddr s x j) ty ρA rs out ids := by
  unfold fieldAddrK at h
  split at h
  · rename_i sz by' ag fs tt hi
    split at h
    · rename_i ft off hf
      split at h
      · rename_i fi hfi
        split at h
        · cases h
        rename_i h0
        have key : ∀ (w : World), ∃ (a : Array Field) (f : Field), (underlying s).run P w = .ok (.struct a) w ∧ a[j]? = some f ∧ f.type = ft ∧ f.offset = off := by
          intro w
          obtain ⟨a, ha, hm⟩ := hΓ.struct hi rfl w
          rw [← hm] at hf
          rw [List.getElem?_map] at hf
          cases hq : a.toList[j]? with
          | none => rw [hq] at hf; cases hf
          | some f =>
            rw [hq] at hf
            simp only [Option.map_some, Option.some.injEq, Prod.mk.injEq] at hf
            exact ⟨a, f, ha, by simpa using hq, hf.1, hf.2⟩
        split at h
        · rename_i T y o1 hx
          refine ⟨_, _, h, fun F R w ρ hr hρ o ho hty => ?_⟩
          have hv := hρ x
          rw [hx] at hv
          obtain ⟨b, o', cs, hp, hF, hrd, hc⟩ := hv
          obtain ⟨a, f, k1, k2, k3, k4⟩ := key w
          have hz : (sizeOf f.type).run P w = .ok fi.size w := by rw [k3]; exact hΓ.size hfi w
          refine ⟨_, ?_, ⟨b, o', cs, rfl, hF, hrd, hc⟩⟩
          unfold execOp
          rw [ho]
          apply run_v
          rw [hp, run_fieldAt k1 k2 hz h0, k4]
          simp only [Nat.add_assoc]
        · rename_i id i n o1 hx
          refine ⟨_, _, h, fun F R w ρ hr hρ o ho hty => ?_⟩
          have hv := hρ x
          rw [hx] at hv
          obtain ⟨hl, b, o', l, c, hh, hil, hp⟩ := hv
          obtain ⟨a, f, k1, k2, k3, k4⟩ := key w
          have hz : (sizeOf f.type).run P w = .ok fi.size w := by rw [k3]; exact hΓ.size hfi w
          refine ⟨_, ?_, ⟨hl, b, o', l, c, hh, hil, rfl⟩⟩
          unfold execOp
          rw [ho]
          apply run_v
          rw [hp, run_fieldAt k1 k2 hz h0, k4]
          simp only [Nat.add_assoc]
        · rename_i id o1 hx
          refine ⟨_, _, h, fun F R w ρ hr hρ o ho hty => ?_⟩
          have hv := hρ x
          rw [hx] at hv
          obtain ⟨hl, b, hh, hp⟩ := hv
          obtain ⟨a, f, k1, k2, k3, k4⟩ := key w
          have hz : (sizeOf f.type).run P w = .ok fi.size w := by rw [k3]; exact hΓ.size hfi w
          refine ⟨_, ?_, ⟨hl, b, hh, rfl⟩⟩
          unfold execOp
          rw [ho]
          apply run_v
          rw [hp, run_fieldAt k1 k2 hz h0, k4]
        · cases h
      · cases h
    · cases h
  · cases h
end
end Go.Sx

namespace Go.Sx
open Go
variable {G : Gl}
set_option linter.unusedVariables false
set_option linter.unusedSimpArgs false

section
variable {P : Program} {Γ : Nat → Option TI} {R : Nat → RV} {F : Nat → Prop} {w : World}

/-! ### Moves, picks -/
theorem move_ok {x : Operand} {ρA : Operand → AV} {ty : TypeId} {rs : Rs} : Quiet G P (.move x) ty ρA rs (ρA x) [] :=
  fun F R w ρ hr hρ o ho hty => ⟨ρ x, by unfold execOp; rw [ho]; rfl, hρ x⟩
theorem assign_ok {x : Operand} {ρA : Operand → AV} {ty : TypeId} {rs : Rs} : Quiet G P (.assign x) ty ρA rs (ρA x) [] :=
  fun F R w ρ hr hρ o ho hty => ⟨ρ x, by unfold execOp; rw [ho]; rfl, hρ x⟩

def pickK {α : Type} (c a b : AV) (k : KQ α) : Option α :=
  match c with
  | .c (.l (.dat .bool t)) => cond t (k a []) (k b [])
  | _ => none

theorem pickK_ok {α : Type} {c a b : Operand} {ρA : Operand → AV} {ty : TypeId} {rs : Rs} {k : KQ α} {r : α} (h : pickK (ρA c) (ρA a) (ρA b) k = some r) :
    ∃ out ids, k out ids = some r ∧ Quiet G P (.pick c a b) ty ρA rs out ids := by
  unfold pickK at h
  split at h
  · rename_i t hc
    rcases cond_some h with ⟨ht, h⟩ | ⟨ht, h⟩
    all_goals
      refine ⟨_, _, h, fun F R w ρ hr hρ o ho hty => ?_⟩
      have := hρ c
      rw [hc] at this
      have := VR_bool this
      rw [ht] at this
    · exact ⟨ρ a, by unfold execOp; rw [ho]; simp only [this]; rfl, hρ a⟩
    · exact ⟨ρ b, by unfold execOp; rw [ho]; simp only [this]; rfl, hρ b⟩
  · cases h

/-- an address that is no nil -/
def nilCheckK {α : Type} (x : AV) (k : KQ α) : Option α :=
  match x with
  | .c (.l (.ptr _ _)) | .c (.l (.el _ _ _ _)) | .c (.l (.rad _ _ _)) => k x []
  | .c (.l (.fn _ _)) => k x []
  | _ => none

theorem nilCheckK_ok {α : Type} {x : Operand} {ρA : Operand → AV} {ty : TypeId} {rs : Rs} {k : KQ α} {r : α} (h : nilCheckK (ρA x) k = some r) :
    ∃ out ids, k out ids = some r ∧ Quiet G P (.nilCheck x) ty ρA rs out ids := by
  unfold nilCheckK at h
  split at h
  all_goals first | (cases h; done) | skip
  all_goals
    rename_i hx
    refine ⟨_, _, h, fun F R w ρ hr hρ o ho hty => ⟨ρ x, ?_, hρ x⟩⟩
    have := hρ x
    rw [hx] at this
    unfold execOp
    rw [ho]
  · obtain ⟨_, b, _, hp⟩ := this; simp only [hp]; rfl
  · obtain ⟨_, b, _, _, _, _, _, hp⟩ := this; simp only [hp]; rfl
  · obtain ⟨b, _, _, hp, _⟩ := this; simp only [hp]; rfl
  · obtain ⟨vs, hp, _⟩ := this; simp only [hp]; rfl

theorem binop_ok {α : Type} {op : BinOp} {t ty' : TypeId} {x y : Operand} {ρA : Operand → AV} {ty : TypeId} {rs : Rs} {k : KQ α} {r : α} (h : binK op (ρA x) (ρA y) (fun v => k v []) = some r) :
    ∃ out ids, k out ids = some r ∧ Quiet G P (.binOp op t x y ty') ty ρA rs out ids := by
  obtain ⟨out, hk, hv⟩ := binK_ok h
  refine ⟨out, [], hk, fun F R w ρ hr hρ o ho hty => ?_⟩
  obtain ⟨v, h1, h2⟩ := hv P R F w t x y (ρ x) (ρ y) (hρ x) (hρ y)
  refine ⟨v, ?_, h2⟩
  unfold execOp
  rw [ho]
  exact run_v h1

/-! ### -x, !x, ^x -/
def unK {α : Type} (op : UnOp) (x : AV) (k : KQ α) : Option α :=
  match op, x with
  | .neg, .c (.l (.dat (.int a) n)) => k (dI a (a.wrap ((0 : Int) - n))) []
  | .not, .c (.l (.dat .bool b)) => k (dB (!b)) []
  | .xor, .c (.l (.dat (.int a) n)) => k (dI a (a.wrap (BitVec.ofInt a.bits (if a.signed then -1 else a.max) ^^^ BitVec.ofInt a.bits n).toNat)) []
  | _, _ => none

theorem unK_ok {α : Type} {op : UnOp} {t : TypeId} {x : Operand} {ρA : Operand → AV} {ty : TypeId} {rs : Rs} {k : KQ α} {r : α} (h : unK op (ρA x) k = some r) :
    ∃ out ids, k out ids = some r ∧ Quiet G P (.unOp op t x) ty ρA rs out ids := by
  unfold unK at h
  split at h
  · rename_i a n hx
    refine ⟨_, _, h, fun F R w ρ hr hρ o ho hty => ?_⟩
    have := hρ x
    rw [hx] at this
    obtain ⟨hp, _⟩ := VR_int this
    refine ⟨_, ?_, VR_int' (wrap_wrap _ _)⟩
    unfold execOp
    rw [ho]
    apply run_v
    rw [hp]; rfl
  · rename_i b hx
    refine ⟨_, _, h, fun F R w ρ hr hρ o ho hty => ?_⟩
    have := hρ x
    rw [hx] at this
    have hp := VR_bool this
    refine ⟨_, ?_, VR_bool'⟩
    unfold execOp
    rw [ho]
    apply run_v
    rw [hp]; rfl
  · rename_i a n hx
    refine ⟨_, _, h, fun F R w ρ hr hρ o ho hty => ?_⟩
    have := hρ x
    rw [hx] at this
    obtain ⟨hp, _⟩ := VR_int this
    refine ⟨_, ?_, VR_int' (wrap_wrap _ _)⟩
    unfold execOp
    rw [ho]
    apply run_v
    rw [hp]
    unfold Op.unary Op.intBits
    rfl
  · cases h

/-! ### Conversions between numbers -/
def convK {α : Type} (Γ : Nat → Option TI) (src dst : TypeId) (x : AV) (k : KQ α) : Option α :=
  match Γ src, Γ dst with
  | some _, some ⟨_, _, _, .int b, _⟩ =>
    (match x with
     | .c (.l (.dat (.int _) n)) => k (dI b (b.wrap n)) []
     | _ => none)
  | some _, some ⟨_, _, _, .str, _⟩ =>
    (match x with
     | .c (.l (.dat .str s)) => k (dS s) []
     | _ => none)
  | _, _ => none

theorem convK_ok {α : Type} (hΓ : TyOk P Γ) {src dst : TypeId} {x : Operand} {ρA : Operand → AV} {ty : TypeId} {rs : Rs} {k : KQ α} {r : α} (h : convK Γ src dst (ρA x) k = some r) :
    ∃ out ids, k out ids = some r ∧ Quiet G P (.convert src dst x) ty ρA rs out ids := by
  unfold convK at h
  split at h
  · rename_i a1 i1 a2 s1 b1 g1 b t1 hs hd
    split at h
    · rename_i kk n hx
      refine ⟨_, _, h, fun F R w ρ hr hρ o ho hty => ?_⟩
      have := hρ x
      rw [hx] at this
      obtain ⟨hp, _⟩ := VR_int this
      refine ⟨_, ?_, VR_int' (wrap_wrap _ _)⟩
      unfold execOp
      rw [ho]
      apply run_v
      rw [hp]
      unfold convert
      obtain ⟨d1, e1, _⟩ := hΓ.und hs
      rw [bind_ok (run_underlying e1 w), bind_ok (hΓ.int hd rfl w)]
      simp only [Conv.intToInt]
      rfl
    · cases h
  · rename_i a1 i1 a2 s1 b1 g1 t1 hs hd
    split at h
    · rename_i s hx
      refine ⟨_, _, h, fun F R w ρ hr hρ o ho hty => ?_⟩
      have := hρ x
      rw [hx] at this
      obtain ⟨hp, hc⟩ := VR_str this
      refine ⟨_, ?_, VR_str' hc⟩
      unfold execOp
      rw [ho]
      apply run_v
      rw [hp]
      unfold convert
      obtain ⟨d1, e1, _⟩ := hΓ.und hs
      rw [bind_ok (run_underlying e1 w), bind_ok (hΓ.str hd rfl w)]
      simp only
      rfl
    · cases h
  · cases h

/-! ### A part of a tuple, a field of a struct -/
def extractK {α : Type} (x : AV) (j : Nat) (k : KQ α) : Option α :=
  match x with
  | .tup vs => (match vs[j]? with | some v => k (.c v) [] | none => none)
  | _ => none

theorem extractK_ok {α : Type} {x : Operand} {j : Nat} {ρA : Operand → AV} {ty : TypeId} {rs : Rs} {k : KQ α} {r : α} (h : extractK (ρA x) j k = some r) :
    ∃ out ids, k out ids = some r ∧ Quiet G P (.extract x j) ty ρA rs out ids := by
  unfold extractK at h
  split at h
  · rename_i vs hx
    split at h
    · rename_i v hv
      refine ⟨_, _, h, fun F R w ρ hr hρ o ho hty => ?_⟩
      have := hρ x
      rw [hx] at this
      obtain ⟨us, hp, hf⟩ := this
      obtain ⟨u, hu, hvu⟩ := hf.get hv
      refine ⟨u, ?_, hvu⟩
      unfold execOp
      rw [ho]
      apply run_v
      rw [hp]
      unfold Instr.extract
      have : us.toArray[j]? = some u := by simpa using hu
      simp only [this]
      rfl
    · cases h
  · cases h

def fieldK {α : Type} (Γ : Nat → Option TI) (t : TypeId) (x : AV) (j : Nat) (k : KQ α) : Option α :=
  match Γ t with
  | some ⟨_, _, _, .struct fs, _⟩ =>
    (match fs[j]? with
     | some (ft, off) =>
       (match Γ ft with
        | some fi => (match x with | .c (.agg ls) => pickV ls off fi.size fi.agg (fun v => k v []) | _ => none)
        | none => none)
     | none => none)
  | _ => none

theorem struct_field {s ft off j : Nat} {i : TI} {fs : List (Nat × Nat)} (hΓ : TyOk P Γ) (hi : Γ s = some i) (hd : i.d = .struct fs) (hf : fs[j]? = some (ft, off)) (w : World) :
    ∃ (a : Array Field) (f : Field), (underlying s).run P w = .ok (.struct a) w ∧ a[j]? = some f ∧ f.type = ft ∧ f.offset = off := by
  obtain ⟨a, ha, hm⟩ := hΓ.struct hi hd w
  rw [← hm, List.getElem?_map] at hf
  cases hq : a.toList[j]? with
  | none => rw [hq] at hf; cases hf
  | some f =>
    rw [hq] at hf
    simp only [Option.map_some, Option.some.injEq, Prod.mk.injEq] at hf
    exact ⟨a, f, ha, by simpa using hq, hf.1, hf.2⟩

theorem fieldK_ok {α : Type} (hΓ : TyOk P Γ) {t : TypeId} {x : Operand} {j : Nat} {ρA : Operand → AV} {ty : TypeId} {rs : Rs} {k : KQ α} {r : α} (h : fieldK Γ t (ρA x) j k = some r) :
    ∃ out ids, k out ids = some r ∧ Quiet G P (.field t x j) ty ρA rs out ids := by
  unfold fieldK at h
  split at h
  · rename_i sz by' ag fs tt hi
    split at h
    · rename_i ft off hf
      split at h
      · rename_i fi hfi
        split at h
        · rename_i ls hx
          obtain ⟨hle, h1, out, hk, hv⟩ := pickV_ok h
          refine ⟨out, [], hk, fun F R w ρ hr hρ o ho hty => ?_⟩
          have := hρ x
          rw [hx] at this
          obtain ⟨cs, hp, hfa⟩ := this
          refine ⟨_, ?_, hv R F w cs hfa⟩
          obtain ⟨a, f, k1, k2, k3, k4⟩ := struct_field hΓ hi rfl hf w
          unfold execOp
          rw [ho]
          apply run_v
          rw [hp]
          unfold Instr.field
          rw [bind_ok k1]
          simp only [k2]
          rw [bind_ok (a := cs.toArray) (w' := w) rfl]
          unfold part
          have ha : (isAgg f.type).run P w = .ok fi.agg w := by rw [k3]; exact hΓ.agg hfi w
          have hz : (sizeOf f.type).run P w = .ok fi.size w := by rw [k3]; exact hΓ.size hfi w
          rw [bind_ok ha, k4]
          have hl : cs.length = ls.length := hfa.cells
          cases hag : fi.agg with
          | true =>
            simp only [if_true]
            rw [bind_ok hz]
            simp [run_pure, List.extract_toArray, List.extract_eq_take_drop]
          | false =>
            simp only [Bool.false_eq_true, if_false]
            have hs1 := h1 hag
            have hlt : off < cs.length := by omega
            have e : cs.toArray[off]? = some cs[off] := by simp [hlt]
            simp only [e]
            rw [List.getD_eq_getElem?_getD]
            simp [hlt, run_pure]
        · cases h
      · cases h
    · cases h
  · cases h

/-! ### A byte of a string -/
def byteAt (s : ByteArray) (i : Int) : Int := ((s.data.getD i.toNat 0).toNat : Int)

def indexK {α : Type} (Γ : Nat → Option TI) (t : TypeId) (x i : AV) (k : KQ α) : Option α :=
  match Γ t with
  | some ⟨_, _, _, .str, _⟩ =>
    (match x, i with
     | .c (.l (.dat .str s)), .c (.l (.dat (.int _) n)) =>
       cond (decide ((0 : Int) ≤ n)) (cond (decide (n < (ByteArray.size s : Int))) (k (dI .u8 (byteAt s n)) []) none) none
     | _, _ => none)
  | _ => none

theorem byteAt_range (s : ByteArray) (i : Int) : 0 ≤ byteAt s i ∧ byteAt s i < 256 := by
  unfold byteAt
  have := (s.data.getD i.toNat 0).toNat_lt
  omega

theorem byteAt_wrap (s : ByteArray) (i : Int) : IntKind.u8.wrap (byteAt s i) = byteAt s i := by
  rw [wrap_iff]
  have := byteAt_range s i
  simpa [IntKind.signed, IntKind.bits] using this

theorem indexK_ok {α : Type} (hΓ : TyOk P Γ) {t : TypeId} {x i : Operand} {ρA : Operand → AV} {ty : TypeId} {rs : Rs} {k : KQ α} {r : α} (h : indexK Γ t (ρA x) (ρA i) k = some r) :
    ∃ out ids, k out ids = some r ∧ Quiet G P (.index t x i) ty ρA rs out ids := by
  unfold indexK at h
  split at h
  · rename_i sz by' ag tt hi
    split at h
    · rename_i s kk n hx hn
      obtain ⟨h0, h⟩ := cond_t h
      obtain ⟨h1, h⟩ := cond_t h
      have h0 : (0 : Int) ≤ n := of_decide_eq_true h0
      have h1 : n < (ByteArray.size s : Int) := of_decide_eq_true h1
      refine ⟨_, _, h, fun F R w ρ hr hρ o ho hty => ?_⟩
      have hvx := hρ x
      have hvi := hρ i
      rw [hx] at hvx
      rw [hn] at hvi
      obtain ⟨hpx, _⟩ := VR_str hvx
      obtain ⟨hpi, _⟩ := VR_int hvi
      refine ⟨_, ?_, VR_int' (byteAt_wrap s n)⟩
      unfold execOp
      rw [ho]
      apply run_v
      rw [hpx, hpi]
      unfold Instr.index
      rw [bind_ok (a := (kk, n)) (w' := w) rfl, bind_ok (hΓ.str hi rfl w)]
      have hlt : Int.toNat n < ByteArray.size s := toNat_lt n _ h0 h1
      have e : (s : ByteArray)[Int.toNat n]? = some (s.data[Int.toNat n]'hlt) := by
        rw [getElem?_pos s (Int.toNat n) hlt]; rfl
      simp only [if_pos h0, e]
      unfold byteAt
      have : s.data.getD (Int.toNat n) 0 = s.data[Int.toNat n]'hlt := by
        rw [Array.getD_eq_getD_getElem?, Array.getElem?_eq_getElem hlt]; rfl
      rw [this]; rfl
    · cases h
  · cases h

/-! ### Lengths -/
def lenK {α : Type} (Γ : Nat → Option TI) (rs : Rs) (t : Option TypeId) (x : AV) (k : KQ α) : Option α :=
  match t.bind Γ with
  | some ⟨_, _, _, .str, _⟩ => (match x with | .c (.l (.dat .str s)) => k (dI .i64 (ByteArray.size s : Int)) [] | _ => none)
  | some ⟨_, _, _, .slice _, _⟩ =>
    (match x with
     | .c (.l (.dat (.list T) xs)) => k (dI .i64 (List.length xs : Int)) []
     | .c (.l (.dat (.sp T) y)) => k (dI .i64 (y.2 : Int)) []
     | .c (.l .nils) => k (dI .i64 (0 : Int)) []
     | .c (.l (.sl id)) => (match rs id with | .row deep T xs => k (dI .i64 (List.length xs : Int)) [id] | _ => none)
     | .c (.l (.slv id kk)) => (match rs id with | .row deep T xs => k (dI .i64 (kk : Int)) [id] | _ => none)
     | _ => none)
  | _ => none

theorem cap_i64 {n : Nat} (h : n ≤ cap) : IntKind.i64.wrap (n : Int) = (n : Int) := by
  rw [wrap_iff]
  unfold cap at h
  simp only [IntKind.signed, IntKind.bits]
  simp; omega

theorem lenK_ok {α : Type} (hΓ : TyOk P Γ) {x : Operand} {ts : Array TypeId} {ρA : Operand → AV} {ty : TypeId} {rs : Rs} {k : KQ α} {r : α} (h : lenK Γ rs ts[0]? (ρA x) k = some r) :
    ∃ out ids, k out ids = some r ∧ Quiet G P (.call { callee := .builtin .len, args := #[x], argTypes := ts }) ty ρA rs out ids := by
  unfold lenK at h
  have main : ∀ (v : Value) (t : TypeId) (o : Oper) (w : World) (ρ : Operand → Value), ts[0]? = some t → o.op = .call { callee := .builtin .len, args := #[x], argTypes := ts } → o.type = ty →
      (Builtin.len_ ts ty #[ρ x]).run P w = .ok v w → (execOp ρ o).run P w = .ok (.value v) w := by
    intro v t o w ρ ht ho hty hl
    unfold execOp
    rw [ho]
    simp only [resolve, invoke, builtin]
    rw [hty]
    refine run_v ?_
    simpa using hl
  split at h
  · rename_i sz by' ag tt hi
    cases ht : ts[0]? with
    | none => rw [ht] at hi; cases hi
    | some t =>
    rw [ht] at hi
    split at h
    · rename_i s hx
      refine ⟨_, _, h, fun F R w ρ hr hρ o ho hty => ?_⟩
      have := hρ x
      rw [hx] at this
      obtain ⟨hp, hc⟩ := VR_str this
      refine ⟨_, main _ t o w ρ ht ho hty ?_, VR_int' (cap_i64 hc)⟩
      unfold Builtin.len_
      simp only [ht]
      have : (#[ρ x] : Array Value)[0]? = some (ρ x) := rfl
      simp only [this]
      rw [bind_ok (hΓ.str hi rfl w), hp]
      rfl
    · cases h
  · rename_i sz by' ag e tt hi
    cases ht : ts[0]? with
    | none => rw [ht] at hi; cases hi
    | some t =>
    rw [ht] at hi
    have fin : ∀ (w : World) (v : Value) (A : Option Addr) (n c : Nat), v = .slice A n c → (Builtin.len_ ts ty #[v]).run P w = .ok (.int .i64 n) w := by
      intro w v A n c hv
      subst hv
      unfold Builtin.len_
      simp only [ht]
      have : (#[Value.slice A n c] : Array Value)[0]? = some (Value.slice A n c) := rfl
      simp only [this]
      rw [bind_ok (hΓ.slice hi rfl w)]
      rfl
    split at h
    · rename_i T xs hx
      refine ⟨_, _, h, fun F R w ρ hr hρ o ho hty => ?_⟩
      have := hρ x
      rw [hx] at this
      obtain ⟨A, c, e1, e2, e3, e4⟩ := this
      simp only [List.cons.injEq, and_true] at e1
      exact ⟨_, main _ t o w ρ ht ho hty (fin w _ _ _ _ e1), VR_int' (cap_i64 e3)⟩
    · rename_i T y hx
      refine ⟨_, _, h, fun F R w ρ hr hρ o ho hty => ?_⟩
      have := hρ x
      rw [hx] at this
      obtain ⟨A, c, e1, e0, e2, e3, e4⟩ := this
      simp only [List.cons.injEq, and_true] at e1
      exact ⟨_, main _ t o w ρ ht ho hty (fin w _ _ _ _ e1), VR_int' (cap_i64 (Nat.le_trans e0 e3))⟩
    · rename_i hx
      refine ⟨_, _, h, fun F R w ρ hr hρ o ho hty => ?_⟩
      have := hρ x
      rw [hx] at this
      obtain ⟨A, this⟩ := this
      exact ⟨_, main _ t o w ρ ht ho hty (fin w _ _ _ _ this), VR_int' (by decide)⟩
    · rename_i id hx
      split at h
      · rename_i deep T xs hrs
        refine ⟨_, _, h, fun F R w ρ hr hρ o ho hty => ?_⟩
        have := hρ x
        rw [hx] at this
        obtain ⟨hlive, hp, _⟩ := this
        have hroot := hr id (by simp)
        rw [hrs] at hroot
        obtain ⟨_, hcap, hrow⟩ := hroot
        rcases hrow with ⟨hnil, ⟨A0, hv⟩, _⟩ | ⟨b', o'', c', arr, ty', fz, Ss, e1, _⟩
        · refine ⟨_, main _ t o w ρ ht ho hty (fin w _ _ _ _ (hp.trans hv)), ?_⟩
          rw [show xs = [] from hnil]
          exact VR_int' (cap_i64 (n := 0) (by simp [cap]))
        · exact ⟨_, main _ t o w ρ ht ho hty (fin w _ _ _ _ (hp.trans e1)), VR_int' (cap_i64 hcap)⟩
      · cases h
    · rename_i id kk hx
      split at h
      · rename_i deep T xs hrs
        refine ⟨_, _, h, fun F R w ρ hr hρ o ho hty => ?_⟩
        have := hρ x
        rw [hx] at this
        obtain ⟨hlive, A, l, c, eh, ⟨hkl, _⟩, hp⟩ := this
        have hroot := hr id (by simp)
        rw [hrs] at hroot
        obtain ⟨_, hcap, hrow⟩ := hroot
        have hl : kk ≤ List.length xs := by
          rcases hrow with ⟨hnil, ⟨A0, hv⟩, _⟩ | ⟨b', o'', c', arr, ty', fz, Ss, e1, _⟩
          · rw [eh] at hv; injection hv with _ e2 _; omega
          · rw [eh] at e1; injection e1 with _ e2 _; omega
        exact ⟨_, main _ t o w ρ ht ho hty (fin w _ _ _ _ hp), VR_int' (cap_i64 (Nat.le_trans hl hcap))⟩
      · cases h
    · cases h
  · cases h
end
end Go.Sx

namespace Go.Sx
open Go
variable {G : Gl}
set_option linter.unusedVariables false
set_option linter.unusedSimpArgs false

section
variable {P : Program} {Γ : Nat → Option TI} {R : Nat → RV} {F : Nat → Prop} {w : World}

/-! ### Bounds of a cut of something with n places -/
def bndsK {α : Type} (n : Nat) (lo hi : Option AV) (k : Nat → Nat → Option α) : Option α :=
  match hi with
  | none =>
    (match lo with
     | none => k 0 n
     | some (.c (.l (.dat (.int _) l))) => cond (decide ((0 : Int) ≤ l)) (cond (decide (l ≤ (n : Int))) (k (Int.toNat l) n) none) none
     | _ => none)
  | some (.c (.l (.dat (.int _) h))) =>
    cond (decide ((0 : Int) ≤ h)) (cond (decide (h ≤ (n : Int)))
      (match lo with
       | none => k 0 (Int.toNat h)
       | some (.c (.l (.dat (.int _) l))) => cond (decide ((0 : Int) ≤ l)) (cond (decide (l ≤ h)) (k (Int.toNat l) (Int.toNat h)) none) none
       | _ => none) none) none
  | _ => none

def optR (R : Nat → RV) (F : Nat → Prop) (w : World) : Option AV → Option Value → Prop
  | none, none => True
  | some a, some v => VR R F w a v
  | _, _ => False

theorem bndsK_ok {α : Type} {n : Nat} {lo hi : Option AV} {k : Nat → Nat → Option α} {r : α} (h : bndsK n lo hi k = some r) :
    ∃ l m, k l m = some r ∧ l ≤ m ∧ m ≤ n ∧ (lo = none → l = 0) ∧ ∀ (P : Program) (R : Nat → RV) (F : Nat → Prop) (w : World) (vl vh : Option Value) (c q : Nat) (isS : Bool), (hi = none → q = n) → n ≤ c → optR R F w lo vl → optR R F w hi vh →
      (Instr.sliceBounds isS q c vl vh none).run P w = .ok (l, m, c) w := by
  have bd : ∀ (P : Program) (w : World) (kk : IntKind) (x : Int) (y : Nat) (code : BoundsCode), 0 ≤ x → x ≤ (y : Int) → (Instr.sliceBound (.int kk x) y code).run P w = .ok x.toNat w := by
    intro P w kk x y code h0 h1
    unfold Instr.sliceBound
    rw [bind_ok (a := (kk, x)) (w' := w) rfl]
    simp only [if_pos (show 0 ≤ x ∧ x ≤ (y : Int) from ⟨h0, h1⟩)]
    rfl
  unfold bndsK at h
  split at h
  · split at h
    · refine ⟨0, n, h, Nat.zero_le _, Nat.le_refl _, fun _ => rfl, fun P R F w vl vh c q isS hq hc hl hh => ?_⟩
      rw [hq rfl]
      cases vl with
      | some v => exact hl.elim
      | none =>
        cases vh with
        | some v => exact hh.elim
        | none => rfl
    · rename_i kk l
      obtain ⟨h0, h⟩ := cond_t h
      obtain ⟨h1, h⟩ := cond_t h
      have h0 : (0 : Int) ≤ l := of_decide_eq_true h0
      have h1 : (l : Int) ≤ (n : Int) := of_decide_eq_true h1
      refine ⟨_, n, h, (show Int.toNat l ≤ n from by have := Int.toNat_le_toNat h1; simpa using this), Nat.le_refl _, (fun e => by cases e), fun P R F w vl vh c q isS hq hc hl hh => ?_⟩
      rw [hq rfl]
      cases vl with
      | none => exact hl.elim
      | some v =>
        obtain ⟨rfl, _⟩ := VR_int (R := R) (F := F) (w := w) hl
        cases vh with
        | some v => exact hh.elim
        | none =>
          unfold Instr.sliceBounds
          simp only
          rw [bind_ok (a := c) (w' := w) rfl, bind_ok (a := n) (w' := w) rfl, bind_ok (bd P w kk l n _ h0 h1)]
          rfl
    · cases h
  · rename_i kk m
    obtain ⟨h0, h⟩ := cond_t h
    obtain ⟨h1, h⟩ := cond_t h
    have h0 : (0 : Int) ≤ m := of_decide_eq_true h0
    have h1 : (m : Int) ≤ (n : Int) := of_decide_eq_true h1
    have hmn : Int.toNat m ≤ n := by have := Int.toNat_le_toNat h1; simpa using this
    split at h
    · refine ⟨0, _, h, Nat.zero_le _, hmn, fun _ => rfl, fun P R F w vl vh c q isS hq hc hl hh => ?_⟩
      cases vl with
      | some v => exact hl.elim
      | none =>
        cases vh with
        | none => exact hh.elim
        | some v =>
          obtain ⟨rfl, _⟩ := VR_int (R := R) (F := F) (w := w) hh
          unfold Instr.sliceBounds
          simp only
          rw [bind_ok (a := c) (w' := w) rfl, bind_ok (bd P w kk m c _ h0 (Int.le_trans h1 (by exact_mod_cast hc)))]
          rfl
    · rename_i kl l _ _
      obtain ⟨h2, h⟩ := cond_t h
      obtain ⟨h3, h⟩ := cond_t h
      have h2 : (0 : Int) ≤ l := of_decide_eq_true h2
      have h3 : (l : Int) ≤ m := of_decide_eq_true h3
      refine ⟨_, _, h, Int.toNat_le_toNat h3, hmn, (fun e => by cases e), fun P R F w vl vh c q isS hq hc hl hh => ?_⟩
      cases vl with
      | none => exact hl.elim
      | some v =>
        obtain ⟨rfl, _⟩ := VR_int (R := R) (F := F) (w := w) hl
        cases vh with
        | none => exact hh.elim
        | some v =>
          obtain ⟨rfl, _⟩ := VR_int (R := R) (F := F) (w := w) hh
          unfold Instr.sliceBounds
          simp only
          rw [bind_ok (a := c) (w' := w) rfl, bind_ok (bd P w kk m c _ h0 (Int.le_trans h1 (by exact_mod_cast hc)))]
          have e : ((Int.toNat m : Nat) : Int) = m := Int.toNat_of_nonneg h0
          rw [bind_ok (bd P w kl l (Int.toNat m) _ h2 (by rw [e]; exact h3))]
          rfl
    · cases h
  · cases h

/-! ### A cut that only reads -/
def cutK {α : Type} (Γ : Nat → Option TI) (t : TypeId) (x : AV) (lo hi : Option AV) (k : KQ α) : Option α :=
  match Γ t with
  | some ⟨_, _, _, .str, _⟩ =>
    (match x with
     | .c (.l (.dat .str s)) => bndsK (ByteArray.size s) lo hi (fun l h => k (dS (ByteArray.extract s l h)) [])
     | _ => none)
  | some ⟨_, _, _, .slice e, _⟩ =>
    (match x with
     | .c (.l (.dat (.list T) xs)) =>
       (match Γ e with
        | some ei => if ei.size = T.n then bndsK (List.length xs) lo hi (fun l h => k (.c (.l (.dat (.list T) (List.drop l (List.take h xs))))) []) else none
        | none => none)
     | .c (.l (.dat (.sp T) y)) =>
       (match Γ e with
        | some ei => if ei.size = T.n then bndsK (match hi with | none => y.2 | some _ => List.length y.1) lo hi (fun l h => k (.c (.l (.dat (.list T) (List.drop l (List.take h y.1))))) []) else none
        | none => none)
     | _ => none)
  | _ => none

theorem run_slice_str {t : TypeId} {s : ByteArray} {vl vh : Option Value} {l m c : Nat} (ht : (underlying t).run P w = .ok .string w)
    (hb : (Instr.sliceBounds false s.size s.size vl vh none).run P w = .ok (l, m, c) w) : (Instr.sliceAt t (.string s) vl vh none).run P w = .ok (.string (s.extract l m)) w := by
  unfold Instr.sliceAt
  rw [bind_ok ht]
  simp only
  unfold Instr.slice
  rw [bind_ok ht]
  simp only [Option.isSome_none, Bool.false_eq_true, if_false]
  rw [bind_ok hb]
  rfl

theorem run_slice_sl {t e size : Nat} {A : Option Addr} {n c l m : Nat} {vl vh : Option Value} (ht : (underlying t).run P w = .ok (.slice e) w) (hs : (sizeOf e).run P w = .ok size w)
    (hb : (Instr.sliceBounds true n c vl vh none).run P w = .ok (l, m, c) w) :
    (Instr.sliceAt t (.slice A n c) vl vh none).run P w = .ok (.slice (if c = l then A else A.map (·.add (l * size))) (m - l) (c - l)) w := by
  unfold Instr.sliceAt
  rw [bind_ok ht]
  simp only
  unfold Instr.slice
  rw [bind_ok ht]
  simp only
  rw [bind_ok hb]
  simp only
  rw [bind_ok hs]
  rfl

theorem getElem?_cut {α : Type} (xs : List α) (l h i : Nat) {x : α} (hx : (List.drop l (List.take h xs))[i]? = some x) : xs[l + i]? = some x := by
  rw [List.getElem?_drop, List.getElem?_take] at hx
  split at hx
  · exact hx
  · cases hx

theorem length_cut {α : Type} (xs : List α) (l h : Nat) (h1 : l ≤ h) (h2 : h ≤ xs.length) : (List.drop l (List.take h xs)).length = h - l := by
  rw [List.length_drop, List.length_take]; omega

theorem cutK_ok {α : Type} (hΓ : TyOk P Γ) {t : TypeId} {x : Operand} {lo hi : Option Operand} {ρA : Operand → AV} {ty : TypeId} {rs : Rs} {k : KQ α} {r : α}
    (h : cutK Γ t (ρA x) (lo.map ρA) (hi.map ρA) k = some r) :
    ∃ out ids, k out ids = some r ∧ Quiet G P (.slice t x lo hi none) ty ρA rs out ids := by
  have opt : ∀ (F : Nat → Prop) (R : Nat → RV) (w : World) (ρ : Operand → Value) (y : Option Operand), EnvOk G R F w ρA ρ → optR R F w (y.map ρA) (y.map ρ) := by
    intro F R w ρ y hρ
    cases y with
    | none => trivial
    | some y => exact hρ y
  unfold cutK at h
  split at h
  · rename_i sz by' ag tt hi'
    split at h
    · rename_i s hx
      obtain ⟨l, m, h, hlm, hmn, _, hb⟩ := bndsK_ok h
      refine ⟨_, _, h, fun F R w ρ hr hρ o ho hty => ?_⟩
      have := hρ x
      rw [hx] at this
      obtain ⟨hp, hc⟩ := VR_str this
      refine ⟨_, ?_, VR_str' (s := ByteArray.extract s l m) ?_⟩
      · unfold execOp
        rw [ho]
        apply run_v
        rw [hp]
        exact run_slice_str (hΓ.str hi' rfl w) (hb P R F w _ _ _ _ _ (fun _ => rfl) (Nat.le_refl _) (opt F R w ρ lo hρ) (opt F R w ρ hi hρ))
      · have : (ByteArray.extract s l m).size = min m (ByteArray.size s) - l := ByteArray.size_extract
        rw [this]
        have hc : ByteArray.size s ≤ cap := hc
        omega
    · cases h
  · rename_i sz by' ag e tt hi'
    split at h
    · rename_i T xs hx
      split at h
      · rename_i ei hei
        split at h
        · rename_i hsz
          obtain ⟨l, m, h, hlm, hmn, _, hb⟩ := bndsK_ok h
          refine ⟨_, _, h, fun F R w ρ hr hρ o ho hty => ?_⟩
          have := hρ x
          rw [hx] at this
          obtain ⟨A, c, e1, e2, e3, e4⟩ := this
          simp only [List.cons.injEq, and_true] at e1
          have hrun := run_slice_sl (A := A) (hΓ.slice hi' rfl w) (hΓ.size hei w) (hb P R F w _ _ c _ true (fun _ => rfl) e2 (opt F R w ρ lo hρ) (opt F R w ρ hi hρ))
          have hlen := length_cut (show List T.den from xs) l m hlm hmn
          refine ⟨.slice (if c = l then A else A.map (·.add (l * ei.size))) (m - l) (c - l), ?_, ⟨if c = l then A else A.map (·.add (l * ei.size)), c - l, ?_, ?_, ?_, ?_⟩⟩
          · unfold execOp
            rw [ho]
            apply run_v
            rw [e1]
            exact hrun
          · rw [hlen]
          · rw [hlen]; omega
          · rw [hlen]; omega
          · intro i y hy
            have hy' := getElem?_cut _ _ _ _ hy
            obtain ⟨b, o', cs, ha, hF, hrd, hc⟩ := e4 (l + i) y hy'
            have hlt : l < c := by
              have := (List.getElem?_eq_some_iff.1 hy').1
              have e2' : List.length (show List T.den from xs) ≤ c := e2
              omega
            refine ⟨b, o' + l * T.n, cs, ?_, hF, hrd, ?_⟩
            · rw [if_neg (by omega), ha, hsz]
              simp [add_off]
            · have : o' + l * T.n + i * T.n = o' + (l + i) * T.n := by rw [Nat.add_mul, Nat.add_assoc]
              rw [this]; exact hc
        · cases h
      · cases h
    · rename_i T y hx
      split at h
      · rename_i ei hei
        split at h
        · rename_i hsz
          obtain ⟨l, m, h, hlm, hmn0, _, hb⟩ := bndsK_ok h
          refine ⟨_, _, h, fun F R w ρ hr hρ o ho hty => ?_⟩
          have := hρ x
          rw [hx] at this
          obtain ⟨A, c, e1, e0, e2, e3, e4⟩ := this
          simp only [List.cons.injEq, and_true] at e1
          have hmn : m ≤ List.length y.1 := by
            refine Nat.le_trans hmn0 ?_
            split
            · exact e0
            · exact Nat.le_refl _
          have hrun := run_slice_sl (A := A) (hΓ.slice hi' rfl w) (hΓ.size hei w) (hb P R F w _ _ c y.2 true (fun e => by rw [e]) (by
            split
            · exact Nat.le_trans e0 e2
            · exact e2) (opt F R w ρ lo hρ) (opt F R w ρ hi hρ))
          have hlen := length_cut (show List T.den from y.1) l m hlm hmn
          refine ⟨.slice (if c = l then A else A.map (·.add (l * ei.size))) (m - l) (c - l), ?_, ⟨if c = l then A else A.map (·.add (l * ei.size)), c - l, ?_, ?_, ?_, ?_⟩⟩
          · unfold execOp
            rw [ho]
            apply run_v
            rw [e1]
            exact hrun
          · rw [hlen]
          · rw [hlen]; omega
          · rw [hlen]; omega
          · intro i z hz
            have hz' := getElem?_cut _ _ _ _ hz
            obtain ⟨b, o', cs, ha, hF, hrd, hc⟩ := e4 (l + i) z hz'
            have hlt : l < c := by
              have := (List.getElem?_eq_some_iff.1 hz').1
              have e2' : List.length (show List T.den from y.1) ≤ c := e2
              omega
            refine ⟨b, o' + l * T.n, cs, ?_, hF, hrd, ?_⟩
            · rw [if_neg (by omega), ha, hsz]
              simp [add_off]
            · have : o' + l * T.n + i * T.n = o' + (l + i) * T.n := by rw [Nat.add_mul, Nat.add_assoc]
              rw [this]; exact hc
        · cases h
      · cases h
    · cases h
  · cases h
end
end Go.Sx

namespace Go.Sx
open Go
variable {G : Gl}
set_option linter.unusedVariables false
set_option linter.unusedSimpArgs false

/-- the cells of a zero value -/
def zeroL : T → List LV
  | .pair a b => zeroL a ++ zeroL b
  | .int k => [.dat (.int k) (0 : Int)]
  | .bool => [.dat .bool false]
  | .str => [.dat .str ByteArray.empty]
  | .raw => [.dat .raw (Value.slice none 0 0)]
  | .list _ | .sp _ => [.nils]

section
variable {P : Program} {Γ : Nat → Option TI} {R : Nat → RV} {F : Nat → Prop} {w : World}

theorem zeroL_ok : ∀ {t : T} {cs r : List Value}, zeroIs t cs = some r → ∃ c, cs = c ++ r ∧ All2 (LR R F w) (zeroL t) c
  | .int k, cs, r, h => by
    simp only [zeroIs] at h
    split at h
    · split at h
      · rename_i hk; obtain ⟨rfl, rfl⟩ := hk
        injection h with h; subst h
        exact ⟨[_], rfl, .cons ⟨rfl, by rename_i k' _; cases k' <;> decide⟩ .nil⟩
      · cases h
    · cases h
  | .bool, cs, r, h => by
    simp only [zeroIs] at h
    split at h
    · split at h
      · rename_i hk; subst hk
        injection h with h; subst h
        exact ⟨[_], rfl, .cons rfl .nil⟩
      · cases h
    · cases h
  | .str, cs, r, h => by
    simp only [zeroIs] at h
    split at h
    · split at h
      · rename_i s _ hk
        injection h with h; subst h
        have : s = ByteArray.empty := by
          obtain ⟨d⟩ := s
          have : d = #[] := Array.eq_empty_of_size_eq_zero hk
          rw [this]; rfl
        subst this
        exact ⟨[_], rfl, .cons ⟨rfl, by simp [cap]⟩ .nil⟩
      · cases h
    · cases h
  | .raw, cs, r, h => by
    simp only [zeroIs] at h
    split at h
    · injection h with h; subst h
      exact ⟨[_], rfl, .cons ⟨rfl, rfl⟩ .nil⟩
    · cases h
  | .list t, cs, r, h => by
    simp only [zeroIs] at h
    split at h
    · injection h with h; subst h
      exact ⟨[_], rfl, .cons ⟨_, rfl⟩ .nil⟩
    · cases h
  | .sp t, cs, r, h => by
    simp only [zeroIs] at h
    split at h
    · injection h with h; subst h
      exact ⟨[_], rfl, .cons ⟨_, rfl⟩ .nil⟩
    · cases h
  | .pair a b, cs, r, h => by
    simp only [zeroIs] at h
    cases h1 : zeroIs a cs with
    | none => rw [h1] at h; cases h
    | some r1 =>
      rw [h1] at h
      obtain ⟨c1, e1, a1⟩ := zeroL_ok h1
      obtain ⟨c2, e2, a2⟩ := zeroL_ok (show zeroIs b r1 = some r from h)
      exact ⟨c1 ++ c2, by rw [e1, e2, List.append_assoc], a1.append a2⟩

/-! ### A struct put together -/
def fillA (pl : List (Nat × Nat)) : List LV → List (Nat × CV) → Option (List LV)
  | ls, [] => some ls
  | ls, (j, v) :: r =>
    match pl[j]? with
    | some (off, size) => if v.cells.length = size ∧ off + v.cells.length ≤ ls.length then fillA pl (ls.take off ++ v.cells ++ ls.drop (off + v.cells.length)) r else none
    | none => none

theorem All2.take {α β : Type} {r : α → β → Prop} {l : List α} {m : List β} (k : All2 r l m) (i : Nat) : All2 r (l.take i) (m.take i) := by simpa using k.extract 0 i
theorem All2.drop {α β : Type} {r : α → β → Prop} {l : List α} {m : List β} (k : All2 r l m) (i : Nat) : All2 r (l.drop i) (m.drop i) := by
  have := k.extract i (l.length - i)
  rw [List.take_of_length_le (by simp), List.take_of_length_le (by have := k.length; simp; omega)] at this
  exact this

theorem foldl_set (off : Nat) : ∀ (l : List Value) (i : Nat) (cells : Array Value), off + i + l.length ≤ cells.size →
    ((l.zipIdx i).foldl (fun cs (c, j) => cs.setIfInBounds (off + j) c) cells).toList = cells.toList.take (off + i) ++ l ++ cells.toList.drop (off + i + l.length)
  | [], i, cells, h => by simp
  | c :: l, i, cells, h => by
    simp only [List.zipIdx_cons, List.foldl_cons]
    simp only [List.length_cons] at h
    rw [foldl_set off l (i + 1) _ (by simp; omega)]
    simp only [Array.toList_setIfInBounds, List.length_cons]
    have h1 : off + i < cells.toList.length := by simp; omega
    rw [show off + (i + 1) = off + i + 1 by omega, List.take_set, List.drop_set_of_lt (by omega), List.take_add_one]
    rw [List.getElem?_eq_getElem h1]
    simp only [Option.toList_some]
    rw [List.set_append_right _ _ (by simp; omega)]
    simp [Nat.min_eq_left (Nat.le_of_lt h1)]
    rw [Nat.min_eq_left (by omega), Nat.sub_self]
    simp only [List.set_cons_zero, List.cons_append, List.nil_append]
    rw [show off + i + 1 + l.length = off + i + (l.length + 1) by omega]

theorem fill_ok {pl : List (Nat × Nat)} : ∀ {ps : List (Nat × CV)} {ls ls' : List LV} {cells : Array Value} {vs : List (Nat × Value)}, fillA pl ls ps = some ls' → All2 (LR R F w) ls cells.toList →
    All2 (fun (p : Nat × CV) (q : Nat × Value) => p.1 = q.1 ∧ CR R F w p.2 q.2) ps vs → ∃ cells', Instr.fill (pl.toArray[·]?) cells vs = some cells' ∧ All2 (LR R F w) ls' cells'.toList
  | [], ls, ls', cells, vs, h, hl, hp => by
    cases hp
    injection h with h; subst h
    exact ⟨cells, rfl, hl⟩
  | (j, v) :: ps, ls, ls', cells, (j', u) :: vs, h, hl, .cons ⟨hj, hv⟩ hp => by
    simp only at hj; subst hj
    unfold fillA at h
    split at h
    · rename_i off size hpl
      split at h
      · rename_i hc
        obtain ⟨hs, hle⟩ := hc
        have hcells := CR.cells hv
        have hul : u.cells.size = v.cells.length := by have := hcells.length; simp at this; omega
        have hll := hl.length
        simp only [Array.length_toList] at hll
        unfold Instr.fill
        have e : pl.toArray[j]? = some (off, size) := by simpa using hpl
        simp only [e]
        have hno : ¬ (u.cells.size ≠ size ∨ off + u.cells.size > cells.size) := by omega
        have hno' : (decide (u.cells.size ≠ size) || decide (off + u.cells.size > cells.size)) = false := by simp only [Bool.or_eq_false_iff, decide_eq_false_iff_not]; omega
        simp only [hno', Bool.false_eq_true, if_false]
        refine fill_ok h ?_ hp
        have := foldl_set off u.cells.toList 0 cells (by simp; omega)
        rw [← Array.foldl_toList, Array.toList_zipIdx, this]
        simp only [Nat.add_zero, Array.length_toList, hul]
        exact ((hl.take off).append hcells).append (hl.drop _)
      · cases h
    · cases h

/-- the parts of a struct, if their values are known -/
def partsA (ρA : Operand → AV) : List (Nat × Operand) → Option (List (Nat × CV))
  | [] => some []
  | (j, x) :: r => match ρA x with | .c v => (partsA ρA r).map fun l => (j, v) :: l | _ => none

theorem partsA_ok {ρA : Operand → AV} {ρ : Operand → Value} (hρ : EnvOk G R F w ρA ρ) : ∀ {ps : List (Nat × Operand)} {l : List (Nat × CV)}, partsA ρA ps = some l →
    All2 (fun (p : Nat × CV) (q : Nat × Value) => p.1 = q.1 ∧ CR R F w p.2 q.2) l (ps.map fun (j, x) => (j, ρ x))
  | [], l, h => by injection h with h; subst h; exact .nil
  | (j, x) :: ps, l, h => by
    unfold partsA at h
    split at h
    · rename_i v hx
      cases h1 : partsA ρA ps with
      | none => rw [h1] at h; cases h
      | some l1 =>
        rw [h1] at h
        injection h with h; subst h
        have := hρ x
        rw [hx] at this
        exact .cons ⟨rfl, this⟩ (partsA_ok hρ h1)
    · cases h

def places (Γ : Nat → Option TI) : List (Nat × Nat) → Option (List (Nat × Nat))
  | [] => some []
  | (t, off) :: r => match Γ t with | some i => (places Γ r).map fun l => (off, i.size) :: l | none => none

theorem places_ok (hΓ : TyOk P Γ) : ∀ {fs : List Field} {l : List (Nat × Nat)}, places Γ (fs.map fun f => (f.type, f.offset)) = some l →
    fs.mapM (fun f => (P.info? f.type).map fun i => (f.offset, i.size)) = some l
  | [], l, h => by injection h with h; subst h; rfl
  | f :: fs, l, h => by
    simp only [List.map_cons] at h
    unfold places at h
    split at h
    · rename_i i hi
      cases h1 : places Γ (fs.map fun f => (f.type, f.offset)) with
      | none => rw [h1] at h; cases h
      | some l1 =>
        rw [h1] at h
        injection h with h; subst h
        obtain ⟨info, desc, e1, _, e3, _⟩ := hΓ.facts hi
        simp [List.mapM_cons, e1, e3, places_ok hΓ h1]
    · cases h

def buildK {α : Type} (Γ : Nat → Option TI) (ρA : Operand → AV) (t : TypeId) (parts : Array (Nat × Operand)) (k : KQ α) : Option α :=
  match Γ t with
  | some ⟨_, _, _, .struct fs, some T⟩ =>
    (match places Γ fs with
     | some pl =>
       (match partsA ρA parts.toList with
        | some ps => (match fillA pl (zeroL T) ps with | some ls => k (.c (.agg ls)) [] | none => none)
        | none => none)
     | none => none)
  | _ => none

theorem buildK_ok {α : Type} (hΓ : TyOk P Γ) {t : TypeId} {parts : Array (Nat × Operand)} {ρA : Operand → AV} {ty : TypeId} {rs : Rs} {k : KQ α} {r : α} (h : buildK Γ ρA t parts k = some r) :
    ∃ out ids, k out ids = some r ∧ Quiet G P (.build t parts) ty ρA rs out ids := by
  unfold buildK at h
  split at h
  · rename_i sz by' ag fs T hi
    split at h
    · rename_i pl hpl
      split at h
      · rename_i ps hps
        split at h
        · rename_i ls hls
          refine ⟨_, _, h, fun F R w ρ hr hρ o ho hty => ?_⟩
          obtain ⟨info, desc, e1, e2, e3, e4, e5, e6, e7⟩ := hΓ.facts hi
          obtain ⟨⟨z, hz, hzi⟩, hn⟩ := e7 T rfl
          obtain ⟨a, rfl, ha⟩ := descD_struct e6
          obtain ⟨c, hc, hcl⟩ := zeroL_ok (R := R) (F := F) (w := w) hzi
          rw [List.append_nil] at hc
          subst hc
          obtain ⟨cells, hf, hcells⟩ := fill_ok hls hcl (partsA_ok hρ hps)
          refine ⟨.agg cells, ?_, cells.toList, by simp, hcells⟩
          unfold execOp
          rw [ho]
          apply run_v
          apply run_build
          unfold Program.built
          rw [e1, e2]
          have hpl' := places_ok hΓ (show places Γ (a.toList.map fun f => (f.type, f.offset)) = some pl by rw [ha]; exact hpl)
          simp only [hz, hpl']
          rw [← hf]
          congr 1
          simp
        · cases h
      · cases h
    · cases h
  · cases h

/-! ### Function literals -/
def capsA (ρA : Operand → AV) : List Operand → Option (List Nat)
  | [] => some []
  | x :: r => match ρA x with | .c (.l (.ptr id 0)) => (capsA ρA r).map fun l => id :: l | _ => none

theorem capsA_ok {ρA : Operand → AV} {ρ : Operand → Value} (hρ : EnvOk G R F w ρA ρ) : ∀ {ps : List Operand} {l : List Nat}, capsA ρA ps = some l →
    All2 (fun id u => PtrR R id 0 u) l (ps.map ρ)
  | [], l, h => by injection h with h; subst h; exact .nil
  | x :: ps, l, h => by
    unfold capsA at h
    split at h
    · rename_i id hx
      cases h1 : capsA ρA ps with
      | none => rw [h1] at h; cases h
      | some l1 =>
        rw [h1] at h
        injection h with h; subst h
        have := hρ x
        rw [hx] at this
        exact .cons this (capsA_ok hρ h1)
    · cases h

def makeFuncK {α : Type} (ρA : Operand → AV) (fn : Fn) (first captured : Array Operand) (k : KQ α) : Option α :=
  match fn, first.toList with
  | .func g, [] => (match capsA ρA captured.toList with | some ids => k (.c (.l (.fn g ids))) [] | none => none)
  | _, _ => none

theorem makeFuncK_ok {α : Type} {fn : Fn} {first captured : Array Operand} {ρA : Operand → AV} {ty : TypeId} {rs : Rs} {k : KQ α} {r : α} (h : makeFuncK ρA fn first captured k = some r) :
    ∃ out ids, k out ids = some r ∧ Quiet G P (.makeFunc fn first captured) ty ρA rs out ids := by
  unfold makeFuncK at h
  split at h
  · rename_i g hfst
    split at h
    · rename_i ids hc
      refine ⟨_, _, h, fun F R w ρ hr hρ o ho hty => ⟨.func (.func g) #[] (captured.toList.map ρ).toArray, ?_, _, rfl, capsA_ok hρ hc⟩⟩
      unfold execOp
      rw [ho]
      apply run_v
      unfold Instr.makeFunc
      have h1 : first = #[] := by simpa using hfst
      rw [h1]
      have : Array.map ρ captured = (List.map ρ captured.toList).toArray := by simp [← List.map_toArray]
      simp [run_pure, this]
    · cases h
  · cases h
end
end Go.Sx

namespace Go.Sx
open Go
set_option linter.unusedVariables false
set_option linter.unusedSimpArgs false

theorem ElL.goes {F F' : Nat → Prop} {w w' : World} {deep : Bool} {t : T} {x : t.den} {cs : List Value} {S : List Nat} (hF : ∀ b, F b → F' b) (ha : Agree F w w')
    (hS : ∀ b ∈ S, w'.heap[b]? = w.heap[b]?) (h : ElL F w deep t x cs S) : ElL F' w' deep t x cs S := by
  unfold ElL at h ⊢
  cases deep with
  | true => simp only [if_true] at h ⊢; exact h.agree hS
  | false => simp only [Bool.false_eq_true, if_false] at h ⊢; exact ⟨h.1.mono hF ha, h.2⟩

theorem RootOk.goes {F F' : Nat → Prop} {R R' : Nat → RV} {w w' : World} {new : Nat → Prop} (h : Goes F R w F' R' w' new) (ha : Agree F w w') {root : Root} {r : RV}
    (hS : ∀ b ∈ r.S, w'.heap[b]? = w.heap[b]?) (hr : RootOk F R w root r) : RootOk F' R' w' root r := by
  cases root with
  | dead => exact hr
  | box ls =>
    obtain ⟨hl, b, arr, ty, e1, e2, e3, e4⟩ := hr
    exact ⟨hl, b, arr, ty, e1, e2, by rw [hS b (by simp [e2])]; exact e3, e4.imp fun _ _ hp => LR.goes h ha hp⟩
  | row deep t xs =>
    obtain ⟨hl, hrow⟩ := hr
    exact ⟨hl, hrow.imp hS fun x cs S' hS' hE => ElL.goes h.sub ha (fun b hb => hS b (hS' b hb)) hE⟩
  | ro t xs => exact ⟨hr.1, hr.2.1, RdL.mono h.sub ha hr.2.2⟩
  | rowh t xs i off hid k =>
    obtain ⟨hl, hi, h1, A, l, c, e, hk, hrow⟩ := hr
    have hn : ¬ new hid := fun hn => by rw [h.was hid hn] at h1; cases h1
    exact ⟨hl, hi, (h.hdr hid hn).1.trans h1, A, l, c, (h.hdr hid hn).2.trans e, hk, hrow.imp hS fun x cs S' hS' hE => hE.agree (fun b hb => hS b (hS' b hb))⟩
  | mat t xs =>
    obtain ⟨hl, h1, h2, hc, hs, Ss, h3, h4, h5, h6, h7⟩ := hr
    refine ⟨hl, h1, h2, hc, hs, Ss, RdL.mono h.sub ha h3, h4, h5, h6, fun i x hx => ?_⟩
    have hi : i < Ss.length := by rw [h5]; exact (List.getElem?_eq_some_iff.1 hx).1
    refine (h7 i x hx).imp (fun b hb => hS b ?_) fun x cs S' hS' hE => hE.agree fun b hb => hS b ?_
    · rw [h6]; refine List.mem_flatten.2 ⟨Ss.getD i [], ?_, hb⟩
      rw [List.getD_eq_getElem?_getD, List.getElem?_eq_getElem hi]; exact List.getElem_mem hi
    · rw [h6]; refine List.mem_flatten.2 ⟨Ss.getD i [], ?_, hS' b hb⟩
      rw [List.getD_eq_getElem?_getD, List.getElem?_eq_getElem hi]; exact List.getElem_mem hi

/-- Roots with numbers in M change; the others stay. -/
theorem Sat.upd {F F' : Nat → Prop} {R R' : Nat → RV} {w w' : World} {rs rs' : Rs} {new M : Nat → Prop} (h : Sat F R w rs)
    (hnew : ∀ j, new j → M j ∧ (R j).live = false)
    (hoff : ∀ j, ¬ M j → rs' j = rs j ∧ R' j = R j)
    (hhdr : ∀ j, M j → ¬ new j → (R' j).live = (R j).live ∧ (R' j).hdr = (R j).hdr)
    (hS : ∀ j, M j → ∀ b, b ∈ (R' j).S → (∃ i, M i ∧ b ∈ (R i).S) ∨ (w.heap.size ≤ b ∧ b < w'.heap.size))
    (hnd : ∀ j, M j → (R' j).S.Nodup)
    (hdj : ∀ i j, M i → M j → i ≠ j → ∀ b, b ∈ (R' i).S → b ∉ (R' j).S)
    (hheap : ∀ b, b < w.heap.size → (∀ i, M i → b ∉ (R i).S) → w'.heap[b]? = w.heap[b]?)
    (hsub : ∀ b, F b → F' b) (hF' : ∀ b, F' b → F b ∨ ((∃ i, M i ∧ b ∈ (R i).S) ∧ ∀ j, M j → b ∉ (R' j).S))
    (hsize : w.heap.size ≤ w'.heap.size) (hos : w'.os = w.os) (htape : w'.tape = w.tape) (hout : w'.output = w.output)
    (hok : Goes F R w F' R' w' new → Agree F w w' → ∀ j, M j → RootOk F' R' w' (rs' j) (R' j)) : Goes F R w F' R' w' new ∧ Sat F' R' w' rs' := by
  have hg : Goes F R w F' R' w' new := by
    refine ⟨fun j hj => (hnew j hj).2, fun j hj => ?_, hsub, fun b hb hbS => hheap b hb fun i _ => hbS i, fun j b hb => ?_, fun b hb => ?_, hsize, hos, htape, hout⟩
    · by_cases hM : M j
      · exact hhdr j hM hj
      · rw [(hoff j hM).2]; exact ⟨rfl, rfl⟩
    · by_cases hM : M j
      · rcases hS j hM b hb with ⟨i, _, hi⟩ | ⟨hge, _⟩
        · exact .inl ⟨i, hi⟩
        · exact .inr hge
      · rw [(hoff j hM).2] at hb; exact .inl ⟨j, hb⟩
    · rcases hF' b hb with h1 | ⟨⟨i, _, hi⟩, _⟩
      · exact .inl h1
      · exact .inr (.inl ⟨i, hi⟩)
  have ha : Agree F w w' := hg.agree h
  refine ⟨hg, fun j => ?_, fun j => ?_, fun i j hij b hi hj => ?_, fun j b hb => ?_, fun j b hb hFb => ?_, fun b hb => ?_⟩
  · by_cases hM : M j
    · exact hok hg ha j hM
    · obtain ⟨e1, e2⟩ := hoff j hM
      rw [e1, e2]
      refine RootOk.goes hg ha (fun b hb => hheap b (h.lt j b hb) fun i hi hbi => ?_) (h.ok j)
      exact h.dj j i (fun e => hM (e ▸ hi)) b hb hbi
  · by_cases hM : M j
    · exact hnd j hM
    · rw [(hoff j hM).2]; exact h.nd j
  · by_cases hMi : M i <;> by_cases hMj : M j
    · exact hdj i j hMi hMj hij b hi hj
    · rw [(hoff j hMj).2] at hj
      rcases hS i hMi b hi with ⟨k, hk, hbk⟩ | ⟨hge, _⟩
      · exact h.dj k j (fun e => hMj (e ▸ hk)) b hbk hj
      · have := h.lt j b hj; omega
    · rw [(hoff i hMi).2] at hi
      rcases hS j hMj b hj with ⟨k, hk, hbk⟩ | ⟨hge, _⟩
      · exact h.dj k i (fun e => hMi (e ▸ hk)) b hbk hi
      · have := h.lt i b hi; omega
    · rw [(hoff i hMi).2] at hi
      rw [(hoff j hMj).2] at hj
      exact h.dj i j hij b hi hj
  · by_cases hM : M j
    · rcases hS j hM b hb with ⟨i, _, hi⟩ | ⟨_, hlt⟩
      · exact Nat.lt_of_lt_of_le (h.lt i b hi) hsize
      · exact hlt
    · rw [(hoff j hM).2] at hb; exact Nat.lt_of_lt_of_le (h.lt j b hb) hsize
  · by_cases hM : M j
    · rcases hF' b hFb with h1 | ⟨_, h2⟩
      · rcases hS j hM b hb with ⟨i, _, hi⟩ | ⟨hge, _⟩
        · exact h.nF i b hi h1
        · have := h.Flt b h1; omega
      · exact h2 j hM hb
    · rw [(hoff j hM).2] at hb
      rcases hF' b hFb with h1 | ⟨⟨i, hi, hbi⟩, _⟩
      · exact h.nF j b hb h1
      · exact h.dj i j (fun e => hM (e ▸ hi)) b hbi hb
  · rcases hF' b hb with h1 | ⟨⟨i, _, hi⟩, _⟩
    · exact Nat.lt_of_lt_of_le (h.Flt b h1) hsize
    · exact Nat.lt_of_lt_of_le (h.lt i b hi) hsize

def updR {β : Type} (f : Nat → β) (i : Nat) (x : β) : Nat → β := fun j => if j = i then x else f j

theorem updR_same {β : Type} (f : Nat → β) (i : Nat) (x : β) : updR f i x i = x := by simp [updR]
theorem updR_other {β : Type} (f : Nat → β) {i j : Nat} (x : β) (h : j ≠ i) : updR f i x j = f j := by simp [updR, h]

/-- One new root, with new blocks of its own. -/
theorem Sat.new {F : Nat → Prop} {R : Nat → RV} {w w' : World} {rs : Rs} {c : Nat} {root : Root} {rv : RV} (h : Sat F R w rs) (hl : (R c).live = false) (hd : rs c = .dead)
    (hS : ∀ b, b ∈ rv.S → w.heap.size ≤ b ∧ b < w'.heap.size) (hnd : rv.S.Nodup) (hheap : ∀ b, b < w.heap.size → w'.heap[b]? = w.heap[b]?)
    (hsize : w.heap.size ≤ w'.heap.size) (hos : w'.os = w.os) (htape : w'.tape = w.tape) (hout : w'.output = w.output)
    (hok : Goes F R w F (updR R c rv) w' (· = c) → Agree F w w' → RootOk F (updR R c rv) w' root rv) :
    Goes F R w F (updR R c rv) w' (· = c) ∧ Sat F (updR R c rv) w' (updR rs c root) := by
  refine Sat.upd (M := (· = c)) h ?_ ?_ ?_ ?_ ?_ ?_ ?_ (fun _ hb => hb) (fun _ hb => .inl hb) hsize hos htape hout ?_
  · intro j hj; exact ⟨hj, by rw [hj]; exact hl⟩
  · intro j hj; exact ⟨updR_other _ _ hj, updR_other _ _ hj⟩
  · intro j hj hn; exact absurd hj hn
  · intro j hj b hb; rw [hj, updR_same] at hb; exact .inr (hS b hb)
  · intro j hj; rw [hj, updR_same]; exact hnd
  · intro i j hi hj hij; exact absurd (hi.trans hj.symm) hij
  · intro b hb _; exact hheap b hb
  · intro hg ha j hj
    rw [hj, updR_same, updR_same]; exact hok hg ha

/-- the step of an operation that makes one root -/
theorem merge_one {c : Nat} {rsG rs' : Rs} {root : Root} (h : rs' c = root) : merge c (c + 1) [] rsG rs' = updR rsG c root := by
  funext j
  unfold merge updR
  by_cases hj : j = c
  · subst hj; simp [h]
  · rw [if_neg hj, if_neg]
    rintro (h1 | h1)
    · omega
    · cases h1

theorem new_one {c : Nat} : (fun j => c ≤ j ∧ j < c + 1) = (· = c) := by
  funext j
  exact propext ⟨fun h => by omega, fun h => by omega⟩
end Go.Sx

namespace Go.Sx
open Go
variable {G : Gl}
set_option linter.unusedVariables false
set_option linter.unusedSimpArgs false

section
variable {P : Program} {Γ : Nat → Option TI}

/-- a new block -/
def World.add (w : World) (o : Obj) : World := { w with heap := w.heap.push o }

theorem add_old (w : World) (o : Obj) {b : Nat} (h : b < w.heap.size) : (World.add w o).heap[b]? = w.heap[b]? := by
  show (w.heap.push o)[b]? = _
  rw [Array.getElem?_push, if_neg (by omega)]
theorem add_new (w : World) (o : Obj) : (World.add w o).heap[w.heap.size]? = some o := by
  show (w.heap.push o)[w.heap.size]? = _
  simp
theorem add_size (w : World) (o : Obj) : (World.add w o).heap.size = w.heap.size + 1 := by
  show (w.heap.push o).size = _
  simp

theorem run_newRow {t : TypeId} {cells : Array Value} {w : World} : (newRow t cells).run P w = .ok ⟨w.heap.size, 0, none⟩ (World.add w (.cells cells t)) := by
  unfold newRow newObj
  rw [run_bind']
  rfl

/-- a new variable -/
theorem new_box {F : Nat → Prop} {R : Nat → RV} {w : World} {rs : Rs} {c : Nat} {ls : List LV} {cells : Array Value} {t : TypeId} (h : Sat F R w rs) (hl : (R c).live = false) (hd : rs c = .dead)
    (hc : All2 (LR R F w) ls cells.toList) : ∃ R', Goes F R w F R' (World.add w (.cells cells t)) (· = c) ∧ Sat F R' (World.add w (.cells cells t)) (updR rs c (.box ls)) ∧
      LR R' F (World.add w (.cells cells t)) (.ptr c 0) (.pointer (some ⟨w.heap.size, 0, none⟩)) := by
  have := Sat.new (root := .box ls) (w' := World.add w (.cells cells t)) (rv := ⟨true, .pointer (some ⟨w.heap.size, 0, none⟩), [w.heap.size]⟩) h hl hd
    (fun b hb => by simp only [List.mem_singleton] at hb; rw [add_size]; omega) (by simp) (fun b hb => add_old w _ hb) (by rw [add_size]; omega) rfl rfl rfl
    (fun hg ha => ⟨rfl, w.heap.size, cells, t, rfl, rfl, add_new w _, hc.imp fun _ _ hp => LR.goes hg ha hp⟩)
  exact ⟨_, this.1, this.2, by rw [show ∀ (R : Nat → RV), LR R F (World.add w (.cells cells t)) (.ptr c 0) = PtrR R c 0 from fun _ => rfl]; exact ⟨by rw [updR_same], _, by rw [updR_same], rfl⟩⟩

def allocK {α : Type} (Γ : Nat → Option TI) (rs : Rs) (c : Nat) (t : TypeId) (k : KT α) : Option α :=
  match Γ t with
  | some ⟨_, _, _, _, some T⟩ => k (.c (.l (.ptr c 0))) (updR rs c (.box (zeroL T))) (c + 1) [] []
  | _ => none

theorem allocK_ok {α : Type} (hΓ : TyOk P Γ) {o : Oper} {t : TypeId} {ρA : Operand → AV} {rs : Rs} {c : Nat} {k : KT α} {r : α} (ho : o.op = .alloc t) (h : allocK Γ rs c t k = some r) :
    ∃ out rs' c' ids mod, k out rs' c' ids mod = some r ∧ LStep G P o ρA rs c out rs' c' ids mod := by
  unfold allocK at h
  split at h
  · rename_i sz by' ag d T hi
    refine ⟨_, _, _, _, _, h, Nat.le_succ _, fun rsG F R w ρ hids hnew hs hρ => ?_⟩
    obtain ⟨info, desc, e1, e2, e3, e4, e5, e6, e7⟩ := hΓ.facts hi
    obtain ⟨⟨z, hz, hzi⟩, hn⟩ := e7 T rfl
    obtain ⟨cs, hc, hcl⟩ := zeroL_ok (R := R) (F := F) (w := w) hzi
    rw [List.append_nil] at hc
    subst hc
    obtain ⟨hl, hd⟩ := hnew c (Nat.le_refl _) (Nat.lt_succ_self _)
    obtain ⟨R', hg, hsat, hv⟩ := new_box (t := t) hs hl hd hcl
    have hrun : (execOp ρ o).run P w = .ok (.value (.pointer (some ⟨w.heap.size, 0, none⟩))) (World.add w (.cells z.cells t)) := by
      unfold execOp
      rw [ho]
      apply run_v
      unfold Instr.alloc
      rw [bind_ok (run_zeroValue e1 hz w)]
      simp only
      unfold newVar
      rw [bind_ok run_newRow]
      rfl
    unfold Does
    rw [hrun]
    refine ⟨F, R', by rw [new_one]; exact hg, ?_, hv⟩
    rw [merge_one (updR_same _ _ _)]
    exact hsat
  · cases h

def boxK {α : Type} (rs : Rs) (c : Nat) (x : AV) (k : KT α) : Option α :=
  match x with
  | .c v => k (.c (.l (.ptr c 0))) (updR rs c (.box v.cells)) (c + 1) [] []
  | _ => none

theorem boxK_ok {α : Type} {o : Oper} {t : TypeId} {x : Operand} {ρA : Operand → AV} {rs : Rs} {c : Nat} {k : KT α} {r : α} (ho : o.op = .box t x) (h : boxK rs c (ρA x) k = some r) :
    ∃ out rs' c' ids mod, k out rs' c' ids mod = some r ∧ LStep G P o ρA rs c out rs' c' ids mod := by
  unfold boxK at h
  split at h
  · rename_i v hx
    refine ⟨_, _, _, _, _, h, Nat.le_succ _, fun rsG F R w ρ hids hnew hs hρ => ?_⟩
    have hv := hρ x
    rw [hx] at hv
    obtain ⟨hl, hd⟩ := hnew c (Nat.le_refl _) (Nat.lt_succ_self _)
    obtain ⟨R', hg, hsat, hv'⟩ := new_box (t := t) hs hl hd (CR.cells hv)
    have hrun : (execOp ρ o).run P w = .ok (.value (.pointer (some ⟨w.heap.size, 0, none⟩))) (World.add w (.cells (ρ x).cells t)) := by
      unfold execOp
      rw [ho]
      apply run_v
      unfold Instr.box newVar
      rw [bind_ok run_newRow]
      rfl
    unfold Does
    rw [hrun]
    refine ⟨F, R', by rw [new_one]; exact hg, ?_, hv'⟩
    rw [merge_one (updR_same _ _ _)]
    exact hsat
  · cases h

/-! ### Stores -/
def setCells (w : World) (b o : Nat) : List Value → World
  | [] => w
  | v :: r => setCells (w.setCell ⟨b, o, none⟩ v) b (o + 1) r

theorem setCell_heap {w : World} {b o : Nat} {arr : Array Value} {ty : TypeId} {fz : Nat × Nat} (h : w.heap[b]? = some (.cells arr ty fz)) (v : Value) :
    (w.setCell ⟨b, o, none⟩ v).heap[b]? = some (.cells (arr.setIfInBounds o v) ty fz) := by
  simp [World.setCell, Array.getElem?_modify, h]

theorem setCell_other {w : World} {b o b' : Nat} (h : b' ≠ b) (v : Value) : (w.setCell ⟨b, o, none⟩ v).heap[b']? = w.heap[b']? := by
  simp only [World.setCell, Array.getElem?_modify]
  rw [if_neg (by simpa using Ne.symm h)]

theorem setCell_size {w : World} {b o : Nat} (v : Value) : (w.setCell ⟨b, o, none⟩ v).heap.size = w.heap.size := by simp [World.setCell]

theorem setCells_facts : ∀ (vs : List Value) (w : World) (b o : Nat) (arr : Array Value) (ty : TypeId) (fz : Nat × Nat), w.heap[b]? = some (.cells arr ty fz) → o + vs.length ≤ arr.size →
    (∃ arr', (setCells w b o vs).heap[b]? = some (.cells arr' ty fz) ∧ arr'.toList = arr.toList.take o ++ vs ++ arr.toList.drop (o + vs.length)) ∧
    (∀ b', b' ≠ b → (setCells w b o vs).heap[b']? = w.heap[b']?) ∧ (setCells w b o vs).heap.size = w.heap.size ∧ (setCells w b o vs).os = w.os ∧ (setCells w b o vs).tape = w.tape ∧ (setCells w b o vs).output = w.output
  | [], w, b, o, arr, ty, fz, h, hle => ⟨⟨arr, h, by simp⟩, fun _ _ => rfl, rfl, rfl, rfl, rfl⟩
  | v :: vs, w, b, o, arr, ty, fz, h, hle => by
    simp only [List.length_cons] at hle
    obtain ⟨⟨arr', h1, h2⟩, h3, h4, h5, h6, h7⟩ := setCells_facts vs (w.setCell ⟨b, o, none⟩ v) b (o + 1) _ ty fz (setCell_heap h v) (by simp; omega)
    refine ⟨⟨arr', h1, ?_⟩, fun b' hb => (h3 b' hb).trans (setCell_other hb v), h4.trans (setCell_size v), h5, h6, h7⟩
    rw [h2]
    have hlt : o < arr.toList.length := by simp; omega
    simp only [Array.toList_setIfInBounds, List.length_cons]
    rw [List.take_set, List.drop_set_of_lt (by omega), List.take_add_one, List.getElem?_eq_getElem hlt]
    simp only [Option.toList_some]
    rw [List.set_append_right _ _ (by simp; omega)]
    simp only [List.length_take]
    rw [Nat.min_eq_left (by omega), Nat.sub_self]
    simp only [List.set_cons_zero, List.append_assoc, List.cons_append, List.nil_append]
    rw [show o + 1 + vs.length = o + (vs.length + 1) by omega]

theorem run_store {w : World} {b o : Nat} {arr : Array Value} {ty : TypeId} {fz : Nat × Nat} {v : Value} (h : w.heap[b]? = some (.cells arr ty fz)) (ho : o < arr.size) (hz : fz.1 ≤ o → fz.2 ≤ o) (h1 : one v = true) :
    (store ⟨b, o, none⟩ v).run P w = .ok () (w.setCell ⟨b, o, none⟩ v) := by
  have hc : w.cell? ⟨b, o, none⟩ = some arr[o] := by simp [World.cell?, h, ho]
  have hf : w.frozen? ⟨b, o, none⟩ = false := by
    simp only [World.frozen?, h]
    simp only [Bool.and_eq_false_iff, decide_eq_false_iff_not]
    omega
  unfold store
  cases v <;> simp [one] at h1 <;> simp [Sem.run, hc, hf]

theorem run_storeCells : ∀ (vs : List Value) (i : Nat) (w : World) (b o : Nat) (arr : Array Value) (ty : TypeId) (fz : Nat × Nat), w.heap[b]? = some (.cells arr ty fz) → o + i + vs.length ≤ arr.size →
    (∀ i, i < arr.size → fz.1 ≤ i → fz.2 ≤ i) → (∀ v ∈ vs, one v = true) → (storeCells ⟨b, o, none⟩ vs i).run P w = .ok () (setCells w b (o + i) vs)
  | [], i, w, b, o, arr, ty, fz, h, hle, hz, hv => rfl
  | v :: vs, i, w, b, o, arr, ty, fz, h, hle, hz, hv => by
    simp only [List.length_cons] at hle
    unfold storeCells
    rw [add_off, bind_ok (run_store h (by omega) (hz _ (by omega)) (hv v (by simp)))]
    rw [run_storeCells vs (i + 1) _ b o _ ty fz (setCell_heap h v) (by simp; omega) (by simpa using hz) (fun u hu => hv u (by simp [hu]))]
    rfl

theorem All2.one {R : Nat → RV} {F : Nat → Prop} {w : World} {ls : List LV} {cs : List Value} (h : All2 (LR R F w) ls cs) : ∀ v ∈ cs, one v = true := by
  intro v hv
  obtain ⟨i, hi⟩ := List.getElem?_of_mem hv
  obtain ⟨a, _, ha⟩ := h.get' hi
  exact LR.one ha

/-- a store into a variable -/
def storeBoxK {α : Type} (Γ : Nat → Option TI) (rs : Rs) (c : Nat) (t : TypeId) (a x : AV) (k : KT α) : Option α :=
  match Γ t with
  | some i =>
    (match a with
     | .c (.l (.ptr id off)) =>
       (match rs id with
        | .box ls =>
          (match x with
           | .c v => if v.cells.length = i.size ∧ off + v.cells.length ≤ ls.length then k .none (updR rs id (.box (ls.take off ++ v.cells ++ ls.drop (off + v.cells.length)))) c [id] [id] else none
           | _ => none)
        | _ => none)
     | _ => none)
  | none => none

theorem merge_mod {c id : Nat} {rsG rs' : Rs} {root : Root} (h : rs' id = root) : merge c c [id] rsG rs' = updR rsG id root := by
  funext j
  unfold merge updR
  by_cases hj : j = id
  · subst hj; simp [h]
  · rw [if_neg hj, if_neg]
    rintro (h1 | h1)
    · omega
    · simp at h1; exact hj h1

theorem new_none {c : Nat} : (fun j => c ≤ j ∧ j < c) = (fun _ => False) := by
  funext j
  exact propext ⟨fun h => by omega, fun h => h.elim⟩

theorem storeBoxK_ok {α : Type} (hΓ : TyOk P Γ) {o : Oper} {t : TypeId} {a x : Operand} {ρA : Operand → AV} {rs : Rs} {c : Nat} {k : KT α} {r : α} (ho : o.op = .store t a x) (h : storeBoxK Γ rs c t (ρA a) (ρA x) k = some r) :
    ∃ out rs' c' ids mod, k out rs' c' ids mod = some r ∧ LStep G P o ρA rs c out rs' c' ids mod := by
  unfold storeBoxK at h
  split at h
  · rename_i i hi
    split at h
    · rename_i id off ha
      split at h
      · rename_i ls hrs
        split at h
        · rename_i v hx
          split at h
          · rename_i hc
            obtain ⟨hsz, hle⟩ := hc
            refine ⟨_, _, _, _, _, h, Nat.le_refl _, fun rsG F R w ρ hids hnew hs hρ => ?_⟩
            have hva := hρ a
            have hvx := hρ x
            rw [ha] at hva
            rw [hx] at hvx
            have hroot := hs.ok id
            rw [hids id (by simp), hrs] at hroot
            obtain ⟨hlive, b, arr, ty, e1, e2, e3, e4⟩ := hroot
            obtain ⟨_, b', hh, hp⟩ := hva
            rw [e1] at hh
            injection hh with hh
            injection hh with hh
            injection hh with hb
            subst hb
            have hcells := CR.cells hvx
            have hl1 : (ρ x).cells.toList.length = v.cells.length := hcells.cells
            have hl2 : arr.toList.length = ls.length := e4.cells
            simp only [Array.length_toList] at hl1 hl2
            obtain ⟨⟨arr', f1, f2⟩, f3, f4, f5, f6, f7⟩ := setCells_facts (ρ x).cells.toList w b off arr ty (0, 0) e3 (by simp; omega)
            have hrun : (execOp ρ o).run P w = .ok .skip (setCells w b off (ρ x).cells.toList) := by
              unfold execOp
              rw [ho]
              simp only
              unfold Instr.storeAt
              rw [hp]
              have hsa : (Instr.sureAddr (.pointer (some ⟨b, off, none⟩))).run P w = .ok ⟨b, off, none⟩ w := rfl
              have hst : (storeVar t ⟨b, off, none⟩ (ρ x)).run P w = .ok () (setCells w b off (ρ x).cells.toList) := by
                unfold storeVar
                rw [bind_ok (hΓ.size hi w)]
                rw [if_neg (by omega)]
                have := run_storeCells (P := P) (ρ x).cells.toList 0 w b off arr ty (0, 0) e3 (by simp; omega) (by simp) hcells.one
                simpa using this
              rw [bind_ok ((bind_ok hsa).trans hst)]
              rfl
            have hup := Sat.upd (F' := F) (R' := R) (w' := setCells w b off (ρ x).cells.toList) (rs' := updR rsG id (.box (ls.take off ++ v.cells ++ ls.drop (off + v.cells.length)))) (new := fun _ => False) (M := (· = id)) hs
              (fun j hj => hj.elim) (fun j hj => ⟨updR_other _ _ hj, rfl⟩) (fun j hj _ => ⟨rfl, rfl⟩) (fun j hj b hb => .inl ⟨j, hj, hb⟩) (fun j hj => hs.nd j)
              (fun i j hi hj hij => absurd (hi.trans hj.symm) hij)
              (fun b' hb' hS => f3 b' (fun e => hS id rfl (by rw [e2, e]; simp))) (fun _ hb => hb) (fun _ hb => .inl hb) (by rw [f4]; exact Nat.le_refl _) f5 f6 f7
              (fun hg hag j hj => by
                rw [hj, updR_same]
                refine ⟨hlive, b, arr', ty, e1, e2, f1, ?_⟩
                rw [f2]
                have hl3 : (ρ x).cells.toList.length = v.cells.length := by simpa using hl1
                rw [hl3]
                exact (((e4.imp fun _ _ hp => LR.goes hg hag hp).take off).append (hcells.imp fun _ _ hp => LR.goes hg hag hp)).append ((e4.imp fun _ _ hp => LR.goes hg hag hp).drop _))
            unfold Does
            rw [hrun]
            refine ⟨F, R, by rw [new_none]; exact hup.1, ?_, trivial⟩
            rw [merge_mod (updR_same _ _ _)]
            exact hup.2
          · cases h
        · cases h
      · cases h
    · cases h
  · cases h
end
end Go.Sx
