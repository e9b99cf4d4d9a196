/- Part 2 of a library of this repo: what a function of the program does to abstract values, and that this is sound. Holds for every program. -/
import Derived.Great.FillDense
import Derived.Laws.BytesArg
import Derived.Test.YtpchbfkiingmjaaDoorSxA
namespace Go.Sx
open Go
set_option linter.unusedVariables false
set_option linter.unusedSimpArgs false

def asT (t t' : T) (x : t'.den) : Option t.den := if h : t' = t then some (h ▸ x) else none

theorem asT_some {t t' : T} {x : t'.den} {y : t.den} (h : asT t t' x = some y) : ∃ e : t' = t, y = e ▸ x := by
  unfold asT at h
  split at h
  · rename_i e; exact ⟨e, by injection h with h; exact h.symm⟩
  · cases h

/-- as another type, to be read -/
def asC (t t' : T) (x : t'.den) : Option t.den := if h : t' = t then some (h ▸ x) else if cvB t' t then some (cv t' t x) else none

theorem asC_read {F : Nat → Prop} {w : World} {t t' : T} {x : t'.den} {y : t.den} {cs : List Value} (h : asC t t' x = some y) (hr : RdL F w t' x cs) : RdL F w t y cs := by
  unfold asC at h
  split at h
  · rename_i e
    subst e
    injection h with h
    subst h
    exact hr
  · split at h
    · rename_i hc
      injection h with h
      subst h
      exact cv_read hc hr
    · cases h

def asD (deep : Bool) (t t' : T) (x : t'.den) : Option t.den := if deep then asT t t' x else asC t t' x

theorem asD_read {F : Nat → Prop} {w : World} {deep : Bool} {t t' : T} {x : t'.den} {y : t.den} {cs : List Value} (h : asD deep t t' x = some y) (hr : RdL F w t' x cs) : RdL F w t y cs := by
  unfold asD at h
  split at h
  · obtain ⟨e, rfl⟩ := asT_some h
    subst e
    exact hr
  · exact asC_read h hr

theorem cut_read {F : Nat → Prop} {w : World} {t : T} {xs : List t.den} {k : Nat} {v : Value} (hk : k ≤ List.length xs) (h : RdL F w (.list t) xs [v]) : RdL F w (.sp t) (xs, k) [cutV k v] := by
  obtain ⟨A, c, e, h1, h2, h3⟩ := h
  simp only [List.cons.injEq, and_true] at e
  subst e
  exact ⟨A, c, rfl, hk, h1, h2, h3⟩

theorem row_hdr {α : Type} {w : World} {n : Nat} {E : α → List Value → List Nat → Prop} {xs : List α} {v : Value} {S : List Nat} (h : RowAt w n E xs v S) : ∃ A c, v = .slice A (List.length xs) c := by
  rcases h.2 with ⟨hx, ⟨A, rfl⟩, _⟩ | ⟨b, o, c, arr, ty, fz, Ss, rfl, _⟩
  · exact ⟨A, 0, by rw [hx]; rfl⟩
  · exact ⟨_, c, rfl⟩
theorem row_cut {α : Type} {w : World} {n k l c : Nat} {A : Option Addr} {E : α → List Value → List Nat → Prop} {xs : List α} {v : Value} {S : List Nat} (h : RowAt w n E xs v S) (e : v = .slice A l c) (hk : k ≤ l) : k ≤ List.length xs ∧ cutV k v = .slice A k c := by
  obtain ⟨A', c', e'⟩ := row_hdr h
  rw [e] at e'
  injection e' with e1 e2 e3
  exact ⟨by omega, by rw [e]; rfl⟩
theorem ro_cut {F : Nat → Prop} {w : World} {t : T} {xs : List t.den} {k l c : Nat} {A : Option Addr} {v : Value} (h : RdL F w (.list t) xs [v]) (e : v = .slice A l c) (hk : k ≤ l) : RdL F w (.sp t) (xs, k) [.slice A k c] := by
  have h0 := h
  obtain ⟨A', c', e', _⟩ := h
  simp only [List.cons.injEq, and_true] at e'
  rw [e] at e'
  injection e' with e1 e2 e3
  have := cut_read (k := k) (by omega) h0
  rw [e] at this
  exact this

theorem cut_full {w : World} {α : Type} {n : Nat} {E : α → List Value → List Nat → Prop} {xs : List α} {v : Value} {S : List Nat} (h : RowAt w n E xs v S) : cutV (List.length xs) v = v := by
  rcases h.2 with ⟨hx, ⟨A, rfl⟩, _⟩ | ⟨b, o, c, arr, ty, fz, Ss, rfl, _⟩
  · rw [hx]; rfl
  · rfl

/-- the first cells, as a datum: owned to the bottom (deep), or read-only below. The roots that are used up. -/
def takeE (rs : Rs) (deep : Bool) : (t : T) → List LV → Option (t.den × List LV × List Nat)
  | .pair a b, ls =>
    (match takeE rs deep a ls with
     | some (x, r, i) => (match takeE rs deep b r with | some (y, r', i') => some ((x, y), r', i ++ i') | none => none)
     | none => none)
  | .int k, ls => (match ls with | .dat t' x :: r => (match asT (.int k) t' x with | some y => some (y, r, []) | none => none) | _ => none)
  | .bool, ls => (match ls with | .dat t' x :: r => (match asT .bool t' x with | some y => some (y, r, []) | none => none) | _ => none)
  | .str, ls => (match ls with | .dat t' x :: r => (match asT .str t' x with | some y => some (y, r, []) | none => none) | _ => none)
  | .raw, ls => (match ls with | .dat t' x :: r => (match asT .raw t' x with | some y => some (y, r, []) | none => none) | _ => none)
  | .list t, ls =>
    (match ls with
     | .nils :: r => some ([], r, [])
     | .sl id :: r =>
       (match rs id with
        | .row d t' xs => if !deep || d then (match asD deep (.list t) (.list t') xs with | some y => some (y, r, [id]) | none => none) else none
        | _ => none)
     | .dat t' x :: r => if deep then none else (match asC (.list t) t' x with | some y => some (y, r, []) | none => none)
     | _ => none)
  | .sp t, ls =>
    (match ls with
     | .nils :: r => some (([], 0), r, [])
     | .sl id :: r =>
       (match rs id with
        | .row d t' xs =>
          if deep then (if d || t'.plain then (match asT (.list t) (.list t') xs with | some y => some ((y, List.length y), r, [id]) | none => none) else none)
          else (match asC (.sp t) (.list t') xs with | some y => some (y, r, [id]) | none => none)
        | _ => none)
     | .slv id k :: r =>
       (match rs id with
        | .row d t' xs =>
          if deep then (if d || t'.plain then (match asT (.list t) (.list t') xs with | some y => some ((y, k), r, [id]) | none => none) else none)
          else (match asC (.sp t) (.sp t') (xs, k) with | some y => some (y, r, [id]) | none => none)
        | _ => none)
     | .dat t' x :: r => if deep then none else (match asC (.sp t) t' x with | some y => some (y, r, []) | none => none)
     | _ => none)

section
variable {P : Program} {Γ : Nat → Option TI} {R : Nat → RV} {F : Nat → Prop} {w : World}

/-- the blocks of roots -/
def blocks (R : Nat → RV) (ids : List Nat) : List Nat := ids.flatMap fun id => (R id).S

theorem RowAt.read {F' : Nat → Prop} {deep : Bool} {t : T} {xs : List t.den} {v : Value} {S : List Nat} (h : RowAt w t.n (ElL F w deep t) xs v S) (hF : ∀ b, F b → F' b) (hS : ∀ b ∈ S, F' b) : RdL F' w (.list t) xs [v] := by
  obtain ⟨hl, ⟨hx, ⟨A0, hv'⟩, hS'⟩ | ⟨b, o, c, arr, ty, fz, Ss, h1, h2, h3, hz, h4, h5, h6, h7⟩⟩ := h
  · subst hx
    exact ⟨A0, 0, by rw [hv']; rfl, by simp, by simp, fun i x hi => by simp at hi⟩
  · refine ⟨some ⟨b, o, none⟩, c, by rw [h1], h2, hl, fun i x hx => ?_⟩
    obtain ⟨cs', k1, k2, k3⟩ := h7 i x hx
    have hi : i < Ss.length := by rw [h6]; exact (List.getElem?_eq_some_iff.1 hx).1
    have hsub : ∀ y ∈ Ss.getD i [], F' y := fun y hy => hS y (by
      rw [h5]
      refine List.mem_cons_of_mem _ (List.mem_flatten.2 ⟨Ss.getD i [], ?_, hy⟩)
      rw [List.getD_eq_getElem?_getD, List.getElem?_eq_getElem hi]; exact List.getElem_mem hi)
    refine ⟨b, o, cs', rfl, hS b (by simp [h5]), ?_, fun j u hu => by have := k3 j u hu; simp [World.cell?, h3, this]⟩
    unfold ElL at k2
    cases deep with
    | true => simp only [if_true] at k2; exact k2.read hsub
    | false => simp only [Bool.false_eq_true, if_false] at k2; exact k2.1.mono hF (Agree.refl _ _)

theorem ElL_true (t : T) : ElL F w true t = (fun x cs S => OwnL w t x cs S) := by funext x cs S; simp [ElL]

theorem OwnL_plain {t : T} {x : t.den} {cs : List Value} (hp : t.plain = true) : ∀ {F : Nat → Prop}, RdL F w t x cs → OwnL w t x cs [] := by
  induction t generalizing cs with
  | int k => intro F h; exact ⟨h, rfl⟩
  | bool => intro F h; exact ⟨h, rfl⟩
  | str => intro F h; exact ⟨h, rfl⟩
  | raw => intro F h; exact ⟨h, rfl⟩
  | list t _ => cases hp
  | sp t _ => cases hp
  | pair a b iha ihb =>
    intro F h
    obtain ⟨x, y⟩ := x
    simp only [T.plain, Bool.and_eq_true] at hp
    obtain ⟨c1, c2, e, h1, h2⟩ := h
    exact ⟨c1, c2, [], [], e, rfl, iha hp.1 h1, ihb hp.2 h2⟩

theorem scalar_own {t t' : T} {x : t'.den} {y : t.den} {v : Value} (hn : t.plain = true) (h : asT t t' x = some y) (hv : LR R F w (.dat t' x) v) : OwnL w t y [v] [] := by
  obtain ⟨e, rfl⟩ := asT_some h
  subst e
  exact OwnL_plain hn hv

theorem row_own {d : Bool} {t : T} {xs : List t.den} {v : Value} {S : List Nat} (hd : (d || t.plain) = true) (h : RowAt w t.n (ElL F w d t) xs v S) : RowAt w t.n (fun x cs S => OwnL w t x cs S) xs v S := by
  cases d with
  | true => rw [ElL_true] at h; exact h
  | false =>
    refine h.imp (fun _ _ => rfl) fun x cs S' _ hE => ?_
    unfold ElL at hE
    simp only [Bool.false_eq_true, if_false] at hE
    rw [hE.2]
    exact OwnL_plain (by simpa using hd) hE.1

theorem OwnL_plain_S : ∀ {t : T} {x : t.den} {cs : List Value} {S : List Nat}, t.plain = true → OwnL w t x cs S → S = []
  | .int _, _, _, _, _, h => h.2
  | .bool, _, _, _, _, h => h.2
  | .str, _, _, _, _, h => h.2
  | .raw, _, _, _, _, h => h.2
  | .list _, _, _, _, hp, _ => by cases hp
  | .sp _, _, _, _, hp, _ => by cases hp
  | .pair a b, (_, _), _, _, hp, ⟨_, _, _, _, _, e, h1, h2⟩ => by
    simp only [T.plain, Bool.and_eq_true] at hp
    rw [e, OwnL_plain_S hp.1 h1, OwnL_plain_S hp.2 h2]; rfl

theorem row_any {d d' : Bool} {t : T} {xs : List t.den} {v : Value} {S : List Nat} (hd : d' = d ∨ t.plain = true) (h : RowAt w t.n (ElL F w d t) xs v S) : RowAt w t.n (ElL F w d' t) xs v S := by
  rcases hd with rfl | hp
  · exact h
  have h1 := row_own (d := d) (by simp [hp]) h
  cases d' with
  | true => rw [ElL_true]; exact h1
  | false =>
    refine h1.imp (fun _ _ => rfl) fun x cs S' _ hE => ?_
    unfold ElL
    simp only [Bool.false_eq_true, if_false]
    have e := OwnL_plain_S hp hE
    exact ⟨hE.read (fun b hb => by rw [e] at hb; cases hb), e⟩

theorem takeE_own : ∀ {t : T} {ls rest : List LV} {x : t.den} {con : List Nat} {cs : List Value} {rs : Rs}, takeE rs true t ls = some (x, rest, con) → RootsOk F R w rs con → All2 (LR R F w) ls cs →
    ∃ c1 c2, cs = c1 ++ c2 ∧ All2 (LR R F w) rest c2 ∧ OwnL w t x c1 (blocks R con) := by
  intro t
  induction t with
  | pair a b iha ihb =>
    intro ls rest x con cs rs h hr hl
    simp only [takeE] at h
    split at h
    · rename_i x1 r1 i1 h1
      split at h
      · rename_i y1 r2 i2 h2
        injection h with h
        injection h with hx h
        injection h with hr' hc
        subst hx hr' hc
        obtain ⟨c1, c2, rfl, k1, k2⟩ := iha h1 (fun j hj => hr j (by simp [hj])) hl
        obtain ⟨c3, c4, rfl, k3, k4⟩ := ihb h2 (fun j hj => hr j (by simp [hj])) k1
        exact ⟨c1 ++ c3, c4, by simp, k3, c1, c3, _, _, rfl, by simp [blocks], k2, k4⟩
      · cases h
    · cases h
  | list t _ =>
    intro ls rest x con cs rs h hr hl
    simp only [takeE] at h
    split at h
    · rename_i r
      injection h with h
      injection h with hx h
      injection h with hr' hc
      subst hx hr' hc
      cases hl with
      | cons hv hl =>
        obtain ⟨A, rfl⟩ := hv
        exact ⟨[_], _, rfl, hl, _, rfl, by simp, .inl ⟨rfl, ⟨A, rfl⟩, rfl⟩⟩
    · rename_i id r
      split at h
      · rename_i d t' xs hrs
        split at h
        · rename_i hd
          simp only [Bool.not_true, Bool.false_or] at hd
          subst hd
          split at h
          · rename_i y hy
            injection h with h
            injection h with hx h
            injection h with hr' hc
            subst hx hr' hc
            unfold asD at hy
            simp only [if_true] at hy
            obtain ⟨e, rfl⟩ := asT_some hy
            injection e with e
            subst e
            cases hl with
            | cons hv hl =>
              obtain ⟨hlive, rfl, _⟩ := hv
              have hroot := hr id (by simp)
              rw [hrs] at hroot
              refine ⟨[_], _, rfl, hl, _, rfl, ?_⟩
              have h2 := hroot.2
              rw [ElL_true] at h2
              simpa [blocks] using h2
          · cases h
        · cases h
      · cases h
    · simp only [if_true] at h; cases h
    · cases h
  | sp t _ =>
    intro ls rest x con cs rs h hr hl
    simp only [takeE] at h
    split at h
    · rename_i r
      injection h with h
      injection h with hx h
      injection h with hr' hc
      subst hx hr' hc
      cases hl with
      | cons hv hl =>
        obtain ⟨A, rfl⟩ := hv
        exact ⟨[_], _, rfl, hl, Nat.le_refl _, _, rfl, by simp, .inl ⟨rfl, ⟨A, rfl⟩, rfl⟩⟩
    · rename_i id r
      split at h
      · rename_i d t' xs hrs
        split at h
        · split at h
          · rename_i hd
            split at h
            · rename_i y hy
              injection h with h
              injection h with hx h
              injection h with hr' hc
              subst hx hr' hc
              obtain ⟨e, rfl⟩ := asT_some hy
              injection e with e
              subst e
              cases hl with
              | cons hv hl =>
                obtain ⟨hlive, rfl, _⟩ := hv
                have hroot := hr id (by simp)
                rw [hrs] at hroot
                refine ⟨[_], _, rfl, hl, Nat.le_refl _, (R id).hdr, ?_, ?_⟩
                · rw [cut_full hroot.2]
                · simpa [blocks] using row_own hd hroot.2
            · cases h
          · cases h
        · rename_i hdp; exact absurd trivial hdp
      · cases h
    · rename_i id k r
      split at h
      · rename_i d t' xs hrs
        split at h
        · split at h
          · rename_i hd
            split at h
            · rename_i y hy
              injection h with h
              injection h with hx h
              injection h with hr' hc
              subst hx hr' hc
              obtain ⟨e, rfl⟩ := asT_some hy
              injection e with e
              subst e
              cases hl with
              | cons hv hl =>
                obtain ⟨hlive, A, l, c, eh, ⟨hk, _⟩, rfl⟩ := hv
                have hroot := hr id (by simp)
                rw [hrs] at hroot
                obtain ⟨k1, k2⟩ := row_cut hroot.2 eh hk
                refine ⟨[_], _, rfl, hl, k1, (R id).hdr, by rw [k2], ?_⟩
                simpa [blocks] using row_own hd hroot.2
            · cases h
          · cases h
        · rename_i hdp; exact absurd trivial hdp
      · cases h
    · simp only [if_true] at h; cases h
    · cases h
  | _ =>
    intro ls rest x con cs rs h hr hl
    simp only [takeE] at h
    split at h
    · rename_i t' x' r
      split at h
      · rename_i y hy
        injection h with h
        injection h with hx h
        injection h with hr' hc
        subst hx hr' hc
        cases hl with
        | cons hv hl => exact ⟨[_], _, rfl, hl, by simpa [blocks] using scalar_own rfl hy hv⟩
      · cases h
    · cases h

theorem takeE_read {F' : Nat → Prop} (hF : ∀ b, F b → F' b) : ∀ {t : T} {ls rest : List LV} {x : t.den} {con : List Nat} {cs : List Value} {rs : Rs} {deep : Bool}, takeE rs deep t ls = some (x, rest, con) → RootsOk F R w rs con → (∀ b ∈ blocks R con, F' b) → All2 (LR R F w) ls cs →
    ∃ c1 c2, cs = c1 ++ c2 ∧ All2 (LR R F w) rest c2 ∧ RdL F' w t x c1 := by
  intro t
  induction t with
  | pair a b iha ihb =>
    intro ls rest x con cs rs deep h hr hb hl
    simp only [takeE] at h
    split at h
    · rename_i x1 r1 i1 h1
      split at h
      · rename_i y1 r2 i2 h2
        injection h with h
        injection h with hx h
        injection h with hr' hc
        subst hx hr' hc
        obtain ⟨c1, c2, rfl, k1, k2⟩ := iha h1 (fun j hj => hr j (by simp [hj])) (fun b hb' => hb b (by simp only [blocks, List.flatMap_append, List.mem_append]; exact .inl hb')) hl
        obtain ⟨c3, c4, rfl, k3, k4⟩ := ihb h2 (fun j hj => hr j (by simp [hj])) (fun b hb' => hb b (by simp only [blocks, List.flatMap_append, List.mem_append]; exact .inr hb')) k1
        exact ⟨c1 ++ c3, c4, by simp, k3, c1, c3, rfl, k2, k4⟩
      · cases h
    · cases h
  | list t _ =>
    intro ls rest x con cs rs deep h hr hb hl
    simp only [takeE] at h
    split at h
    · rename_i r
      injection h with h
      injection h with hx h
      injection h with hr' hc
      subst hx hr' hc
      cases hl with
      | cons hv hl =>
        obtain ⟨A, rfl⟩ := hv
        exact ⟨[_], _, rfl, hl, A, 0, rfl, by simp, by simp, fun i x hi => by simp at hi⟩
    · rename_i id r
      split at h
      · rename_i d t' xs hrs
        split at h
        · split at h
          · rename_i y hy
            injection h with h
            injection h with hx h
            injection h with hr' hc
            subst hx hr' hc
            cases hl with
            | cons hv hl =>
              obtain ⟨hlive, rfl, _⟩ := hv
              have hroot := hr id (by simp)
              rw [hrs] at hroot
              exact ⟨[_], _, rfl, hl, asD_read hy <| hroot.2.read hF (fun b hb' => hb b (by simpa [blocks] using hb'))⟩
          · cases h
        · cases h
      · cases h
    · split at h
      · cases h
      · split at h
        · rename_i y hy
          injection h with h
          injection h with hx h
          injection h with hr' hc
          subst hx hr' hc
          cases hl with
          | cons hv hl => exact ⟨[_], _, rfl, hl, asC_read hy <| RdL.mono hF (Agree.refl _ _) hv⟩
        · cases h
    · cases h
  | sp t _ =>
    intro ls rest x con cs rs deep h hr hb hl
    simp only [takeE] at h
    split at h
    · injection h with h
      injection h with hx h
      injection h with hr' hc
      subst hx hr' hc
      cases hl with
      | cons hv hl =>
        obtain ⟨A, rfl⟩ := hv
        exact ⟨[_], _, rfl, hl, A, 0, rfl, by simp, by simp, by simp, fun i x hi => by simp at hi⟩
    · rename_i id r
      split at h
      · rename_i d t' xs hrs
        split at h
        · split at h
          · split at h
            · rename_i y hy
              injection h with h
              injection h with hx h
              injection h with hr' hc
              subst hx hr' hc
              obtain ⟨e, rfl⟩ := asT_some hy
              injection e with e
              subst e
              cases hl with
              | cons hv hl =>
                obtain ⟨hlive, rfl, _⟩ := hv
                have hroot := hr id (by simp)
                rw [hrs] at hroot
                refine ⟨[_], _, rfl, hl, ?_⟩
                have h1 := cut_read (Nat.le_refl _) (hroot.2.read hF (fun b hb' => hb b (by simpa [blocks] using hb')))
                rw [cut_full hroot.2] at h1
                exact h1
            · cases h
          · cases h
        · split at h
          · rename_i y hy
            injection h with h
            injection h with hx h
            injection h with hr' hc
            subst hx hr' hc
            cases hl with
            | cons hv hl =>
              obtain ⟨hlive, rfl, _⟩ := hv
              have hroot := hr id (by simp)
              rw [hrs] at hroot
              exact ⟨[_], _, rfl, hl, asC_read hy <| hroot.2.read hF (fun b hb' => hb b (by simpa [blocks] using hb'))⟩
          · cases h
      · cases h
    · rename_i id k r
      split at h
      · rename_i d t' xs hrs
        split at h
        · split at h
          · split at h
            · rename_i y hy
              injection h with h
              injection h with hx h
              injection h with hr' hc
              subst hx hr' hc
              obtain ⟨e, rfl⟩ := asT_some hy
              injection e with e
              subst e
              cases hl with
              | cons hv hl =>
                obtain ⟨hlive, A, l, c, eh, ⟨hk, _⟩, rfl⟩ := hv
                have hroot := hr id (by simp)
                rw [hrs] at hroot
                exact ⟨[_], _, rfl, hl, ro_cut (hroot.2.read hF (fun b hb' => hb b (by simpa [blocks] using hb'))) eh hk⟩
            · cases h
          · cases h
        · split at h
          · rename_i y hy
            injection h with h
            injection h with hx h
            injection h with hr' hc
            subst hx hr' hc
            cases hl with
            | cons hv hl =>
              obtain ⟨hlive, A, l, c, eh, ⟨hk, _⟩, rfl⟩ := hv
              have hroot := hr id (by simp)
              rw [hrs] at hroot
              exact ⟨[_], _, rfl, hl, asC_read hy <| ro_cut (hroot.2.read hF (fun b hb' => hb b (by simpa [blocks] using hb'))) eh hk⟩
          · cases h
      · cases h
    · split at h
      · cases h
      · split at h
        · rename_i y hy
          injection h with h
          injection h with hx h
          injection h with hr' hc
          subst hx hr' hc
          cases hl with
          | cons hv hl => exact ⟨[_], _, rfl, hl, asC_read hy <| RdL.mono hF (Agree.refl _ _) hv⟩
        · cases h
    · cases h
  | _ =>
    intro ls rest x con cs rs deep h hr hb hl
    simp only [takeE] at h
    split at h
    · rename_i t' x' r
      split at h
      · rename_i y hy
        injection h with h
        injection h with hx h
        injection h with hr' hc
        subst hx hr' hc
        obtain ⟨e, rfl⟩ := asT_some hy
        subst e
        cases hl with
        | cons hv hl => exact ⟨[_], _, rfl, hl, RdL.mono hF (Agree.refl _ _) hv⟩
      · cases h
    · cases h

/-- as an element of a row: owned to the bottom if that can be, else read-only below -/
theorem takeE_el {deep : Bool} {F' : Nat → Prop} (hF : ∀ b, F b → F' b) {t : T} {ls : List LV} {x : t.den} {con : List Nat} {cs : List Value} {rs : Rs} (h : takeE rs deep t ls = some (x, [], con)) (hr : RootsOk F R w rs con)
    (hb : deep = false → ∀ b ∈ blocks R con, F' b) (hl : All2 (LR R F w) ls cs) : ElL F' w deep t x cs (if deep then blocks R con else []) := by
  unfold ElL
  cases deep with
  | true =>
    obtain ⟨c1, c2, rfl, k1, k2⟩ := takeE_own h hr hl
    cases k1
    simpa using k2
  | false =>
    obtain ⟨c1, c2, rfl, k1, k2⟩ := takeE_read hF h hr (hb rfl) hl
    cases k1
    simpa using k2
end
end Go.Sx

namespace Go.Sx
open Go
set_option linter.unusedVariables false
set_option linter.unusedSimpArgs false

section
variable {P : Program} {Γ : Nat → Option TI}

def nodupB : List Nat → Bool
  | [] => true
  | x :: r => !(r.any fun y => y == x) && nodupB r

theorem nodupB_ok : ∀ {l : List Nat}, nodupB l = true → l.Nodup
  | [], _ => List.nodup_nil
  | x :: r, h => by
    simp only [nodupB, Bool.and_eq_true, Bool.not_eq_true'] at h
    refine List.nodup_cons.2 ⟨fun hx => ?_, nodupB_ok h.2⟩
    have := h.1
    rw [List.any_eq_false] at this
    exact absurd (this x hx) (by simp)

/-- roots that can be used up: each once, each there -/
def okCon (c : Nat) (con : List Nat) : Bool := nodupB con && con.all fun i => Nat.blt i c

theorem okCon_ok {c : Nat} {con : List Nat} (h : okCon c con = true) : con.Nodup ∧ ∀ i ∈ con, i < c := by
  simp only [okCon, Bool.and_eq_true, List.all_eq_true] at h
  exact ⟨nodupB_ok h.1, fun i hi => by have := h.2 i hi; simpa [Nat.blt_eq] using this⟩

/-- all elements of a literal -/
def takeAll (rs : Rs) (deep : Bool) (t : T) : List CV → Option (List t.den × List Nat)
  | [] => some ([], [])
  | v :: r =>
    match takeE rs deep t v.cells with
    | some (x, [], i) => (match takeAll rs deep t r with | some (xs, i') => some (x :: xs, i ++ i') | none => none)
    | _ => none

theorem blocks_append (R : Nat → RV) (a b : List Nat) : blocks R (a ++ b) = blocks R a ++ blocks R b := by simp [blocks]

theorem blocks_nodup {F : Nat → Prop} {R : Nat → RV} {w : World} {rs : Rs} (h : Sat F R w rs) : ∀ {ids : List Nat}, ids.Nodup → (blocks R ids).Nodup
  | [], _ => List.nodup_nil
  | i :: ids, hn => by
    obtain ⟨h1, h2⟩ := List.nodup_cons.1 hn
    simp only [blocks, List.flatMap_cons]
    refine List.nodup_append.2 ⟨h.nd i, blocks_nodup h h2, ?_⟩
    rintro a ha b hb rfl
    obtain ⟨j, hj, hjb⟩ := List.mem_flatMap.1 hb
    exact h.dj i j (fun e => h1 (e ▸ hj)) a ha hjb

theorem blocks_lt {F : Nat → Prop} {R : Nat → RV} {w : World} {rs : Rs} (h : Sat F R w rs) {ids : List Nat} {b : Nat} (hb : b ∈ blocks R ids) : b < w.heap.size := by
  obtain ⟨j, _, hjb⟩ := List.mem_flatMap.1 hb
  exact h.lt j b hjb

/-- the elements of a literal, side by side -/
structure Els (F' : Nat → Prop) (w : World) (deep : Bool) (t : T) (xs : List t.den) (vs : List Value) (Ss : List (List Nat)) : Prop where
  len : xs.length = vs.length
  lenS : Ss.length = vs.length
  cells : ∀ v ∈ vs, v.cells.size = t.n
  el : ∀ i x, xs[i]? = some x → ∃ v, vs[i]? = some v ∧ ElL F' w deep t x v.cells.toList (Ss.getD i [])

theorem takeAll_ok {F F' : Nat → Prop} {R : Nat → RV} {w : World} (hF : ∀ b, F b → F' b) {rs : Rs} {deep : Bool} {t : T} : ∀ {l : List CV} {xs : List t.den} {con : List Nat} {vs : List Value}, takeAll rs deep t l = some (xs, con) →
    RootsOk F R w rs con → (deep = false → ∀ b ∈ blocks R con, F' b) → All2 (CR R F w) l vs →
    ∃ Ss, Els F' w deep t xs vs Ss ∧ Ss.flatten = if deep then blocks R con else []
  | [], xs, con, vs, h, hr, hb, hl => by
    injection h with h
    injection h with hx hc
    subst hx hc
    cases hl
    exact ⟨[], ⟨rfl, rfl, by simp, fun i x hi => by simp at hi⟩, by simp [blocks]⟩
  | v :: l, xs, con, u :: vs, h, hr, hb, .cons hv hl => by
    unfold takeAll at h
    split at h
    · rename_i x i hx
      split at h
      · rename_i xs' i' hxs
        injection h with h
        injection h with hx' hc
        subst hx' hc
        have hel := takeE_el hF hx (fun j hj => hr j (by simp [hj])) (fun hd b hb' => hb hd b (by rw [blocks_append]; simp [hb'])) (CR.cells hv)
        obtain ⟨Ss, hE, hf⟩ := takeAll_ok hF hxs (fun j hj => hr j (by simp [hj])) (fun hd b hb' => hb hd b (by rw [blocks_append]; simp [hb'])) hl
        refine ⟨(if deep then blocks R i else []) :: Ss, ⟨by simp [hE.len], by simp [hE.lenS], ?_, ?_⟩, ?_⟩
        · intro v' hv'
          rcases List.mem_cons.1 hv' with hvu | hv'
          · subst hvu
            have : v'.cells.toList.length = t.n := by
              unfold ElL at hel
              cases deep with
              | true => simp only [if_true] at hel; exact hel.length
              | false => simp only [Bool.false_eq_true, if_false] at hel; exact hel.1.length
            simpa using this
          · exact hE.cells v' hv'
        · intro j y hy
          cases j with
          | zero => simp at hy; subst hy; exact ⟨u, rfl, by simpa using hel⟩
          | succ j => simpa using hE.el j y (by simpa using hy)
        · rw [List.flatten_cons, hf, blocks_append]
          cases deep <;> simp
      · cases h
    · cases h

theorem flatMap_get {n : Nat} : ∀ {vs : List Value}, (∀ v ∈ vs, v.cells.size = n) → ∀ {i : Nat} {v : Value}, vs[i]? = some v → ∀ {j : Nat} {u : Value}, v.cells.toList[j]? = some u → (vs.flatMap fun v => v.cells.toList)[i * n + j]? = some u
  | v' :: vs, hc, 0, v, hi, j, u, hu => by
    simp at hi; subst hi
    simp only [List.flatMap_cons]
    have hj : j < v'.cells.toList.length := (List.getElem?_eq_some_iff.1 hu).1
    rw [Nat.zero_mul, Nat.zero_add, List.getElem?_append_left hj]; exact hu
  | v' :: vs, hc, i + 1, v, hi, j, u, hu => by
    simp only [List.flatMap_cons]
    have hn : v'.cells.toList.length = n := by simpa using hc v' (by simp)
    rw [List.getElem?_append_right (by rw [hn, Nat.add_mul]; omega), hn]
    rw [show (i + 1) * n + j - n = i * n + j by rw [Nat.add_mul]; omega]
    exact flatMap_get (fun v hv => hc v (by simp [hv])) (by simpa using hi) hu

theorem flatMap_len {n : Nat} : ∀ {vs : List Value}, (∀ v ∈ vs, v.cells.size = n) → (vs.flatMap fun v => v.cells.toList).length = vs.length * n
  | [], _ => by simp
  | v :: vs, hc => by
    simp only [List.flatMap_cons, List.length_append, List.length_cons]
    rw [flatMap_len (fun v hv => hc v (by simp [hv]))]
    have : v.cells.toList.length = n := by simpa using hc v (by simp)
    rw [this, Nat.add_mul]; omega

/-- a new row out of elements -/
theorem Els.row {F' : Nat → Prop} {w w' : World} {deep : Bool} {t : T} {xs : List t.den} {vs : List Value} {Ss : List (List Nat)} {ty : TypeId} {b : Nat} (h : Els F' w deep t xs vs Ss) (hw : ∀ y, F' y → w'.heap[y]? = w.heap[y]?) (hS : ∀ y ∈ Ss.flatten, w'.heap[y]? = w.heap[y]?)
    (hb : w'.heap[b]? = some (.cells (vs.flatMap fun v => v.cells.toList).toArray ty (0, 0))) (hcap : xs.length ≤ cap) :
    RowAt w' t.n (ElL F' w' deep t) xs (.slice (some ⟨b, 0, none⟩) xs.length xs.length) (b :: Ss.flatten) := by
  refine ⟨hcap, .inr ⟨b, 0, xs.length, _, ty, (0, 0), Ss, rfl, Nat.le_refl _, hb, by simp, ?_, rfl, by rw [h.lenS, h.len], fun i x hx => ?_⟩⟩
  · simp only [List.size_toArray, Nat.zero_add]
    rw [flatMap_len h.cells, h.len]; exact Nat.le_refl _
  · obtain ⟨v, hv, hel⟩ := h.el i x hx
    have hi : i < Ss.length := by rw [h.lenS]; exact (List.getElem?_eq_some_iff.1 hv).1
    refine ⟨v.cells.toList, by simpa using h.cells v (List.mem_of_getElem? hv), ElL.goes (fun _ hb => hb) hw (fun y hy => hS y ?_) hel, fun j u hu => ?_⟩
    · refine List.mem_flatten.2 ⟨Ss.getD i [], ?_, hy⟩
      rw [List.getD_eq_getElem?_getD, List.getElem?_eq_getElem hi]; exact List.getElem_mem hi
    · rw [Nat.zero_add]
      have := flatMap_get h.cells hv hu
      simpa using this

/-- roots that are used up -/
def kill (rs : Rs) (ids : List Nat) : Rs := fun j => if j ∈ ids then .dead else rs j
def killR (R : Nat → RV) (ids : List Nat) : Nat → RV := fun j => if j ∈ ids then { R j with S := [] } else R j

def buildSliceK {α : Type} (Γ : Nat → Option TI) (ρA : Operand → AV) (rs : Rs) (c : Nat) (t : TypeId) (len : Nat) (parts : Array (Nat × Operand)) (k : KT α) : Option α :=
  match Γ t with
  | some ⟨_, _, _, .slice e, _⟩ =>
    (match Γ e with
     | some ⟨size, _, _, _, some T⟩ =>
       if parts.toList.map Prod.fst = List.range len ∧ size = T.n ∧ len * size ≤ 16777216 then
         (match len with
          | 0 => k (.c (.l .nils)) rs c [] []
          | _ =>
            (match partsA ρA parts.toList with
             | some ps =>
               (match takeAll rs true T (ps.map Prod.snd) with
                | some (xs, con) => if okCon c con then k (.c (.l (.sl c))) (updR (kill rs con) c (.row true T xs)) (c + 1) con con else none
                | none =>
                  (match takeAll rs false T (ps.map Prod.snd) with
                   | some (xs, con) => if okCon c con then k (.c (.l (.sl c))) (updR (kill rs con) c (.row false T xs)) (c + 1) con con else none
                   | none => none))
             | none => none))
       else none
     | _ => none)
  | _ => none

theorem merge_kill {c : Nat} {rsG rs : Rs} {con : List Nat} {root : Root} (hc : c ∉ con) : merge c (c + 1) con rsG (updR (kill rs con) c root) = updR (kill rsG con) c root := by
  funext j
  unfold merge updR kill
  by_cases hj : j = c
  · subst hj; simp
  · by_cases hjc : j ∈ con
    · simp [hj, hjc]
    · have : ¬ ((c ≤ j ∧ j < c + 1) ∨ j ∈ con) := by
        rintro (h1 | h1)
        · omega
        · exact hjc h1
      rw [if_neg this]; simp [hj, hjc]

/-- A new row takes the place of roots that are used up. 'S': what it owns. -/
theorem Sat.row {F F' : Nat → Prop} {R : Nat → RV} {w w' : World} {rs : Rs} {c : Nat} {con : List Nat} {rv : RV} {root : Root} (h : Sat F R w rs) (hl : (R c).live = false) (hcon : c ∉ con)
    (hS : ∀ b, b ∈ rv.S → b ∈ blocks R con ∨ (w.heap.size ≤ b ∧ b < w'.heap.size)) (hnd : rv.S.Nodup)
    (hheap : ∀ b, b < w.heap.size → b ∉ blocks R con → w'.heap[b]? = w.heap[b]?)
    (hsub : ∀ b, F b → F' b) (hF' : ∀ b, F' b → F b ∨ (b ∈ blocks R con ∧ b ∉ rv.S))
    (hsize : w.heap.size ≤ w'.heap.size) (hos : w'.os = w.os) (htape : w'.tape = w.tape) (hout : w'.output = w.output)
    (hok : Goes F R w F' (updR (killR R con) c rv) w' (· = c) → Agree F w w' → RootOk F' (updR (killR R con) c rv) w' root rv) :
    Goes F R w F' (updR (killR R con) c rv) w' (· = c) ∧ Sat F' (updR (killR R con) c rv) w' (updR (kill rs con) c root) := by
  have hoth : ∀ j, j ≠ c → j ∈ con → (updR (killR R con) c rv j).S = [] := fun j hj hjc => by rw [updR_other _ _ hj]; simp [killR, hjc]
  refine Sat.upd (M := fun j => j = c ∨ j ∈ con) h ?_ ?_ ?_ ?_ ?_ ?_ ?_ hsub ?_ hsize hos htape hout ?_
  · intro j hj; exact ⟨.inl hj, by rw [hj]; exact hl⟩
  · intro j hj
    have h1 : j ≠ c := fun e => hj (.inl e)
    have h2 : j ∉ con := fun e => hj (.inr e)
    rw [updR_other _ _ h1, updR_other _ _ h1]
    simp [kill, killR, h2]
  · intro j hj hn
    rw [updR_other _ _ hn]
    by_cases hjc : j ∈ con <;> simp [killR, hjc]
  · intro j hj b hb
    rcases hj with rfl | hj
    · rw [updR_same] at hb
      rcases hS b hb with h1 | h1
      · obtain ⟨i, hi, hib⟩ := List.mem_flatMap.1 h1
        exact .inl ⟨i, .inr hi, hib⟩
      · exact .inr h1
    · by_cases hjc : j = c
      · exact absurd (hjc ▸ hj) hcon
      · rw [hoth j hjc hj] at hb; cases hb
  · intro j hj
    by_cases hjc : j = c
    · rw [hjc, updR_same]; exact hnd
    · rcases hj with h1 | h1
      · exact absurd h1 hjc
      · rw [hoth j hjc h1]; exact List.nodup_nil
  · intro i j hi hj hij b hbi hbj
    by_cases hic : i = c
    · have hjc : j ≠ c := fun e => hij (hic.trans e.symm)
      rcases hj with h1 | h1
      · exact hjc h1
      · rw [hoth j hjc h1] at hbj; cases hbj
    · rcases hi with h1 | h1
      · exact hic h1
      · rw [hoth i hic h1] at hbi; cases hbi
  · intro b hb hbS
    exact hheap b hb fun hbc => by
      obtain ⟨i, hi, hib⟩ := List.mem_flatMap.1 hbc
      exact hbS i (.inr hi) hib
  · intro b hb
    rcases hF' b hb with h1 | ⟨h1, h2⟩
    · exact .inl h1
    · obtain ⟨i, hi, hib⟩ := List.mem_flatMap.1 h1
      refine .inr ⟨⟨i, .inr hi, hib⟩, fun j hj hbj => ?_⟩
      by_cases hjc : j = c
      · rw [hjc, updR_same] at hbj; exact h2 hbj
      · rcases hj with e | e
        · exact hjc e
        · rw [hoth j hjc e] at hbj; cases hbj
  · intro hg ha j hj
    by_cases hjc : j = c
    · rw [hjc, updR_same, updR_same]; exact hok hg ha
    · rcases hj with e | e
      · exact absurd e hjc
      · rw [updR_other _ _ hjc]
        simp only [kill, e, if_true]
        exact hoth j hjc e
end
end Go.Sx

namespace Go.Sx
open Go
variable {G : Gl}
set_option linter.unusedVariables false
set_option linter.unusedSimpArgs false

section
variable {P : Program} {Γ : Nat → Option TI}

/-- a block more, that nobody knows -/
theorem Sat.idle {F : Nat → Prop} {R : Nat → RV} {w w' : World} {rs : Rs} (h : Sat F R w rs) (hheap : ∀ b, b < w.heap.size → w'.heap[b]? = w.heap[b]?)
    (hsize : w.heap.size ≤ w'.heap.size) (hos : w'.os = w.os) (htape : w'.tape = w.tape) (hout : w'.output = w.output) : Goes F R w F R w' (fun _ => False) ∧ Sat F R w' rs :=
  Sat.upd (M := fun _ => False) h (fun _ hj => hj.elim) (fun _ _ => ⟨rfl, rfl⟩) (fun _ hj => hj.elim) (fun _ hj => hj.elim) (fun _ hj => hj.elim) (fun _ _ hj => hj.elim)
    (fun b hb _ => hheap b hb) (fun _ hb => hb) (fun _ hb => .inl hb) hsize hos htape hout (fun _ _ _ hj => hj.elim)

theorem parts_zip {ρ : Operand → Value} : ∀ {l : List (Nat × Operand)} {i : Nat}, l.map Prod.fst = List.range' i l.length → (l.map fun (j, x) => (j, ρ x)) = ((l.map fun p => ρ p.2).zipIdx i).map fun x => (x.2, x.1)
  | [], i, _ => rfl
  | (j, x) :: l, i, h => by
    simp only [List.map_cons, List.length_cons, List.range'_succ] at h
    injection h with h1 h2
    subst h1
    simp only [List.map_cons, List.zipIdx_cons]
    rw [parts_zip h2]

theorem run_buildSlice {t e size len : Nat} {z : Value} {parts : Array (Nat × Operand)} {ρ : Operand → Value} {w : World} (ht : (underlying t).run P w = .ok (.slice e) w) (hs : (sizeOf e).run P w = .ok size w)
    (hz : (zeroValue e).run P w = .ok z w) (hle : len * size ≤ 16777216) (h0 : 0 < size) (hp : parts.toList.map Prod.fst = List.range len) (hc : ∀ p ∈ parts.toList, (ρ p.2).cells.size = size) :
    (Instr.buildSlice t len (parts.map fun (i, x) => (i, ρ x))).run P w =
      .ok (.slice (some ⟨w.heap.size, 0, none⟩) len len) (World.add w (.cells ((parts.toList.map fun p => ρ p.2).flatMap fun v => v.cells.toList).toArray e)) := by
  have hlen : parts.toList.length = len := by have := congrArg List.length hp; simpa using this
  unfold Instr.buildSlice
  rw [bind_ok ht]
  simp only
  rw [bind_ok hs]
  rw [if_neg (by omega)]
  have key : ∀ cells : Array Value, len * size = cells.size → Instr.fill (fun i => some (i * size, size)) cells (parts.map fun (i, x) => (i, ρ x)).toList = some (((parts.toList.map fun p => ρ p.2).flatMap fun v => v.cells.toList).toArray) := by
    intro cells hcs
    have e1 : (parts.map fun (i, x) => (i, ρ x)).toList = (((parts.toList.map fun p => ρ p.2).zipIdx 0).map fun x => (x.2, x.1)) := by
      rw [Array.toList_map]
      exact parts_zip (by rw [hp, hlen, List.range_eq_range'])
    rw [e1]
    exact Go.Great.fill_whole h0 _ _ (fun v hv => by obtain ⟨p, hp', rfl⟩ := List.mem_map.1 hv; exact hc p hp') (by simp only [List.length_map]; rw [hlen]; exact hcs)
  by_cases hz0 : len * size = 0
  · rw [if_pos hz0, bind_ok (a := (#[] : Array Value)) (w' := w) rfl]
    rw [key _ (by simp [hz0])]
    simp only
    rw [bind_ok run_newRow]
    rfl
  · rw [if_neg hz0, bind_ok hz, bind_ok (a := z.cells) (w' := w) rfl]
    rw [key _ (by simp)]
    simp only
    rw [bind_ok run_newRow]
    rfl

theorem partsA_vals {R : Nat → RV} {F : Nat → Prop} {w : World} {ρA : Operand → AV} {ρ : Operand → Value} (hρ : EnvOk G R F w ρA ρ) : ∀ {ps : List (Nat × Operand)} {l : List (Nat × CV)}, partsA ρA ps = some l →
    All2 (CR R F w) (l.map Prod.snd) (ps.map fun p => ρ p.2)
  | [], l, h => by injection h with h; subst h; exact .nil
  | (j, x) :: ps, l, h => by
    unfold partsA at h
    split at h
    · rename_i v hx
      cases h1 : partsA ρA ps with
      | none => rw [h1] at h; cases h
      | some l1 =>
        rw [h1] at h
        injection h with h; subst h
        have := hρ x
        rw [hx] at this
        exact .cons this (partsA_vals hρ h1)
    · cases h

theorem buildSliceK_ok {α : Type} (hΓ : TyOk P Γ) {o : Oper} {t : TypeId} {len : Nat} {parts : Array (Nat × Operand)} {ρA : Operand → AV} {rs : Rs} {c : Nat} {k : KT α} {r : α} (ho : o.op = .buildSlice t len parts)
    (h : buildSliceK Γ ρA rs c t len parts k = some r) :
    ∃ out rs' c' ids mod, k out rs' c' ids mod = some r ∧ LStep G P o ρA rs c out rs' c' ids mod := by
  unfold buildSliceK at h
  split at h
  · rename_i sz by' ag e tt hi
    split at h
    · rename_i size by2 ag2 d2 T hei
      split at h
      · rename_i hc
        obtain ⟨hp, hsz, hle⟩ := hc
        subst hsz
        have hlen : parts.toList.length = len := by have := congrArg List.length hp; simpa using this
        have hrun : ∀ (w : World) (ρ : Operand → Value), (∀ p ∈ parts.toList, (ρ p.2).cells.size = T.n) → (execOp ρ o).run P w = .ok (.value (.slice (some ⟨w.heap.size, 0, none⟩) len len)) (World.add w (.cells ((parts.toList.map fun p => ρ p.2).flatMap fun v => v.cells.toList).toArray e)) := by
          intro w ρ hcs
          obtain ⟨info, desc, f1, f2, f3, f4, f5, f6, f7⟩ := hΓ.facts hei
          obtain ⟨⟨z, hz, _⟩, _⟩ := f7 T rfl
          unfold execOp
          rw [ho]
          apply run_v
          exact run_buildSlice (hΓ.slice hi rfl w) (hΓ.size hei w) (run_zeroValue f1 hz w) hle T.n_pos hp hcs
        split at h
        · -- the empty literal
          refine ⟨_, _, _, _, _, h, Nat.le_refl _, fun rsG F R w ρ hids hnew hs hρ => ?_⟩
          have hnil : parts.toList = [] := List.length_eq_zero_iff.1 hlen
          have hr := hrun w ρ (by simp [hnil])
          unfold Does
          rw [hr]
          obtain ⟨hg, hst⟩ := Sat.idle (w' := World.add w (.cells ((parts.toList.map fun p => ρ p.2).flatMap fun v => v.cells.toList).toArray e)) hs (fun b hb => add_old w _ hb) (by rw [add_size]; omega) rfl rfl rfl
          exact ⟨F, R, by rw [new_none]; exact hg, by rw [merge_nil]; exact hst, _, rfl⟩
        · rename_i hne
          split at h
          · rename_i ps hps
            have go : ∀ (deep : Bool) (xs : List T.den) (con : List Nat), takeAll rs deep T (ps.map Prod.snd) = some (xs, con) → okCon c con = true →
                LStep G P o ρA rs c (.c (.l (.sl c))) (updR (kill rs con) c (.row deep T xs)) (c + 1) con con := by
              intro deep xs con htake hok
              obtain ⟨hnd, hlt⟩ := okCon_ok hok
              refine ⟨Nat.le_succ _, fun rsG F R w ρ hids hnew hs hρ => ?_⟩
              have hcc : c ∉ con := fun hh => Nat.lt_irrefl _ (hlt c hh)
              have hroots : RootsOk F R w rs con := fun j hj => by rw [← hids j hj]; exact hs.ok j
              obtain ⟨hl, hd⟩ := hnew c (Nat.le_refl _) (Nat.lt_succ_self _)
              obtain ⟨Ss, hE, hf⟩ := takeAll_ok (F' := fun b => F b ∨ (deep = false ∧ b ∈ blocks R con)) (fun b hb => .inl hb) htake hroots (fun hd b hb => .inr ⟨hd, hb⟩) (partsA_vals hρ hps)
              have hr := hrun w ρ (fun p hp' => hE.cells _ (List.mem_map.2 ⟨p, hp', rfl⟩))
              have hxl : xs.length = len := by rw [hE.len, List.length_map, hlen]
              have hSmem : ∀ b ∈ Ss.flatten, b ∈ blocks R con := by
                intro b hb; rw [hf] at hb
                cases deep with
                | true => simpa using hb
                | false => simp at hb
              have hfin := Sat.row (F' := fun b => F b ∨ (deep = false ∧ b ∈ blocks R con)) (w' := World.add w (.cells ((parts.toList.map fun p => ρ p.2).flatMap fun v => v.cells.toList).toArray e)) (c := c) (con := con)
                (rv := ⟨true, .slice (some ⟨w.heap.size, 0, none⟩) len len, w.heap.size :: Ss.flatten⟩) (root := .row deep T xs) hs hl hcc
                (fun b hb => by
                  rcases List.mem_cons.1 hb with rfl | hb
                  · exact .inr ⟨Nat.le_refl _, by rw [add_size]; omega⟩
                  · exact .inl (hSmem b hb))
                (by
                  refine List.nodup_cons.2 ⟨fun hb => ?_, ?_⟩
                  · exact Nat.lt_irrefl _ (blocks_lt hs (hSmem _ hb))
                  · rw [hf]; cases deep with
                    | true => exact blocks_nodup hs hnd
                    | false => exact List.nodup_nil)
                (fun b hb _ => add_old w _ hb) (fun b hb => .inl hb)
                (fun b hb => by
                  rcases hb with h1 | ⟨h1, h2⟩
                  · exact .inl h1
                  · refine .inr ⟨h2, fun hb => ?_⟩
                    rcases List.mem_cons.1 hb with e1 | hb
                    · exact Nat.lt_irrefl _ (e1 ▸ blocks_lt hs h2)
                    · rw [hf, h1] at hb; simp at hb)
                (by rw [add_size]; omega) rfl rfl rfl
                (fun hg ha => ⟨rfl, by
                  have := hE.row (w' := World.add w (.cells ((parts.toList.map fun p => ρ p.2).flatMap fun v => v.cells.toList).toArray e)) (b := w.heap.size) (ty := e)
                    (fun y hy => add_old w _ (by rcases hy with h1 | ⟨_, h2⟩; exact hs.Flt y h1; exact blocks_lt hs h2)) (fun y hy => add_old w _ (blocks_lt hs (hSmem y hy))) (add_new w _)
                    (by rw [hxl]; have := T.n_pos; have : len ≤ len * T.n := Nat.le_mul_of_pos_right _ T.n_pos; unfold cap; omega)
                  rw [hxl] at this
                  exact this⟩)
              unfold Does
              rw [hr]
              refine ⟨_, _, by rw [new_one]; exact hfin.1, ?_, ?_⟩
              · rw [merge_kill hcc]; exact hfin.2
              · exact ⟨by rw [updR_same], by rw [updR_same], rfl⟩
            split at h
            · rename_i xs con htake
              split at h
              · rename_i hnd
                exact ⟨_, _, _, _, _, h, go true xs con htake hnd⟩
              · cases h
            · split at h
              · rename_i xs con htake
                split at h
                · rename_i hnd
                  exact ⟨_, _, _, _, _, h, go false xs con htake hnd⟩
                · cases h
              · cases h
          · cases h
      · cases h
    · cases h
  · cases h
end
end Go.Sx

namespace Go.Sx
open Go
set_option linter.unusedVariables false
set_option linter.unusedSimpArgs false

section
variable {P : Program} {Γ : Nat → Option TI}

/-- elements, their cells, their blocks -/
structure Ch {α : Type} (E : α → List Value → List Nat → Prop) (n : Nat) (xs : List α) (css : List (List Value)) (Ss : List (List Nat)) : Prop where
  len : css.length = xs.length
  lenS : Ss.length = xs.length
  el : ∀ (i : Nat) (x : α), xs[i]? = some x → ∃ cs, css[i]? = some cs ∧ cs.length = n ∧ E x cs (Ss.getD i [])

theorem Ch.nil {α : Type} (E : α → List Value → List Nat → Prop) (n : Nat) : Ch E n [] [] [] := ⟨rfl, rfl, fun i x h => by simp at h⟩

theorem Ch.append {α : Type} {E : α → List Value → List Nat → Prop} {n : Nat} {xs ys : List α} {c1 c2 : List (List Value)} {S1 S2 : List (List Nat)} (h : Ch E n xs c1 S1) (k : Ch E n ys c2 S2) : Ch E n (xs ++ ys) (c1 ++ c2) (S1 ++ S2) := by
  refine ⟨by simp [h.len, k.len], by simp [h.lenS, k.lenS], fun i x hx => ?_⟩
  by_cases hi : i < xs.length
  · rw [List.getElem?_append_left hi] at hx
    obtain ⟨cs, e1, e2, e3⟩ := h.el i x hx
    refine ⟨cs, by rw [List.getElem?_append_left (by rw [h.len]; exact hi)]; exact e1, e2, ?_⟩
    rw [List.getD_eq_getElem?_getD, List.getElem?_append_left (by rw [h.lenS]; exact hi), ← List.getD_eq_getElem?_getD]; exact e3
  · have hi := Nat.le_of_not_lt hi
    rw [List.getElem?_append_right hi] at hx
    obtain ⟨cs, e1, e2, e3⟩ := k.el _ x hx
    refine ⟨cs, by rw [List.getElem?_append_right (by rw [h.len]; exact hi), h.len]; exact e1, e2, ?_⟩
    rw [List.getD_eq_getElem?_getD, List.getElem?_append_right (by rw [h.lenS]; exact hi), h.lenS, ← List.getD_eq_getElem?_getD]; exact e3

theorem Ch.imp {α : Type} {E E' : α → List Value → List Nat → Prop} {n : Nat} {xs : List α} {css : List (List Value)} {Ss : List (List Nat)} (h : Ch E n xs css Ss)
    (hE : ∀ x cs S, (∀ b ∈ S, b ∈ Ss.flatten) → E x cs S → E' x cs S) : Ch E' n xs css Ss := by
  refine ⟨h.len, h.lenS, fun i x hx => ?_⟩
  obtain ⟨cs, e1, e2, e3⟩ := h.el i x hx
  refine ⟨cs, e1, e2, hE x cs _ (fun b hb => ?_) e3⟩
  have hi : i < Ss.length := by rw [h.lenS]; exact (List.getElem?_eq_some_iff.1 hx).1
  refine List.mem_flatten.2 ⟨Ss.getD i [], ?_, hb⟩
  rw [List.getD_eq_getElem?_getD, List.getElem?_eq_getElem hi]; exact List.getElem_mem hi

theorem Ch.all {α : Type} {E : α → List Value → List Nat → Prop} {n : Nat} {xs : List α} {css : List (List Value)} {Ss : List (List Nat)} (h : Ch E n xs css Ss) : ∀ cs ∈ css, cs.length = n := by
  intro cs hcs
  obtain ⟨i, hi⟩ := List.getElem?_of_mem hcs
  have hlt : i < xs.length := by rw [← h.len]; exact (List.getElem?_eq_some_iff.1 hi).1
  obtain ⟨cs', e1, e2, _⟩ := h.el i _ (List.getElem?_eq_getElem hlt)
  rw [hi] at e1; injection e1 with e1; rw [e1]; exact e2

theorem flatten_get {n : Nat} : ∀ {css : List (List Value)}, (∀ cs ∈ css, cs.length = n) → ∀ {i : Nat} {cs : List Value}, css[i]? = some cs → ∀ {j : Nat} {u : Value}, cs[j]? = some u → css.flatten[i * n + j]? = some u
  | c' :: css, hc, 0, cs, hi, j, u, hu => by
    simp at hi; subst hi
    simp only [List.flatten_cons]
    have hj : j < c'.length := (List.getElem?_eq_some_iff.1 hu).1
    rw [Nat.zero_mul, Nat.zero_add, List.getElem?_append_left hj]; exact hu
  | c' :: css, hc, i + 1, cs, hi, j, u, hu => by
    simp only [List.flatten_cons]
    have hn : c'.length = n := hc c' (by simp)
    rw [List.getElem?_append_right (by rw [hn, Nat.add_mul]; omega), hn]
    rw [show (i + 1) * n + j - n = i * n + j by rw [Nat.add_mul]; omega]
    exact flatten_get (fun v hv => hc v (by simp [hv])) (by simpa using hi) hu

theorem flatten_len {n : Nat} : ∀ {css : List (List Value)}, (∀ cs ∈ css, cs.length = n) → css.flatten.length = css.length * n
  | [], _ => by simp
  | c :: css, hc => by
    simp only [List.flatten_cons, List.length_append, List.length_cons]
    rw [flatten_len (fun v hv => hc v (by simp [hv])), hc c (by simp), Nat.add_mul]; omega

/-- every place of the flat list lies in a chunk -/
theorem flatten_inv {n : Nat} (hn : 0 < n) : ∀ {css : List (List Value)}, (∀ cs ∈ css, cs.length = n) → ∀ {k : Nat} {u : Value}, css.flatten[k]? = some u → ∃ i cs j, css[i]? = some cs ∧ cs[j]? = some u ∧ k = i * n + j ∧ j < n
  | [], _, k, u, h => by simp at h
  | c :: css, hc, k, u, h => by
    simp only [List.flatten_cons] at h
    have hcn : c.length = n := hc c (by simp)
    by_cases hk : k < c.length
    · rw [List.getElem?_append_left hk] at h
      exact ⟨0, c, k, rfl, h, by simp, by omega⟩
    · rw [List.getElem?_append_right (by omega)] at h
      obtain ⟨i, cs, j, e1, e2, e3, e4⟩ := flatten_inv hn (fun v hv => hc v (by simp [hv])) h
      exact ⟨i + 1, cs, j, by simpa using e1, e2, by rw [Nat.add_mul]; omega, e4⟩

/-- a row out of chunks -/
theorem Ch.row {α : Type} {w : World} {n b o c : Nat} {E : α → List Value → List Nat → Prop} {xs : List α} {css : List (List Value)} {Ss : List (List Nat)} {arr : Array Value} {ty : TypeId} {fz : Nat × Nat} (h : Ch E n xs css Ss) (hcap : xs.length ≤ cap) (hle : xs.length ≤ c)
    (hb : w.heap[b]? = some (.cells arr ty fz)) (hz : ∀ i, i < arr.size → fz.1 ≤ i → fz.2 ≤ i) (hs : o + c * n ≤ arr.size) (ha : ∀ k u, css.flatten[k]? = some u → arr[o + k]? = some u) :
    RowAt w n E xs (.slice (some ⟨b, o, none⟩) xs.length c) (b :: Ss.flatten) := by
  refine ⟨hcap, .inr ⟨b, o, c, arr, ty, fz, Ss, rfl, hle, hb, hz, hs, rfl, h.lenS, fun i x hx => ?_⟩⟩
  obtain ⟨cs, e1, e2, e3⟩ := h.el i x hx
  exact ⟨cs, e2, e3, fun j u hu => by have := ha _ u (flatten_get h.all e1 hu); rw [Nat.add_assoc]; exact this⟩

/-- the chunks of a row -/
theorem RowAt.ch {α : Type} {n : Nat} {E : α → List Value → List Nat → Prop} {xs : List α} {o : Nat} {arr : Array Value} {Ss : List (List Nat)}
    (hlen : Ss.length = xs.length) (h : ∀ i x, xs[i]? = some x → ∃ cs, cs.length = n ∧ E x cs (Ss.getD i []) ∧ ∀ j u, cs[j]? = some u → arr[o + i * n + j]? = some u) :
    ∃ css, Ch E n xs css Ss ∧ ∀ i cs, css[i]? = some cs → ∀ j u, cs[j]? = some u → arr[o + i * n + j]? = some u := by
  induction xs generalizing o Ss with
  | nil =>
    have : Ss = [] := List.length_eq_zero_iff.1 hlen
    subst this
    exact ⟨[], Ch.nil _ _, fun i cs hi => by simp at hi⟩
  | cons x xs ih =>
    cases Ss with
    | nil => simp at hlen
    | cons S Ss =>
      obtain ⟨cs0, k1, k2, k3⟩ := h 0 x rfl
      obtain ⟨css, hch, ha⟩ := ih (o := o + n) (Ss := Ss) (by simpa using hlen) (fun i y hy => by
        obtain ⟨cs, e1, e2, e3⟩ := h (i + 1) y (by simpa using hy)
        exact ⟨cs, e1, by simpa using e2, fun j u hu => by have := e3 j u hu; rw [Nat.add_mul] at this; rw [← this]; congr 1; omega⟩)
      refine ⟨cs0 :: css, ⟨by simp [hch.len], by simp [hch.lenS], fun i y hy => ?_⟩, fun i cs hi j u hu => ?_⟩
      · cases i with
        | zero => simp at hy; subst hy; exact ⟨cs0, rfl, k1, by simpa using k2⟩
        | succ i => simpa using hch.el i y (by simpa using hy)
      · cases i with
        | zero => simp at hi; subst hi; exact k3 j u hu
        | succ i =>
          have := ha i cs (by simpa using hi) j u hu
          rw [Nat.add_mul]; rw [← this]; congr 1; omega

theorem read_ch {F : Nat → Prop} {w : World} {t : T} {xs : List t.den} {b o : Nat} (h : ∀ i x, xs[i]? = some x → ∃ b' o' cs', (some ⟨b, o, none⟩ : Option Addr) = some ⟨b', o', none⟩ ∧ F b' ∧ RdL F w t x cs' ∧ CellsAt w b' (o' + i * t.n) cs') :
    ∃ css, Ch (fun x cs S => RdL F w t x cs ∧ S = []) t.n xs css (List.replicate xs.length []) ∧ CellsAt w b o css.flatten := by
  induction xs generalizing o with
  | nil => exact ⟨[], Ch.nil _ _, fun j v hj => by simp at hj⟩
  | cons x xs ih =>
    obtain ⟨b', o', cs0, e0, hF, k1, k2⟩ := h 0 x rfl
    injection e0 with e0; injection e0 with e1 e2
    subst e1 e2
    have hl0 := k1.length
    obtain ⟨css, hch, hc⟩ := ih (o := o + t.n) (fun i y hy => by
      obtain ⟨b2, o2, cs2, f0, f1, f2, f3⟩ := h (i + 1) y (by simpa using hy)
      injection f0 with f0; injection f0 with g1 g2
      subst g1 g2
      exact ⟨b, o + t.n, cs2, rfl, f1, f2, by rw [Nat.add_mul] at f3; rw [show o + t.n + i * t.n = o + (i * t.n + 1 * t.n) by omega]; exact f3⟩)
    refine ⟨cs0 :: css, ⟨by simp [hch.len], by simp, fun i y hy => ?_⟩, fun j v hj => ?_⟩
    · cases i with
      | zero => simp at hy; subst hy; exact ⟨cs0, rfl, hl0, k1, by simp [List.replicate_succ]⟩
      | succ i =>
        obtain ⟨cs, e1, e2, e3⟩ := hch.el i y (by simpa using hy)
        refine ⟨cs, by simpa using e1, e2, e3.1, ?_⟩
        have hi : i < xs.length := (List.getElem?_eq_some_iff.1 (show xs[i]? = some y by simpa using hy)).1
        simp [List.getD_eq_getElem?_getD, List.getElem?_replicate, hi]
    · simp only [List.flatten_cons] at hj
      by_cases hjl : j < cs0.length
      · rw [List.getElem?_append_left hjl] at hj
        have := k2 j v hj
        simpa using this
      · rw [List.getElem?_append_right (by omega)] at hj
        have := hc (j - cs0.length) v hj
        rw [← this]; congr 2; omega
end
end Go.Sx

namespace Go.Sx
open Go
set_option linter.unusedVariables false
set_option linter.unusedSimpArgs false

section
variable {P : Program} {Γ : Nat → Option TI}

/-- a slice value whose m elements of 'size' cells can be read -/
def Src (w : World) (v : Value) (m size : Nat) (nc : List Value) : Prop :=
  nc.length = m * size ∧ ((∃ A c, m = 0 ∧ v = .slice A 0 c) ∨ ∃ b o c, v = .slice (some ⟨b, o, none⟩) m c ∧ CellsAt w b o nc)

theorem Src.len {w : World} {v : Value} {m size : Nat} {nc : List Value} (h : Src w v m size nc) : (Builtin.lenOf v).run P w = .ok m w := by
  obtain ⟨_, ⟨A, c, rfl, rfl⟩ | ⟨b, o, c, rfl, _⟩⟩ := h <;> rfl

theorem Src.first {w : World} {v : Value} {m size : Nat} {nc : List Value} (h : Src w v m size nc) : (Builtin.firstCells size m v).run P w = .ok nc.toArray w := by
  obtain ⟨hl, ⟨A, c, rfl, rfl⟩ | ⟨b, o, c, rfl, hc⟩⟩ := h
  · have : nc = [] := List.length_eq_zero_iff.1 (by simpa using hl)
    subst this
    cases A with
    | none => rfl
    | some a => unfold Builtin.firstCells loadCells; rw [Nat.zero_mul]; rfl
  · unfold Builtin.firstCells loadCells
    have := run_loadCellsFrom (P := P) (w := w) b o (m * size) 0 #[] nc hl (by simpa using hc)
    simpa using this

def apCap : Nat := 1073741824

theorem growBy_le (n : Nat) : ∀ (k c : Nat), Builtin.growBy n k c ≤ max c (n + (n + 768) / 4)
  | 0, c => by unfold Builtin.growBy; omega
  | k + 1, c => by
    unfold Builtin.growBy
    split
    · omega
    · have := growBy_le n k (c + (c + 768) / 4)
      omega

theorem next_le (n c : Nat) (h : c < n) : Builtin.nextslicecap n c ≤ 2 * n + 512 := by
  unfold Builtin.nextslicecap
  split
  · omega
  · split
    · omega
    · have := growBy_le n 4 c
      omega

/-- the world behind an append in place -/
def inW (w : World) (B : Option Addr) (k : Nat) (nc : List Value) : World := match B with | some a => setCells w a.block (a.off + k) nc | none => w

/-- a world in which one thing was drawn -/
def World.dr (w : World) : World := { w with drawn := w.drawn + 1 }

theorem run_append {t e size bytes : Nat} {info : TypeInfo} {ts : Array TypeId} {ty : TypeId} {z v1 v2 : Value} {w : World} {n1 m : Nat} {oc nc : List Value} {B : Option Addr} {c1 : Nat}
    (h0 : ts[0]? = some t) (h1 : ∀ x, ts[1]? = some x → ∃ d, (underlying x).run P w = .ok d w ∧ ∀ k, d ≠ .int k) (ht : (underlying t).run P w = .ok (.slice e) w) (hs : ∀ w, (sizeOf e).run P w = .ok size w) (hi : ∀ w, (typeInfo e).run P w = .ok info w) (hb : info.bytes = bytes)
    (hz : ∀ w, (zeroValue e).run P w = .ok z w) (hb1 : 0 < bytes) (hb2 : bytes ≤ 1024) (hv1 : v1 = .slice B n1 c1) (hs1 : Src w v1 n1 size oc) (hs2 : Src w v2 m size nc) (hn : n1 + m ≤ apCap)
    (hst : n1 + m ≤ c1 → ∀ a, B = some a → (storeCells (a.add (n1 * size)) nc).run P w = .ok () (setCells w a.block (a.off + n1 * size) nc)) :
    (n1 + m ≤ c1 ∧ (Builtin.append_ ts ty #[v1, v2]).run P w = .ok (.slice B (n1 + m) c1) (inW w B (n1 * size) nc)) ∨
    (c1 < n1 + m ∧ ∃ (newCap : Nat) (rest : List Value), n1 + m ≤ newCap ∧ rest.length = (newCap - (n1 + m)) * z.cells.size ∧
      (Builtin.append_ ts ty #[v1, v2]).run P w = .ok (.slice (some ⟨w.heap.size, 0, none⟩) (n1 + m) newCap) (World.add (World.dr w) (.cells (oc ++ nc ++ rest).toArray e))) := by
  have a0 : (#[v1, v2] : Array Value)[0]? = some v1 := rfl
  have a1 : (#[v1, v2] : Array Value)[1]? = some v2 := rfl
  have hmax : IntKind.i64.max = 9223372036854775807 := by decide
  have hno : ¬ (((n1 + m : Nat) : Int) > IntKind.i64.max ∧ ((false : Bool) = true ∨ info.bytes = 0)) := by rintro ⟨_, h | h⟩; cases h; omega
  subst hv1
  have pre : ∀ (r : Result Value), (do
      let n ← Builtin.lenOf v2
      if n1 + n ≤ c1 then (do
        let new ← Builtin.firstCells size n v2
        match B with
        | some a => do
          storeCells (a.add (n1 * size)) new.toList
          pure (Value.slice B (n1 + n) c1)
        | _ => pure (Value.slice B (n1 + n) c1))
      else (do
        let i1 ← typeInfo e
        if ((n1 + n : Nat) : Int) > IntKind.i64.max ∧ ((false : Bool) = true ∨ i1.bytes = 0) then stuck "" else do
        let i2 ← typeInfo e
        if Builtin.nextslicecap (n1 + n) c1 * i2.bytes > 2 ^ 48 then stuck "" else do
        let newCap ← choose (Question.appendCap (n1 + n) c1 e)
        let i3 ← typeInfo e
        askRoom (newCap * i3.bytes)
        let old ← Builtin.firstCells size n1 (Value.slice B n1 c1)
        let new ← Builtin.firstCells size n v2
        let zz ← zeroValue e
        let a ← newRow e (old ++ new ++ Builtin.zeroCells zz.cells (newCap - (n1 + n)))
        pure (Value.slice (some a) (n1 + n) newCap)) : Sem Value).run P w = r → (∀ s w', r ≠ .halt s w') → (Builtin.append_ ts ty #[Value.slice B n1 c1, v2]).run P w = r := by
    intro r hr hnh
    unfold Builtin.append_
    simp only [h0, a0, a1]
    rw [bind_ok ht]
    simp only
    rw [bind_ok (hs w)]
    rw [bind_ok hs2.len] at hr
    have tail : ∀ (zeros : Bool), zeros = false → True := fun _ _ => trivial
    cases hq : ts[1]? with
    | none =>
      simp only
      rw [bind_ok (a := false) (w' := w) rfl]
      simp only [Bool.false_eq_true, if_false, Bool.not_false, if_true]
      rw [bind_ok hs2.len]
      by_cases hle : n1 + m ≤ c1
      · rw [if_pos hle] at hr ⊢
        rw [bind_ok hs2.first] at hr ⊢
        cases B <;> exact hr
      · rw [if_neg hle] at hr ⊢
        rw [bind_ok (hi w)] at hr ⊢
        simp only [Bool.false_eq_true, false_or] at hr hno ⊢
        rw [if_neg hno] at hr ⊢
        rw [bind_ok (hi w)] at hr ⊢
        by_cases hbig : Builtin.nextslicecap (n1 + m) c1 * info.bytes > 2 ^ 48
        · rw [if_pos hbig] at hr
          exact absurd hr.symm (hnh _ _)
        · rw [if_neg hbig] at hr ⊢
          exact hr
    | some x =>
      obtain ⟨d, hd, hf⟩ := h1 x hq
      simp only
      rw [bind_ok hd, bind_ok (a := false) (w' := w) (by cases d <;> first | rfl | exact absurd rfl (hf _))]
      simp only [Bool.false_eq_true, if_false, Bool.not_false, if_true]
      rw [bind_ok hs2.len]
      by_cases hle : n1 + m ≤ c1
      · rw [if_pos hle] at hr ⊢
        rw [bind_ok hs2.first] at hr ⊢
        cases B <;> exact hr
      · rw [if_neg hle] at hr ⊢
        rw [bind_ok (hi w)] at hr ⊢
        simp only [Bool.false_eq_true, false_or] at hr hno ⊢
        rw [if_neg hno] at hr ⊢
        rw [bind_ok (hi w)] at hr ⊢
        by_cases hbig : Builtin.nextslicecap (n1 + m) c1 * info.bytes > 2 ^ 48
        · rw [if_pos hbig] at hr
          exact absurd hr.symm (hnh _ _)
        · rw [if_neg hbig] at hr ⊢
          exact hr
  by_cases hle : n1 + m ≤ c1
  · left
    refine ⟨hle, pre _ ?_ (fun s w' e => by cases e)⟩
    rw [bind_ok hs2.len, if_pos hle, bind_ok hs2.first]
    cases B with
    | none => rfl
    | some a =>
      simp only
      rw [bind_ok (hst hle a rfl)]
      rfl
  · right
    have hlt : c1 < n1 + m := by omega
    have hnext := next_le (n1 + m) c1 hlt
    have hbig : ¬ (Builtin.nextslicecap (n1 + m) c1 * info.bytes > 2 ^ 48) := by
      rw [hb]
      have : Builtin.nextslicecap (n1 + m) c1 * bytes ≤ (2 * (n1 + m) + 512) * 1024 := Nat.mul_le_mul hnext hb2
      unfold apCap at hn
      omega
    refine ⟨hlt, (n1 + m) + (w.tape w.drawn (.appendCap (n1 + m) c1 e)) % (2 ^ 63 - (n1 + m)), Builtin.zeroCells z.cells ((n1 + m) + (w.tape w.drawn (.appendCap (n1 + m) c1 e)) % (2 ^ 63 - (n1 + m)) - (n1 + m)) |>.toList, by omega, by simp [Builtin.zeroCells], pre _ ?_ (fun s w' e => by cases e)⟩
    rw [bind_ok hs2.len, if_neg hle, bind_ok (hi w), if_neg hno, bind_ok (hi w), if_neg hbig]
    have hch : (choose (Question.appendCap (n1 + m) c1 e)).run P w = .ok ((n1 + m) + (w.tape w.drawn (.appendCap (n1 + m) c1 e)) % (2 ^ 63 - (n1 + m))) (World.dr w) := rfl
    rw [bind_ok hch, bind_ok (hi _)]
    have hask : ∀ (n : Nat) (w : World), (askRoom n).run P w = .ok () w := by
      intro n w
      unfold askRoom
      split <;> rfl
    rw [bind_ok (hask _ _)]
    have hs1' : Src (World.dr w) (Value.slice B n1 c1) n1 size oc := hs1
    have hs2' : Src (World.dr w) v2 m size nc := hs2
    rw [bind_ok hs1'.first, bind_ok hs2'.first, bind_ok (hz _), bind_ok run_newRow]
    have : (oc.toArray ++ nc.toArray ++ Builtin.zeroCells z.cells ((n1 + m) + (w.tape w.drawn (.appendCap (n1 + m) c1 e)) % (2 ^ 63 - (n1 + m)) - (n1 + m))) =
      (oc ++ nc ++ (Builtin.zeroCells z.cells ((n1 + m) + (w.tape w.drawn (.appendCap (n1 + m) c1 e)) % (2 ^ 63 - (n1 + m)) - (n1 + m))).toList).toArray := by simp
    rw [this]
    rfl
end
end Go.Sx

namespace Go.Sx
open Go
set_option linter.unusedVariables false
set_option linter.unusedSimpArgs false

section
variable {P : Program} {Γ : Nat → Option TI}

theorem RdL_plain {F F' : Nat → Prop} {w : World} : ∀ {t : T} {x : t.den} {cs : List Value}, t.plain = true → RdL F w t x cs → RdL F' w t x cs
  | .int _, _, _, _, h => h
  | .bool, _, _, _, h => h
  | .str, _, _, _, h => h
  | .raw, _, _, _, h => h
  | .list _, _, _, hp, _ | .sp _, _, _, hp, _ => by cases hp
  | .pair _ _, (_, _), _, hp, ⟨c1, c2, e, h1, h2⟩ => by
    simp only [T.plain, Bool.and_eq_true] at hp
    exact ⟨c1, c2, e, RdL_plain hp.1 h1, RdL_plain hp.2 h2⟩

/-- the target of an append: its row, if it has one; is it owned to the bottom; what it holds -/
def tgtA (rs : Rs) (t : T) : AV → Option (List Nat × Option Bool × List t.den)
  | .c (.l .nils) => some ([], none, [])
  | .c (.l (.sl id)) => (match rs id with | .row d t' xs => (match asT (.list t) (.list t') xs with | some ys => some ([id], some d, ys) | none => none) | _ => none)
  | _ => none

/-- the source: its row, if it has one; how its elements are held: none: there are none; some true: owned to the bottom -/
def srcA (rs : Rs) (t : T) : AV → Option (List Nat × Option Bool × List t.den)
  | .c (.l .nils) => some ([], none, [])
  | .c (.l (.sl id)) => (match rs id with | .row d t' xs => (match asT (.list t) (.list t') xs with | some ys => some ([id], some d, ys) | none => none) | _ => none)
  | .c (.l (.dat t' xs)) => (match asT (.list t) t' xs with | some ys => some ([], some false, ys) | none => none)
  | _ => none

structure Tgt (F : Nat → Prop) (R : Nat → RV) (w : World) (f : Bool) (t : T) (xs : List t.den) (v : Value) (tid : List Nat) (B : Option Addr) (c1 : Nat) (css : List (List Value)) (Ss : List (List Nat)) : Prop where
  val : v = .slice B xs.length c1
  src : Src w v xs.length t.n css.flatten
  ch : Ch (ElL F w f t) t.n xs css Ss
  alt : (c1 = 0 ∧ xs = [] ∧ Ss = []) ∨ ∃ b o arr ty fz id, B = some ⟨b, o, none⟩ ∧ w.heap[b]? = some (.cells arr ty fz) ∧ (∀ i, i < arr.size → fz.1 ≤ i → fz.2 ≤ i) ∧ o + c1 * t.n ≤ arr.size ∧
    (∀ k u, css.flatten[k]? = some u → arr[o + k]? = some u) ∧ tid = [id] ∧ (R id).S = b :: Ss.flatten

theorem cells_of_arr {w : World} {b o : Nat} {arr : Array Value} {ty : TypeId} {fz : Nat × Nat} {cs : List Value} (h : w.heap[b]? = some (.cells arr ty fz)) (ha : ∀ k u, cs[k]? = some u → arr[o + k]? = some u) : CellsAt w b o cs :=
  fun j v hj => by simp [World.cell?, h, ha j v hj]

theorem tgtA_ok {F : Nat → Prop} {R : Nat → RV} {w : World} {rs : Rs} {t : T} {a : AV} {v : Value} {tid : List Nat} {d : Option Bool} {xs : List t.den} (h : tgtA rs t a = some (tid, d, xs)) (hv : VR R F w a v) (hr : RootsOk F R w rs tid) :
    xs.length ≤ cap ∧ ∃ B c1 css Ss, Tgt F R w (d.getD true) t xs v tid B c1 css Ss ∧ (d = none → ∀ f, Tgt F R w f t xs v tid B c1 css Ss) := by
  unfold tgtA at h
  split at h
  · injection h with h
    injection h with h1 h
    injection h with h2 h3
    subst h1 h2 h3
    obtain ⟨A, rfl⟩ := hv
    refine ⟨by simp, A, 0, [], [], ⟨rfl, ⟨by simp, .inl ⟨A, 0, rfl, rfl⟩⟩, Ch.nil _ _, .inl ⟨rfl, rfl, rfl⟩⟩, fun _ f => ⟨rfl, ⟨by simp, .inl ⟨A, 0, rfl, rfl⟩⟩, Ch.nil _ _, .inl ⟨rfl, rfl, rfl⟩⟩⟩
  · rename_i id
    split at h
    · rename_i d' t' xs' hrs
      split at h
      · rename_i ys hys
        injection h with h
        injection h with h1 h
        injection h with h2 h3
        subst h1 h2 h3
        obtain ⟨e, rfl⟩ := asT_some hys
        injection e with e
        subst e
        have hroot := hr id (by simp)
        rw [hrs] at hroot
        obtain ⟨hlive, hcap, hrow⟩ := hroot
        obtain ⟨_, hv, _⟩ := hv
        refine ⟨hcap, ?_⟩
        rcases hrow with ⟨hnil, ⟨A, hA⟩, hS⟩ | ⟨b, o, c, arr, ty, fz, Ss, e1, e2, e3, ez, e4, e5, e6, e7⟩
        · have hx : xs' = [] := hnil
          subst hx
          exact ⟨A, 0, [], [], ⟨hv.trans hA, ⟨by simp, .inl ⟨A, 0, rfl, hv.trans hA⟩⟩, Ch.nil _ _, .inl ⟨rfl, rfl, rfl⟩⟩, fun e => by cases e⟩
        · obtain ⟨css, hch, hcs⟩ := RowAt.ch (n := t'.n) (o := o) e6 e7
          have hflat : ∀ k u, css.flatten[k]? = some u → arr[o + k]? = some u := by
            intro k u hu
            obtain ⟨i, cs, j, f1, f2, f3, f4⟩ := flatten_inv t'.n_pos hch.all hu
            have := hcs i cs f1 j u f2
            rw [f3, ← Nat.add_assoc]; exact this
          refine ⟨some ⟨b, o, none⟩, c, css, Ss, ⟨hv.trans e1, ⟨?_, .inr ⟨b, o, c, hv.trans e1, cells_of_arr e3 hflat⟩⟩, hch, .inr ⟨b, o, arr, ty, fz, id, rfl, e3, ez, e4, hflat, rfl, e5⟩⟩, fun e => by cases e⟩
          rw [flatten_len hch.all, hch.len]
      · cases h
    · cases h
  · cases h

/-- the elements of a source -/
structure Srs (F : Nat → Prop) (w : World) (f : Bool) (t : T) (ys : List t.den) (v : Value) (css : List (List Value)) (Ss : List (List Nat)) : Prop where
  src : Src w v ys.length t.n css.flatten
  ch : Ch (ElL F w f t) t.n ys css Ss

theorem srs_read {F : Nat → Prop} {w : World} {f : Bool} {t : T} {ys : List t.den} {v : Value} {G : Nat → Prop} (h : RdL G w (.list t) ys [v]) (hf : t.plain = true ∨ (f = false ∧ ∀ b, G b → F b)) :
    ∃ css, Srs F w f t ys v css (List.replicate ys.length []) := by
  obtain ⟨A, c, e1, e2, e3, e4⟩ := h
  simp only [List.cons.injEq, and_true] at e1
  have conv : ∀ x cs S, (RdL G w t x cs ∧ S = []) → ElL F w f t x cs S := by
    rintro x cs S ⟨hr, rfl⟩
    unfold ElL
    cases f with
    | true =>
      simp only [if_true]
      rcases hf with hp | ⟨hf, _⟩
      · exact OwnL_plain hp hr
      · cases hf
    | false =>
      simp only [Bool.false_eq_true, if_false]
      refine ⟨?_, by trivial⟩
      rcases hf with hp | ⟨_, hG⟩
      · exact RdL_plain hp hr
      · exact hr.mono hG (Agree.refl _ _)
  cases ys with
  | nil => exact ⟨[], ⟨by simp, .inl ⟨A, c, rfl, by simpa using e1⟩⟩, Ch.nil _ _⟩
  | cons y ys =>
    obtain ⟨b, o, _, hA, _⟩ := e4 0 y rfl
    subst hA
    obtain ⟨css, hch, hc⟩ := read_ch (fun i x hx => e4 i x hx)
    exact ⟨css, ⟨by rw [flatten_len hch.all, hch.len], .inr ⟨b, o, c, e1, hc⟩⟩, hch.imp fun x cs S _ h => conv x cs S h⟩

theorem srcA_ok {F F' : Nat → Prop} {R : Nat → RV} {w : World} {rs : Rs} {t : T} {a : AV} {v : Value} {sid : List Nat} {d : Option Bool} {ys : List t.den} {f : Bool} (h : srcA rs t a = some (sid, d, ys)) (hv : VR R F w a v) (hr : RootsOk F R w rs sid)
    (hF : ∀ b, F b → F' b) (hf : t.plain = true ∨ (f = false ∧ ∀ b ∈ blocks R sid, F' b) ∨ (f = true ∧ d ≠ some false)) :
    ∃ css Ss, Srs F' w f t ys v css Ss ∧ (∀ b ∈ Ss.flatten, f = true ∧ t.plain = false ∧ b ∈ blocks R sid) ∧ ((blocks R sid).Nodup → Ss.flatten.Nodup) := by
  have rep : ∀ n : Nat, (List.replicate n ([] : List Nat)).flatten = [] := by intro n; simp
  unfold srcA at h
  split at h
  · injection h with h
    injection h with h1 h
    injection h with h2 h3
    subst h1 h2 h3
    obtain ⟨A, rfl⟩ := hv
    exact ⟨[], [], ⟨⟨by simp, .inl ⟨A, 0, rfl, rfl⟩⟩, Ch.nil _ _⟩, by simp, by simp⟩
  · rename_i id
    split at h
    · rename_i d' t' xs' hrs
      split at h
      · rename_i zs hzs
        injection h with h
        injection h with h1 h
        injection h with h2 h3
        subst h1 h2 h3
        obtain ⟨e, rfl⟩ := asT_some hzs
        injection e with e
        subst e
        have hroot := hr id (by simp)
        rw [hrs] at hroot
        obtain ⟨hlive, hrow⟩ := hroot
        obtain ⟨_, hv, _⟩ := hv
        by_cases hdeep : t'.plain = false ∧ f = true
        · obtain ⟨hp, hft⟩ := hdeep
          have hd : d' = true := by
            rcases hf with h1 | ⟨h1, _⟩ | ⟨_, h1⟩
            · rw [hp] at h1; cases h1
            · rw [hft] at h1; cases h1
            · cases d' with
              | true => rfl
              | false => exact absurd rfl h1
          subst hd hft
          obtain ⟨hcap, hrow⟩ := hrow
          rcases hrow with ⟨hnil, ⟨A, hA⟩, hS⟩ | ⟨b, o, c, arr, ty, fz, Ss, e1, e2, e3, ez, e4, e5, e6, e7⟩
          · have hx : xs' = [] := hnil
            subst hx
            exact ⟨[], [], ⟨⟨by simp, .inl ⟨A, 0, rfl, hv.trans hA⟩⟩, Ch.nil _ _⟩, by simp, by simp⟩
          · obtain ⟨css, hch, hcs⟩ := RowAt.ch (n := t'.n) (o := o) e6 e7
            have hflat : ∀ k u, css.flatten[k]? = some u → arr[o + k]? = some u := by
              intro k u hu
              obtain ⟨i, cs, j, f1, f2, f3, f4⟩ := flatten_inv t'.n_pos hch.all hu
              have := hcs i cs f1 j u f2
              rw [f3, ← Nat.add_assoc]; exact this
            refine ⟨css, Ss, ⟨⟨by rw [flatten_len hch.all, hch.len], .inr ⟨b, o, c, hv.trans e1, cells_of_arr e3 hflat⟩⟩, ?_⟩, fun y hy => ⟨rfl, hp, by simp only [blocks, List.flatMap_cons, List.flatMap_nil, List.append_nil]; rw [e5]; exact List.mem_cons_of_mem _ hy⟩, fun hn => ?_⟩
            · exact hch.imp fun x cs S _ hE => by unfold ElL at hE ⊢; simpa using hE
            · simp only [blocks, List.flatMap_cons, List.flatMap_nil, List.append_nil] at hn
              rw [e5] at hn
              exact (List.nodup_cons.1 hn).2
        · have hread : RdL (fun b => F b ∨ b ∈ blocks R [id]) w (.list t') xs' [v] := by
            rw [hv]
            exact hrow.read (fun b hb => .inl hb) (fun b hb => .inr (by simpa [blocks] using hb))
          obtain ⟨css, hs⟩ := srs_read (F := F') (f := f) hread (by
            cases hp : t'.plain with
            | true => exact .inl rfl
            | false =>
              right
              have hff : f = false := by
                cases f with
                | false => rfl
                | true => exact absurd ⟨hp, rfl⟩ hdeep
              refine ⟨hff, fun b hb => ?_⟩
              rcases hb with hb | hb
              · exact hF b hb
              · rcases hf with h1 | ⟨_, h1⟩ | ⟨h1, _⟩
                · rw [hp] at h1; cases h1
                · exact h1 b hb
                · rw [hff] at h1; cases h1)
          exact ⟨css, _, hs, by rw [rep]; simp, by rw [rep]; simp⟩
      · cases h
    · cases h
  · rename_i t' xs'
    split at h
    · rename_i zs hzs
      injection h with h
      injection h with h1 h
      injection h with h2 h3
      subst h1 h2 h3
      obtain ⟨e, rfl⟩ := asT_some hzs
      subst e
      obtain ⟨css, hs⟩ := srs_read (F := F') (f := f) (G := F) hv (by
        rcases hf with h1 | ⟨h1, _⟩ | ⟨_, h1⟩
        · exact .inl h1
        · exact .inr ⟨h1, hF⟩
        · exact absurd rfl h1)
      exact ⟨css, _, hs, by rw [rep]; simp, by rw [rep]; simp⟩
    · cases h
  · cases h
end
end Go.Sx

namespace Go.Sx
open Go
variable {G : Gl}
set_option linter.unusedVariables false
set_option linter.unusedSimpArgs false

section
variable {P : Program} {Γ : Nat → Option TI}

theorem zeroL_len : ∀ t : T, (zeroL t).length = t.n
  | .pair a b => by simp [zeroL, T.n, zeroL_len a, zeroL_len b]
  | .int _ | .bool | .str | .raw | .list _ | .sp _ => by simp [zeroL, T.n]

def noInt (Γ : Nat → Option TI) : Option TypeId → Bool
  | none => true
  | some t => (match Γ t with | some ⟨_, _, _, .slice _, _⟩ => true | _ => false)

theorem noInt_ok (hΓ : TyOk P Γ) {ts : Array TypeId} (h : noInt Γ ts[1]? = true) (w : World) : ∀ x, ts[1]? = some x → ∃ d, (underlying x).run P w = .ok d w ∧ ∀ k, d ≠ .int k := by
  intro x hx
  rw [hx] at h
  simp only [noInt] at h
  split at h
  · rename_i a b c e t hi
    exact ⟨_, hΓ.slice hi rfl w, fun k e => by cases e⟩
  · cases h

/-- how the elements of the new row are held -/
def apFlag (plain : Bool) (d sd : Option Bool) : Bool := if plain then d.getD true else (match d with | some b => b | none => sd.getD true)

def appendK {α : Type} (Γ : Nat → Option TI) (rs : Rs) (c : Nat) (ts : Array TypeId) (x y : AV) (k : KT α) : Option α :=
  match ts[0]?.bind Γ with
  | some ⟨_, _, _, .slice e, _⟩ =>
    (match Γ e with
     | some ⟨_, bytes, _, _, some T⟩ =>
       if 0 < bytes ∧ bytes ≤ 1024 ∧ noInt Γ ts[1]? = true then
         (match tgtA rs T x with
          | some (tid, d, xs) =>
            (match srcA rs T y with
             | some (sid, sd, ys) =>
               if (T.plain || !(apFlag T.plain d sd) || (sd != some false)) = true then
                 (if okCon c (tid ++ (if T.plain then [] else sid)) = true then
                   cond (decide (List.length xs + List.length ys ≤ apCap))
                     (k (.c (.l (.sl c))) (updR (kill rs (tid ++ (if T.plain then [] else sid))) c (.row (apFlag T.plain d sd) T (List.append xs ys))) (c + 1) (tid ++ sid) (tid ++ (if T.plain then [] else sid))) none
                  else none)
               else none
             | none => none)
          | none => none)
       else none
     | _ => none)
  | _ => none

theorem cells_app {n : Nat} {css1 css2 : List (List Value)} {arr : Array Value} {o : Nat} (h1 : ∀ k u, css1.flatten[k]? = some u → arr[o + k]? = some u)
    (h2 : ∀ k u, css2.flatten[k]? = some u → arr[o + css1.flatten.length + k]? = some u) : ∀ k u, (css1 ++ css2).flatten[k]? = some u → arr[o + k]? = some u := by
  intro k u hk
  rw [List.flatten_append] at hk
  by_cases hlt : k < css1.flatten.length
  · rw [List.getElem?_append_left hlt] at hk; exact h1 k u hk
  · rw [List.getElem?_append_right (by omega)] at hk
    have := h2 _ u hk
    rw [← this]; congr 1; omega

set_option maxHeartbeats 1000000 in
theorem appendK_ok {α : Type} (hΓ : TyOk P Γ) {o : Oper} {ts : Array TypeId} {x y : Operand} {ρA : Operand → AV} {rs : Rs} {c : Nat} {k : KT α} {r : α}
    (ho : o.op = .call { callee := .builtin .append, args := #[x, y], argTypes := ts }) (h : appendK Γ rs c ts (ρA x) (ρA y) k = some r) :
    ∃ out rs' c' ids mod, k out rs' c' ids mod = some r ∧ LStep G P o ρA rs c out rs' c' ids mod := by
  unfold appendK at h
  split at h
  · rename_i sz by' ag e tt hi
    cases ht0 : ts[0]? with
    | none => rw [ht0] at hi; cases hi
    | some t =>
    rw [ht0] at hi
    have hi : Γ t = some ⟨sz, by', ag, .slice e, tt⟩ := hi
    split at h
    · rename_i size bytes ag2 d2 T hei
      split at h
      · rename_i hcd
        obtain ⟨hb1, hb2, hni⟩ := hcd
        split at h
        · rename_i tid d xs htgt
          split at h
          · rename_i sid sd ys hsrc
            split at h
            · rename_i hflag
              by_cases hok : okCon c (tid ++ (if T.plain then [] else sid)) = true
              · rw [if_pos hok] at h
                obtain ⟨hlen, h⟩ := cond_t h
                have hlen : List.length xs + List.length ys ≤ apCap := of_decide_eq_true hlen
                refine ⟨_, _, _, _, _, h, Nat.le_succ _, fun rsG F R w ρ hids hnew hs hρ => ?_⟩
                clear h
                generalize hcon : (tid ++ (if T.plain then [] else sid)) = con at hok ⊢
                generalize hf : apFlag T.plain d sd = f at hflag ⊢
                obtain ⟨hnd, hlt⟩ := okCon_ok hok
                have hcc : c ∉ con := fun hh => Nat.lt_irrefl _ (hlt c hh)
                obtain ⟨hl, hd⟩ := hnew c (Nat.le_refl _) (Nat.lt_succ_self _)
                have hrt : RootsOk F R w rs tid := fun j hj => by rw [← hids j (by simp [hj])]; exact hs.ok j
                have hrs : RootsOk F R w rs sid := fun j hj => by rw [← hids j (by simp [hj])]; exact hs.ok j
                have htc : ∀ j ∈ tid, j ∈ con := fun j hj => by rw [← hcon]; simp [hj]
                have hsc : T.plain = false → ∀ j ∈ sid, j ∈ con := fun hp j hj => by rw [← hcon]; simp [hj, hp]
                -- what is told of the two
                obtain ⟨hcapx, B, c1, css1, Ss1, htg0, htg1⟩ := tgtA_ok htgt (hρ x) hrt
                have htg : Tgt F R w f T xs (ρ x) tid B c1 css1 Ss1 := by
                  cases hdd : d with
                  | none => exact htg1 hdd f
                  | some b =>
                    have : f = b := by rw [← hf, hdd]; unfold apFlag; cases T.plain <;> rfl
                    rw [this]; rw [hdd] at htg0; exact htg0
                clear htg0 htg1
                obtain ⟨css2, Ss2, hsr, hS2, hN2⟩ := srcA_ok (F' := fun b => F b ∨ (T.plain = false ∧ f = false ∧ b ∈ blocks R sid)) (f := f) hsrc (hρ y) hrs (fun b hb => .inl hb) (by
                  cases hp : T.plain with
                  | true => exact .inl rfl
                  | false =>
                    right
                    cases hff : f with
                    | false => exact .inl ⟨rfl, fun b hb => .inr ⟨rfl, rfl, hb⟩⟩
                    | true =>
                      right
                      refine ⟨rfl, fun e => ?_⟩
                      rw [hp, hff, e] at hflag
                      simp at hflag)
                -- the blocks of the source lie apart from those of the target
                have hsep : T.plain = false → ∀ j ∈ sid, j ∉ tid := fun hp j hj hj' => by
                  rw [← hcon, hp] at hnd
                  simp only [Bool.false_eq_true, if_false] at hnd
                  exact (List.nodup_append.1 hnd).2.2 j hj' j hj rfl
                have hsep2 : ∀ id, id ∈ tid → T.plain = false → ∀ b, b ∈ blocks R sid → b ∉ (R id).S := by
                  intro id hid hp b hb hb'
                  obtain ⟨j, hj, hjb⟩ := List.mem_flatMap.1 hb
                  exact hs.dj j id (fun e => hsep hp j hj (e ▸ hid)) b hjb hb'
                -- the run
                obtain ⟨info, desc, i1, i2, i3, i4, i5, i6, i7⟩ := hΓ.facts hei
                obtain ⟨⟨z, hz, hzi⟩, hzn⟩ := i7 T rfl
                have hzsz : z.cells.size = T.n := by
                  obtain ⟨cs, hc', hcl⟩ := zeroL_ok (R := R) (F := F) (w := w) hzi
                  rw [List.append_nil] at hc'
                  have := hcl.length
                  rw [zeroL_len, ← hc'] at this
                  simpa using this.symm
                have hzn' : size = T.n := hzn.symm
                have hst : xs.length + ys.length ≤ c1 → ∀ a, B = some a → (storeCells (a.add (xs.length * T.n)) css2.flatten).run P w = .ok () (setCells w a.block (a.off + xs.length * T.n) css2.flatten) := by
                  intro hle a ha
                  rcases htg.alt with ⟨hc0, hx0, _⟩ | ⟨b, o', arr, ty, fz, id, hB, hheap, hfz, hsz, hcells, htid, hSid⟩
                  · have : css2.flatten = [] := by
                      have := hsr.src.1
                      apply List.length_eq_zero_iff.1
                      rw [this]
                      have : ys.length = 0 := by omega
                      rw [this, Nat.zero_mul]
                    rw [this]; rfl
                  · rw [hB] at ha
                    injection ha with ha
                    subst ha
                    rw [add_off]
                    have hl2 := hsr.src.1
                    have := run_storeCells (P := P) css2.flatten 0 w b (o' + xs.length * T.n) arr ty fz hheap (by
                      rw [hl2]
                      have : xs.length * T.n + ys.length * T.n ≤ c1 * T.n := by rw [← Nat.add_mul]; exact Nat.mul_le_mul_right _ hle
                      omega) hfz (fun v hv => by
                        obtain ⟨k', hk'⟩ := List.getElem?_of_mem hv
                        obtain ⟨i', cs', j', g1, g2, g3, g4⟩ := flatten_inv T.n_pos hsr.ch.all hk'
                        have hi' : i' < ys.length := by rw [← hsr.ch.len]; exact (List.getElem?_eq_some_iff.1 g1).1
                        obtain ⟨cs'', q1, q2, q3⟩ := hsr.ch.el i' _ (List.getElem?_eq_getElem hi')
                        rw [g1] at q1
                        injection q1 with q1
                        subst q1
                        exact (flatE_ok (R := R) q3).one v (List.mem_of_getElem? g2))
                    simpa using this
                have hrun := run_append (P := P) (ty := o.type) (z := z) (oc := css1.flatten) (nc := css2.flatten) (info := info) ht0 (noInt_ok hΓ hni w) (hΓ.slice hi rfl w) (fun w => by rw [run_sizeOf i1 w, i3, hzn']) (run_typeInfo i1) i4 (run_zeroValue i1 hz) hb1 hb2 htg.val htg.src hsr.src hlen hst
                have hexec : ∀ v w', (Builtin.append_ ts o.type #[ρ x, ρ y]).run P w = .ok v w' → (execOp ρ o).run P w = .ok (.value v) w' := by
                  intro v w' hh
                  unfold execOp
                  rw [ho]
                  simp only [resolve, invoke, builtin]
                  refine run_v ?_
                  simpa using hh
                -- the new row, whatever the world
                have hcapn : (List.append xs ys).length ≤ cap := by
                  have : (List.append xs ys).length = xs.length + ys.length := List.length_append
                  rw [this]; unfold apCap at hlen; unfold cap; omega
                have hlenA : (List.append xs ys).length = xs.length + ys.length := List.length_append
                have hS1t : ∀ b ∈ Ss1.flatten, ∃ id ∈ tid, b ∈ (R id).S := by
                  intro b hb
                  rcases htg.alt with ⟨_, _, h0⟩ | ⟨b', o', arr, ty, fz, id, hB, hheap, hfz, hsz, hcells, htid, hSid⟩
                  · rw [h0] at hb; simp at hb
                  · exact ⟨id, by simp [htid], by rw [hSid]; exact List.mem_cons_of_mem _ hb⟩
                have hS1c : ∀ b ∈ Ss1.flatten, b ∈ blocks R con := fun b hb => by
                  obtain ⟨id, h1, h2⟩ := hS1t b hb
                  exact List.mem_flatMap.2 ⟨id, htc id h1, h2⟩
                have hS2c : ∀ b ∈ Ss2.flatten, b ∈ blocks R con := fun b hb => by
                  obtain ⟨_, hp, hb'⟩ := hS2 b hb
                  obtain ⟨j, hj, hjb⟩ := List.mem_flatMap.1 hb'
                  exact List.mem_flatMap.2 ⟨j, hsc hp j hj, hjb⟩
                have hndS2 : Ss2.flatten.Nodup := by
                  cases hp : T.plain with
                  | true =>
                    have : Ss2.flatten = [] := List.eq_nil_iff_forall_not_mem.2 fun b hb => by
                      have := (hS2 b hb).2.1; rw [hp] at this; cases this
                    rw [this]; exact List.nodup_nil
                  | false =>
                    apply hN2
                    refine blocks_nodup hs ?_
                    rw [← hcon, hp] at hnd
                    simp only [Bool.false_eq_true, if_false] at hnd
                    exact (List.nodup_append.1 hnd).2.1
                have hndS1 : Ss1.flatten.Nodup := by
                  rcases htg.alt with ⟨_, _, h0⟩ | ⟨b', o', arr, ty, fz, id, hB, hheap, hfz, hsz, hcells, htid, hSid⟩
                  · rw [h0]; exact List.nodup_nil
                  · have := hs.nd id; rw [hSid] at this; exact (List.nodup_cons.1 this).2
                have hnd12 : (Ss1 ++ Ss2).flatten.Nodup := by
                  rw [List.flatten_append]
                  refine List.nodup_append.2 ⟨hndS1, hndS2, ?_⟩
                  rintro a ha b hb rfl
                  obtain ⟨id, h1, h2⟩ := hS1t a ha
                  obtain ⟨_, hp, hb'⟩ := hS2 a hb
                  exact hsep2 id h1 hp a hb' h2
                have hchs : ∀ w', Agree F w w' → (∀ b ∈ Ss1.flatten, w'.heap[b]? = w.heap[b]?) → (∀ b ∈ Ss2.flatten, w'.heap[b]? = w.heap[b]?) → (∀ b, T.plain = false → f = false → b ∈ blocks R sid → w'.heap[b]? = w.heap[b]?) →
                    Ch (ElL (fun b => F b ∨ (T.plain = false ∧ f = false ∧ b ∈ blocks R sid)) w' f T) T.n (xs ++ ys) (css1 ++ css2) (Ss1 ++ Ss2) := by
                  intro w' ha h1 h2 h3
                  refine Ch.append (htg.ch.imp fun x cs S hS hE => ElL.goes (fun b hb => .inl hb) ha (fun b hb => h1 b (hS b hb)) hE) (hsr.ch.imp fun x cs S hS hE => ElL.goes (fun b hb => hb) ?_ (fun b hb => h2 b (hS b hb)) hE)
                  intro b hb
                  rcases hb with hb | ⟨q1, q2, q3⟩
                  · exact ha b hb
                  · exact h3 b q1 q2 q3
                have hl1 : css1.flatten.length = xs.length * T.n := by rw [flatten_len htg.ch.all, htg.ch.len]
                have hl2 : css2.flatten.length = ys.length * T.n := by rw [flatten_len hsr.ch.all, hsr.ch.len]
                have fin : ∀ (w' : World) (hdr : Value) (S : List Nat), (execOp ρ o).run P w = .ok (.value hdr) w' → one hdr = true →
                    (∀ b, b ∈ S → b ∈ blocks R con ∨ (w.heap.size ≤ b ∧ b < w'.heap.size)) → S.Nodup → (∀ b, b < w.heap.size → b ∉ blocks R con → w'.heap[b]? = w.heap[b]?) →
                    (∀ b, T.plain = false → f = false → b ∈ blocks R sid → b ∉ S) → w.heap.size ≤ w'.heap.size → w'.os = w.os → w'.tape = w.tape → w'.output = w.output →
                    (Agree F w w' → RowAt w' T.n (ElL (fun b => F b ∨ (T.plain = false ∧ f = false ∧ b ∈ blocks R sid)) w' f T) (List.append xs ys) hdr S) →
                    Does P o ρ w (fun v w' => ∃ F' R', Goes F R w F' R' w' (fun j => c ≤ j ∧ j < c + 1) ∧ Sat F' R' w' (merge c (c + 1) con rsG (updR (kill rs con) c (.row f T (List.append xs ys)))) ∧ VR R' F' w' (.c (.l (.sl c))) v) := by
                  intro w' hdr S hr h1 hS hnS hheap hSf hsize hos htape hout hrow
                  have := Sat.row (F' := fun b => F b ∨ (T.plain = false ∧ f = false ∧ b ∈ blocks R sid)) (w' := w') (c := c) (con := con) (rv := ⟨true, hdr, S⟩) (root := .row f T (List.append xs ys)) hs hl hcc hS hnS hheap (fun b hb => .inl hb)
                    (fun b hb => by
                      rcases hb with hb | ⟨q1, q2, q3⟩
                      · exact .inl hb
                      · refine .inr ⟨?_, hSf b q1 q2 q3⟩
                        obtain ⟨j, hj, hjb⟩ := List.mem_flatMap.1 q3
                        exact List.mem_flatMap.2 ⟨j, hsc q1 j hj, hjb⟩) hsize hos htape hout (fun hg ha => ⟨rfl, hrow ha⟩)
                  unfold Does
                  rw [hr]
                  refine ⟨_, _, by rw [new_one]; exact this.1, ?_, ?_⟩
                  · rw [merge_kill hcc]; exact this.2
                  · exact ⟨by rw [updR_same], by rw [updR_same], h1⟩
                rcases hrun with ⟨hle, hr⟩ | ⟨hgt, newCap, rest, hnc, hrest, hr⟩
                · -- in place
                  rcases htg.alt with ⟨hc0, hx0, hS0⟩ | ⟨b, o', arr, ty, fz, id, hB, hheap, hfz, hsz, hcells, htid, hSid⟩
                  · -- nothing at all
                    have hy0 : ys = [] := by
                      apply List.length_eq_zero_iff.1; omega
                    have hw' : inW w B (xs.length * T.n) css2.flatten = w := by
                      have : css2.flatten = [] := List.length_eq_zero_iff.1 (by rw [hl2, hy0]; simp)
                      rw [this]; cases B <;> rfl
                    rw [hw'] at hr
                    refine fin w _ [] (hexec _ _ hr) rfl (by simp) List.nodup_nil (fun _ _ _ => rfl) (by simp) (Nat.le_refl _) rfl rfl rfl (fun _ => ⟨hcapn, .inl ⟨?_, ⟨B, ?_⟩, rfl⟩⟩)
                    · rw [hx0, hy0]; rfl
                    · rw [hx0, hy0, hc0]; rfl
                  · subst hB
                    simp only [inW] at hr
                    have hin : o' + xs.length * T.n + css2.flatten.length ≤ arr.size := by
                      rw [hl2]
                      have : xs.length * T.n + ys.length * T.n ≤ c1 * T.n := by rw [← Nat.add_mul]; exact Nat.mul_le_mul_right _ hle
                      omega
                    obtain ⟨⟨arr', g1, g2⟩, g3, g4, g5, g6, g7⟩ := setCells_facts css2.flatten w b (o' + xs.length * T.n) arr ty fz hheap hin
                    have hbid : b ∈ (R id).S := by rw [hSid]; simp
                    have hidc : id ∈ con := htc id (by simp [htid])
                    have hb1' : b ∉ Ss1.flatten := by have := hs.nd id; rw [hSid] at this; exact (List.nodup_cons.1 this).1
                    have hb2' : b ∉ Ss2.flatten := fun hb => by
                      obtain ⟨_, hp, hb'⟩ := hS2 b hb
                      exact hsep2 id (by simp [htid]) hp b hb' hbid
                    have hA : (arr.toList.take (o' + xs.length * T.n)).length = o' + xs.length * T.n := by
                      rw [List.length_take]
                      have : arr.toList.length = arr.size := Array.length_toList
                      omega
                    have harr' : arr'.size = arr.size := by
                      have := congrArg List.length g2
                      simp only [Array.length_toList, List.length_append, List.length_take, List.length_drop] at this
                      omega
                    refine fin _ _ (b :: (Ss1 ++ Ss2).flatten) (hexec _ _ hr) rfl ?_ ?_ ?_ ?_ (by rw [g4]; exact Nat.le_refl _) g5 g6 g7 ?_
                    · intro y hy
                      rcases List.mem_cons.1 hy with rfl | hy
                      · exact .inl (List.mem_flatMap.2 ⟨id, hidc, hbid⟩)
                      · rw [List.flatten_append] at hy
                        rcases List.mem_append.1 hy with hy | hy
                        · exact .inl (hS1c y hy)
                        · exact .inl (hS2c y hy)
                    · refine List.nodup_cons.2 ⟨fun hb => ?_, hnd12⟩
                      rw [List.flatten_append] at hb
                      rcases List.mem_append.1 hb with hb | hb
                      · exact hb1' hb
                      · exact hb2' hb
                    · intro y hy hyc
                      exact g3 y (fun e => hyc (e ▸ List.mem_flatMap.2 ⟨id, hidc, hbid⟩))
                    · intro y hp hff hy hyS
                      rcases List.mem_cons.1 hyS with e1 | hyS
                      · exact hsep2 id (by simp [htid]) hp y hy (e1 ▸ hbid)
                      · rw [List.flatten_append] at hyS
                        rcases List.mem_append.1 hyS with hy' | hy'
                        · obtain ⟨id', q1, q2⟩ := hS1t y hy'
                          exact hsep2 id' q1 hp y hy q2
                        · have := (hS2 y hy').1; rw [hff] at this; cases this
                    · intro ha
                      have hch := hchs _ ha (fun y hy => g3 y (fun e => hb1' (e ▸ hy))) (fun y hy => g3 y (fun e => hb2' (e ▸ hy)))
                        (fun y hp hff hy => g3 y (fun e => hsep2 id (by simp [htid]) hp y hy (e ▸ hbid)))
                      have := hch.row (o := o') (c := c1) (b := b) (ty := ty) (fz := fz) hcapn (by rw [List.length_append]; exact hle) g1 (by rw [harr']; exact hfz) (by rw [harr']; exact hsz) (cells_app (n := T.n) (fun k u hk => ?_) (fun k u hk => ?_))
                      · rw [List.length_append] at this; exact this
                      · have hkl : k < css1.flatten.length := (List.getElem?_eq_some_iff.1 hk).1
                        have h1 := hcells k u hk
                        have : arr'.toList[o' + k]? = some u := by
                          rw [g2, List.append_assoc, List.getElem?_append_left (by rw [hA]; omega), List.getElem?_take_of_lt (by omega)]
                          simpa using h1
                        simpa using this
                      · have hkl : k < css2.flatten.length := (List.getElem?_eq_some_iff.1 hk).1
                        have : arr'.toList[o' + css1.flatten.length + k]? = some u := by
                          rw [g2, List.append_assoc, List.getElem?_append_right (by rw [hA]; omega), hA]
                          rw [show o' + css1.flatten.length + k - (o' + xs.length * T.n) = k by omega]
                          rw [List.getElem?_append_left hkl]; exact hk
                        simpa using this
                · -- a new block
                  have hold : ∀ b, b < w.heap.size → (World.add (World.dr w) (.cells (css1.flatten ++ css2.flatten ++ rest).toArray e)).heap[b]? = w.heap[b]? := fun b hb => add_old (World.dr w) _ hb
                  refine fin _ _ (w.heap.size :: (Ss1 ++ Ss2).flatten) (hexec _ _ hr) rfl ?_ ?_ (fun b hb _ => hold b hb) ?_ (by rw [add_size]; exact Nat.le_succ _) rfl rfl rfl ?_
                  · intro y hy
                    rcases List.mem_cons.1 hy with rfl | hy
                    · refine .inr ⟨Nat.le_refl _, ?_⟩
                      rw [add_size]; exact Nat.lt_succ_self _
                    · rw [List.flatten_append] at hy
                      rcases List.mem_append.1 hy with hy | hy
                      · exact .inl (hS1c y hy)
                      · exact .inl (hS2c y hy)
                  · refine List.nodup_cons.2 ⟨fun hb => ?_, hnd12⟩
                    rw [List.flatten_append] at hb
                    rcases List.mem_append.1 hb with hb | hb
                    · exact Nat.lt_irrefl _ (blocks_lt hs (hS1c _ hb))
                    · exact Nat.lt_irrefl _ (blocks_lt hs (hS2c _ hb))
                  · intro y hp hff hy hyS
                    rcases List.mem_cons.1 hyS with e1 | hyS
                    · exact Nat.lt_irrefl _ (e1 ▸ blocks_lt hs hy)
                    · rw [List.flatten_append] at hyS
                      rcases List.mem_append.1 hyS with hy' | hy'
                      · obtain ⟨id', q1, q2⟩ := hS1t y hy'
                        exact hsep2 id' q1 hp y hy q2
                      · have := (hS2 y hy').1; rw [hff] at this; cases this
                  · intro ha
                    have hch := hchs _ ha (fun y hy => hold y (blocks_lt hs (hS1c y hy))) (fun y hy => hold y (blocks_lt hs (hS2c y hy))) (fun y hp hff hy => hold y (blocks_lt hs hy))
                    have := hch.row (arr := (css1.flatten ++ css2.flatten ++ rest).toArray) (o := 0) (c := newCap) (b := w.heap.size) (ty := e) (fz := (0, 0)) hcapn (by rw [List.length_append]; exact hnc) (add_new (World.dr w) _) (by simp) (by
                      simp only [List.size_toArray, List.length_append, Nat.zero_add]
                      rw [hl1, hl2, hrest, hzsz, ← Nat.add_mul, ← Nat.add_mul]
                      exact Nat.mul_le_mul_right _ (by omega)) (by
                        intro k u hk
                        rw [List.flatten_append] at hk
                        rw [Nat.zero_add]
                        have hkl := (List.getElem?_eq_some_iff.1 hk).1
                        simp only [List.getElem?_toArray]
                        rw [List.getElem?_append_left hkl]; exact hk)
                    rw [List.length_append] at this; exact this
              · rw [if_neg hok] at h; cases h
            · cases h
          · cases h
        · cases h
      · cases h
    · cases h
  · cases h
end
end Go.Sx

namespace Go.Sx
open Go
variable {G : Gl}
set_option linter.unusedVariables false
set_option linter.unusedSimpArgs false

/-- a datum that can be owned to the bottom -/
def T.noSp : T → Bool
  | .pair a b => a.noSp && b.noSp
  | _ => true

theorem zero_own : ∀ {t : T} {cs r : List Value}, t.noSp = true → zeroIs t cs = some r → ∃ c, cs = c ++ r ∧ ∀ w, OwnL w t t.zero c []
  | .int k, cs, r, hn, h => by
    simp only [zeroIs] at h
    split at h
    · split at h
      · rename_i hk; obtain ⟨rfl, rfl⟩ := hk
        injection h with h; subst h
        exact ⟨[_], rfl, fun w => ⟨⟨rfl, by rename_i k' _; cases k' <;> decide⟩, rfl⟩⟩
      · cases h
    · cases h
  | .bool, cs, r, hn, h => by
    simp only [zeroIs] at h
    split at h
    · split at h
      · rename_i hk; subst hk
        injection h with h; subst h
        exact ⟨[_], rfl, fun w => ⟨rfl, rfl⟩⟩
      · cases h
    · cases h
  | .str, cs, r, hn, h => by
    simp only [zeroIs] at h
    split at h
    · split at h
      · rename_i s _ hk
        injection h with h; subst h
        have : s = ByteArray.empty := by
          obtain ⟨d⟩ := s
          have : d = #[] := Array.eq_empty_of_size_eq_zero hk
          rw [this]; rfl
        subst this
        exact ⟨[_], rfl, fun w => ⟨⟨rfl, by simp [cap, T.zero]⟩, rfl⟩⟩
      · cases h
    · cases h
  | .raw, cs, r, hn, h => by
    simp only [zeroIs] at h
    split at h
    · injection h with h; subst h
      exact ⟨[_], rfl, fun w => ⟨⟨rfl, rfl⟩, rfl⟩⟩
    · cases h
  | .list t, cs, r, hn, h => by
    simp only [zeroIs] at h
    split at h
    · injection h with h; subst h
      exact ⟨[_], rfl, fun w => ⟨_, rfl, by simp [T.zero], .inl ⟨rfl, ⟨_, rfl⟩, rfl⟩⟩⟩
    · cases h
  | .sp t, cs, r, hn, h => by
    simp only [zeroIs] at h
    split at h
    · injection h with h; subst h
      exact ⟨[_], rfl, fun w => ⟨Nat.le_refl _, _, rfl, by simp [T.zero], .inl ⟨rfl, ⟨_, rfl⟩, rfl⟩⟩⟩
    · cases h
  | .pair a b, cs, r, hn, h => by
    simp only [T.noSp, Bool.and_eq_true] at hn
    simp only [zeroIs] at h
    cases h1 : zeroIs a cs with
    | none => rw [h1] at h; cases h
    | some r1 =>
      rw [h1] at h
      obtain ⟨c1, e1, a1⟩ := zero_own hn.1 h1
      obtain ⟨c2, e2, a2⟩ := zero_own hn.2 (show zeroIs b r1 = some r from h)
      exact ⟨c1 ++ c2, by rw [e1, e2, List.append_assoc], fun w => ⟨c1, c2, [], [], rfl, rfl, a1 w, a2 w⟩⟩

theorem zero_read : ∀ {t : T} {cs r : List Value}, zeroIs t cs = some r → ∃ c, cs = c ++ r ∧ ∀ (F : Nat → Prop) (w : World), RdL F w t t.zero c
  | .sp t, cs, r, h => by
    simp only [zeroIs] at h
    split at h
    · injection h with h; subst h
      exact ⟨[_], rfl, fun F w => ⟨_, _, rfl, by simp [T.zero], by simp [T.zero], by simp [T.zero], fun i x hi => by simp [T.zero] at hi⟩⟩
    · cases h
  | .pair a b, cs, r, h => by
    simp only [zeroIs] at h
    cases h1 : zeroIs a cs with
    | none => rw [h1] at h; cases h
    | some r1 =>
      rw [h1] at h
      obtain ⟨c1, e1, a1⟩ := zero_read h1
      obtain ⟨c2, e2, a2⟩ := zero_read (show zeroIs b r1 = some r from h)
      exact ⟨c1 ++ c2, by rw [e1, e2, List.append_assoc], fun F w => ⟨c1, c2, rfl, a1 F w, a2 F w⟩⟩
  | .int k, cs, r, h => by
    obtain ⟨c, e, a⟩ := zero_own (show (T.int k).noSp = true from rfl) h
    exact ⟨c, e, fun F w => (a w).read (fun b hb => by cases hb)⟩
  | .bool, cs, r, h => by
    obtain ⟨c, e, a⟩ := zero_own (show T.bool.noSp = true from rfl) h
    exact ⟨c, e, fun F w => (a w).read (fun b hb => by cases hb)⟩
  | .str, cs, r, h => by
    obtain ⟨c, e, a⟩ := zero_own (show T.str.noSp = true from rfl) h
    exact ⟨c, e, fun F w => (a w).read (fun b hb => by cases hb)⟩
  | .raw, cs, r, h => by
    obtain ⟨c, e, a⟩ := zero_own (show T.raw.noSp = true from rfl) h
    exact ⟨c, e, fun F w => (a w).read (fun b hb => by cases hb)⟩
  | .list t, cs, r, h => by
    simp only [zeroIs] at h
    split at h
    · injection h with h; subst h
      exact ⟨[_], rfl, fun F w => ⟨_, _, rfl, by simp [T.zero], by simp [T.zero], fun i x hi => by simp [T.zero] at hi⟩⟩
    · cases h

/-- a zero value as an element of a row -/
theorem zero_el {t : T} {cs : List Value} (h : zeroIs t cs = some []) (F : Nat → Prop) (w : World) : ElL F w t.noSp t t.zero cs [] := by
  unfold ElL
  cases hn : t.noSp with
  | true =>
    simp only [if_true]
    obtain ⟨c, e, a⟩ := zero_own hn h
    rw [List.append_nil] at e
    rw [e]; exact a w
  | false =>
    simp only [Bool.false_eq_true, if_false]
    obtain ⟨c, e, a⟩ := zero_read h
    rw [List.append_nil] at e
    rw [e]; exact ⟨a F w, by simp⟩

def sameOp : Operand → Operand → Bool
  | .tmp a, .tmp b => Nat.beq a b
  | _, _ => false

theorem sameOp_ok {x y : Operand} (h : sameOp x y = true) (ρ : Operand → Value) : ρ x = ρ y := by
  cases x <;> cases y <;> first | (rename_i a b; rw [Nat.eq_of_beq_eq_true h]) | cases h

def makeSliceK {α : Type} (Γ : Nat → Option TI) (rs : Rs) (c : Nat) (t : TypeId) (same : Bool) (n : AV) (k : KT α) : Option α :=
  match Γ t with
  | some ⟨_, _, _, .slice e, _⟩ =>
    (match Γ e with
     | some ⟨_, bytes, _, _, some T⟩ =>
       (match n with
        | .c (.l (.dat (.int .i64) n)) =>
          if same = true ∧ bytes ≤ 1024 then
            cond (decide ((0 : Int) ≤ n)) (cond (decide (Int.toNat n ≤ apCap)) (k (.c (.l (.sl c))) (updR rs c (.row T.noSp T (List.replicate (Int.toNat n) T.zero))) (c + 1) [] []) none) none
          else none
        | _ => none)
     | _ => none)
  | _ => none

theorem run_askRoom {P : Program} (n : Nat) (w : World) : (askRoom n).run P w = .ok () w := by
  unfold askRoom
  split <;> rfl

theorem rep_cells {zs : List Value} {m : Nat} (hz : 0 < zs.length) {i j : Nat} {u : Value} (hi : i < m) (hu : zs[j]? = some u) :
    ((Array.range (m * zs.length)).map fun x => (zs.toArray[x % zs.toArray.size]!))[i * zs.length + j]? = some u := by
  have hj : j < zs.length := (List.getElem?_eq_some_iff.1 hu).1
  have hlt : i * zs.length + j < m * zs.length := by
    calc i * zs.length + j < i * zs.length + zs.length := by omega
      _ = (i + 1) * zs.length := by rw [Nat.add_mul, Nat.one_mul]
      _ ≤ m * zs.length := Nat.mul_le_mul_right _ hi
  rw [Array.getElem?_map, Array.getElem?_range]
  rw [if_pos hlt]
  have : (i * zs.length + j) % zs.length = j := by rw [Nat.mul_comm, Nat.mul_add_mod]; exact Nat.mod_eq_of_lt hj
  simp only [Option.map_some, List.size_toArray, this]
  congr 1
  have h2 := (List.getElem?_eq_some_iff.1 hu).2
  simp [hj, h2]

theorem run_makeSlice {P : Program} {t e bytes : Nat} {info : TypeInfo} {z : Value} {zs : List Value} {n : Int} {w : World} (ht : (underlying t).run P w = .ok (.slice e) w) (f1 : P.info? e = some info) (hb : info.bytes = bytes)
    (hsz : info.size = zs.length) (hz : info.zero = some z) (hcells : z.cells = zs.toArray) (hwr : IntKind.i64.wrap n = n) (h0 : 0 ≤ n) (h1 : Int.toNat n ≤ apCap) (hby : bytes ≤ 1024) :
    (Instr.makeSlice t (.int .i64 n) (.int .i64 n)).run P w = .ok (.slice (some ⟨w.heap.size, 0, none⟩) n.toNat n.toNat) (World.add w (.cells ((Array.range (n.toNat * zs.length)).map fun x => (zs.toArray[x % zs.toArray.size]!)) e)) := by
  unfold Instr.makeSlice
  rw [bind_ok ht]
  simp only
  rw [bind_ok (a := n) (w' := w) rfl, bind_ok (a := n) (w' := w) rfl]
  have hti : (typeInfo e).run P w = .ok info w := run_typeInfo f1 w
  rw [bind_ok hti]
  simp only [hwr, hb]
  have hle : ((bytes : Int) * n) ≤ 2 ^ 48 := by
    have a1 : (bytes : Int) ≤ 1024 := by omega
    have a2 : n ≤ 1073741824 := by unfold apCap at h1; omega
    have : (bytes : Int) * n ≤ 1024 * 1073741824 := Int.mul_le_mul a1 a2 h0 (by omega)
    omega
  have hc : ((decide (n < 0) || decide ((bytes : Int) * n > 2 ^ 48)) || decide (n < 0) || decide (n > n)) = false := by
    simp only [Bool.or_eq_false_iff, decide_eq_false_iff_not]
    omega
  rw [if_neg (by rw [hc]; simp)]
  rw [bind_ok (run_askRoom _ w), bind_ok (run_sizeOf f1 w), hsz]
  by_cases hz0 : n.toNat * zs.length = 0
  · rw [if_pos hz0, bind_ok (a := (#[] : Array Value)) (w' := w) rfl, bind_ok run_newRow, hz0]
    have hr : ∀ f : Nat → Value, (Array.range 0).map f = #[] := fun f => by simp
    rw [hr, hr]
    rfl
  · rw [if_neg hz0]
    have hzero : (do let x ← zeroValue e; pure x.cells : Sem (Array Value)).run P w = .ok zs.toArray w := by
      rw [bind_ok (run_zeroValue f1 hz w), hcells]; rfl
    rw [bind_ok (run_zeroValue f1 hz w), bind_ok (a := z.cells) (w' := w) rfl, hcells, bind_ok run_newRow]
    rfl

theorem makeSliceK_ok {α : Type} {P : Program} {Γ : Nat → Option TI} (hΓ : TyOk P Γ) {o : Oper} {t : TypeId} {x y : Operand} {ρA : Operand → AV} {rs : Rs} {c : Nat} {k : KT α} {r : α} (ho : o.op = .makeSlice t x y)
    (h : makeSliceK Γ rs c t (sameOp x y) (ρA x) k = some r) : ∃ out rs' c' ids mod, k out rs' c' ids mod = some r ∧ LStep G P o ρA rs c out rs' c' ids mod := by
  unfold makeSliceK at h
  split at h
  case h_2 => cases h
  rename_i sz by' ag e tt hi
  split at h
  case h_2 => cases h
  rename_i size bytes ag2 d2 T hei
  split at h
  case h_2 => cases h
  rename_i n hn
  split at h
  case isFalse => cases h
  rename_i hsb
  obtain ⟨hsame, hby⟩ := hsb
  obtain ⟨h0, h⟩ := cond_t h
  obtain ⟨h1, h⟩ := cond_t h
  have h0 : (0 : Int) ≤ n := of_decide_eq_true h0
  have h1 : Int.toNat n ≤ apCap := of_decide_eq_true h1
  refine ⟨_, _, _, _, _, h, Nat.le_succ _, fun rsG F R w ρ hids hnew hs hρ => ?_⟩
  obtain ⟨info, desc, f1, f2, f3, f4, f5, f6, f7⟩ := hΓ.facts hei
  obtain ⟨⟨z, hz, hzi⟩, hnn⟩ := f7 T rfl
  obtain ⟨zs, hzs, hrd⟩ := zero_read hzi
  rw [List.append_nil] at hzs
  have hzl : zs.length = T.n := (hrd F w).length
  have hzp : 0 < zs.length := by rw [hzl]; exact T.n_pos
  have hnn : T.n = size := hnn
  have f3 : info.size = size := f3
  have f4 : info.bytes = bytes := f4
  obtain ⟨hl, hd⟩ := hnew c (Nat.le_refl _) (Nat.lt_succ_self _)
  have hv := hρ x
  rw [hn] at hv
  obtain ⟨hvx, hwr⟩ := VR_int hv
  have hvy : ρ y = .int .i64 n := by rw [← sameOp_ok hsame ρ]; exact hvx
  let m := Int.toNat n
  let arr : Array Value := (Array.range (m * zs.length)).map fun x => (zs.toArray[x % zs.toArray.size]!)
  have harr : arr.size = m * zs.length := by simp [arr]
  have hcells : z.cells = zs.toArray := by rw [← hzs]
  have hrun : (execOp ρ o).run P w = .ok (.value (.slice (some ⟨w.heap.size, 0, none⟩) m m)) (World.add w (.cells arr e)) := by
    unfold execOp
    rw [ho]
    apply run_v
    rw [hvx, hvy]
    exact run_makeSlice (hΓ.slice hi rfl w) f1 f4 (by rw [f3, hzl, hnn]) hz hcells hwr h0 h1 hby
  have hnew' := Sat.new (root := .row T.noSp T (List.replicate m T.zero)) (w' := World.add w (.cells arr e)) (rv := ⟨true, .slice (some ⟨w.heap.size, 0, none⟩) m m, [w.heap.size]⟩) hs hl hd
    (fun b hb => by simp only [List.mem_singleton] at hb; rw [add_size]; omega) (by simp) (fun b hb => add_old w _ hb) (by rw [add_size]; omega) rfl rfl rfl
    (fun hg ha => by
      refine ⟨rfl, ?_, .inr ⟨w.heap.size, 0, m, arr, e, (0, 0), List.replicate m [], ?_, ?_, add_new w _, ?_, ?_, ?_, ?_, ?_⟩⟩
      · rw [List.length_replicate]; exact Nat.le_trans h1 (by decide)
      · rw [List.length_replicate]
      · rw [List.length_replicate]; exact Nat.le_refl _
      · simp
      · rw [harr, hzl, Nat.zero_add]; exact Nat.le_refl _
      · simp
      · simp
      · intro i v hiv
        have him : i < m := by have := (List.getElem?_eq_some_iff.1 hiv).1; simpa using this
        have hvz : v = T.zero := by rw [List.getElem?_replicate, if_pos him] at hiv; injection hiv with hiv; exact hiv.symm
        subst hvz
        refine ⟨zs, hzl, ?_, fun j u hu => ?_⟩
        · have : (List.replicate m ([] : List Nat)).getD i [] = [] := by simp [List.getD_eq_getElem?_getD, List.getElem?_replicate, him]
          rw [this]
          rw [hzs] at hzi
          exact zero_el hzi _ _
        · have := rep_cells (m := m) hzp him hu
          rw [Nat.zero_add, ← hzl]; exact this)
  unfold Does
  rw [hrun]
  refine ⟨F, _, by rw [new_one]; exact hnew'.1, by rw [merge_one (updR_same _ _ _)]; exact hnew'.2, ?_⟩
  exact ⟨by rw [updR_same], by rw [updR_same], rfl⟩
end Go.Sx

namespace Go.Sx
open Go
variable {G : Gl}
set_option linter.unusedVariables false
set_option linter.unusedSimpArgs false

abbrev u8 : T := .int .u8

def bytesK {α : Type} (Γ : Nat → Option TI) (rs : Rs) (src dst : TypeId) (x : AV) (k : KQ α) (other : Option α) : Option α :=
  match Γ src, Γ dst with
  | some ⟨_, _, _, .slice e, _⟩, some ⟨_, _, _, .str, _⟩ =>
    (match Γ e with
     | some ⟨_, _, _, .int .u8, _⟩ =>
       (match x with
        | .c (.l (.dat (.list (.int .u8)) xs)) => k (dS (strOfNums xs)) []
        | .c (.l (.sl id)) => (match rs id with | .row _ (.int .u8) xs => k (dS (strOfNums xs)) [id] | _ => none)
        | .c (.l .nils) => k (dS (strOfNums [])) []
        | _ => none)
     | _ => none)
  | _, _ => other

theorem run_bytes {P : Program} {G : Nat → Prop} {w : World} {src dst e : TypeId} {xs : List Int} {v : Value} (hs : P.underlying src = some (.slice e)) (he : P.underlying e = some (.int .u8)) (hd : P.underlying dst = some .string)
    (h : RdL G w (.list u8) xs [v]) : (convert src dst v).run P w = .ok (.string (strOfNums xs)) w ∧ (strOfNums xs).size ≤ cap := by
  obtain ⟨A, c, e1, e2, e3, e4⟩ := h
  simp only [List.cons.injEq, and_true] at e1
  refine ⟨?_, by rw [strOfNums_size]; exact e3⟩
  subst e1
  cases A with
  | none =>
    cases xs with
    | nil => exact run_convert_bytes_nil w src e hs he _ _ dst hd
    | cons x xs => obtain ⟨b, o, cs, hA, _⟩ := e4 0 x rfl; cases hA
  | some a =>
    cases xs with
    | nil =>
      rw [run_convert_bytes_string w src dst e (some a) _ _ hs he hd]
      exact run_bytesToString w a 0 c [] rfl
    | cons x xs =>
      obtain ⟨b, o, cs, hA, _⟩ := e4 0 x rfl
      injection hA with hA
      subst hA
      refine run_convert_bytes_arg w src e hs he b o _ c (x :: xs) rfl (fun i hi => ?_) dst hd
      have hi' : i < (x :: xs).length := hi
      obtain ⟨b', o', cs', hA', _, hr, hc⟩ := e4 i _ (List.getElem?_eq_getElem hi')
      injection hA' with hA'
      injection hA' with hb ho
      subst hb ho
      obtain ⟨hcs, _⟩ := hr
      have := hc 0 (.int .u8 (x :: xs)[i]) (by rw [hcs]; rfl)
      simp only [T.n, Nat.mul_one, Nat.add_zero] at this
      rw [this]
      rw [List.getD_eq_getElem?_getD, List.getElem?_eq_getElem hi']; rfl

theorem bytesK_ok {α : Type} {P : Program} {Γ : Nat → Option TI} (hΓ : TyOk P Γ) {src dst : TypeId} {x : Operand} {ρA : Operand → AV} {ty : TypeId} {rs : Rs} {k : KQ α} {other : Option α} {r : α} (h : bytesK Γ rs src dst (ρA x) k other = some r) :
    (∃ out ids, k out ids = some r ∧ Quiet G P (.convert src dst x) ty ρA rs out ids) ∨ other = some r := by
  unfold bytesK at h
  split at h
  · rename_i a1 a2 a3 e a4 b1 b2 b3 b4 hs hd
    split at h
    · rename_i c1 c2 c3 c4 he
      obtain ⟨ds, hs1, hs2⟩ := hΓ.und hs
      obtain ⟨dd, hd1, hd2⟩ := hΓ.und hd
      obtain ⟨de, he1, he2⟩ := hΓ.und he
      rw [descD_slice hs2] at hs1
      rw [descD_str hd2] at hd1
      rw [descD_int he2] at he1
      have fin : ∀ (G : Nat → Prop) (w : World) (ρ : Operand → Value) (xs : List Int) (o : Oper), o.op = .convert src dst x → RdL G w (.list u8) xs [ρ x] → ∃ v, (execOp ρ o).run P w = .ok (.value v) w ∧ v = .string (strOfNums xs) ∧ (strOfNums xs).size ≤ cap := by
        intro G w ρ xs o ho hr
        obtain ⟨h1, h2⟩ := run_bytes hs1 he1 hd1 hr
        refine ⟨_, ?_, rfl, h2⟩
        unfold execOp
        rw [ho]
        exact run_v h1
      split at h
      · rename_i xs hx
        refine .inl ⟨_, _, h, fun F R w ρ hr hρ o ho hty => ?_⟩
        have hv := hρ x
        rw [hx] at hv
        obtain ⟨v, h1, rfl, h2⟩ := fin F w ρ xs o ho hv
        exact ⟨_, h1, VR_str' h2⟩
      · rename_i id hx
        split at h
        · rename_i d xs hrs
          refine .inl ⟨_, _, h, fun F R w ρ hr hρ o ho hty => ?_⟩
          have hv := hρ x
          rw [hx] at hv
          have hroot := hr id (by simp)
          rw [hrs] at hroot
          have hrd := hroot.2.read (F' := fun _ => True) (fun _ _ => trivial) (fun _ _ => trivial)
          rw [← hv.2.1] at hrd
          obtain ⟨v, h1, rfl, h2⟩ := fin _ w ρ xs o ho hrd
          exact ⟨_, h1, VR_str' h2⟩
        · cases h
      · rename_i hx
        refine .inl ⟨_, _, h, fun F R w ρ hr hρ o ho hty => ?_⟩
        have hv := hρ x
        rw [hx] at hv
        obtain ⟨A, hA⟩ := hv
        obtain ⟨v, h1, rfl, h2⟩ := fin F w ρ [] o ho ⟨A, 0, by rw [hA]; rfl, by simp, by simp, fun i x hi => by simp at hi⟩
        exact ⟨_, h1, VR_str' h2⟩
      · cases h
    · cases h
  · exact .inr h
end Go.Sx

namespace Go.Sx
open Go
variable {G : Gl}
set_option linter.unusedVariables false
set_option linter.unusedSimpArgs false

def bytesI (s : ByteArray) : List Int := s.data.toList.map fun b => ((b.toNat : Nat) : Int)

def toBytesK {α : Type} (Γ : Nat → Option TI) (rs : Rs) (c : Nat) (src dst : TypeId) (x : AV) (k : KT α) (other : Option α) : Option α :=
  match Γ src, Γ dst with
  | some ⟨_, _, _, .str, _⟩, some ⟨_, _, _, .slice e, _⟩ =>
    (match Γ e with
     | some ⟨_, _, _, .int .u8, _⟩ =>
       (match x with
        | .c (.l (.dat .str s)) => k (.c (.l (.sl c))) (updR rs c (.row true (.int .u8) (bytesI s))) (c + 1) [] []
        | _ => none)
     | _ => none)
  | _, _ => other

theorem run_toBytes {P : Program} {src dst e : TypeId} {s : ByteArray} {w : World} (hs : P.underlying src = some .string) (hd : P.underlying dst = some (.slice e)) (he : P.underlying e = some (.int .u8)) :
    ∃ cp w' arr, (convert src dst (.string s)).run P w = .ok (.slice (some ⟨w.heap.size, 0, none⟩) s.size cp) w' ∧ s.size ≤ cp ∧ w'.heap[w.heap.size]? = some (.cells arr e (arr.size, arr.size + 1)) ∧ arr.size = cp ∧
      (∀ i, i < s.size → arr[i]? = some (.int .u8 ((s.data.getD i 0).toNat : Nat))) ∧ (∀ b, b < w.heap.size → w'.heap[b]? = w.heap[b]?) ∧ w'.heap.size = w.heap.size + 1 ∧ w'.os = w.os ∧ w'.tape = w.tape ∧ w'.output = w.output := by
  let cp := s.size + (w.tape w.drawn (.appendCap s.size 0 e)) % (2 ^ 63 - s.size)
  let arr : Array Value := (s.data.map fun b => Value.int .u8 b.toNat) ++ Array.replicate (cp - s.size) (.int .u8 0)
  have hcp : s.size ≤ cp := Nat.le_add_right _ _
  have hsz : arr.size = cp := by
    simp only [arr, Array.size_append, Array.size_map, Array.size_replicate]
    show s.size + (cp - s.size) = cp
    omega
  let w1 := World.dr w
  let w2 := World.add w1 (.cells arr e)
  have hsh : w2.shape? w.heap.size = some (e, cp) := by
    have : w2.heap[w.heap.size]? = some (.cells arr e) := add_new w1 _
    simp [World.shape?, this, hsz]
  refine ⟨cp, w2.freeze ⟨w.heap.size, cp, none⟩ 1, arr, ?_, hcp, ?_, hsz, fun i hi => ?_, fun b hb => ?_, ?_, rfl, rfl, rfl⟩
  · unfold convert
    rw [bind_ok (run_underlying hs w), bind_ok (run_underlying hd w)]
    simp only
    rw [bind_ok (run_underlying he w)]
    simp only
    unfold Conv.stringToBytes
    have hch : (choose (Question.appendCap s.size 0 e)).run P w = .ok cp w1 := rfl
    rw [bind_ok hch, bind_ok run_newRow]
    have hm : (markStringish ⟨w1.heap.size, 0, none⟩).run P w2 = .ok () (w2.freeze ⟨w.heap.size, cp, none⟩ 1) := by
      unfold markStringish
      have h1 : (shape w.heap.size).run P w2 = .ok (some (e, cp)) w2 := by
        unfold shape; simp only [Sem.run, hsh]
      rw [bind_ok (show (shape (⟨w1.heap.size, 0, none⟩ : Addr).block).run P w2 = .ok (some (e, cp)) w2 from h1)]
      rfl
    rw [bind_ok hm]
    rfl
  · have : w2.heap[w.heap.size]? = some (.cells arr e) := add_new w1 _
    simp [World.freeze, Array.getElem?_modify, this, hsz]
  · have : i < (s.data.map fun b => Value.int .u8 b.toNat).size := by simpa using hi
    have hi' : i < s.data.size := hi
    rw [Array.getElem?_append_left this, Array.getElem?_map, Array.getElem?_eq_getElem hi', Array.getD_eq_getD_getElem?, Array.getElem?_eq_getElem hi']; rfl
  · have : w2.heap[b]? = w.heap[b]? := add_old w1 _ hb
    rw [← this]
    have hne : ¬ w.heap.size = b := by omega
    simp [World.freeze, Array.getElem?_modify, hne]
  · have : w2.heap.size = w.heap.size + 1 := add_size w1 _
    simp [World.freeze, this]

theorem toBytesK_ok {α : Type} {P : Program} {Γ : Nat → Option TI} (hΓ : TyOk P Γ) {o : Oper} {src dst : TypeId} {x : Operand} {ρA : Operand → AV} {rs : Rs} {c : Nat} {k : KT α} {other : Option α} {r : α} (ho : o.op = .convert src dst x)
    (h : toBytesK Γ rs c src dst (ρA x) k other = some r) : (∃ out rs' c' ids mod, k out rs' c' ids mod = some r ∧ LStep G P o ρA rs c out rs' c' ids mod) ∨ other = some r := by
  unfold toBytesK at h
  split at h
  case h_2 => exact .inr h
  rename_i a1 a2 a3 a4 b1 b2 b3 e b4 hs hd
  refine .inl ?_
  split at h
  case h_2 => cases h
  rename_i c1 c2 c3 c4 he
  split at h
  case h_2 => cases h
  rename_i s hx
  obtain ⟨ds, hs1, hs2⟩ := hΓ.und hs
  obtain ⟨dd, hd1, hd2⟩ := hΓ.und hd
  obtain ⟨de, he1, he2⟩ := hΓ.und he
  rw [descD_str hs2] at hs1
  rw [descD_slice hd2] at hd1
  rw [descD_int he2] at he1
  refine ⟨_, _, _, _, _, h, Nat.le_succ _, fun rsG F R w ρ hids hnew hst hρ => ?_⟩
  have hv := hρ x
  rw [hx] at hv
  obtain ⟨hvx, hcap⟩ := VR_str hv
  obtain ⟨hl, hdd⟩ := hnew c (Nat.le_refl _) (Nat.lt_succ_self _)
  obtain ⟨cp, w', arr, hrun, h1, h2, h3, h4, h5, h6, h7, h8, h9⟩ := run_toBytes (w := w) (s := s) hs1 hd1 he1
  have hlen : (bytesI s).length = s.size := by simp [bytesI]
  have hnew' := Sat.new (root := .row true (.int .u8) (bytesI s)) (w' := w') (rv := ⟨true, .slice (some ⟨w.heap.size, 0, none⟩) s.size cp, [w.heap.size]⟩) hst hl hdd
    (fun b hb => by simp only [List.mem_singleton] at hb; rw [h6]; omega) (by simp) h5 (by rw [h6]; omega) h7 h8 h9
    (fun hg ha => by
      refine ⟨rfl, ?_, .inr ⟨w.heap.size, 0, cp, arr, e, (arr.size, arr.size + 1), List.replicate s.size [], ?_, ?_, h2, ?_, ?_, ?_, ?_, ?_⟩⟩
      · show (bytesI s).length ≤ cap; rw [hlen]; exact hcap
      · show Value.slice _ s.size cp = Value.slice _ (bytesI s).length cp; rw [hlen]
      · show (bytesI s).length ≤ cp; rw [hlen]; exact h1
      · intro i hi h; simp only at h; omega
      · rw [h3]; simp [T.n]
      · simp
      · show (List.replicate s.size ([] : List Nat)).length = (bytesI s).length; rw [hlen]; simp
      · intro i v hiv
        have hiv : (bytesI s)[i]? = some v := hiv
        have him : i < s.size := by have := (List.getElem?_eq_some_iff.1 hiv).1; omega
        have hdi : i < s.data.size := him
        have hvv : v = (((s.data.getD i 0).toNat : Nat) : Int) := by
          unfold bytesI at hiv
          rw [List.getElem?_map] at hiv
          simp only [Array.getElem?_toList, Array.getElem?_eq_getElem hdi, Option.map_some, Option.some.injEq] at hiv
          rw [← hiv, Array.getD_eq_getD_getElem?, Array.getElem?_eq_getElem hdi]; rfl
        subst hvv
        refine ⟨[.int .u8 (((s.data.getD i 0).toNat : Nat) : Int)], rfl, ?_, fun j u hu => ?_⟩
        · have : (List.replicate s.size ([] : List Nat)).getD i [] = [] := by simp [List.getD_eq_getElem?_getD, List.getElem?_replicate, him]
          rw [this]
          unfold ElL
          simp only [if_true]
          refine ⟨⟨rfl, ?_⟩, rfl⟩
          exact byteAt_wrap s i
        · have hj : j = 0 := by have := (List.getElem?_eq_some_iff.1 hu).1; simpa using this
          subst hj
          simp only [List.getElem?_cons_zero, Option.some.injEq] at hu
          rw [← hu]
          have := h4 i him
          simp only [T.n, Nat.mul_one, Nat.zero_add, Nat.add_zero]
          exact this)
  have hex : (execOp ρ o).run P w = .ok (.value (.slice (some ⟨w.heap.size, 0, none⟩) s.size cp)) w' := by
    unfold execOp
    rw [ho]
    apply run_v
    rw [hvx]; exact hrun
  unfold Does
  rw [hex]
  refine ⟨F, _, by rw [new_one]; exact hnew'.1, by rw [merge_one (updR_same _ _ _)]; exact hnew'.2, ?_⟩
  exact ⟨by rw [updR_same], by rw [updR_same], rfl⟩
end Go.Sx

namespace Go.Sx
open Go
variable {G : Gl}
set_option linter.unusedVariables false
set_option linter.unusedSimpArgs false

theorem mem_set_flatten {S' : List Nat} : ∀ {Ss : List (List Nat)} {i y : Nat}, y ∈ (Ss.set i S').flatten → y ∈ Ss.flatten ∨ y ∈ S'
  | [], i, y, h => by simp at h
  | S :: Ss, 0, y, h => by
    simp only [List.set_cons_zero, List.flatten_cons, List.mem_append] at h ⊢
    rcases h with h | h
    · exact .inr h
    · exact .inl (.inr h)
  | S :: Ss, i + 1, y, h => by
    simp only [List.set_cons_succ, List.flatten_cons, List.mem_append] at h ⊢
    rcases h with h | h
    · exact .inl (.inl h)
    · rcases mem_set_flatten h with h | h
      · exact .inl (.inr h)
      · exact .inr h

theorem nodup_set_flatten {S' : List Nat} (hS : S'.Nodup) : ∀ {Ss : List (List Nat)} {i : Nat}, Ss.flatten.Nodup → (∀ y ∈ S', y ∉ Ss.flatten) → (Ss.set i S').flatten.Nodup
  | [], i, h, _ => by simp
  | S :: Ss, 0, h, hd => by
    simp only [List.set_cons_zero, List.flatten_cons] at h ⊢
    obtain ⟨_, h2, _⟩ := List.nodup_append.1 h
    refine List.nodup_append.2 ⟨hS, h2, fun a ha b hb e => hd a ha ?_⟩
    rw [e]; simp only [List.flatten_cons, List.mem_append]; exact .inr hb
  | S :: Ss, i + 1, h, hd => by
    simp only [List.set_cons_succ, List.flatten_cons] at h ⊢
    obtain ⟨h1, h2, h3⟩ := List.nodup_append.1 h
    refine List.nodup_append.2 ⟨h1, nodup_set_flatten hS h2 (fun y hy hm => hd y hy (by simp only [List.flatten_cons, List.mem_append]; exact .inr hm)), fun a ha b hb e => ?_⟩
    rcases mem_set_flatten hb with hb | hb
    · exact h3 a ha b hb e
    · exact hd b hb (by rw [← e]; simp only [List.flatten_cons, List.mem_append]; exact .inl ha)

theorem patch_get {β : Type} {l vs : List β} {p q : Nat} (hp : p + vs.length ≤ l.length) :
    (l.take p ++ vs ++ l.drop (p + vs.length))[q]? = if q < p then l[q]? else if q < p + vs.length then vs[q - p]? else l[q]? := by
  have hlen : (l.take p).length = p := by simp; omega
  by_cases h1 : q < p
  · rw [if_pos h1, List.append_assoc, List.getElem?_append_left (by omega), List.getElem?_take, if_pos h1]
  · rw [if_neg h1]
    by_cases h2 : q < p + vs.length
    · rw [if_pos h2, List.getElem?_append_left (by simp; omega), List.getElem?_append_right (by omega), hlen]
    · rw [if_neg h2, List.getElem?_append_right (by simp; omega)]
      simp only [List.length_append, hlen, List.getElem?_drop]
      congr 1; omega

def storeElK {α : Type} (Γ : Nat → Option TI) (rs : Rs) (c : Nat) (t : TypeId) (a x : AV) (k : KT α) (other : Option α) : Option α :=
  match a with
  | .c (.l (.el id i n off)) =>
    (match Γ t, rs id, x with
     | some ti, .row deep T xs, .c v =>
       if v.cells.length = ti.size ∧ off + v.cells.length ≤ T.n ∧ T.n = n then
         (match takeE rs deep T ((flatE deep T (List.getD xs i T.zero)).take off ++ v.cells ++ (flatE deep T (List.getD xs i T.zero)).drop (off + v.cells.length)) with
          | some (y, [], con) => if okCon c (id :: con) = true then k .none (updR (kill rs con) id (.row deep T (List.set xs i y))) c (id :: con) (id :: con) else none
          | _ => none)
       else none
     | _, _, _ => none)
  | _ => other

theorem merge_kill_id {c id : Nat} {rsG rs : Rs} {con : List Nat} {root : Root} : merge c c (id :: con) rsG (updR (kill rs con) id root) = updR (kill rsG con) id root := by
  funext j
  unfold merge updR kill
  by_cases hj : j = id
  · subst hj; simp
  · by_cases hjc : j ∈ con
    · simp [hj, hjc]
    · rw [if_neg]
      · simp [hj, hjc]
      · rintro (h | h)
        · omega
        · rcases List.mem_cons.1 h with h | h
          · exact hj h
          · exact hjc h

set_option maxHeartbeats 1000000 in
theorem storeElK_ok {α : Type} {P : Program} {Γ : Nat → Option TI} (hΓ : TyOk P Γ) {o : Oper} {t : TypeId} {a x : Operand} {ρA : Operand → AV} {rs : Rs} {c : Nat} {k : KT α} {other : Option α} {r : α} (ho : o.op = .store t a x)
    (h : storeElK Γ rs c t (ρA a) (ρA x) k other = some r) : (∃ out rs' c' ids mod, k out rs' c' ids mod = some r ∧ LStep G P o ρA rs c out rs' c' ids mod) ∨ other = some r := by
  unfold storeElK at h
  split at h
  case h_2 => exact .inr h
  rename_i id i n off ha
  refine .inl ?_
  split at h
  case h_2 => cases h
  rename_i ti deep T xs v hti hrs hx
  split at h
  case isFalse => cases h
  rename_i hcnd
  obtain ⟨hsz, hle, hn⟩ := hcnd
  subst hn
  split at h
  case h_2 => cases h
  rename_i y con htake
  split at h
  case isFalse => cases h
  rename_i hok
  obtain ⟨hnd, hlt⟩ := okCon_ok hok
  obtain ⟨hidc, hcn⟩ := List.nodup_cons.1 hnd
  refine ⟨_, _, _, _, _, h, Nat.le_refl _, fun rsG F R w ρ hids hnew hs hρ => ?_⟩
  have hva := hρ a
  have hvx := hρ x
  rw [ha] at hva
  rw [hx] at hvx
  obtain ⟨hlive, b0, ob0, l, cp, hh, hil, hp⟩ := hva
  have hroot := hs.ok id
  rw [hids id (by simp), hrs] at hroot
  obtain ⟨_, hcap, hrow⟩ := hroot
  rcases hrow with ⟨_, ⟨A0, hv0⟩, _⟩ | ⟨b, ob, c', arr, ty, fz, Ss, e1, e2, e3, ez, e4, e5, e6, e7⟩
  · rw [hv0] at hh; injection hh with _ hh2; omega
  rw [e1] at hh
  injection hh with hh1 hh2 hh3
  injection hh1 with hh1
  injection hh1 with hb hob
  subst hb hob hh2
  have hi : i < xs.length := hil
  obtain ⟨cs, k1, k2, k3⟩ := e7 i _ (List.getElem?_eq_getElem hi)
  have hxe : List.getD xs i T.zero = xs[i] := by simp [List.getD_eq_getElem?_getD, hi]
  rw [hxe] at htake
  have hcells := CR.cells hvx
  let vs := (ρ x).cells.toList
  have hvl : vs.length = v.cells.length := hcells.length.symm
  have hfl : (flatE deep T xs[i]).length = T.n := by rw [(flatE_ok (R := R) k2).length, k1]
  -- the element's new cells
  have hnewc : All2 (LR R F w) ((flatE deep T xs[i]).take off ++ v.cells ++ (flatE deep T xs[i]).drop (off + v.cells.length)) (cs.take off ++ vs ++ cs.drop (off + vs.length)) := by
    rw [hvl]
    exact (((flatE_ok k2).take off).append hcells).append ((flatE_ok k2).drop _)
  have hroots : RootsOk F R w rs con := fun j hj => by rw [← hids j (by simp [hj])]; exact hs.ok j
  let F' : Nat → Prop := fun y => F y ∨ (deep = false ∧ y ∈ blocks R con)
  let S' : List Nat := if deep then blocks R con else []
  have hel : ElL F' w deep T y (cs.take off ++ vs ++ cs.drop (off + vs.length)) S' := takeE_el (F' := F') (fun _ hb => .inl hb) htake hroots (fun hd b hb => .inr ⟨hd, hb⟩) hnewc
  have hS'sub : ∀ y ∈ S', y ∈ blocks R con := fun y hy => by
    show y ∈ blocks R con
    have : y ∈ (if deep then blocks R con else []) := hy
    cases deep with
    | true => simpa using this
    | false => simp at this
  have hmul : i * T.n + T.n ≤ c' * T.n := by
    rw [show i * T.n + T.n = (i + 1) * T.n by rw [Nat.add_mul, Nat.one_mul]]
    exact Nat.mul_le_mul_right _ (by omega)
  let p := ob + i * T.n + off
  have hpl : p + vs.length ≤ arr.size := by rw [hvl]; show ob + i * T.n + off + _ ≤ _; omega
  obtain ⟨⟨arr', g1, g2⟩, g3, g4, g5, g6, g7⟩ := setCells_facts vs w b p arr ty fz e3 hpl
  let w' := setCells w b p vs
  have hasz : arr'.size = arr.size := by
    have := congrArg List.length g2
    simp at this; omega
  have hget : ∀ q, arr'[q]? = if q < p then arr[q]? else if q < p + vs.length then vs[q - p]? else arr[q]? := fun q => by
    have := patch_get (l := arr.toList) (vs := vs) (p := p) (q := q) (by simpa using hpl)
    rw [← g2] at this
    simpa using this
  have hrun : (execOp ρ o).run P w = .ok .skip w' := by
    unfold execOp
    rw [ho]
    simp only
    unfold Instr.storeAt
    rw [hp]
    have hsa : (Instr.sureAddr (.pointer (some ⟨b, ob + i * T.n + off, none⟩))).run P w = .ok ⟨b, p, none⟩ w := rfl
    have hst : (storeVar t ⟨b, p, none⟩ (ρ x)).run P w = .ok () w' := by
      unfold storeVar
      rw [bind_ok (hΓ.size hti w)]
      have hsz2 : (ρ x).cells.size = ti.size := by rw [← hsz, ← hvl]; simp [vs]
      rw [if_neg (by omega)]
      have := run_storeCells (P := P) vs 0 w b p arr ty fz e3 (by simpa using hpl) ez hcells.one
      simpa using this
    rw [bind_ok ((bind_ok hsa).trans hst)]
    rfl
  have hbS : b ∈ (R id).S := by rw [e5]; simp
  have hSsub : ∀ y ∈ Ss.flatten, y ∈ (R id).S := fun y hy => by rw [e5]; exact List.mem_cons_of_mem _ hy
  have hcon_id : ∀ y ∈ blocks R con, y ∉ (R id).S := fun y hy hyi => by
    obtain ⟨j, hj, hjy⟩ := List.mem_flatMap.1 hy
    exact hs.dj j id (fun e => hidc (e ▸ hj)) y hjy hyi
  have hndS := hs.nd id
  rw [e5] at hndS
  obtain ⟨hbn, hSn⟩ := List.nodup_cons.1 hndS
  have hS'n : S'.Nodup := by
    show (if deep then blocks R con else []).Nodup
    cases deep with
    | true => simpa using blocks_nodup hs hcn
    | false => simp
  let R' : Nat → RV := updR (killR R con) id { R id with S := b :: (Ss.set i S').flatten }
  have hR'id : R' id = { R id with S := b :: (Ss.set i S').flatten } := updR_same _ _ _
  have hR'con : ∀ j, j ≠ id → j ∈ con → R' j = { R j with S := [] } := fun j hj hjc => by
    show updR _ _ _ j = _; rw [updR_other _ _ hj]; simp [killR, hjc]
  have hmemS : ∀ y, y ∈ b :: (Ss.set i S').flatten → y ∈ (R id).S ∨ y ∈ blocks R con := fun y hy => by
    rcases List.mem_cons.1 hy with e | hy
    · exact .inl (e ▸ hbS)
    · rcases mem_set_flatten hy with h | h
      · exact .inl (hSsub y h)
      · exact .inr (hS'sub y h)
  have hup := Sat.upd (F' := F') (R' := R') (w' := w') (rs' := updR (kill rsG con) id (.row deep T (List.set xs i y))) (new := fun _ => False) (M := fun j => j = id ∨ j ∈ con) hs
    (fun j hj => hj.elim)
    (fun j hj => by
      have h1 : j ≠ id := fun e => hj (.inl e)
      have h2 : j ∉ con := fun e => hj (.inr e)
      exact ⟨by rw [updR_other _ _ h1]; simp [kill, h2], by show updR _ _ _ j = _; rw [updR_other _ _ h1]; simp [killR, h2]⟩)
    (fun j hj _ => by
      by_cases hjd : j = id
      · rw [hjd, hR'id]; exact ⟨rfl, rfl⟩
      · rw [hR'con j hjd (hj.resolve_left hjd)]; exact ⟨rfl, rfl⟩)
    (fun j hj y hy => by
      by_cases hjd : j = id
      · rw [hjd, hR'id] at hy
        rcases hmemS y hy with h | h
        · exact .inl ⟨id, .inl rfl, h⟩
        · obtain ⟨q, hq, hqy⟩ := List.mem_flatMap.1 h
          exact .inl ⟨q, .inr hq, hqy⟩
      · rw [hR'con j hjd (hj.resolve_left hjd)] at hy; cases hy)
    (fun j hj => by
      by_cases hjd : j = id
      · rw [hjd, hR'id]
        refine List.nodup_cons.2 ⟨fun hb => ?_, nodup_set_flatten hS'n hSn fun y hy hm => hcon_id y (hS'sub y hy) (hSsub y hm)⟩
        rcases mem_set_flatten hb with h | h
        · exact hbn h
        · exact hcon_id b (hS'sub b h) hbS
      · rw [hR'con j hjd (hj.resolve_left hjd)]; exact List.nodup_nil)
    (fun p q hp hq hpq y hyp hyq => by
      by_cases hpd : p = id
      · have hqd : q ≠ id := fun e => hpq (hpd.trans e.symm)
        rw [hR'con q hqd (hq.resolve_left hqd)] at hyq; cases hyq
      · rw [hR'con p hpd (hp.resolve_left hpd)] at hyp; cases hyp)
    (fun b2 hb2 hS2 => g3 b2 fun e => hS2 id (.inl rfl) (e ▸ hbS))
    (fun _ hb => .inl hb)
    (fun b2 hb2 => by
      rcases hb2 with h1 | ⟨h1, h2⟩
      · exact .inl h1
      · obtain ⟨q, hq, hqy⟩ := List.mem_flatMap.1 h2
        refine .inr ⟨⟨q, .inr hq, hqy⟩, fun j hj hbj => ?_⟩
        by_cases hjd : j = id
        · rw [hjd, hR'id] at hbj
          rcases List.mem_cons.1 hbj with e | hbj
          · exact hcon_id b2 h2 (e ▸ hbS)
          · rcases mem_set_flatten hbj with h | h
            · exact hcon_id b2 h2 (hSsub b2 h)
            · have : b2 ∈ (if deep then blocks R con else []) := h
              rw [h1] at this; simp at this
        · rw [hR'con j hjd (hj.resolve_left hjd)] at hbj; cases hbj)
    (by rw [g4]; exact Nat.le_refl _) g5 g6 g7
    (fun hg hag j hj => by
      by_cases hjd : j = id
      · rw [hjd, updR_same, hR'id]
        refine ⟨hlive, by show (List.set xs i y).length ≤ cap; rw [List.length_set]; exact hcap, .inr ⟨b, ob, c', arr', ty, fz, Ss.set i S', ?_, ?_, g1, ?_, ?_, rfl, ?_, fun q u hq => ?_⟩⟩
        · show (R id).hdr = _; rw [e1]; show _ = Value.slice _ (List.set xs i y).length c'; rw [List.length_set]
        · show (List.set xs i y).length ≤ c'; rw [List.length_set]; exact e2
        · intro q hq; rw [hasz] at hq; exact ez q hq
        · rw [hasz]; exact e4
        · show (Ss.set i S').length = (List.set xs i y).length; rw [List.length_set, List.length_set]; exact e6
        · have hq : (List.set xs i y)[q]? = some u := hq
          have hqe : ∀ z, q * T.n + z = q * T.n + z := fun _ => rfl
          by_cases hqi : q = i
          · subst hqi
            have hu : u = y := by rw [List.getElem?_set_self hi] at hq; injection hq with hq; exact hq.symm
            subst hu
            refine ⟨cs.take off ++ vs ++ cs.drop (off + vs.length), ?_, ?_, fun z u hz => ?_⟩
            · simp [k1]; omega
            · have : (Ss.set q S').getD q [] = S' := by
                have : q < Ss.length := by rw [e6]; exact hi
                simp [List.getD_eq_getElem?_getD, this]
              rw [this]
              refine ElL.goes (fun _ h => h) (fun b2 hb2 => ?_) (fun b2 hb2 => g3 b2 fun e => hcon_id b2 (hS'sub b2 hb2) (e ▸ hbS)) hel
              refine g3 b2 fun e => ?_
              rcases hb2 with h1 | ⟨_, h2⟩
              · exact hs.nF id b2 (e ▸ hbS) h1
              · exact hcon_id b2 h2 (e ▸ hbS)
            · rw [patch_get (by rw [k1, hvl]; omega)] at hz
              rw [hget]
              by_cases z1 : z < off
              · rw [if_pos z1] at hz
                rw [if_pos (by show ob + q * T.n + z < ob + q * T.n + off; omega)]
                exact k3 z u hz
              · rw [if_neg z1] at hz
                rw [if_neg (by show ¬ ob + q * T.n + z < ob + q * T.n + off; omega)]
                by_cases z2 : z < off + vs.length
                · rw [if_pos z2] at hz
                  rw [if_pos (by show ob + q * T.n + z < ob + q * T.n + off + vs.length; omega)]
                  rw [show ob + q * T.n + z - p = z - off by show ob + q * T.n + z - (ob + q * T.n + off) = z - off; omega]
                  exact hz
                · rw [if_neg z2] at hz
                  rw [if_neg (by show ¬ ob + q * T.n + z < ob + q * T.n + off + vs.length; omega)]
                  exact k3 z u hz
          · rw [List.getElem?_set_ne (Ne.symm hqi)] at hq
            obtain ⟨cs2, m1, m2, m3⟩ := e7 q u hq
            refine ⟨cs2, m1, ?_, fun z u2 hz => ?_⟩
            · have hgq : (Ss.set i S').getD q [] = Ss.getD q [] := by
                simp only [List.getD_eq_getElem?_getD, List.getElem?_set_ne (Ne.symm hqi)]
              rw [hgq]
              refine ElL.goes (fun _ h => .inl h) (fun b2 hb2 => g3 b2 fun e => hs.nF id b2 (e ▸ hbS) hb2) (fun b2 hb2 => g3 b2 fun e => ?_) m2
              have hqS : q < Ss.length := by rw [e6]; exact (List.getElem?_eq_some_iff.1 hq).1
              refine hbn (e ▸ List.mem_flatten.2 ⟨Ss.getD q [], ?_, hb2⟩)
              rw [List.getD_eq_getElem?_getD, List.getElem?_eq_getElem hqS]; exact List.getElem_mem hqS
            · have hz2 := m3 z u2 hz
              have hzl : z < T.n := by rw [← m1]; exact (List.getElem?_eq_some_iff.1 hz).1
              rw [hget]
              rcases Nat.lt_or_gt_of_ne hqi with h1 | h1
              · have : q * T.n + T.n ≤ i * T.n := by
                  rw [show q * T.n + T.n = (q + 1) * T.n by rw [Nat.add_mul, Nat.one_mul]]
                  exact Nat.mul_le_mul_right _ h1
                rw [if_pos (by show ob + q * T.n + z < ob + i * T.n + off; omega)]
                exact hz2
              · have : i * T.n + T.n ≤ q * T.n := by
                  rw [show i * T.n + T.n = (i + 1) * T.n by rw [Nat.add_mul, Nat.one_mul]]
                  exact Nat.mul_le_mul_right _ h1
                rw [if_neg (by show ¬ ob + q * T.n + z < ob + i * T.n + off; omega), if_neg (by rw [hvl]; show ¬ ob + q * T.n + z < ob + i * T.n + off + v.cells.length; omega)]
                exact hz2
      · rw [updR_other _ _ hjd, hR'con j hjd (hj.resolve_left hjd)]
        simp only [kill, hj.resolve_left hjd, if_true]
        rfl)
  unfold Does
  rw [hrun]
  refine ⟨F', R', by rw [new_none]; exact hup.1, by rw [merge_kill_id]; exact hup.2, trivial⟩
end Go.Sx

namespace Go.Sx
open Go
variable {G : Gl}
set_option linter.unusedVariables false
set_option linter.unusedSimpArgs false

def minI (x y : Int) : Int := if y < x then y else x
def maxI (x y : Int) : Int := if y > x then y else x

def minK {α : Type} (mx : Bool) (x y : AV) (k : KQ α) : Option α :=
  match x, y with
  | .c (.l (.dat (.int a) n)), .c (.l (.dat (.int b) m)) => if a = b then k (dI a (cond mx (maxI n m) (minI n m))) [] else none
  | _, _ => none

theorem minK_ok {α : Type} {P : Program} {mx : Bool} {bt : Builtin} (hb : bt = cond mx .max .min) {x y : Operand} {ts : Array TypeId} {ρA : Operand → AV} {ty : TypeId} {rs : Rs} {k : KQ α} {r : α} (h : minK mx (ρA x) (ρA y) k = some r) :
    ∃ out ids, k out ids = some r ∧ Quiet G P (.call { callee := .builtin bt, args := #[x, y], argTypes := ts }) ty ρA rs out ids := by
  unfold minK at h
  split at h
  · rename_i a n b m hx hy
    split at h
    · rename_i hab
      subst hab
      refine ⟨_, _, h, fun F R w ρ hr hρ o ho hty => ?_⟩
      have h1 := hρ x
      have h2 := hρ y
      rw [hx] at h1
      rw [hy] at h2
      obtain ⟨p1, q1⟩ := VR_int h1
      obtain ⟨p2, q2⟩ := VR_int h2
      cases mx with
      | false =>
        refine ⟨.int a (minI n m), ?_, VR_int' ?_⟩
        · unfold execOp
          rw [ho, hb]
          simp only [resolve, invoke, builtin, cond]
          refine run_v ?_
          have hl : (Builtin.min_ ts o.type #[ρ x, ρ y]).run P w = .ok (.int a (minI n m)) w := by
            rw [p1, p2]
            rfl
          simpa using hl
        · show a.wrap (minI n m) = minI n m
          unfold minI; split <;> assumption
      | true =>
        refine ⟨.int a (maxI n m), ?_, VR_int' ?_⟩
        · unfold execOp
          rw [ho, hb]
          simp only [resolve, invoke, builtin, cond]
          refine run_v ?_
          have hl : (Builtin.max_ ts o.type #[ρ x, ρ y]).run P w = .ok (.int a (maxI n m)) w := by
            rw [p1, p2]
            rfl
          simpa using hl
        · show a.wrap (maxI n m) = maxI n m
          unfold maxI; split <;> assumption
    · cases h
  · cases h
end Go.Sx
