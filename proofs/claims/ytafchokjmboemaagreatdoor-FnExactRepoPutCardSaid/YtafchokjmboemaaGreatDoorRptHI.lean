/- A part of the pure law of FnExactRepoPut, over the printed functions: what they answer. No condition but those of each theorem. -/
import Derived.Test.YtafchokjmboemaaGreatDoorRptHF
import Derived.Test.YtafchokjmboemaaGreatDoorSxD
namespace Go.Sx.Tryz
open Go Go.Proofs Go.Sx
set_option linter.unusedVariables false
set_option linter.unusedSimpArgs false

theorem coms_in {xs : List Com} (h : Bnd (.list (.pair (.list (.int .i64)) (.pair (.str) (.list (.pair (.str) (.list (.str))))))) xs) : ComsIn xs := by
  refine ⟨h.1, fun c hc => ?_⟩
  obtain ⟨h1, h2, h3⟩ := h.2 c hc
  exact ⟨h1.1, h2, ⟨h3.1, fun f hf => (h3.2 f hf).1, fun f hf => (h3.2 f hf).2.1, fun f hf => (h3.2 f hf).2.2⟩⟩
theorem heads_in {hs : Heads} (h : Bnd (.list (.pair (.str) (.int .i64))) hs) : HeadsIn hs := ⟨h.1, fun x hx => (h.2 x hx).1⟩

theorem upped_c (xs : List Com) : List.map (fun z : Com => ((z.1, List.length z.1), z.2.1, (List.map (fun z18 => (z18.1, z18.2, (List.length z18.2))) z.2.2), (List.length z.2.2))) xs = xs.map upC := rfl
theorem handed_c {ys : List SCom} {n : Nat} {xs : List Com} (h : (ys.take n).map downC = xs) : List.map (fun z : SCom => ((List.take z.1.2 z.1.1), z.2.1, (List.map (fun z22 => (z22.1, (List.take z22.2.2 z22.2.1))) (List.take z.2.2.2 z.2.2.1)))) (List.take n ys) = xs := h
end Go.Sx.Tryz
