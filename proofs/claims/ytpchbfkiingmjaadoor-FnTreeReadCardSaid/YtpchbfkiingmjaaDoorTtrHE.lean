/- A part of the pure law of FnTreeRead, over the printed functions: what they answer. No condition but those of each theorem. -/
import Derived.Test.YtpchbfkiingmjaaDoorTtrHD
namespace Go.Sx.Tryd
open Go Go.Proofs Go.Sx
theorem mem_getD {α : Type} {l : List α} {i : Nat} {z : α} (h : i < l.length) : l.getD i z ∈ l := by
  rw [List.getD_eq_getElem?_getD, List.getElem?_eq_getElem h]; exact List.getElem_mem h
abbrev STree := List (ByteArray × (List ByteArray × Nat))
abbrev gz : ByteArray × (List ByteArray × Nat) := (ByteArray.empty, ([] : List ByteArray), (0 : Nat))
def up1 (f : ByteArray × List ByteArray) : ByteArray × (List ByteArray × Nat) := (f.1, f.2, f.2.length)
def down1 (z : ByteArray × (List ByteArray × Nat)) : ByteArray × List ByteArray := (z.1, List.take z.2.2 z.2.1)
theorem down_up (t : Tree) : (t.map up1).map down1 = t := by
  induction t with
  | nil => rfl
  | cons f t ih => rw [List.map_cons, List.map_cons, ih]; show (f.1, List.take f.2.length f.2) :: t = _; rw [List.take_length]
end Go.Sx.Tryd
