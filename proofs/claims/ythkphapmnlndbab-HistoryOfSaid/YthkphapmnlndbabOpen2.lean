/- A nil slice that came in has no capacity. No program in sight. -/
import Derived.Test.YthkphapmnlndbabOpen
namespace Go.Proofs.Ythkphapmnlndbab.Open
open Go.ChangeShapes Go.WideShapes Go.ChangeAt Go.RowKit Go.Deep
theorem open_none {H : Type} {enc : TypeId × Value → H} {P : Program} {w : World} {base : Nat} {spare : Nat → Bool} {held : Bool} {t e : TypeId} {n c : Nat} {d : DataW H} {p : List MemPlace} (ht : P.underlying t = some (.slice e))
    (h : DataW.Trod enc P w base spare held t (.slice none n c) d p) : n = 0 ∧ c = 0 := by
  obtain ⟨fuel, hf⟩ := h
  have hf' : DataW.trod enc P w base spare held fuel t [.slice none n c] = some (d, p) := by simpa [Value.cells] using hf
  rcases open_slice ht hf' with ⟨hcs, _⟩ | ⟨a, len, cap, m, n', D, Pl, hcs, _⟩
  · simp only [List.cons.injEq, and_true, Value.slice.injEq, true_and] at hcs
    exact hcs
  · simp at hcs
end Go.Proofs.Ythkphapmnlndbab.Open
