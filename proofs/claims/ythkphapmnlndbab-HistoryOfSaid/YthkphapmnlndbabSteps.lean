/- The steps of a region that draws its order, met by the walk's own simp. No program in sight. -/
import Derived.Test.YthkphapmnlndbabBoxes
namespace Go.Proofs.Ythkphapmnlndbab.Flow
open Go.RowKit

/-! ### The same steps, met by the walk's own simp: a world of the class is w0 with some draws and some blocks more -/
structure Rg where
  d : Nat
  os : Array Obj
instance : Inhabited Rg := ⟨⟨0, #[]⟩⟩
def rg (w : World) (p : Rg) : World := { w with drawn := p.d, heap := w.heap ++ p.os }
theorem rg_below (w : World) (p : Rg) : Below w.heap.size w (rg w p) := ⟨rfl, rfl, rfl, by simp [rg], fun k hk => by simp [rg, Array.getElem?_append, hk]⟩
theorem rg_of_below {w w' : World} (h : Below w.heap.size w w') : ∃ p : Rg, w' = rg w p := by
  refine ⟨⟨w'.drawn, w'.heap.extract w.heap.size w'.heap.size⟩, ?_⟩
  obtain ⟨heap', tape', drawn', os', output'⟩ := w'
  have e1 : os' = w.os := h.os
  have e2 : tape' = w.tape := h.tape
  have e3 : output' = w.output := h.output
  have hs : w.heap.size ≤ heap'.size := h.size
  have hb : ∀ k, k < w.heap.size → heap'[k]? = w.heap[k]? := h.block
  subst e1 e2 e3
  have eh : heap' = w.heap ++ heap'.extract w.heap.size heap'.size := by
    apply Array.ext_getElem?
    intro k
    by_cases hk : k < w.heap.size
    · rw [Array.getElem?_append_left hk]; exact hb k hk
    · rw [Array.getElem?_append_right (by omega), Array.getElem?_extract]
      by_cases hk2 : k < heap'.size
      · rw [if_pos (by omega)]; congr 1; omega
      · rw [if_neg (by omega), Array.getElem?_eq_none (by omega)]
  simp only [rg]
  congr 1
theorem Blk.rg {w : World} {g : Nat} {t : TypeId} {cs : Array Value} (h : Blk w g t cs) : ∀ (p : Rg) (i : Nat), (rg w p).cell? ⟨g, i, none⟩ = cs[i]? := fun p => (h.below (rg_below w p)).cell
def rStep (P : Program) (o : Oper) (a : Act) (w0 : World) (next : Act → Prop) : Prop := ∃ v, (∀ p : Rg, qUpon P (rg w0 p) v ((execOp a.eval o).run P (rg w0 p))) ∧ next (a.put o.dst v)
theorem wpSeg_step {P : Program} {ops : Array Oper} {w0 : World} {K : Act → Prop} {a : Act} {o : Oper} {rest : List Oper}
    (h : ∀ K' : Act → Prop, (∀ a, wpSeg P ops w0 [] K rest a → K' a) → if Region.wanted o (yielded ops a.tmps) then rStep P o a w0 K' else K' (a.put o.dst undef)) : wpSeg P ops w0 [] K (o :: rest) a := by
  have := h _ (fun _ h => h)
  unfold wpSeg
  split
  · rename_i hw
    rw [if_pos hw] at this
    obtain ⟨v, h1, h2⟩ := this
    refine ⟨v, fun w hw => ?_, h2⟩
    obtain ⟨p, rfl⟩ := rg_of_below hw.below
    exact h1 p
  · rename_i hw
    rw [if_neg hw] at this
    exact this
attribute [go_sem] rStep qUpon
end Go.Proofs.Ythkphapmnlndbab.Flow
