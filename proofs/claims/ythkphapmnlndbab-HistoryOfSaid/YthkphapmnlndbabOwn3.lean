/- An own row of calls put together out of pieces of another. -/
import Derived.Test.YthkphapmnlndbabQueue2
namespace Go.Proofs.Ythkphapmnlndbab
open Go.RowKit
theorem own_empty (w : World) (e : TypeId) (sz : Nat) : (w.alloc (.cells #[] e)).ownsRow w.heap.size e sz (.slice (some ⟨w.heap.size, 0, none⟩) 0 0) 0 [] := by
  refine ⟨by simp, .inr ⟨w.heap.size, 0, #[], rfl, Nat.le_refl _, ?_, Nat.le_refl _, Nat.zero_le _, by simp, by simp⟩⟩
  exact Flow.Blk.new _ _ _
theorem own_base {w : World} {b b' n : Nat} {e : TypeId} {sz : Nat} {v : Value} {x : List Value} (h : w.ownsRow b e sz v n x) (hb : b' ≤ b) : w.ownsRow b' e sz v n x := by
  refine ⟨h.1, ?_⟩
  rcases h.2 with h | ⟨g, cap, cur, h1, h2, h3⟩
  · exact .inl h
  · exact .inr ⟨g, cap, cur, h1, Nat.le_trans hb h2, h3⟩
theorem own_base_le {w : World} {b n : Nat} {e : TypeId} {sz : Nat} {v : Value} {x : List Value} (h : w.ownsRow b e sz v n x) : ∀ j, v.ownBlock = some j → b ≤ j := by
  intro j hj
  rcases h.2 with ⟨rfl, _⟩ | ⟨g, cap, cur, rfl, hb, _⟩
  · cases hj
  · simp only [Value.ownBlock, Option.some.injEq] at hj
    omega
/-- Rows k .. k + m of an own row l put behind another own row. -/
theorem append_piece {w : World} {base B n L g cp k m c : Nat} {v : Value} {l1 l : List Cl} (h : w.ownsRow base 125 8 v n (xsC l1)) (hs : w.ownsRow B 125 8 (.slice (some ⟨g, 0, none⟩) L cp) L (xsC l)) (hL : l.length = L) (hk : k + m ≤ L) (hsm : n + m ≤ 1000) (hb : base ≤ w.heap.size) :
    ∃ v' w', (Builtin.append_ #[133, 133] 133 #[v, .slice (some ⟨g, k * 8, none⟩) m c]).run Try.prog w = .ok v' w' ∧ w'.ownsRow base 125 8 v' (n + m) (xsC (l1 ++ (l.drop k).take m)) ∧ Flow.Chg (fun j => some j = v.ownBlock) w w' := by
  obtain ⟨i0, hi, hz0, hz1, hz2⟩ := info_parts info125
  have hcell := hs.cells (g := g) rfl
  have hx : xsC ((l.drop k).take m) = ((xsC l).drop (k * 8)).take (m * 8) := by
    clear hcell hs h
    subst hL
    induction k generalizing l with
    | zero =>
      simp only [List.drop_zero, Nat.zero_mul]
      induction m generalizing l with
      | zero => simp [xsC]
      | succ m ih =>
        cases l with
        | nil => simp [xsC]
        | cons d l =>
          have e : xsC (d :: l) = d.cells ++ xsC l := rfl
          rw [e, List.take_succ_cons, show (m + 1) * 8 = m * 8 + 8 by omega]
          have e2 : xsC (d :: l.take m) = d.cells ++ xsC (l.take m) := rfl
          rw [e2, ih (by rw [List.length_cons] at hk; omega) (by rw [List.length_cons] at hk; omega)]
          rw [show m * 8 + 8 = d.cells.length + m * 8 by simp [Cl.cells]; omega, List.take_length_add_append]
    | succ k ih =>
      cases l with
      | nil => simp [xsC]
      | cons d l =>
        have e : xsC (d :: l) = d.cells ++ xsC l := rfl
        rw [e, List.drop_succ_cons, show (k + 1) * 8 = d.cells.length + k * 8 by simp [Cl.cells]; omega, List.drop_length_add_append]
        exact ih (by rw [List.length_cons] at hk; omega)
  have hlen : (xsC ((l.drop k).take m)).length = m * 8 := by
    have e : ((l.drop k).take m).length = m := by rw [List.length_take, List.length_drop]; omega
    rw [xsC_length, e]
  obtain ⟨v', w', hr, ho, hg, _⟩ := run_append_own (P := Try.prog) w base 133 133 125 i0 _ 8 72 Try.underlying133 hi hz0 hz1 hz2 rfl (by decide) v n _ h ⟨g, k * 8, none⟩ m c (xsC ((l.drop k).take m)) hlen (fun j u hu => by
    rw [hx, List.getElem?_take] at hu
    split at hu
    · rw [List.getElem?_drop] at hu
      have := hcell _ u hu
      rw [Flow.add_at] at this ⊢
      simpa using this
    · cases hu) (xsC_one _) (by unfold maxLen; omega) (by omega) hb
  refine ⟨v', w', hr, ?_, Flow.Chg.of_grown hg⟩
  have e : xsC (l1 ++ (l.drop k).take m) = xsC l1 ++ xsC ((l.drop k).take m) := by simp [xsC]
  rw [e]
  exact ho
end Go.Proofs.Ythkphapmnlndbab
