/- What has turned between two worlds: new blocks, and old ones of a given kind. No program in sight. -/
import Derived.Test.YthkphapmnlndbabSteps
import Derived.Maps.Own
import Derived.Maps.OwnOps
namespace Go.Proofs.Ythkphapmnlndbab
open Go.RowKit
namespace Flow

/-- w' is w with new blocks; of the old ones only those that S names may have turned. -/
structure Chg (S : Nat → Prop) (w w' : World) : Prop where
  os : w'.os = w.os
  tape : w'.tape = w.tape
  output : w'.output = w.output
  size : w.heap.size ≤ w'.heap.size
  block : ∀ k, k < w.heap.size → ¬ S k → w'.heap[k]? = w.heap[k]?
abbrev Same := Chg (fun _ => False)
section
variable {S T : Nat → Prop} {a b c w w' : World} {g : Nat}
theorem Chg.refl (S : Nat → Prop) (w : World) : Chg S w w := ⟨rfl, rfl, rfl, Nat.le_refl _, fun _ _ _ => rfl⟩
theorem Chg.trans (h : Chg S a b) (k : Chg T b c) (hs : ∀ j, j < a.heap.size → T j → S j) : Chg S a c :=
  ⟨k.os.trans h.os, k.tape.trans h.tape, k.output.trans h.output, Nat.le_trans h.size k.size, fun j hj hn => (k.block j (Nat.lt_of_lt_of_le hj h.size) (fun t => hn (hs j hj t))).trans (h.block j hj hn)⟩
theorem Chg.mono (h : Chg S a b) (hs : ∀ j, j < a.heap.size → S j → T j) : Chg T a b := ⟨h.os, h.tape, h.output, h.size, fun j hj hn => h.block j hj (fun s => hn (hs j hj s))⟩
theorem Chg.of_grown {row : Option Nat} (h : w.grownBy w' row) : Chg (fun k => some k = row) w w' := ⟨h.os, h.tape, h.output, h.size, fun k hk hn => h.block k hk hn⟩
theorem Chg.of_grown1 (h : w.grownBy w' (some g)) : Chg (· = g) w w' := ⟨h.os, h.tape, h.output, h.size, fun k hk hn => h.block k hk (fun e => hn (Option.some.inj e))⟩
theorem Chg.of_grown0 (h : w.grownBy w' none) : Same w w' := ⟨h.os, h.tape, h.output, h.size, fun k hk _ => h.block k hk (by simp)⟩
theorem Chg.of_below (h : Below w.heap.size w w') : Same w w' := ⟨h.os, h.tape, h.output, h.size, fun k hk _ => h.block k hk⟩
theorem Chg.grown1 (h : Chg (· = g) w w') : w.grownBy w' (some g) := ⟨h.os, h.tape, h.output, h.size, fun k hk hn => h.block k hk (fun e => hn (by rw [e]))⟩
theorem Chg.grown0 (h : Same w w') (row : Option Nat) : w.grownBy w' row := ⟨h.os, h.tape, h.output, h.size, fun k hk _ => h.block k hk (fun e => e)⟩
theorem Chg.below {B : Nat} (h : Chg S w w') (hs : ∀ j, j < w.heap.size → S j → B ≤ j) (hB : B ≤ w.heap.size) : Below B w w' :=
  ⟨h.os, h.tape, h.output, h.size, fun k hk => h.block k (by omega) (fun s => by have := hs k (by omega) s; omega)⟩
theorem Chg.same (h : Same w w') : Below w.heap.size w w' := h.below (fun _ _ e => e.elim) (Nat.le_refl _)
theorem Chg.alloc (h : Chg S a b) (o : Obj) : Chg S a (b.alloc o) := h.trans (Chg.of_below (below_alloc b o)) (fun _ _ e => e.elim)
theorem Chg.drew (h : Chg S a b) : Chg S a b.drew := ⟨h.os, h.tape, h.output, h.size, h.block⟩
theorem Chg.setCell (h : Chg S a b) {p : Addr} (hp : p.block < a.heap.size → S p.block) (u : Value) : Chg S a (b.setCell p u) :=
  ⟨h.os, h.tape, h.output, by rw [World.size_setCell]; exact h.size, fun k hk hn => (Below.heap_setCell b p u k (fun e => hn (by subst e; exact hp hk))).trans (h.block k hk hn)⟩
theorem Chg.setAt (w : World) (g o : Nat) (u : Value) : Chg (· = g) w (w.setCell ⟨g, o, none⟩ u) := (Chg.refl (· = g) w).setCell (p := ⟨g, o, none⟩) (fun _ => rfl) u
theorem Chg.lt (h : Chg S w w') {k : Nat} (hk : k < w.heap.size) : k < w'.heap.size := Nat.lt_of_lt_of_le hk h.size
variable {t : TypeId} {cs : Array Value}
theorem Blk.chg (h : Blk w g t cs) (hc : Chg S w w') (hg : ¬ S g) : Blk w' g t cs := (hc.block g h.lt hg).trans h
theorem Blk.chg0 (h : Blk w g t cs) (hc : Same w w') : Blk w' g t cs := h.chg hc (fun e => e)
end
/-- An own row is kept. -/
theorem ownsRow_chg {S : Nat → Prop} {w w' : World} {base : Nat} {e : TypeId} {size : Nat} {v : Value} {n : Nat} {xs : List Value} (h : w.ownsRow base e size v n xs) (hc : Chg S w w') (hn : ∀ g, v.ownBlock = some g → ¬ S g) : w'.ownsRow base e size v n xs := by
  refine ⟨h.1, ?_⟩
  rcases h.2 with ⟨rfl, rfl⟩ | ⟨g, cap, cur, rfl, hb, hg, r⟩
  · exact .inl ⟨rfl, rfl⟩
  · refine .inr ⟨g, cap, cur, rfl, hb, ?_, r⟩
    have hlt : g < w.heap.size := by
      rcases Nat.lt_or_ge g w.heap.size with hl | hg'
      · exact hl
      · rw [Array.getElem?_eq_none hg'] at hg; cases hg
    rw [hc.block g hlt (hn g rfl)]
    exact hg
theorem ownsRow_base {w : World} {base base' : Nat} {e : TypeId} {size : Nat} {v : Value} {n : Nat} {xs : List Value} (h : w.ownsRow base e size v n xs) (hb : base' ≤ base) : w.ownsRow base' e size v n xs := by
  refine ⟨h.1, ?_⟩
  rcases h.2 with r | ⟨g, cap, cur, rfl, hb', r⟩
  · exact .inl r
  · exact .inr ⟨g, cap, cur, rfl, by omega, r⟩
/-- A row that is not empty has an address. -/
theorem ownsRow_at {w : World} {base : Nat} {e : TypeId} {size : Nat} {v : Value} {n : Nat} {xs : List Value} (h : w.ownsRow base e size v n xs) (hn : 0 < n) :
    ∃ g cap, v = .slice (some ⟨g, 0, none⟩) n cap ∧ base ≤ g ∧ g < w.heap.size ∧ n ≤ cap ∧ (∀ j, j < n * size → w.cell? ⟨g, j, none⟩ = xs[j]?) ∧ ∀ j, w.frozen? ⟨g, j, none⟩ = false := by
  have h' := h
  rcases h.2 with ⟨rfl, rfl⟩ | ⟨g, cap, cur, rfl, hb, hg, hnc, _⟩
  · omega
  · exact ⟨g, cap, rfl, hb, (h'.lt g rfl).2, hnc, fun j hj => h'.cellAt j hj, fun j => h'.frozenAt j⟩
/-- .. whatever its length. -/
theorem ownsRow_form {w : World} {base : Nat} {e : TypeId} {size : Nat} {v : Value} {n : Nat} {xs : List Value} (h : w.ownsRow base e size v n xs) :
    ∃ A cap, v = .slice A n cap ∧ n ≤ cap ∧ cap ≤ maxLen := by
  rcases h.2 with ⟨rfl, rfl⟩ | ⟨g, cap, cur, rfl, hb, hg, hnc, hcm, _⟩
  · exact ⟨none, 0, rfl, Nat.le_refl _, Nat.zero_le _⟩
  · exact ⟨some ⟨g, 0, none⟩, cap, rfl, hnc, hcm⟩
end Flow
end Go.Proofs.Ythkphapmnlndbab
