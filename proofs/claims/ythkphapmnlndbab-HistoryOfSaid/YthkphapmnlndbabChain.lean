/- A region that draws its order: some quiet operations, and behind them a chain of others, each forced. No program in sight. -/
import Derived.Test.YthkphapmnlndbabGen
namespace Go.Proofs.Ythkphapmnlndbab.Flow
open Go.RowKit
section
variable {P : Program} {ops : Array Oper} {md : Region.Mode} {k : Nat} {CS CW : World → Prop}
/-- Operations one behind the other; behind each the world may grow. -/
def wpT (P : Program) (ops : Array Oper) (CW : World → Prop) (Q : Act → World → Prop) : List Oper → Act → World → Prop
  | [], a, w => Q a w
  | o :: rest, a, w => if Region.wanted o (yielded ops a.tmps) then nUpon P (fun u w1 => CW w1 ∧ ∀ w2, Below w1.heap.size w1 w2 → wpT P ops CW Q rest (a.put o.dst u) w2) ((execOp a.eval o).run P w) else wpT P ops CW Q rest (a.put o.dst undef) w
theorem wpT_on {Q : Act → World → Prop} {o : Oper} {rest : List Oper} {a : Act} {w : World} (hw : Region.wanted o (yielded ops a.tmps) = true)
    (h : nUpon P (fun u w1 => CW w1 ∧ ∀ w2, Below w1.heap.size w1 w2 → wpT P ops CW Q rest (a.put o.dst u) w2) ((execOp a.eval o).run P w)) : wpT P ops CW Q (o :: rest) a w := by
  unfold wpT; rw [if_pos hw]; exact h
theorem wpT_off {Q : Act → World → Prop} {o : Oper} {rest : List Oper} {a : Act} {w : World} (hw : Region.wanted o (yielded ops a.tmps) = false)
    (h : wpT P ops CW Q rest (a.put o.dst undef) w) : wpT P ops CW Q (o :: rest) a w := by
  unfold wpT; rw [if_neg (by rw [hw]; decide)]; exact h
theorem wpT_nil {Q : Act → World → Prop} {a : Act} {w : World} (h : Q a w) : wpT P ops CW Q [] a w := by unfold wpT; exact h
def tailB (md : Region.Mode) (ops : Array Oper) : List Nat → Array Bool → Bool
  | [], listed => Region.ready md ops listed == []
  | i :: ts, listed => Region.ready md ops listed == [i] && (ops[i]?).isSome && tailB md ops ts (listed.setIfInBounds i true)
theorem wpG_tail {L : List Oper} {Q : Act → World → Prop} (hW : ∀ w w', CW w → Below w.heap.size w w' → CW w') : ∀ (ts : List Nat) (listed : Array Bool) (a : Act) (w : World),
    tailB md L.toArray ts listed = true → (CS = CW ∨ cl k listed = true ∨ ts.head? = some k) → (ts.head? = some k → k < listed.size) → CW w → (∀ w', Below w.heap.size w w' → wpT P L.toArray CW Q (pickOps L ts) a w') →
    wpG P md L.toArray k (two CS CW) Q ts.length listed a (fun w' => Below w.heap.size w w')
  | [], listed, a, w, hB, _, _, _, h => by
    refine ⟨by simpa [tailB] using hB, fun w' hw' => ?_⟩
    have := h w' hw'
    unfold pickOps wpT at this
    exact this
  | i :: ts, listed, a, w, hB, hcl, hki, hCw, h => by
    simp only [tailB, Bool.and_eq_true, beq_iff_eq] at hB
    obtain ⟨⟨hr, hs⟩, hB'⟩ := hB
    obtain ⟨o, ho⟩ := Option.isSome_iff_exists.1 hs
    have hoL : L[i]? = some o := by simpa using ho
    have hcls : two CS CW (cl k (listed.setIfInBounds i true)) = CW := by
      rcases hcl with rfl | hc | hc
      · cases cl k (listed.setIfInBounds i true) <;> rfl
      · have : cl k (listed.setIfInBounds i true) = true := getD_up hc
        rw [this]; rfl
      · have hik : i = k := by simpa using hc
        subst hik
        have hlt := hki (by simp)
        have : cl i (listed.setIfInBounds i true) = true := by unfold cl; simp [hlt]
        rw [this]; rfl
    have hcl' : CS = CW ∨ cl k (listed.setIfInBounds i true) = true ∨ ts.head? = some k := by
      rcases hcl with h0 | hc | hc
      · exact .inl h0
      · exact .inr (.inl (getD_up hc))
      · have hik : i = k := by simpa using hc
        subst hik
        have hlt := hki (by simp)
        exact .inr (.inl (by unfold cl; simp [hlt]))
    have hki' : ts.head? = some k → k < (listed.setIfInBounds i true).size := fun hc => by
      have hilt : k < L.toArray.size := by
        cases ts with
        | nil => simp at hc
        | cons j ts =>
          simp at hc
          subst hc
          simp only [tailB, Bool.and_eq_true] at hB'
          obtain ⟨o', ho'⟩ := Option.isSome_iff_exists.1 hB'.1.2
          exact (Array.getElem?_eq_some_iff.1 ho').1
      cases ts with
      | nil => simp at hc
      | cons j ts =>
        simp at hc
        subst hc
        simp only [tailB, Bool.and_eq_true, beq_iff_eq] at hB'
        have hm : j ∈ Region.ready md L.toArray (listed.setIfInBounds i true) := by rw [hB'.1.1]; simp
        have h0 := (mem_ready.1 hm).1
        rcases Nat.lt_or_ge j (listed.setIfInBounds i true).size with h' | h'
        · exact h'
        · rw [Array.getD_eq_getD_getElem?, Array.getElem?_eq_none h'] at h0
          cases h0
    have hpick : pickOps L (i :: ts) = o :: pickOps L ts := by simp [pickOps, hoL]
    rw [hpick] at h
    have goodN : ∀ w1, CW w1 → Good (two CS CW (cl k (listed.setIfInBounds i true))) (fun w' => Below w1.heap.size w1 w') := fun w1 h1 => by
      rw [hcls]
      exact ⟨fun w' hw' => hW w1 w' h1 hw', fun w' w'' h' hb => h'.trans (hb.mono h'.size)⟩
    refine ⟨fun h0 => (by rw [hr] at h0; cases h0), fun j hj => ?_⟩
    rw [hr] at hj
    simp at hj
    subst hj
    unfold gOp
    simp only [ho]
    split
    · rename_i hw
      refine .inr fun w' hw' => ?_
      have h1 := h w' hw'
      unfold wpT at h1
      rw [if_pos hw] at h1
      exact nUpon_mono (fun u w1 ⟨c1, h2⟩ => ⟨fun w'' => Below w1.heap.size w1 w'', goodN w1 c1, Below.refl _ _, wpG_tail hW ts _ _ w1 hB' hcl' hki' c1 h2⟩) h1
    · rename_i hw
      refine ⟨fun w' => Below w.heap.size w w', goodN w hCw, fun _ h => h, wpG_tail hW ts _ _ w hB' hcl' hki' hCw (fun w' hw' => ?_)⟩
      have h1 := h w' hw'
      unfold wpT at h1
      rw [if_neg hw] at h1
      exact h1
def chainB (k : Nat) (L : List Oper) (ks ts : List Nat) : Bool :=
  Region.noSelect L.toArray && (closedB .any L.toArray (Array.replicate L.length false) && ((ks.map (fun i => (L[i]?).isSome && i != k)).all id && segB .any L.toArray ks (Array.replicate L.length false))) &&
    tailB .any L.toArray ts (listing ks (Array.replicate L.length false)) && decide (L.length = ks.length + ts.length)
theorem wp_region_chain {id : Nat} {L : List Oper} {Q : Exit → Act → World → Prop} {a : Act} {w : World} (k : Nat) (CS CW : World → Prop) (ks ts : List Nat) (hm : P.follows .mixedOrders = true)
    (hB : chainB k L ks ts = true) (hcl : CS = CW ∨ (ts.head? = some k ∧ k < L.length)) (hS : ∀ w', Below w.heap.size w w' → CS w') (hsub : ∀ w, CS w → CW w) (hW : ∀ w w', CW w → Below w.heap.size w w' → CW w')
    (h : wpS P .any L.toArray k (two CS CW) (fun a' => ∀ w', Below w.heap.size w w' → wpT P L.toArray CW (fun a w => Q .normal a w) (pickOps L ts) a' w') (pickIdx L ks) a) : (Code.region id L.toArray true).wp P Q a w := by
  unfold chainB at hB
  rw [Bool.and_eq_true, Bool.and_eq_true, decide_eq_true_eq] at hB
  obtain ⟨⟨hB1, hB2⟩, hB3⟩ := hB
  have hsz : ∀ (ks : List Nat) (l : Array Bool), (listing ks l).size = l.size := fun ks l => by
    induction ks generalizing l with
    | nil => rfl
    | cons i ks ih => simp only [listing]; rw [ih]; simp
  have hc0 : cl k (Array.replicate L.length false) = false := by
    unfold cl
    rcases Nat.lt_or_ge k L.length with h | h
    · simp [h]
    · simp [h]
  have goodS : Good CS (fun w' => Below w.heap.size w w') := ⟨hS, fun w' w'' h' hb => h'.trans (hb.mono h'.size)⟩
  refine wp_region_gen k (two CS CW) (fun w' => Below w.heap.size w w') goodS (fun _ h => h) hm L.length rfl ?_
  refine wpG_seg ks ts.length hB3 hB1 (fun w h => hsub w h) (by rw [hc0]; exact goodS) ?_
  have conv : ∀ (l : List (Nat × Oper)) (a : Act) (K K' : Act → Prop), (∀ a, K a → K' a) → wpS P .any L.toArray k (two CS CW) K l a → wpS P .any L.toArray k (two CS CW) K' l a := by
    intro l
    induction l with
    | nil => intro a K K' hk h; exact hk _ h
    | cons p l ih =>
      intro a K K' hk h
      obtain ⟨i, o⟩ := p
      unfold wpS at h ⊢
      split
      · rename_i hw
        rw [if_pos hw] at h
        obtain ⟨v, h1, h2⟩ := h
        exact ⟨v, h1, ih _ _ _ hk h2⟩
      · rename_i hw
        rw [if_neg hw] at h
        exact ih _ _ _ hk h
  refine conv _ _ _ _ (fun a' ha => ?_) h
  refine wpG_tail hW ts _ a' w hB2 ?_ ?_ (hsub _ (hS _ (Below.refl _ _))) ha
  · rcases hcl with h | ⟨h, _⟩
    · exact .inl h
    · exact .inr (.inr h)
  · intro h
    rw [hsz]
    rcases hcl with h' | ⟨_, h'⟩
    · have : L.toArray[k]? ≠ none := by
        cases ts with
        | nil => simp at h
        | cons j ts =>
          simp at h
          subst h
          simp only [tailB, Bool.and_eq_true] at hB2
          intro h0
          rw [h0] at hB2
          simp at hB2
      rcases Nat.lt_or_ge k L.length with h1 | h1
      · simpa using h1
      · exact absurd (by simp [h1]) this
    · simpa using h'
theorem nUpon_append {o : Oper} {a : Act} {w w' : World} {K : Value → World → Prop} (s x : Operand) (t : TypeId) (ho : o.op = .call { callee := .builtin .append, args := #[s, x], argTypes := #[t, t] })
    {v v2 v' : Value} (hs : a.eval s = v) (hx : a.eval x = v2) (hr : (Builtin.append_ #[t, t] o.type #[v, v2]).run P w = .ok v' w') (h : K v' w') : nUpon P K ((execOp a.eval o).run P w) := by
  simp only [execOp, ho, resolve, invoke, builtin, Sem.run_bind, Sem.run_pure, Result.andThen_ok, List.map_toArray, List.map_cons, List.map_nil, hs, hx, hr]
  exact h
theorem wpList_append_run {rest : List Oper} {o : Oper} {a : Act} {w w' : World} {Q : Exit → Act → World → Prop} (s x : Operand) (t : TypeId) (hw : Region.wanted o (yielded ops a.tmps) = true) (ho : o.op = .call { callee := .builtin .append, args := #[s, x], argTypes := #[t, t] })
    {v v2 v' : Value} (hs : a.eval s = v) (hx : a.eval x = v2) (hr : (Builtin.append_ #[t, t] o.type #[v, v2]).run P w = .ok v' w') (h : wpList P ops Q rest (a.put o.dst v') w') : wpList P ops Q (o :: rest) a w := by
  refine wpList_step fun K hK => ?_
  rw [if_pos hw]
  unfold Oper.wp
  simp only [execOp, ho, resolve, invoke, builtin, Sem.run_bind, Sem.run_pure, Result.andThen_ok, List.map_toArray, List.map_cons, List.map_nil, hs, hx, hr]
  exact hK _ _ h
/-! ### The same with a switch of classes at operation k -/
def wpK (P : Program) (ops : Array Oper) (k : Nat) (CS CW : World → Prop) (Q : Act → World → Prop) : List (Nat × Oper) → Bool → Act → World → Prop
  | [], _, a, w => Q a w
  | (i, o) :: rest, b, a, w => if Region.wanted o (yielded ops a.tmps) then nUpon P (fun u w1 => two CS CW (b || i == k) w1 ∧ ∀ w2, Below w1.heap.size w1 w2 → wpK P ops k CS CW Q rest (b || i == k) (a.put o.dst u) w2) ((execOp a.eval o).run P w)
      else wpK P ops k CS CW Q rest (b || i == k) (a.put o.dst undef) w
theorem wpK_nil {Q : Act → World → Prop} {b : Bool} {a : Act} {w : World} (h : Q a w) : wpK P ops k CS CW Q [] b a w := by unfold wpK; exact h
/-- ahead of the switch -/
theorem wpK_pre {Q : Act → World → Prop} {i : Nat} {o : Oper} {rest : List (Nat × Oper)} {a : Act} {w : World} (hi : (i == k) = false) (hw : Region.wanted o (yielded ops a.tmps) = true)
    (h : nUpon P (fun u w1 => CS w1 ∧ ∀ w2, Below w1.heap.size w1 w2 → wpK P ops k CS CW Q rest false (a.put o.dst u) w2) ((execOp a.eval o).run P w)) : wpK P ops k CS CW Q ((i, o) :: rest) false a w := by
  unfold wpK; rw [if_pos hw, hi]; exact h
/-- the switch -/
theorem wpK_at {Q : Act → World → Prop} {i : Nat} {o : Oper} {rest : List (Nat × Oper)} {a : Act} {w : World} (hi : (i == k) = true) (hw : Region.wanted o (yielded ops a.tmps) = true)
    (h : nUpon P (fun u w1 => CW w1 ∧ ∀ w2, Below w1.heap.size w1 w2 → wpK P ops k CS CW Q rest true (a.put o.dst u) w2) ((execOp a.eval o).run P w)) : wpK P ops k CS CW Q ((i, o) :: rest) false a w := by
  unfold wpK; rw [if_pos hw, hi]; exact h
/-- behind it -/
theorem wpK_post {Q : Act → World → Prop} {i : Nat} {o : Oper} {rest : List (Nat × Oper)} {a : Act} {w : World} (hw : Region.wanted o (yielded ops a.tmps) = true)
    (h : nUpon P (fun u w1 => CW w1 ∧ ∀ w2, Below w1.heap.size w1 w2 → wpK P ops k CS CW Q rest true (a.put o.dst u) w2) ((execOp a.eval o).run P w)) : wpK P ops k CS CW Q ((i, o) :: rest) true a w := by
  unfold wpK; rw [if_pos hw]; simp only [Bool.true_or]; exact h
theorem wpK_off {Q : Act → World → Prop} {i : Nat} {o : Oper} {rest : List (Nat × Oper)} {b : Bool} {a : Act} {w : World} (hw : Region.wanted o (yielded ops a.tmps) = false)
    (h : wpK P ops k CS CW Q rest (b || i == k) (a.put o.dst undef) w) : wpK P ops k CS CW Q ((i, o) :: rest) b a w := by
  unfold wpK; rw [if_neg (by rw [hw]; decide)]; exact h
theorem wpG_tailK {L : List Oper} {Q : Act → World → Prop} (hcS : ∀ w w', CS w → Below w.heap.size w w' → CS w') (hcW : ∀ w w', CW w → Below w.heap.size w w' → CW w') (hsub : ∀ w, CS w → CW w) : ∀ (ts : List Nat) (listed : Array Bool) (a : Act) (w : World),
    tailB md L.toArray ts listed = true → listed.size = L.length → two CS CW (cl k listed) w → (∀ w', Below w.heap.size w w' → wpK P L.toArray k CS CW Q (pickIdx L ts) (cl k listed) a w') →
    wpG P md L.toArray k (two CS CW) Q ts.length listed a (fun w' => Below w.heap.size w w')
  | [], listed, a, w, hB, _, _, h => by
    refine ⟨by simpa [tailB] using hB, fun w' hw' => ?_⟩
    have := h w' hw'
    unfold pickIdx wpK at this
    exact this
  | i :: ts, listed, a, w, hB, hsz, hCw, h => by
    simp only [tailB, Bool.and_eq_true, beq_iff_eq] at hB
    obtain ⟨⟨hr, hs⟩, hB'⟩ := hB
    obtain ⟨o, ho⟩ := Option.isSome_iff_exists.1 hs
    have hoL : L[i]? = some o := by simpa using ho
    have hil : i < L.length := (List.getElem?_eq_some_iff.1 hoL).1
    have hcl : cl k (listed.setIfInBounds i true) = (cl k listed || i == k) := by
      by_cases hik : i = k
      · subst hik
        unfold cl
        simp [hsz, hil]
      · rw [cl_set hik]
        simp [hik]
    have hpick : pickIdx L (i :: ts) = (i, o) :: pickIdx L ts := by simp [pickIdx, hoL]
    rw [hpick] at h
    have hc2 : ∀ b w1 w2, two CS CW b w1 → Below w1.heap.size w1 w2 → two CS CW b w2 := fun b => by cases b; exact hcS; exact hcW
    have goodN : ∀ b w1, two CS CW b w1 → Good (two CS CW b) (fun w' => Below w1.heap.size w1 w') := fun b w1 h1 => ⟨fun w' hw' => hc2 b w1 w' h1 hw', fun w' w'' h' hb => h'.trans (hb.mono h'.size)⟩
    refine ⟨fun h0 => (by rw [hr] at h0; cases h0), fun j hj => ?_⟩
    rw [hr] at hj
    simp at hj
    subst hj
    unfold gOp
    simp only [ho]
    rw [hcl]
    split
    · rename_i hw
      refine .inr fun w' hw' => ?_
      have h1 := h w' hw'
      unfold wpK at h1
      rw [if_pos hw] at h1
      exact nUpon_mono (fun u w1 ⟨c1, h2⟩ => ⟨fun w'' => Below w1.heap.size w1 w'', goodN _ w1 c1, Below.refl _ _, wpG_tailK hcS hcW hsub ts _ _ w1 hB' (by simpa using hsz) (by rw [hcl]; exact c1) (by rw [hcl]; exact h2)⟩) h1
    · rename_i hw
      have hCw' : two CS CW (cl k listed || j == k) w := by
        rcases hb : (cl k listed) with _ | _
        · rw [hb] at hCw
          rcases hb2 : (j == k) with _ | _
          · exact hCw
          · exact hsub w hCw
        · rw [hb] at hCw
          exact hCw
      refine ⟨fun w' => Below w.heap.size w w', goodN _ w hCw', fun _ h => h, wpG_tailK hcS hcW hsub ts _ _ w hB' (by simpa using hsz) (by rw [hcl]; exact hCw') (fun w' hw' => ?_)⟩
      have h1 := h w' hw'
      unfold wpK at h1
      rw [if_neg hw] at h1
      rw [hcl]
      exact h1
theorem wp_region_switch {id : Nat} {L : List Oper} {Q : Exit → Act → World → Prop} {a : Act} {w : World} (k : Nat) (CS CW : World → Prop) (ks ts : List Nat) (hm : P.follows .mixedOrders = true)
    (hB : chainB k L ks ts = true) (hS : ∀ w', Below w.heap.size w w' → CS w') (hsub : ∀ w, CS w → CW w) (hcS : ∀ w w', CS w → Below w.heap.size w w' → CS w') (hcW : ∀ w w', CW w → Below w.heap.size w w' → CW w')
    (h : wpS P .any L.toArray k (two CS CW) (fun a' => ∀ w', Below w.heap.size w w' → wpK P L.toArray k CS CW (fun a w => Q .normal a w) (pickIdx L ts) false a' w') (pickIdx L ks) a) : (Code.region id L.toArray true).wp P Q a w := by
  unfold chainB at hB
  rw [Bool.and_eq_true, Bool.and_eq_true, decide_eq_true_eq] at hB
  obtain ⟨⟨hB1, hB2⟩, hB3⟩ := hB
  have hsz : ∀ (ks : List Nat) (l : Array Bool), (listing ks l).size = l.size := fun ks l => by
    induction ks generalizing l with
    | nil => rfl
    | cons i ks ih => simp only [listing]; rw [ih]; simp
  have hc0 : cl k (Array.replicate L.length false) = false := by
    unfold cl
    rcases Nat.lt_or_ge k L.length with h | h
    · simp [h]
    · simp [h]
  have goodS : Good CS (fun w' => Below w.heap.size w w') := ⟨hS, fun w' w'' h' hb => h'.trans (hb.mono h'.size)⟩
  have hB1' := hB1
  simp only [Bool.and_eq_true] at hB1'
  have hck : ∀ (l : Array Bool) (ks : List Nat), (∀ q ∈ ks, q ≠ k) → cl k (listing ks l) = cl k l := fun l ks => by
    induction ks generalizing l with
    | nil => intro _; rfl
    | cons i ks ih =>
      intro hq
      simp only [listing]
      rw [ih _ (fun q hh => hq q (by simp [hh])), cl_set (hq i (by simp))]
  have hks : ∀ q ∈ ks, q ≠ k := fun q hq e => by
    have := List.all_eq_true.1 hB1'.2.2.1 _ (List.mem_map.2 ⟨q, hq, rfl⟩)
    subst e
    simp at this
  refine wp_region_gen k (two CS CW) (fun w' => Below w.heap.size w w') goodS (fun _ h => h) hm L.length rfl ?_
  refine wpG_seg ks ts.length hB3 hB1 (fun w h => hsub w h) (by rw [hc0]; exact goodS) ?_
  have conv : ∀ (l : List (Nat × Oper)) (a : Act) (K K' : Act → Prop), (∀ a, K a → K' a) → wpS P .any L.toArray k (two CS CW) K l a → wpS P .any L.toArray k (two CS CW) K' l a := by
    intro l
    induction l with
    | nil => intro a K K' hk h; exact hk _ h
    | cons p l ih =>
      intro a K K' hk h
      obtain ⟨i, o⟩ := p
      unfold wpS at h ⊢
      split
      · rename_i hw
        rw [if_pos hw] at h
        obtain ⟨v, h1, h2⟩ := h
        exact ⟨v, h1, ih _ _ _ hk h2⟩
      · rename_i hw
        rw [if_neg hw] at h
        exact ih _ _ _ hk h
  refine conv _ _ _ _ (fun a' ha => ?_) h
  have hcl0 : cl k (listing ks (Array.replicate L.length false)) = false := by rw [hck _ _ hks, hc0]
  refine wpG_tailK hcS hcW hsub ts _ a' w hB2 (by rw [hsz]; simp) ?_ ?_
  · rw [hcl0]; exact hS _ (Below.refl _ _)
  · rw [hcl0]; exact ha
/-! ### The same where several operations may come next -/
def wpR (P : Program) (md : Region.Mode) (ops : Array Oper) (C : World → Prop) (Q : Act → World → Prop) : Nat → Array Bool → Act → World → Prop
  | 0, listed, a, w => Region.ready md ops listed = [] ∧ Q a w
  | n + 1, listed, a, w => (Region.ready md ops listed = [] → Q a w) ∧ ∀ i ∈ Region.ready md ops listed, ∀ o, ops[i]? = some o →
      if Region.wanted o (yielded ops a.tmps) then nUpon P (fun u w1 => C w1 ∧ ∀ w2, Below w1.heap.size w1 w2 → wpR P md ops C Q n (listed.setIfInBounds i true) (a.put o.dst u) w2) ((execOp a.eval o).run P w)
      else wpR P md ops C Q n (listed.setIfInBounds i true) (a.put o.dst undef) w
theorem wpR_done {L : List Oper} {C : World → Prop} {Q : Act → World → Prop} {listed : Array Bool} {a : Act} {w : World} (hr : Region.ready md L.toArray listed = []) (h : Q a w) : wpR P md L.toArray C Q 0 listed a w := by unfold wpR; exact ⟨hr, h⟩
theorem wpR_on {L : List Oper} {C : World → Prop} {Q : Act → World → Prop} {m : Nat} {listed : Array Bool} {a : Act} {w : World} (i : Nat) (o : Oper) (hr : (Region.ready md L.toArray listed == [i]) = true) (ho : L[i]? = some o) (hw : Region.wanted o (yielded L.toArray a.tmps) = true)
    (h : nUpon P (fun u w1 => C w1 ∧ ∀ w2, Below w1.heap.size w1 w2 → wpR P md L.toArray C Q m (listed.setIfInBounds i true) (a.put o.dst u) w2) ((execOp a.eval o).run P w)) : wpR P md L.toArray C Q (m + 1) listed a w := by
  unfold wpR
  rw [beq_iff_eq] at hr
  rw [hr]
  refine ⟨fun h => (by cases h), fun j hj o' ho' => ?_⟩
  simp at hj
  subst hj
  have : o' = o := by
    have h1 : L.toArray[j]? = some o := by simpa using ho
    rw [h1] at ho'
    cases ho'
    rfl
  subst this
  rw [if_pos hw]
  exact h
theorem wpR_off {L : List Oper} {C : World → Prop} {Q : Act → World → Prop} {m : Nat} {listed : Array Bool} {a : Act} {w : World} (i : Nat) (o : Oper) (hr : (Region.ready md L.toArray listed == [i]) = true) (ho : L[i]? = some o) (hw : Region.wanted o (yielded L.toArray a.tmps) = false)
    (h : wpR P md L.toArray C Q m (listed.setIfInBounds i true) (a.put o.dst undef) w) : wpR P md L.toArray C Q (m + 1) listed a w := by
  unfold wpR
  rw [beq_iff_eq] at hr
  rw [hr]
  refine ⟨fun h => (by cases h), fun j hj o' ho' => ?_⟩
  simp at hj
  subst hj
  have : o' = o := by
    have h1 : L.toArray[j]? = some o := by simpa using ho
    rw [h1] at ho'
    cases ho'
    rfl
  subst this
  rw [if_neg (by rw [hw]; decide)]
  exact h
theorem wpR_two {L : List Oper} {C : World → Prop} {Q : Act → World → Prop} {m : Nat} {listed : Array Bool} {a : Act} {w : World} (i j : Nat) (o p : Oper) (hr : (Region.ready md L.toArray listed == [i, j]) = true) (ho : L[i]? = some o) (hp : L[j]? = some p)
    (hw : (Region.wanted o (yielded L.toArray a.tmps) && Region.wanted p (yielded L.toArray a.tmps)) = true)
    (h : nUpon P (fun u w1 => C w1 ∧ ∀ w2, Below w1.heap.size w1 w2 → wpR P md L.toArray C Q m (listed.setIfInBounds i true) (a.put o.dst u) w2) ((execOp a.eval o).run P w))
    (k : nUpon P (fun u w1 => C w1 ∧ ∀ w2, Below w1.heap.size w1 w2 → wpR P md L.toArray C Q m (listed.setIfInBounds j true) (a.put p.dst u) w2) ((execOp a.eval p).run P w)) : wpR P md L.toArray C Q (m + 1) listed a w := by
  unfold wpR
  rw [beq_iff_eq] at hr
  rw [hr]
  simp only [Bool.and_eq_true] at hw
  refine ⟨fun h => (by cases h), fun q hq o' ho' => ?_⟩
  simp at hq
  rcases hq with rfl | rfl
  · have : o' = o := by
      have h1 : L.toArray[q]? = some o := by simpa using ho
      rw [h1] at ho'
      cases ho'
      rfl
    subst this
    rw [if_pos hw.1]
    exact h
  · have : o' = p := by
      have h1 : L.toArray[q]? = some p := by simpa using hp
      rw [h1] at ho'
      cases ho'
      rfl
    subst this
    rw [if_pos hw.2]
    exact k
theorem wpG_tree {L : List Oper} {C : World → Prop} {Q : Act → World → Prop} (hC : ∀ w w', C w → Below w.heap.size w w' → C w') : ∀ (n : Nat) (listed : Array Bool) (a : Act) (w : World),
    C w → (∀ w', Below w.heap.size w w' → wpR P md L.toArray C Q n listed a w') → wpG P md L.toArray k (two C C) Q n listed a (fun w' => Below w.heap.size w w')
  | 0, listed, a, w, _, h => by
    have h0 := h w (Below.refl _ _)
    unfold wpR at h0
    refine ⟨h0.1, fun w' hw' => ?_⟩
    have := h w' hw'
    unfold wpR at this
    exact this.2
  | n + 1, listed, a, w, hCw, h => by
    have hcls : ∀ b, two C C b = C := fun b => by cases b <;> rfl
    have goodN : ∀ b w1, C w1 → Good (two C C b) (fun w' => Below w1.heap.size w1 w') := fun b w1 h1 => by
      rw [hcls]
      exact ⟨fun w' hw' => hC w1 w' h1 hw', fun w' w'' h' hb => h'.trans (hb.mono h'.size)⟩
    refine ⟨fun h0 w' hw' => ?_, fun i hi => ?_⟩
    · have := h w' hw'
      unfold wpR at this
      exact this.1 h0
    · obtain ⟨_, o, ho, _⟩ := mem_ready.1 hi
      unfold gOp
      simp only [ho]
      split
      · rename_i hw
        refine .inr fun w' hw' => ?_
        have h1 := h w' hw'
        unfold wpR at h1
        have h2 := h1.2 i hi o ho
        rw [if_pos hw] at h2
        exact nUpon_mono (fun u w1 ⟨c1, h3⟩ => ⟨fun w'' => Below w1.heap.size w1 w'', goodN _ w1 c1, Below.refl _ _, wpG_tree hC n _ _ w1 c1 h3⟩) h2
      · rename_i hw
        refine ⟨fun w' => Below w.heap.size w w', goodN _ w hCw, fun _ h => h, wpG_tree hC n _ _ w hCw (fun w' hw' => ?_)⟩
        have h1 := h w' hw'
        unfold wpR at h1
        have h2 := h1.2 i hi o ho
        rw [if_neg hw] at h2
        exact h2
def treeB (L : List Oper) (ks : List Nat) (m : Nat) : Bool :=
  Region.noSelect L.toArray && (closedB .any L.toArray (Array.replicate L.length false) && ((ks.map (fun i => (L[i]?).isSome && i != 1000)).all id && segB .any L.toArray ks (Array.replicate L.length false))) && decide (L.length = ks.length + m)
theorem wp_region_tree {id : Nat} {L : List Oper} {Q : Exit → Act → World → Prop} {a : Act} {w : World} (C : World → Prop) (ks : List Nat) (m : Nat) (hm : P.follows .mixedOrders = true)
    (hB : treeB L ks m = true) (hS : ∀ w', Below w.heap.size w w' → C w') (hC : ∀ w w', C w → Below w.heap.size w w' → C w')
    (h : wpS P .any L.toArray 1000 (two C C) (fun a' => ∀ w', Below w.heap.size w w' → wpR P .any L.toArray C (fun a w => Q .normal a w) m (listing ks (Array.replicate L.length false)) a' w') (pickIdx L ks) a) : (Code.region id L.toArray true).wp P Q a w := by
  unfold treeB at hB
  rw [Bool.and_eq_true, decide_eq_true_eq] at hB
  obtain ⟨hB1, hB3⟩ := hB
  have hcls : ∀ b, two C C b = C := fun b => by cases b <;> rfl
  have goodS : Good C (fun w' => Below w.heap.size w w') := ⟨hS, fun w' w'' h' hb => h'.trans (hb.mono h'.size)⟩
  refine wp_region_gen 1000 (two C C) (fun w' => Below w.heap.size w w') goodS (fun _ h => h) hm L.length rfl ?_
  refine wpG_seg ks m hB3 hB1 (fun w h => h) (by rw [hcls]; exact goodS) ?_
  have conv : ∀ (l : List (Nat × Oper)) (a : Act) (K K' : Act → Prop), (∀ a, K a → K' a) → wpS P .any L.toArray 1000 (two C C) K l a → wpS P .any L.toArray 1000 (two C C) K' l a := by
    intro l
    induction l with
    | nil => intro a K K' hk h; exact hk _ h
    | cons p l ih =>
      intro a K K' hk h
      obtain ⟨i, o⟩ := p
      unfold wpS at h ⊢
      split
      · rename_i hw
        rw [if_pos hw] at h
        obtain ⟨v, h1, h2⟩ := h
        exact ⟨v, h1, ih _ _ _ hk h2⟩
      · rename_i hw
        rw [if_neg hw] at h
        exact ih _ _ _ hk h
  exact conv _ _ _ _ (fun a' ha => wpG_tree hC m _ a' w (hS _ (Below.refl _ _)) ha) h
end
end Go.Proofs.Ythkphapmnlndbab.Flow
