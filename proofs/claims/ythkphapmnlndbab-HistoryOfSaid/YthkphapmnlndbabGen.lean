/- A region that draws its order, with operations that write: the quiet ones yield one value in every world of a class, the others are taken as they come, of the world no more being known than what they say. No program in sight. -/
import Derived.Test.YthkphapmnlndbabChg
namespace Go.Proofs.Ythkphapmnlndbab.Flow
open Go.RowKit

/-- What is known of a world, in a class, and stays known when blocks are made. -/
structure Good (C R : World → Prop) : Prop where
  sub : ∀ w, R w → C w
  kept : ∀ w w', R w → Below w.heap.size w w' → R w'
def nUpon (P : Program) (K : Value → World → Prop) : Result Next → Prop
  | .ok (.value u) w' => K u w'
  | .ok .skip w' => K undef w'
  | .ok (.enter f args) w' => Calls P f args w' fun e w'' => ∃ u, e = .returned u ∧ K u w''
  | _ => False
def gQ (P : Program) (o : Oper) (a : Act) (C : World → Prop) (v : Value) : Prop := ∀ w, C w → qUpon P w v ((execOp a.eval o).run P w)
def gN (P : Program) (o : Oper) (a : Act) (C R : World → Prop) (K : Act → (World → Prop) → Prop) : Prop :=
  ∀ w, R w → nUpon P (fun u w' => ∃ R', Good C R' ∧ R' w' ∧ K (a.put o.dst u) R') ((execOp a.eval o).run P w)
theorem nUpon_mono {P : Program} {K K' : Value → World → Prop} (h : ∀ u w, K u w → K' u w) {r : Result Next} (hh : nUpon P K r) : nUpon P K' r := by
  cases r with
  | ok n w' =>
    cases n <;> simp only [nUpon] at hh ⊢
    case value u => exact h _ _ hh
    case skip => exact h _ _ hh
    case enter f args => exact hh.mono fun e w'' ⟨u, he, hk⟩ => ⟨u, he, h _ _ hk⟩
  | halt x w' => simp only [nUpon] at hh

section
variable {P : Program} {ops : Array Oper} {md : Region.Mode}

/-- Has operation k come up? Before it does the strong class holds, behind it the weak one. -/
def cl (k : Nat) (listed : Array Bool) : Bool := listed.getD k false
def waits (md : Region.Mode) (ops : Array Oper) (j i : Nat) : Bool :=
  match ops[j]? with
  | some oj => oj.after.any fun e => Region.binds md e && e.on == i
  | none => false
def Closed (md : Region.Mode) (ops : Array Oper) (listed : Array Bool) : Prop :=
  ∀ j oj, ops[j]? = some oj → listed.getD j false = true → ∀ e ∈ oj.after, Region.binds md e = true → listed.getD e.on false = true
theorem getD_up {listed : Array Bool} {i j : Nat} (h : listed.getD j false = true) : (listed.setIfInBounds i true).getD j false = true := by
  by_cases hij : i = j
  · subst hij
    have hlt : i < listed.size := by
      rcases Nat.lt_or_ge i listed.size with h' | h'
      · exact h'
      · simp [Array.getElem?_eq_none h'] at h
    simp [hlt]
  · rw [getD_set_ne false hij]; exact h
theorem Closed.set {listed : Array Bool} {i : Nat} (hc : Closed md ops listed) (hi : i ∈ Region.ready md ops listed) : Closed md ops (listed.setIfInBounds i true) := by
  obtain ⟨_, oi, hoi, hall⟩ := mem_ready.1 hi
  intro j oj hj hl e he hb
  by_cases hij : i = j
  · subst hij
    have : oj = oi := Option.some.inj (hj.symm.trans hoi)
    subst this
    exact getD_up (hall e he hb)
  · rw [getD_set_ne false hij] at hl
    exact getD_up (hc j oj hj hl e he hb)
theorem cl_of_waits {k i : Nat} {listed : Array Bool} (hc : Closed md ops listed) (hw : waits md ops k i = true) (hi : listed.getD i true = false) : cl k listed = false := by
  rcases h : cl k listed with _ | _
  · rfl
  · unfold waits at hw
    split at hw
    · rename_i oj hj
      obtain ⟨e, he, hb⟩ := Array.any_eq_true'.1 hw
      simp only [Bool.and_eq_true, beq_iff_eq] at hb
      have := hc k oj hj h e he hb.1
      rw [hb.2] at this
      rcases Nat.lt_or_ge i listed.size with h' | h'
      · simp [h'] at hi this; rw [hi] at this; cases this
      · simp [Array.getElem?_eq_none h'] at this
    · cases hw

def gOp (P : Program) (ops : Array Oper) (c c' : World → Prop) (i : Nat) (K : Act → (World → Prop) → Prop) (a : Act) (R : World → Prop) : Prop :=
  match ops[i]? with
  | none => ∃ R', Good c' R' ∧ (∀ w, R w → R' w) ∧ K a R'
  | some o => if Region.wanted o (yielded ops a.tmps) then (∃ v, gQ P o a c v ∧ ∃ R', Good c' R' ∧ (∀ w, R w → R' w) ∧ K (a.put o.dst v) R') ∨ gN P o a c' R K else ∃ R', Good c' R' ∧ (∀ w, R w → R' w) ∧ K (a.put o.dst undef) R'
theorem gOp_mono {c c' : World → Prop} {i : Nat} {K K' : Act → (World → Prop) → Prop} (h : ∀ a R, Good c' R → K a R → K' a R) {a : Act} {R : World → Prop} (hh : gOp P ops c c' i K a R) : gOp P ops c c' i K' a R := by
  unfold gOp at *
  split
  · rename_i ho; simp only [ho] at hh; obtain ⟨R', g, s, k⟩ := hh; exact ⟨R', g, s, h _ _ g k⟩
  · rename_i o ho
    simp only [ho] at hh
    split
    · rename_i hw
      simp only [hw, if_true] at hh
      rcases hh with ⟨v, h1, R', g, s, k⟩ | hn
      · exact .inl ⟨v, h1, R', g, s, h _ _ g k⟩
      · exact .inr fun w hw' => nUpon_mono (fun u w'' ⟨R', g, r, k⟩ => ⟨R', g, r, h _ _ g k⟩) (hn w hw')
    · rename_i hw; simp only [hw] at hh; obtain ⟨R', g, s, k⟩ := hh; exact ⟨R', g, s, h _ _ g k⟩

variable {k : Nat} {C : Bool → World → Prop}
/-- Whatever order is picked from here on. -/
def wpG (P : Program) (md : Region.Mode) (ops : Array Oper) (k : Nat) (C : Bool → World → Prop) (Q : Act → World → Prop) : Nat → Array Bool → Act → (World → Prop) → Prop
  | 0, listed, a, R => Region.ready md ops listed = [] ∧ ∀ w, R w → Q a w
  | fuel + 1, listed, a, R => (Region.ready md ops listed = [] → ∀ w, R w → Q a w) ∧
    ∀ i ∈ Region.ready md ops listed, gOp P ops (C (cl k listed)) (C (cl k (listed.setIfInBounds i true))) i (wpG P md ops k C Q fuel (listed.setIfInBounds i true)) a R

theorem wpG_weaken {Q : Act → World → Prop} : ∀ (fuel : Nat) (listed : Array Bool) (a : Act) (R R1 : World → Prop), (∀ w, R1 w → R w) → Good (C (cl k listed)) R1 → wpG P md ops k C Q fuel listed a R → wpG P md ops k C Q fuel listed a R1
  | 0, _, _, _, _, hs, _, h => ⟨h.1, fun w hw => h.2 w (hs w hw)⟩
  | fuel + 1, listed, a, R, R1, hs, _, h => ⟨fun h0 w hw => h.1 h0 w (hs w hw), fun i hi => by
      have h2 := h.2 i hi
      unfold gOp at *
      split
      · rename_i ho; simp only [ho] at h2; obtain ⟨R', g, s, kk⟩ := h2; exact ⟨R', g, fun w hw => s w (hs w hw), kk⟩
      · rename_i o ho
        simp only [ho] at h2
        split
        · rename_i hw
          simp only [hw, if_true] at h2
          rcases h2 with ⟨v, h1, R', g, s, kk⟩ | hn
          · exact .inl ⟨v, h1, R', g, fun w hw => s w (hs w hw), kk⟩
          · exact .inr fun w hw' => hn w (hs w hw')
        · rename_i hw; simp only [hw] at h2; obtain ⟨R', g, s, kk⟩ := h2; exact ⟨R', g, fun w hw => s w (hs w hw), kk⟩⟩

theorem wpOp_of_gOp {c c' : World → Prop} {i : Nat} {a : Act} {R : World → Prop} {K : Act → (World → Prop) → Prop} {K' : Act → World → Prop} {Q' : Exit → Act → World → Prop} {w : World}
    (hG : Good c R) (hR : R w) (h : ∀ a R w, Good c' R → R w → K a R → K' a w) (hh : gOp P ops c c' i K a R) : wpOp P ops Q' i K' a w := by
  unfold gOp at hh
  unfold wpOp
  split
  · rename_i ho; simp only [ho] at hh; obtain ⟨R', g, s, kk⟩ := hh; exact h _ _ _ g (s w hR) kk
  · rename_i o ho
    simp only [ho] at hh
    split
    · rename_i hw
      simp only [hw, if_true] at hh
      refine .inl ?_
      unfold Oper.wp
      rcases hh with ⟨v, h1, R', g, s, kk⟩ | hn
      · have h3 := h1 w (hG.sub w hR)
        generalize (execOp a.eval o).run P w = r at *
        cases r with
        | ok n w' =>
          cases n <;> simp only [qUpon] at h3 <;> simp only [Oper.upon]
          case value u =>
            obtain ⟨e1, e2⟩ := h3
            rw [e1, e2]
            exact h _ _ _ g (s w hR) kk
          case skip =>
            obtain ⟨e1, e2⟩ := h3
            rw [← e1, e2]
            exact h _ _ _ g (s w hR) kk
          case enter f args =>
            obtain ⟨e1, hc⟩ := h3
            rw [e1]
            exact hc.mono fun e w'' ⟨he, hw''⟩ => by subst he; exact h _ _ _ g (g.kept _ _ (s w hR) hw'') kk
        | halt x w' => simp only [qUpon] at h3
      · have h3 := hn w hR
        generalize (execOp a.eval o).run P w = r at *
        cases r with
        | ok n w' =>
          cases n <;> simp only [nUpon] at h3 <;> simp only [Oper.upon]
          case value u => obtain ⟨R', g, r, k⟩ := h3; exact h _ _ _ g r k
          case skip => obtain ⟨R', g, r, k⟩ := h3; exact h _ _ _ g r k
          case enter f args => exact h3.mono fun e w'' ⟨u, he, R', g, r, k⟩ => by subst he; exact h _ _ _ g r k
        | halt x w' => simp only [nUpon] at h3
    · rename_i hw; simp only [hw] at hh; obtain ⟨R', g, s, kk⟩ := hh; exact h _ _ _ g (s w hR) kk

theorem wpAny_of_wpG {Q : Act → World → Prop} {Q' : Exit → Act → World → Prop} (hQ : ∀ a w, Q a w → Q' .normal a w) : ∀ (fuel : Nat) (listed : Array Bool) (a : Act) (R : World → Prop) (w : World),
    Good (C (cl k listed)) R → R w → wpG P md ops k C Q fuel listed a R → wpAny P md ops Q' fuel listed a w
  | 0, _, _, _, w, _, hR, h => ⟨h.1, hQ _ _ (h.2 w hR)⟩
  | fuel + 1, _, _, _, w, hG, hR, h => ⟨fun h0 => hQ _ _ (h.1 h0 w hR), fun i hi => wpOp_of_gOp hG hR (fun a' R' w' hG' hR' => wpAny_of_wpG hQ fuel _ a' R' w' hG' hR') (h.2 i hi)⟩

/-- One value, in the weak class; or in the strong one, where the operation behind which it ends waits for this one. -/
def YieldsG (P : Program) (md : Region.Mode) (ops : Array Oper) (k : Nat) (C : Bool → World → Prop) (i : Nat) (o : Oper) (v : Value) (a : Act) : Prop :=
  (Region.wanted o (yielded ops a.tmps) = true ∧ (gQ P o a (C true) v ∨ (waits md ops k i = true ∧ gQ P o a (C false) v))) ∨ (Region.wanted o (yielded ops a.tmps) = false ∧ v = undef)
theorem YieldsG.at_ {i : Nat} {o : Oper} {v : Value} {a : Act} {listed : Array Bool} (hC : ∀ w, C false w → C true w) (hy : YieldsG P md ops k C i o v a) (hc : Closed md ops listed) (hi : listed.getD i true = false) :
    (Region.wanted o (yielded ops a.tmps) = true ∧ gQ P o a (C (cl k listed)) v) ∨ (Region.wanted o (yielded ops a.tmps) = false ∧ v = undef) := by
  rcases hy with ⟨hw, h | ⟨h1, h2⟩⟩ | h
  · refine .inl ⟨hw, ?_⟩
    cases cl k listed
    · exact fun w hw => h w (hC w hw)
    · exact h
  · exact .inl ⟨hw, by rw [cl_of_waits hc h1 hi]; exact h2⟩
  · exact .inr h
/-- A quiet operation does not end the strong class. -/
theorem YieldsG.gOp {c c' : World → Prop} {i : Nat} {o : Oper} {v : Value} {a : Act} {R : World → Prop} (hi : ops[i]? = some o) (hy : (Region.wanted o (yielded ops a.tmps) = true ∧ gQ P o a c v) ∨ (Region.wanted o (yielded ops a.tmps) = false ∧ v = undef))
    {K : Act → (World → Prop) → Prop} (hg : Good c' R) (h : K (a.put o.dst v) R) : gOp P ops c c' i K a R := by
  unfold Flow.gOp
  simp only [hi]
  rcases hy with ⟨hw, hv⟩ | ⟨hw, rfl⟩
  · simp only [hw, if_true]; exact .inl ⟨v, hv, R, hg, fun _ h => h, h⟩
  · simp only [hw, Bool.false_eq_true, if_false]; exact ⟨R, hg, fun _ h => h, h⟩
theorem YieldsG.of_same {i : Nat} {o : Oper} {v : Value} {a a' : Act} (hy : YieldsG P md ops k C i o v a) (he : execOp a'.eval o = execOp a.eval o)
    (hw : Region.wanted o (yielded ops a'.tmps) = Region.wanted o (yielded ops a.tmps)) : YieldsG P md ops k C i o v a' := by
  unfold YieldsG gQ at *
  rw [he, hw]
  exact hy
theorem gOp_put {c c' : World → Prop} {i j : Nat} {oi oj : Oper} {v : Value} (hj : ops[j]? = some oj) (hap : oi.apart ops oj = true)
    (hsi : ∀ cs b, oi.op ≠ .select cs b) (hsj : ∀ cs b, oj.op ≠ .select cs b) {K : Act → (World → Prop) → Prop} {a : Act} {R : World → Prop}
    (hy : YieldsG P md ops k C i oi v a) (h : gOp P ops c c' j K (a.put oi.dst v) R) :
    gOp P ops c c' j (fun a' R' => YieldsG P md ops k C i oi v a' ∧ K (a'.put oi.dst v) R') a R := by
  obtain ⟨h1, h2, h3⟩ := Oper.apart_spec hap
  have keep : ∀ (a : Act), YieldsG P md ops k C i oi v a → ∀ u, YieldsG P md ops k C i oi v (a.put oj.dst u) := fun a hy u =>
    hy.of_same (execOp_put oi hsi a oj.dst u h3) (wanted_put oi a oj.dst u h3)
  unfold gOp at *
  simp only [hj] at *
  rw [wanted_put oj a oi.dst v h1] at h
  split
  · rename_i hw
    simp only [hw, if_true] at h
    simp only [gQ, gN, execOp_put oj hsj a oi.dst v h1] at h
    rcases h with ⟨u, hu, R', g, s, kk⟩ | hn
    · exact .inl ⟨u, hu, R', g, s, keep a hy u, by rw [← Act.put_comm a v u h2]; exact kk⟩
    · exact .inr fun w hw' => nUpon_mono (fun u w'' ⟨R', g, r, k⟩ => ⟨R', g, r, keep a hy u, by rw [← Act.put_comm a v u h2]; exact k⟩) (hn w hw')
  · rename_i hw
    simp only [hw] at h
    obtain ⟨R', g, s, kk⟩ := h
    exact ⟨R', g, s, keep a hy _, by rw [← Act.put_comm a v undef h2]; exact kk⟩

theorem cl_set {listed : Array Bool} {i : Nat} (h : i ≠ k) : cl k (listed.setIfInBounds i true) = cl k listed := by unfold cl; rw [getD_set_ne false h]
theorem wpG_first {Q : Act → World → Prop} {i : Nat} {oi : Oper} {v : Value} (hC : ∀ w, C false w → C true w) (hik : i ≠ k) (hi : ops[i]? = some oi) (hsel : ∀ (j : Nat) (o : Oper) cs b, ops[j]? = some o → o.op ≠ .select cs b) :
    ∀ (fuel : Nat) (listed : Array Bool) (a : Act) (R : World → Prop), Closed md ops listed → Good (C (cl k listed)) R →
      (∀ j oj, ops[j]? = some oj → j ≠ i → listed.getD j true = false → (∀ e ∈ oj.after, Region.binds md e = true → e.on ≠ i) → oi.apart ops oj = true) →
      i ∈ Region.ready md ops listed → YieldsG P md ops k C i oi v a →
      wpG P md ops k C Q fuel (listed.setIfInBounds i true) (a.put oi.dst v) R → wpG P md ops k C Q (fuel + 1) listed a R := by
  intro fuel
  induction fuel with
  | zero =>
    intro listed a R hcl hG _ hr hy H
    refine ⟨fun h => (by rw [h] at hr; cases hr), fun j hj => ?_⟩
    by_cases hji : j = i
    · subst hji; exact YieldsG.gOp hi (hy.at_ hC hcl (mem_ready.1 hr).1) (by rw [cl_set hik]; exact hG) H
    · have := ready_mono hj hji
      rw [H.1] at this
      cases this
  | succ fuel ih =>
    intro listed a R hcl hG hfree hr hy H
    refine ⟨fun h => (by rw [h] at hr; cases hr), fun j hj => ?_⟩
    by_cases hji : j = i
    · subst hji; exact YieldsG.gOp hi (hy.at_ hC hcl (mem_ready.1 hr).1) (by rw [cl_set hik]; exact hG) H
    · have h1 := H.2 j (ready_mono hj hji)
      obtain ⟨hjun, oj, hoj, hall⟩ := mem_ready.1 hj
      have hnot : ∀ e ∈ oj.after, Region.binds md e = true → e.on ≠ i := fun e he hb heq => by
        have h1 := hall e he hb
        have h0 := (mem_ready.1 hr).1
        rw [heq] at h1
        rcases Nat.lt_or_ge i listed.size with h' | h'
        · simp [h'] at h0 h1; rw [h0] at h1; cases h1
        · simp [Array.getElem?_eq_none h'] at h1
      rw [cl_set hik, Array.setIfInBounds_comm _ _ (Ne.symm hji), cl_set hik] at h1
      have h2 := gOp_put hoj (hfree j oj hoj hji hjun hnot) (fun cs b => hsel i oi cs b hi) (fun cs b => hsel j oj cs b hoj) hy h1
      have hfree' : ∀ k ok, ops[k]? = some ok → k ≠ i → (listed.setIfInBounds j true).getD k true = false →
          (∀ e ∈ ok.after, Region.binds md e = true → e.on ≠ i) → oi.apart ops ok = true := fun k ok hk hki hun hno => by
        refine hfree k ok hk hki ?_ hno
        by_cases hjk : j = k
        · subst hjk; exact hjun
        · rw [getD_set_ne true hjk] at hun; exact hun
      exact gOp_mono (fun a' R' g h3 => ih (listed.setIfInBounds j true) a' R' (hcl.set hj) g hfree' (ready_mono hr (Ne.symm hji)) h3.1 h3.2) h2

/-- Those operations, one behind the other, each with its one value. -/
def wpS (P : Program) (md : Region.Mode) (ops : Array Oper) (k : Nat) (C : Bool → World → Prop) (K : Act → Prop) : List (Nat × Oper) → Act → Prop
  | [], a => K a
  | (i, o) :: rest, a => if Region.wanted o (yielded ops a.tmps) then ∃ v, gQ P o a (C (!waits md ops k i)) v ∧ wpS P md ops k C K rest (a.put o.dst v) else wpS P md ops k C K rest (a.put o.dst undef)
theorem wpS_nil {K : Act → Prop} {a : Act} (h : K a) : wpS P md ops k C K [] a := h
theorem listing_closed : ∀ (ks : List Nat) (listed : Array Bool), segB md ops ks listed = true → Closed md ops listed → Closed md ops (listing ks listed)
  | [], _, _, h => h
  | i :: ks, listed, hB, h => by
    simp only [segB, Bool.and_eq_true] at hB
    exact listing_closed ks _ hB.2 (h.set (by simpa using hB.1.1))
theorem wpG_segs {Q : Act → World → Prop} {R : World → Prop} (hC : ∀ w, C false w → C true w) (hs : Region.noSelect ops = true) {fuel : Nat} : ∀ (ks : List Nat) (l : List (Nat × Oper)) (listed : Array Bool) (a : Act), l.map (·.1) = ks → (∀ p ∈ l, ops[p.1]? = some p.2 ∧ p.1 ≠ k) →
    Closed md ops listed → Good (C (cl k listed)) R →
    segB md ops ks listed = true → wpS P md ops k C (fun a' => wpG P md ops k C Q fuel (listing ks listed) a' R) l a → wpG P md ops k C Q (ks.length + fuel) listed a R
  | [], [], _, _, _, _, _, _, _, h => by simpa [listing, wpS] using h
  | i :: ks, (i', o) :: l, listed, a, hl, hall, hcl, hG, hB, h => by
    simp only [List.map_cons, List.cons.injEq] at hl
    obtain ⟨rfl, hl⟩ := hl
    obtain ⟨h0, hik⟩ := hall (i', o) (by simp)
    simp only [segB, Bool.and_eq_true] at hB
    obtain ⟨⟨hr, hf⟩, hB'⟩ := hB
    have hy : ∃ v, YieldsG P md ops k C i' o v a ∧ wpS P md ops k C (fun a' => wpG P md ops k C Q fuel (listing (i' :: ks) listed) a' R) l (a.put o.dst v) := by
      unfold wpS at h
      split at h
      · rename_i hw
        obtain ⟨v, h1, h2⟩ := h
        refine ⟨v, .inl ⟨hw, ?_⟩, h2⟩
        cases hwt : waits md ops k i'
        · rw [hwt] at h1; exact .inl h1
        · rw [hwt] at h1; exact .inr ⟨rfl, h1⟩
      · rename_i hw; exact ⟨undef, .inr ⟨by simpa using hw, rfl⟩, h⟩
    obtain ⟨v, hy, hK⟩ := hy
    have hr' : i' ∈ Region.ready md ops listed := by simpa using hr
    rw [show (i' :: ks).length + fuel = (ks.length + fuel) + 1 by simp only [List.length_cons]; omega]
    exact wpG_first hC hik h0 (Region.noSelect_spec hs) _ listed a R hcl hG (Region.free_spec h0 hf) hr' hy
      (wpG_segs hC hs ks l _ _ hl (fun p hp => hall p (by simp [hp])) (hcl.set hr') (by rw [cl_set hik]; exact hG) hB' hK)
  | [], _ :: _, _, _, hl, _, _, _, _, _ => by simp at hl
  | _ :: _, [], _, _, hl, _, _, _, _, _ => by simp at hl

def pickIdx (L : List Oper) : List Nat → List (Nat × Oper)
  | [] => []
  | i :: ks => match L[i]? with
    | some o => (i, o) :: pickIdx L ks
    | none => []
def closedB (md : Region.Mode) (ops : Array Oper) (listed : Array Bool) : Bool :=
  (List.range ops.size).all fun j => !listed.getD j false || (match ops[j]? with | some oj => oj.after.all fun e => !Region.binds md e || listed.getD e.on false | none => true)
theorem closed_of {listed : Array Bool} (h : closedB md ops listed = true) : Closed md ops listed := by
  intro j oj hj hl e he hb
  have hjl : j < ops.size := (Array.getElem?_eq_some_iff.1 hj).1
  have h1 := List.all_eq_true.1 h j (List.mem_range.2 hjl)
  simp only [hl, Bool.not_true, Bool.false_or, hj] at h1
  have h2 := (Array.all_eq_true'.1 h1) e he
  simpa [hb] using h2
/-- A segment of quiet operations, in an order of one's own choice. -/
theorem wpG_seg {L : List Oper} {Q : Act → World → Prop} {R : World → Prop} {n : Nat} (ks : List Nat) (fuel : Nat) (hn : n = ks.length + fuel) {listed : Array Bool} {a : Act}
    (hB : (Region.noSelect L.toArray && (closedB md L.toArray listed && ((ks.map (fun i => (L[i]?).isSome && i != k)).all id && segB md L.toArray ks listed))) = true) (hC : ∀ w, C false w → C true w) (hG : Good (C (cl k listed)) R)
    (h : wpS P md L.toArray k C (fun a' => wpG P md L.toArray k C Q fuel (listing ks listed) a' R) (pickIdx L ks) a) : wpG P md L.toArray k C Q n listed a R := by
  subst hn
  simp only [Bool.and_eq_true] at hB
  obtain ⟨h1, h2, hall, h4⟩ := hB
  have hp : (pickIdx L ks).map (·.1) = ks ∧ ∀ p ∈ pickIdx L ks, L.toArray[p.1]? = some p.2 ∧ p.1 ≠ k := by
    clear h h4
    induction ks with
    | nil => exact ⟨rfl, fun _ hp => by cases hp⟩
    | cons i ks ih =>
      simp only [List.map_cons, List.all_cons, Bool.and_eq_true, id] at hall
      obtain ⟨⟨hs, hne⟩, hr⟩ := hall
      obtain ⟨e1, e2⟩ := ih hr
      cases ho : L[i]? with
      | none => rw [ho] at hs; cases hs
      | some o =>
        simp only [pickIdx, ho]
        refine ⟨by simp [e1], fun p hp => ?_⟩
        rcases List.mem_cons.1 hp with rfl | hp
        · exact ⟨by simpa using ho, by simpa using hne⟩
        · exact e2 p hp
  exact wpG_segs hC h1 ks (pickIdx L ks) listed a hp.1 hp.2 (closed_of h2) hG h4 h

/-- One operation that must come next, and writes. -/
theorem wpG_next {L : List Oper} {Q : Act → World → Prop} {R : World → Prop} {fuel : Nat} {listed : Array Bool} {a : Act} (i : Nat) (o : Oper)
    (hr : (Region.ready md L.toArray listed == [i] && Region.wanted o (yielded L.toArray a.tmps)) = true) (ho : L[i]? = some o)
    (h : ∀ w, R w → nUpon P (fun u w' => ∃ R', Good (C (cl k (listed.setIfInBounds i true))) R' ∧ R' w' ∧ wpG P md L.toArray k C Q fuel (listed.setIfInBounds i true) (a.put o.dst u) R') ((execOp a.eval o).run P w)) : wpG P md L.toArray k C Q (fuel + 1) listed a R := by
  simp only [Bool.and_eq_true, beq_iff_eq] at hr
  refine ⟨fun h0 => (by rw [hr.1] at h0; cases h0), fun j hj => ?_⟩
  rw [hr.1] at hj
  simp at hj
  subst hj
  unfold gOp
  have ho' : L.toArray[j]? = some o := by simpa using ho
  simp only [ho', hr.2, if_true]
  exact .inr h
theorem wpG_done {L : List Oper} {Q : Act → World → Prop} {R : World → Prop} {listed : Array Bool} {a : Act} (hr : Region.ready md L.toArray listed = [])
    (h : ∀ w, R w → Q a w) : wpG P md L.toArray k C Q 0 listed a R := ⟨hr, h⟩

/-- A region that draws its order: k: the operation behind which the strong class ends. -/
theorem wp_region_gen {id : Nat} {L : List Oper} {Q : Exit → Act → World → Prop} {a : Act} {w : World} (k : Nat) (C : Bool → World → Prop) (R : World → Prop) (hG : Good (C false) R) (hR : ∀ w', Below w.heap.size w w' → R w') (hm : P.follows .mixedOrders = true) (n : Nat) (hn : L.length = n)
    (h : wpG P .any L.toArray k C (fun a' w' => Q .normal a' w') n (Array.replicate n false) a R) : (Code.region id L.toArray true).wp P Q a w := by
  subst hn
  refine wp_region_any hm ?_
  have hc : cl k (Array.replicate L.length false) = false := by
    unfold cl
    rcases Nat.lt_or_ge k L.length with h | h
    · simp [h]
    · simp [h]
  exact wpAny_of_wpG (k := k) (C := C) (fun _ _ h => h) _ _ _ R _ (by simpa [hc] using hG) (hR _ ⟨rfl, rfl, rfl, Nat.le_refl _, fun _ _ => rfl⟩) (by simpa using h)
end

/-- A world of the class. -/
structure Wd (C : World → Prop) where
  w : World
  ok : C w
def sStep (P : Program) (o : Oper) (a : Act) (C : World → Prop) (next : Act → Prop) : Prop := ∃ v, (∀ p : Wd C, qUpon P p.w v ((execOp a.eval o).run P p.w)) ∧ next (a.put o.dst v)
/-- The strong class and the weak one. -/
def two (Cs Cw : World → Prop) : Bool → World → Prop
  | false => Cs
  | true => Cw
theorem wpS_strong {P : Program} {md : Region.Mode} {ops : Array Oper} {k : Nat} {Cs Cw : World → Prop} {K : Act → Prop} {a : Act} {i : Nat} {o : Oper} {rest : List (Nat × Oper)} (hw : waits md ops k i = true)
    (h : ∀ K' : Act → Prop, (∀ a, wpS P md ops k (two Cs Cw) K rest a → K' a) → if Region.wanted o (yielded ops a.tmps) then sStep P o a Cs K' else K' (a.put o.dst undef)) : wpS P md ops k (two Cs Cw) K ((i, o) :: rest) a := by
  have := h _ (fun _ h => h)
  unfold wpS
  split
  · rename_i hw'
    rw [if_pos hw'] at this
    obtain ⟨v, h1, h2⟩ := this
    rw [hw]
    exact ⟨v, fun w hw => h1 ⟨w, hw⟩, h2⟩
  · rename_i hw'
    rw [if_neg hw'] at this
    exact this
theorem wpS_weak {P : Program} {md : Region.Mode} {ops : Array Oper} {k : Nat} {Cs Cw : World → Prop} {K : Act → Prop} {a : Act} {i : Nat} {o : Oper} {rest : List (Nat × Oper)} (hw : waits md ops k i = false)
    (h : ∀ K' : Act → Prop, (∀ a, wpS P md ops k (two Cs Cw) K rest a → K' a) → if Region.wanted o (yielded ops a.tmps) then sStep P o a Cw K' else K' (a.put o.dst undef)) : wpS P md ops k (two Cs Cw) K ((i, o) :: rest) a := by
  have := h _ (fun _ h => h)
  unfold wpS
  split
  · rename_i hw'
    rw [if_pos hw'] at this
    obtain ⟨v, h1, h2⟩ := this
    rw [hw]
    exact ⟨v, fun w hw => h1 ⟨w, hw⟩, h2⟩
  · rename_i hw'
    rw [if_neg hw'] at this
    exact this
attribute [go_sem] sStep
attribute [go_sem] nUpon
theorem good_chg (S : Nat → Prop) (w0 : World) : Good (Chg S w0) (Chg S w0) := ⟨fun _ h => h, fun _ _ h hb => h.trans (Chg.of_below hb) (fun _ _ e => e.elim)⟩
end Go.Proofs.Ythkphapmnlndbab.Flow
namespace Go.Proofs.Ythkphapmnlndbab.Flow
open Go.RowKit
/-- Blocks known whole, in a world where of the old blocks only some may have turned. -/
def Fx (S : Nat → Prop) (w0 : World) (L : List (Nat × TypeId × Array Value)) (w : World) : Prop := Chg S w0 w ∧ ∀ p ∈ L, Blk w p.1 p.2.1 p.2.2
theorem good_same (S : Nat → Prop) (w0 : World) (L : List (Nat × TypeId × Array Value)) : Good (Fx S w0 L) (Fx S w0 L) :=
  ⟨fun _ h => h, fun _ _ h hb => ⟨h.1.trans (Chg.of_below hb) (fun _ _ e => e.elim), fun p hp => (h.2 p hp).below hb⟩⟩
theorem good_fx (S : Nat → Prop) (w0 : World) (L : List (Nat × TypeId × Array Value)) : Good (Chg S w0) (Fx S w0 L) :=
  ⟨fun _ h => h.1, fun _ _ h hb => ⟨h.1.trans (Chg.of_below hb) (fun _ _ e => e.elim), fun p hp => (h.2 p hp).below hb⟩⟩
theorem Fx.nil {S : Nat → Prop} {w0 w : World} (h : Chg S w0 w) : Fx S w0 [] w := ⟨h, fun _ hp => by cases hp⟩
theorem Fx.add {S : Nat → Prop} {w0 w : World} {L : List (Nat × TypeId × Array Value)} (h : Fx S w0 L w) {g : Nat} {t : TypeId} {cs : Array Value} (hB : Blk w g t cs) : Fx S w0 ((g, t, cs) :: L) w :=
  ⟨h.1, fun p hp => by rcases List.mem_cons.1 hp with rfl | hp; exact hB; exact h.2 p hp⟩
theorem Fx.head {S : Nat → Prop} {w0 w : World} {L : List (Nat × TypeId × Array Value)} {g : Nat} {t : TypeId} {cs : Array Value} (h : Fx S w0 ((g, t, cs) :: L) w) : Blk w g t cs := h.2 _ List.mem_cons_self
theorem Fx.tail {S : Nat → Prop} {w0 w : World} {L : List (Nat × TypeId × Array Value)} {p : Nat × TypeId × Array Value} (h : Fx S w0 (p :: L) w) : Fx S w0 L w := ⟨h.1, fun q hq => h.2 q (List.mem_cons_of_mem _ hq)⟩
/-- a new block -/
theorem Fx.alloc {S : Nat → Prop} {w0 w : World} {L : List (Nat × TypeId × Array Value)} (h : Fx S w0 L w) (cs : Array Value) (t : TypeId) : Fx S w0 ((w.heap.size, t, cs) :: L) (w.alloc (.cells cs t)) :=
  Fx.add ⟨h.1.alloc _, fun p hp => (h.2 p hp).alloc _⟩ (Blk.new _ _ _)
/-- a store into the head block -/
theorem Fx.set {S : Nat → Prop} {w0 w : World} {L : List (Nat × TypeId × Array Value)} {g : Nat} {t : TypeId} {cs : Array Value} (h : Fx S w0 ((g, t, cs) :: L) w) (hS : g < w0.heap.size → S g) (hne : ∀ p ∈ L, p.1 ≠ g) (i : Nat) (u : Value) :
    Fx S w0 ((g, t, cs.setIfInBounds i u) :: L) (w.setCell ⟨g, i, none⟩ u) :=
  Fx.add ⟨h.1.setCell (p := ⟨g, i, none⟩) hS u, fun p hp => (h.tail.2 p hp).far (hne p hp) u⟩ (h.head.set i u)
end Go.Proofs.Ythkphapmnlndbab.Flow
