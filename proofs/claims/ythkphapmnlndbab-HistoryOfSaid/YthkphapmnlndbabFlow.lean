/- A region that draws its order, walked once: every operation but the makers of new blocks and the stores into them yields one value in every world that keeps what was there; what is left is one goal. No program in sight. -/
import Derived.Deep.Quiet
import Derived.Below
import Derived.WalkKit
namespace Go.Proofs.Ythkphapmnlndbab.Flow
open Go.RowKit

/-- A fact kept from the walk. -/
theorem hide {p : Prop} (h : p) : Hid p := h

/-- Blocks of the call's own, known whole. -/
def Owned (B : Nat) (l : List (Nat × Obj)) (w : World) : Prop := ∀ p ∈ l, B ≤ p.1 ∧ w.heap[p.1]? = some p.2
theorem Owned.nil (B : Nat) (w : World) : Owned B [] w := fun _ h => by cases h
theorem Owned.kept {B : Nat} {l : List (Nat × Obj)} {w w' : World} (h : Owned B l w) (hb : Below w.heap.size w w') : Owned B l w' := fun p hp => by
  obtain ⟨h1, h2⟩ := h p hp
  refine ⟨h1, ?_⟩
  have hlt : p.1 < w.heap.size := by
    rcases Nat.lt_or_ge p.1 w.heap.size with hl | hg
    · exact hl
    · rw [Array.getElem?_eq_none hg] at h2; cases h2
  rw [hb.block _ hlt]
  exact h2
theorem Owned.lt {B : Nat} {l : List (Nat × Obj)} {w : World} (h : Owned B l w) {p : Nat × Obj} (hp : p ∈ l) : p.1 < w.heap.size := by
  obtain ⟨_, h2⟩ := h p hp
  rcases Nat.lt_or_ge p.1 w.heap.size with hl | hg
  · exact hl
  · rw [Array.getElem?_eq_none hg] at h2; cases h2

/-- A world in which all that lay in w0 lies as it did, with these blocks beside. -/
structure Cls (w0 : World) (perm : List (Nat × Obj)) (w : World) : Prop where
  below : Below w0.heap.size w0 w
  perm : Owned w0.heap.size perm w
theorem Cls.kept {w0 : World} {perm : List (Nat × Obj)} {w w' : World} (h : Cls w0 perm w) (hb : Below w.heap.size w w') : Cls w0 perm w' :=
  ⟨h.below.trans (hb.mono h.below.size), h.perm.kept hb⟩
theorem Cls.tail {w0 : World} {perm : List (Nat × Obj)} {p : Nat × Obj} {w : World} (h : Cls w0 (p :: perm) w) : Cls w0 perm w :=
  ⟨h.below, fun q hq => h.perm q (List.mem_cons_of_mem _ hq)⟩

/-- Only block g has turned. -/
structure Only (g : Nat) (w w' : World) : Prop where
  os : w'.os = w.os
  tape : w'.tape = w.tape
  output : w'.output = w.output
  size : w'.heap.size = w.heap.size
  block : ∀ k, k ≠ g → w'.heap[k]? = w.heap[k]?
theorem Only.below {g B : Nat} {w w' : World} (h : Only g w w') (hB : B ≤ g) : Below B w w' := ⟨h.os, h.tape, h.output, Nat.le_of_eq h.size.symm, fun k hk => h.block k (by omega)⟩
theorem Only.refl (g : Nat) (w : World) : Only g w w := ⟨rfl, rfl, rfl, rfl, fun _ _ => rfl⟩
theorem Only.setCell {g : Nat} {a w : World} (h : Only g a w) {p : Addr} (hp : p.block = g) (v : Value) : Only g a (w.setCell p v) :=
  ⟨h.os, h.tape, h.output, by rw [World.size_setCell]; exact h.size, fun k hk => by rw [Below.heap_setCell _ _ _ _ (by omega)]; exact h.block k hk⟩

def qUpon (P : Program) (w : World) (v : Value) : Result Next → Prop
  | .ok (.value u) w' => u = v ∧ w' = w
  | .ok .skip w' => v = undef ∧ w' = w
  | .ok (.enter f args) w' => w' = w ∧ Calls P f args w fun e w'' => e = .returned v ∧ Below w.heap.size w w''
  | _ => False
theorem qUpon_value {P : Program} {w : World} {v u : Value} : qUpon P w v (.ok (.value u) w) = (u = v) := by simp [qUpon]
theorem qUpon_enter {P : Program} {w : World} {v : Value} {f : FuncId} {args : Array Value} : qUpon P w v (.ok (.enter f args) w) = Calls P f args w fun e w'' => e = .returned v ∧ Below w.heap.size w w'' := by simp [qUpon]
theorem q_value {P : Program} {w : World} {u : Value} : qUpon P w u (.ok (.value u) w) := ⟨rfl, rfl⟩
theorem q_skip {P : Program} {w : World} : qUpon P w undef (.ok .skip w) := ⟨rfl, rfl⟩
theorem q_call {P : Program} {w : World} {v : Value} {f : FuncId} {args : Array Value} (h : Calls P f args w fun e w'' => e = .returned v ∧ Below w.heap.size w w'') : qUpon P w v (.ok (.enter f args) w) := ⟨rfl, h⟩
def qAt (P : Program) (o : Oper) (a : Act) (w0 : World) (perm : List (Nat × Obj)) (v : Value) : Prop := ∀ w, Cls w0 perm w → qUpon P w v ((execOp a.eval o).run P w)
def mAt (P : Program) (o : Oper) (a : Act) (w0 : World) (perm : List (Nat × Obj)) (f : Nat → Value) (obj : Obj) : Prop :=
  ∀ w, Cls w0 perm w → (execOp a.eval o).run P w = .ok (.value (f w.heap.size)) (w.alloc obj)
def sAt (P : Program) (o : Oper) (a : Act) (w0 : World) (perm : List (Nat × Obj)) (g : Nat) (obj obj' : Obj) : Prop :=
  ∀ w, Cls w0 perm w → w.heap[g]? = some obj → ∃ w', ((execOp a.eval o).run P w = .ok .skip w' ∨ (execOp a.eval o).run P w = .ok (.value undef) w') ∧ Only g w w' ∧ w'.heap[g]? = some obj'

section
variable {P : Program} {ops : Array Oper} {md : Region.Mode} {w0 : World}

theorem qAt.more {o : Oper} {a : Act} {perm : List (Nat × Obj)} {v : Value} (h : qAt P o a w0 perm v) (p : Nat × Obj) : qAt P o a w0 (p :: perm) v := fun w hw => h w hw.tail

/-- Operation number 'i' comes up, of the state nothing being known but the frame and the blocks of the call's own. -/
def fOp (P : Program) (ops : Array Oper) (w0 : World) (i : Nat) (K : Act → List (Nat × Obj) → List (Nat × Obj) → Prop) (a : Act) (perm own : List (Nat × Obj)) : Prop :=
  match ops[i]? with
  | none => K a perm own
  | some o => if Region.wanted o (yielded ops a.tmps) then
      (∃ v, qAt P o a w0 perm v ∧ K (a.put o.dst v) perm own) ∨
      (∃ f obj, mAt P o a w0 perm f obj ∧ ∀ g, w0.heap.size ≤ g → (∀ p ∈ perm, p.1 ≠ g) → (∀ p ∈ own, p.1 ≠ g) → K (a.put o.dst (f g)) perm ((g, obj) :: own)) ∨
      (∃ f obj, mAt P o a w0 perm f obj ∧ ∀ g, w0.heap.size ≤ g → (∀ p ∈ perm, p.1 ≠ g) → (∀ p ∈ own, p.1 ≠ g) → K (a.put o.dst (f g)) ((g, obj) :: perm) own) ∨
      (∃ g obj obj', (g, obj) ∈ own ∧ (∀ p ∈ perm, p.1 ≠ g) ∧ sAt P o a w0 perm g obj obj' ∧ K (a.put o.dst undef) perm (own.map fun p => if p.1 = g then (g, obj') else p))
    else K (a.put o.dst undef) perm own

theorem fOp_mono {i : Nat} {K K' : Act → List (Nat × Obj) → List (Nat × Obj) → Prop} (h : ∀ a p o, K a p o → K' a p o) {a : Act} {perm own : List (Nat × Obj)} (hh : fOp P ops w0 i K a perm own) : fOp P ops w0 i K' a perm own := by
  unfold fOp at *
  split
  · exact h _ _ _ (by simpa [*] using hh)
  · rename_i o ho
    simp only [ho] at hh
    split
    · rename_i hw
      simp only [hw, if_true] at hh
      rcases hh with ⟨v, h1, h2⟩ | ⟨f, obj, h1, h2⟩ | ⟨f, obj, h1, h2⟩ | ⟨g, obj, obj', h1, h2, h3, h4⟩
      · exact .inl ⟨v, h1, h _ _ _ h2⟩
      · exact .inr (.inl ⟨f, obj, h1, fun g a b c => h _ _ _ (h2 g a b c)⟩)
      · exact .inr (.inr (.inl ⟨f, obj, h1, fun g a b c => h _ _ _ (h2 g a b c)⟩))
      · exact .inr (.inr (.inr ⟨g, obj, obj', h1, h2, h3, h _ _ _ h4⟩))
    · rename_i hw; simp only [hw] at hh; exact h _ _ _ hh

/-- Whatever order is picked from here on. -/
def wpF (P : Program) (md : Region.Mode) (ops : Array Oper) (w0 : World) (Q : Act → World → Prop) : Nat → Array Bool → Act → List (Nat × Obj) → List (Nat × Obj) → Prop
  | 0, listed, a, perm, own => Region.ready md ops listed = [] ∧ ∀ w, Cls w0 perm w → Owned w0.heap.size own w → Q a w
  | fuel + 1, listed, a, perm, own => (Region.ready md ops listed = [] → ∀ w, Cls w0 perm w → Owned w0.heap.size own w → Q a w) ∧
    ∀ i ∈ Region.ready md ops listed, fOp P ops w0 i (wpF P md ops w0 Q fuel (listed.setIfInBounds i true)) a perm own

theorem below_alloc (w : World) (o : Obj) : Below w.heap.size w (w.alloc o) := (Below.refl _ _).alloc (Nat.le_refl _) o

theorem wpOp_of_fOp {i : Nat} {a : Act} {perm own : List (Nat × Obj)} {K : Act → List (Nat × Obj) → List (Nat × Obj) → Prop} {K' : Act → World → Prop} {Q' : Exit → Act → World → Prop} {w : World}
    (hC : Cls w0 perm w) (hO : Owned w0.heap.size own w) (h : ∀ a perm own w, Cls w0 perm w → Owned w0.heap.size own w → K a perm own → K' a w) (hh : fOp P ops w0 i K a perm own) : wpOp P ops Q' i K' a w := by
  unfold fOp at hh
  unfold wpOp
  split
  · rename_i ho; simp only [ho] at hh; exact h _ _ _ _ hC hO hh
  · rename_i o ho
    simp only [ho] at hh
    split
    · rename_i hw
      simp only [hw, if_true] at hh
      refine .inl ?_
      unfold Oper.wp
      rcases hh with ⟨v, h1, h2⟩ | ⟨f, obj, h1, h2⟩ | ⟨f, obj, h1, h2⟩ | ⟨g, obj, obj', h1, h2, h3, h4⟩
      · have h3 := h1 w hC
        generalize (execOp a.eval o).run P w = r at *
        cases r with
        | ok n w' =>
          cases n <;> simp only [qUpon] at h3 <;> simp only [Oper.upon]
          case value u =>
            obtain ⟨e1, e2⟩ := h3
            rw [e1, e2]
            exact h _ _ _ _ hC hO h2
          case skip =>
            obtain ⟨e1, e2⟩ := h3
            rw [← e1, e2]
            exact h _ _ _ _ hC hO h2
          case enter f args =>
            obtain ⟨e1, hc⟩ := h3
            rw [e1]
            exact hc.mono fun e w'' ⟨he, hw''⟩ => by subst he; exact h _ _ _ _ (hC.kept hw'') (hO.kept hw'') h2
        | halt x w' => simp only [qUpon] at h3
      · rw [h1 w hC]
        simp only [Oper.upon]
        have hb := below_alloc w obj
        have fresh : ∀ l, Owned w0.heap.size l w → ∀ p ∈ l, p.1 ≠ w.heap.size := fun l hl p hp e => by have := hl.lt hp; omega
        refine h _ _ _ _ (hC.kept hb) ?_ (h2 w.heap.size hC.below.size (fresh _ hC.perm) (fresh _ hO))
        intro p hp
        rcases List.mem_cons.1 hp with rfl | hp
        · exact ⟨hC.below.size, by show (w.heap.push obj)[w.heap.size]? = _; simp⟩
        · exact (hO.kept hb) p hp
      · rw [h1 w hC]
        simp only [Oper.upon]
        have hb := below_alloc w obj
        have fresh : ∀ l, Owned w0.heap.size l w → ∀ p ∈ l, p.1 ≠ w.heap.size := fun l hl p hp e => by have := hl.lt hp; omega
        refine h _ _ _ _ ⟨(hC.kept hb).below, ?_⟩ (hO.kept hb) (h2 w.heap.size hC.below.size (fresh _ hC.perm) (fresh _ hO))
        intro p hp
        rcases List.mem_cons.1 hp with rfl | hp
        · exact ⟨hC.below.size, by show (w.heap.push obj)[w.heap.size]? = _; simp⟩
        · exact (hC.kept hb).perm p hp
      · obtain ⟨w', hr, hon, hg⟩ := h3 w hC (hO _ h1).2
        have hC' : Cls w0 perm w' := ⟨hC.below.trans (hon.below (hO _ h1).1), fun p hp => ⟨(hC.perm p hp).1, by rw [hon.block _ (h2 p hp)]; exact (hC.perm p hp).2⟩⟩
        have hO' : Owned w0.heap.size (own.map fun p => if p.1 = g then (g, obj') else p) w' := by
          intro q hq
          obtain ⟨p, hp, rfl⟩ := List.mem_map.1 hq
          split
          · exact ⟨(hO _ h1).1, hg⟩
          · rename_i hne
            exact ⟨(hO p hp).1, by rw [hon.block _ hne]; exact (hO p hp).2⟩
        rcases hr with hr | hr <;> rw [hr] <;> simp only [Oper.upon] <;> exact h _ _ _ _ hC' hO' h4
    · rename_i hw; simp only [hw] at hh; exact h _ _ _ _ hC hO hh

theorem wpAny_of_wpF {Q : Act → World → Prop} {Q' : Exit → Act → World → Prop} (hQ : ∀ a w, Q a w → Q' .normal a w) : ∀ (fuel : Nat) (listed : Array Bool) (a : Act) (perm own : List (Nat × Obj)) (w : World),
    Cls w0 perm w → Owned w0.heap.size own w → wpF P md ops w0 Q fuel listed a perm own → wpAny P md ops Q' fuel listed a w
  | 0, _, _, _, _, w, hC, hO, h => ⟨h.1, hQ _ _ (h.2 w hC hO)⟩
  | fuel + 1, _, _, _, _, w, hC, hO, h => ⟨fun h0 => hQ _ _ (h.1 h0 w hC hO), fun i hi => wpOp_of_fOp hC hO (fun a' p' o' w' hC' hO' => wpAny_of_wpF hQ fuel _ a' p' o' w' hC' hO') (h.2 i hi)⟩

def YieldsF (P : Program) (ops : Array Oper) (w0 : World) (perm : List (Nat × Obj)) (o : Oper) (v : Value) (a : Act) : Prop :=
  (Region.wanted o (yielded ops a.tmps) = true ∧ qAt P o a w0 perm v) ∨ (Region.wanted o (yielded ops a.tmps) = false ∧ v = undef)

theorem YieldsF.fOp {i : Nat} {o : Oper} {v : Value} {a : Act} {perm own : List (Nat × Obj)} (hi : ops[i]? = some o) (hy : YieldsF P ops w0 perm o v a) {K : Act → List (Nat × Obj) → List (Nat × Obj) → Prop} (h : K (a.put o.dst v) perm own) : fOp P ops w0 i K a perm own := by
  unfold Flow.fOp
  simp only [hi]
  rcases hy with ⟨hw, hv⟩ | ⟨hw, rfl⟩
  · simp only [hw, if_true]; exact .inl ⟨v, hv, h⟩
  · simp only [hw, Bool.false_eq_true, if_false]; exact h
theorem YieldsF.of_same {o : Oper} {v : Value} {a a' : Act} {perm : List (Nat × Obj)} (hy : YieldsF P ops w0 perm o v a) (he : execOp a'.eval o = execOp a.eval o)
    (hw : Region.wanted o (yielded ops a'.tmps) = Region.wanted o (yielded ops a.tmps)) : YieldsF P ops w0 perm o v a' := by
  unfold YieldsF qAt at *
  rw [he, hw]
  exact hy
theorem YieldsF.more {o : Oper} {v : Value} {a : Act} {perm : List (Nat × Obj)} (hy : YieldsF P ops w0 perm o v a) (p : Nat × Obj) : YieldsF P ops w0 (p :: perm) o v a :=
  hy.imp (fun h => ⟨h.1, h.2.more p⟩) id

theorem fOp_put {j : Nat} {oi oj : Oper} {v : Value} (hj : ops[j]? = some oj) (hap : oi.apart ops oj = true)
    (hsi : ∀ cs b, oi.op ≠ .select cs b) (hsj : ∀ cs b, oj.op ≠ .select cs b) {K : Act → List (Nat × Obj) → List (Nat × Obj) → Prop} {a : Act} {perm own : List (Nat × Obj)}
    (hy : YieldsF P ops w0 perm oi v a) (h : fOp P ops w0 j K (a.put oi.dst v) perm own) :
    fOp P ops w0 j (fun a' perm' own' => YieldsF P ops w0 perm' oi v a' ∧ K (a'.put oi.dst v) perm' own') a perm own := by
  obtain ⟨h1, h2, h3⟩ := Oper.apart_spec hap
  have keep : ∀ (a : Act) perm, YieldsF P ops w0 perm oi v a → ∀ u, YieldsF P ops w0 perm oi v (a.put oj.dst u) := fun a perm hy u =>
    hy.of_same (execOp_put oi hsi a oj.dst u h3) (wanted_put oi a oj.dst u h3)
  unfold fOp at *
  simp only [hj] at *
  rw [wanted_put oj a oi.dst v h1] at h
  split
  · rename_i hw
    simp only [hw, if_true] at h
    simp only [qAt, mAt, sAt, execOp_put oj hsj a oi.dst v h1] at h
    rcases h with ⟨u, hu, hn⟩ | ⟨f, obj, hu, hn⟩ | ⟨f, obj, hu, hn⟩ | ⟨g, obj, obj', e1, e2, hu, hn⟩
    · exact .inl ⟨u, hu, keep a _ hy u, by rw [← Act.put_comm a v u h2]; exact hn⟩
    · exact .inr (.inl ⟨f, obj, hu, fun g x y z => ⟨keep a _ hy _, by rw [← Act.put_comm a v _ h2]; exact hn g x y z⟩⟩)
    · exact .inr (.inr (.inl ⟨f, obj, hu, fun g x y z => ⟨keep a _ (hy.more _) _, by rw [← Act.put_comm a v _ h2]; exact hn g x y z⟩⟩))
    · exact .inr (.inr (.inr ⟨g, obj, obj', e1, e2, hu, keep a _ hy _, by rw [← Act.put_comm a v _ h2]; exact hn⟩))
  · rename_i hw
    simp only [hw] at h
    exact ⟨keep a _ hy _, by rw [← Act.put_comm a v undef h2]; exact h⟩

theorem wpF_first {Q : Act → World → Prop} {i : Nat} {oi : Oper} {v : Value} (hi : ops[i]? = some oi) (hsel : ∀ (j : Nat) (o : Oper) cs b, ops[j]? = some o → o.op ≠ .select cs b) :
    ∀ (fuel : Nat) (listed : Array Bool) (a : Act) (perm own : List (Nat × Obj)),
      (∀ j oj, ops[j]? = some oj → j ≠ i → listed.getD j true = false → (∀ e ∈ oj.after, Region.binds md e = true → e.on ≠ i) → oi.apart ops oj = true) →
      i ∈ Region.ready md ops listed → YieldsF P ops w0 perm oi v a →
      wpF P md ops w0 Q fuel (listed.setIfInBounds i true) (a.put oi.dst v) perm own → wpF P md ops w0 Q (fuel + 1) listed a perm own := by
  intro fuel
  induction fuel with
  | zero =>
    intro listed a perm own _ hr hy H
    refine ⟨fun h => (by rw [h] at hr; cases hr), fun j hj => ?_⟩
    by_cases hji : j = i
    · subst hji; exact hy.fOp hi H
    · have := ready_mono hj hji
      rw [H.1] at this
      cases this
  | succ fuel ih =>
    intro listed a perm own hfree hr hy H
    refine ⟨fun h => (by rw [h] at hr; cases hr), fun j hj => ?_⟩
    by_cases hji : j = i
    · subst hji; exact hy.fOp hi H
    · have h1 := H.2 j (ready_mono hj hji)
      obtain ⟨hjun, oj, hoj, hall⟩ := mem_ready.1 hj
      have hnot : ∀ e ∈ oj.after, Region.binds md e = true → e.on ≠ i := fun e he hb heq => by
        have h1 := hall e he hb
        have h0 := (mem_ready.1 hr).1
        rw [heq] at h1
        rcases Nat.lt_or_ge i listed.size with h' | h'
        · simp [h'] at h0 h1; rw [h0] at h1; cases h1
        · simp [Array.getElem?_eq_none h'] at h1
      have h2 := fOp_put hoj (hfree j oj hoj hji hjun hnot) (fun cs b => hsel i oi cs b hi) (fun cs b => hsel j oj cs b hoj) hy h1
      have hfree' : ∀ k ok, ops[k]? = some ok → k ≠ i → (listed.setIfInBounds j true).getD k true = false →
          (∀ e ∈ ok.after, Region.binds md e = true → e.on ≠ i) → oi.apart ops ok = true := fun k ok hk hki hun hno => by
        refine hfree k ok hk hki ?_ hno
        by_cases hjk : j = k
        · subst hjk; exact hjun
        · rw [getD_set_ne true hjk] at hun; exact hun
      refine fOp_mono (fun a' p' o' h3 => ih (listed.setIfInBounds j true) a' p' o' hfree' (ready_mono hr (Ne.symm hji)) h3.1 ?_) h2
      rw [Array.setIfInBounds_comm _ _ hji]
      exact h3.2

/-- Some operations in an order that may be taken. -/
def segB (md : Region.Mode) (ops : Array Oper) : List Nat → Array Bool → Bool
  | [], _ => true
  | k :: ks, listed => (Region.ready md ops listed).contains k && Region.free md ops listed k && segB md ops ks (listed.setIfInBounds k true)
def listing : List Nat → Array Bool → Array Bool
  | [], listed => listed
  | k :: ks, listed => listing ks (listed.setIfInBounds k true)
/-- Those operations, one behind the other, each with its one value. -/
def wpSeg (P : Program) (ops : Array Oper) (w0 : World) (perm : List (Nat × Obj)) (K : Act → Prop) : List Oper → Act → Prop
  | [], a => K a
  | o :: rest, a => if Region.wanted o (yielded ops a.tmps) then ∃ v, qAt P o a w0 perm v ∧ wpSeg P ops w0 perm K rest (a.put o.dst v) else wpSeg P ops w0 perm K rest (a.put o.dst undef)
theorem wpSeg_nil {perm : List (Nat × Obj)} {K : Act → Prop} {a : Act} (h : K a) : wpSeg P ops w0 perm K [] a := h
theorem wpSeg_on {perm : List (Nat × Obj)} {K : Act → Prop} {a : Act} {o : Oper} {rest : List Oper} (hw : Region.wanted o (yielded ops a.tmps) = true) {v : Value}
    (h : ∀ w, Cls w0 perm w → qUpon P w v ((execOp a.eval o).run P w)) (hk : wpSeg P ops w0 perm K rest (a.put o.dst v)) : wpSeg P ops w0 perm K (o :: rest) a := by
  unfold wpSeg; rw [if_pos hw]; exact ⟨v, h, hk⟩
theorem wpSeg_plain {perm : List (Nat × Obj)} {K : Act → Prop} {a : Act} {o : Oper} {rest : List Oper} (hg : o.guard = none) {v : Value}
    (h : ∀ w, Cls w0 perm w → qUpon P w v ((execOp a.eval o).run P w)) (hk : wpSeg P ops w0 perm K rest (a.put o.dst v)) : wpSeg P ops w0 perm K (o :: rest) a :=
  wpSeg_on (by unfold Region.wanted; rw [hg]) h hk
theorem wpSeg_off {perm : List (Nat × Obj)} {K : Act → Prop} {a : Act} {o : Oper} {rest : List Oper} (hw : Region.wanted o (yielded ops a.tmps) = false)
    (hk : wpSeg P ops w0 perm K rest (a.put o.dst undef)) : wpSeg P ops w0 perm K (o :: rest) a := by
  unfold wpSeg; rw [if_neg (by rw [hw]; decide)]; exact hk

theorem wpF_segs {Q : Act → World → Prop} (hs : Region.noSelect ops = true) {fuel : Nat} {perm own : List (Nat × Obj)} : ∀ (ks : List Nat) (l : List Oper) (listed : Array Bool) (a : Act), ks.map (fun k => ops[k]?) = l.map some →
    segB md ops ks listed = true → wpSeg P ops w0 perm (fun a' => wpF P md ops w0 Q fuel (listing ks listed) a' perm own) l a → wpF P md ops w0 Q (ks.length + fuel) listed a perm own
  | [], [], _, _, _, _, h => by simpa [listing, wpSeg] using h
  | k :: ks, o :: l, listed, a, hl, hB, h => by
    simp only [List.map_cons, List.cons.injEq] at hl
    obtain ⟨h0, hl⟩ := hl
    simp only [segB, Bool.and_eq_true] at hB
    obtain ⟨⟨hr, hf⟩, hB'⟩ := hB
    have hy : ∃ v, YieldsF P ops w0 perm o v a ∧ wpSeg P ops w0 perm (fun a' => wpF P md ops w0 Q fuel (listing (k :: ks) listed) a' perm own) l (a.put o.dst v) := by
      unfold wpSeg at h
      split at h
      · rename_i hw; obtain ⟨v, h1, h2⟩ := h; exact ⟨v, .inl ⟨hw, h1⟩, h2⟩
      · rename_i hw; exact ⟨undef, .inr ⟨by simpa using hw, rfl⟩, h⟩
    obtain ⟨v, hy, hK⟩ := hy
    rw [show (k :: ks).length + fuel = (ks.length + fuel) + 1 by simp only [List.length_cons]; omega]
    exact wpF_first h0 (Region.noSelect_spec hs) _ listed a perm own (Region.free_spec h0 hf) (by simpa using hr) hy
      (wpF_segs hs ks l _ _ hl hB' hK)
  | [], _ :: _, _, _, hl, _, _ => by simp at hl
  | _ :: _, [], _, _, hl, _, _ => by simp at hl

/-- The chosen operations of a list. -/
def pickOps (L : List Oper) : List Nat → List Oper
  | [] => []
  | k :: ks => match L[k]? with
    | some o => o :: pickOps L ks
    | none => []
/-- A segment of quiet operations, in an order of one's own choice. -/
theorem wpF_seg {L : List Oper} {Q : Act → World → Prop} {n : Nat} (ks : List Nat) (fuel : Nat) (hn : n = ks.length + fuel) {perm own : List (Nat × Obj)} {listed : Array Bool} {a : Act}
    (hB : (Region.noSelect L.toArray && ((ks.map (fun k => (L[k]?).isSome)).all id && segB md L.toArray ks listed)) = true)
    (h : wpSeg P L.toArray w0 perm (fun a' => wpF P md L.toArray w0 Q fuel (listing ks listed) a' perm own) (pickOps L ks) a) : wpF P md L.toArray w0 Q n listed a perm own := by
  subst hn
  simp only [Bool.and_eq_true] at hB
  refine wpF_segs hB.1 ks (pickOps L ks) listed a ?_ hB.2.2 h
  have hall := hB.2.1
  clear h hB
  induction ks with
  | nil => rfl
  | cons k ks ih =>
    simp only [List.map_cons, List.all_cons, Bool.and_eq_true, id] at hall
    cases ho : L[k]? with
    | none => rw [ho] at hall; simp at hall
    | some o =>
      have := ih hall.2
      simp [pickOps, ho]
      simpa using this

/-- One operation that must come next. -/
theorem wpF_next {L : List Oper} {Q : Act → World → Prop} {fuel : Nat} {perm own : List (Nat × Obj)} {listed : Array Bool} {a : Act} (k : Nat)
    (hr : Region.ready md L.toArray listed = [k]) (h : fOp P L.toArray w0 k (wpF P md L.toArray w0 Q fuel (listed.setIfInBounds k true)) a perm own) : wpF P md L.toArray w0 Q (fuel + 1) listed a perm own :=
  ⟨fun h0 => (by rw [hr] at h0; cases h0), fun i hi => by rw [hr] at hi; simp at hi; subst hi; exact h⟩
/-- Two of which either may come next. -/
theorem wpF_next2 {L : List Oper} {Q : Act → World → Prop} {fuel : Nat} {perm own : List (Nat × Obj)} {listed : Array Bool} {a : Act} (k m : Nat)
    (hr : Region.ready md L.toArray listed = [k, m]) (h : fOp P L.toArray w0 k (wpF P md L.toArray w0 Q fuel (listed.setIfInBounds k true)) a perm own)
    (h' : fOp P L.toArray w0 m (wpF P md L.toArray w0 Q fuel (listed.setIfInBounds m true)) a perm own) : wpF P md L.toArray w0 Q (fuel + 1) listed a perm own :=
  ⟨fun h0 => (by rw [hr] at h0; cases h0), fun i hi => by rw [hr] at hi; simp at hi; rcases hi with rfl | rfl <;> assumption⟩
theorem wpF_done {L : List Oper} {Q : Act → World → Prop} {perm own : List (Nat × Obj)} {listed : Array Bool} {a : Act} (hr : Region.ready md L.toArray listed = [])
    (h : ∀ w, Cls w0 perm w → Owned w0.heap.size own w → Q a w) : wpF P md L.toArray w0 Q 0 listed a perm own := ⟨hr, h⟩
/-- A new block that is to be stored into. -/
theorem fOp_make {i : Nat} {K : Act → List (Nat × Obj) → List (Nat × Obj) → Prop} {a : Act} {perm own : List (Nat × Obj)} {o : Oper} (ho : ops[i]? = some o) (hg : Region.wanted o (yielded ops a.tmps) = true) (f : Nat → Value) (obj : Obj)
    (hm : ∀ w, Cls w0 perm w → (execOp a.eval o).run P w = .ok (.value (f w.heap.size)) (w.alloc obj)) (h : ∀ g, w0.heap.size ≤ g → (∀ p ∈ perm, p.1 ≠ g) → (∀ p ∈ own, p.1 ≠ g) → K (a.put o.dst (f g)) perm ((g, obj) :: own)) : fOp P ops w0 i K a perm own := by
  unfold fOp; simp only [ho, hg, if_true]; exact .inr (.inl ⟨f, obj, hm, h⟩)
/-- A new block that stays as it is. -/
theorem fOp_lay {i : Nat} {K : Act → List (Nat × Obj) → List (Nat × Obj) → Prop} {a : Act} {perm own : List (Nat × Obj)} {o : Oper} (ho : ops[i]? = some o) (hg : Region.wanted o (yielded ops a.tmps) = true) (f : Nat → Value) (obj : Obj)
    (hm : ∀ w, Cls w0 perm w → (execOp a.eval o).run P w = .ok (.value (f w.heap.size)) (w.alloc obj)) (h : ∀ g, w0.heap.size ≤ g → (∀ p ∈ perm, p.1 ≠ g) → (∀ p ∈ own, p.1 ≠ g) → K (a.put o.dst (f g)) ((g, obj) :: perm) own) : fOp P ops w0 i K a perm own := by
  unfold fOp; simp only [ho, hg, if_true]; exact .inr (.inr (.inl ⟨f, obj, hm, h⟩))
/-- A store into a block of the call's own. -/
theorem fOp_store {i : Nat} {K : Act → List (Nat × Obj) → List (Nat × Obj) → Prop} {a : Act} {perm own : List (Nat × Obj)} {o : Oper} (ho : ops[i]? = some o) (hg : Region.wanted o (yielded ops a.tmps) = true) (g : Nat) (obj obj' : Obj)
    (hin : (g, obj) ∈ own) (hne : ∀ p ∈ perm, p.1 ≠ g)
    (hs : ∀ w, Cls w0 perm w → w.heap[g]? = some obj → ∃ w', ((execOp a.eval o).run P w = .ok .skip w' ∨ (execOp a.eval o).run P w = .ok (.value undef) w') ∧ Only g w w' ∧ w'.heap[g]? = some obj')
    (h : K (a.put o.dst undef) perm (own.map fun p => if p.1 = g then (g, obj') else p)) : fOp P ops w0 i K a perm own := by
  unfold fOp; simp only [ho, hg, if_true]; exact .inr (.inr (.inr ⟨g, obj, obj', hin, hne, hs, h⟩))

theorem cls_drew (w : World) : Cls w [] { w with drawn := w.drawn + 1 } := ⟨⟨rfl, rfl, rfl, Nat.le_refl _, fun _ _ => rfl⟩, Owned.nil _ _⟩

/-- A region that draws its order. -/
theorem wp_region_flow {id : Nat} {L : List Oper} {Q : Exit → Act → World → Prop} {a : Act} {w : World} (hm : P.follows .mixedOrders = true) (n : Nat) (hn : L.length = n)
    (h : wpF P .any L.toArray w (fun a' w' => Q .normal a' w') n (Array.replicate n false) a [] []) : (Code.region id L.toArray true).wp P Q a w := by
  subst hn
  refine wp_region_any hm ?_
  exact wpAny_of_wpF (fun _ _ h => h) _ _ _ _ _ _ (cls_drew w) (Owned.nil _ _) (by simpa using h)

/-- .. all of it quiet: one walk, in the order of the text. -/
theorem wp_region_all {id : Nat} {L : List Oper} {Q : Exit → Act → World → Prop} {a : Act} {w : World} (hm : P.follows .mixedOrders = true) (hB : Region.lexB .any L.toArray = true)
    (h : wpSeg P L.toArray w [] (fun a' => ∀ w', Below w.heap.size w w' → Q .normal a' w') L a) : (Code.region id L.toArray true).wp P Q a w := by
  have conv : ∀ (l : List Oper) (a : Act), wpSeg P L.toArray w [] (fun a' => ∀ w', Below w.heap.size w w' → Q .normal a' w') l a →
      wpQuiet P L.toArray (fun w' => Below w.heap.size w w') (fun a' => ∀ w', Below w.heap.size w w' → Q .normal a' w') l a := by
    intro l
    induction l with
    | nil => intro a h; exact h
    | cons o l ih =>
      intro a h
      unfold wpSeg at h
      unfold wpQuiet
      split at h
      · rename_i hw
        rw [if_pos hw]
        obtain ⟨v, h1, h2⟩ := h
        refine ⟨v, fun w1 hw1 => ?_, ih _ h2⟩
        have h3 := h1 w1 ⟨hw1, Owned.nil _ _⟩
        unfold Oper.quietAt
        generalize (execOp a.eval o).run P w1 = r at *
        cases r with
        | ok n w' =>
          cases n <;> simp only [qUpon] at h3 <;> simp only [Oper.quietUpon]
          case value u => exact ⟨h3.2, h3.1⟩
          case skip => exact ⟨h3.2, h3.1⟩
          case enter f args => exact ⟨h3.1, h3.2.mono fun e w2 ⟨he, hb⟩ => ⟨he, hw1.trans (hb.mono hw1.size)⟩⟩
        | halt x w' => simp only [qUpon] at h3
      · rename_i hw
        rw [if_neg hw]
        exact ih _ h
  exact wp_region_quiet (C := fun w' => Below w.heap.size w w') hm hB ⟨rfl, rfl, rfl, Nat.le_refl _, fun _ _ => rfl⟩ (by simpa using conv L a h)
end

/-- What a world of the class gives the walk. -/
theorem Cls.cell {w0 : World} {perm : List (Nat × Obj)} {w : World} (h : Cls w0 perm w) : ∀ b o, b < w0.heap.size → w.cell? ⟨b, o, none⟩ = w0.cell? ⟨b, o, none⟩ := fun b o hb => h.below.cell (p := ⟨b, o, none⟩) hb
theorem bcell {w0 w : World} (h : Below w0.heap.size w0 w) : ∀ b o, b < w0.heap.size → w.cell? ⟨b, o, none⟩ = w0.cell? ⟨b, o, none⟩ := fun b o hb => h.cell (p := ⟨b, o, none⟩) hb
theorem bfrozen {w0 w : World} (h : Below w0.heap.size w0 w) : ∀ b o, b < w0.heap.size → w.frozen? ⟨b, o, none⟩ = w0.frozen? ⟨b, o, none⟩ := fun b o hb => h.frozen (p := ⟨b, o, none⟩) hb

/-- A block known whole, none of it frozen. -/
def Blk (w : World) (g : Nat) (t : TypeId) (cs : Array Value) : Prop := w.heap[g]? = some (.cells cs t (0, 0))
section
variable {w w' : World} {g : Nat} {t : TypeId} {cs : Array Value}
theorem Blk.lt (h : Blk w g t cs) : g < w.heap.size := by
  rcases Nat.lt_or_ge g w.heap.size with hl | hg
  · exact hl
  · unfold Blk at h; rw [Array.getElem?_eq_none hg] at h; cases h
theorem Blk.cell (h : Blk w g t cs) : ∀ i, w.cell? ⟨g, i, none⟩ = cs[i]? := fun i => by unfold Blk at h; simp [World.cell?, h]
theorem Blk.frozen (h : Blk w g t cs) : ∀ i, w.frozen? ⟨g, i, none⟩ = false := fun i => by unfold Blk at h; simp [World.frozen?, h]
theorem Blk.new (w : World) (t : TypeId) (cs : Array Value) : Blk (w.alloc (.cells cs t)) w.heap.size t cs := by
  show (w.heap.push _)[w.heap.size]? = _
  simp
theorem Blk.alloc (h : Blk w g t cs) (o : Obj) : Blk (w.alloc o) g t cs := (Below.heap_alloc w o g h.lt).trans h
theorem Blk.drew (h : Blk w g t cs) : Blk w.drew g t cs := h
theorem Blk.below (h : Blk w g t cs) (hb : Below w.heap.size w w') : Blk w' g t cs := (hb.block g h.lt).trans h
theorem Blk.under {B : Nat} (h : Blk w g t cs) (hb : Below B w w') (hg : g < B) : Blk w' g t cs := (hb.block g hg).trans h
theorem Blk.set (h : Blk w g t cs) (i : Nat) (u : Value) : Blk (w.setCell ⟨g, i, none⟩ u) g t (cs.setIfInBounds i u) := by
  unfold Blk at h ⊢
  simp [World.setCell, Array.getElem?_modify, h]
theorem Blk.same (h : Blk w g t cs) (i : Nat) (hi : i < cs.size) : ∀ v, (w.setCell ⟨g, i, none⟩ v).cell? ⟨g, i, none⟩ = some v := fun v => by
  rw [(h.set i v).cell i]; simp [hi]
theorem Blk.far (h : Blk w g t cs) {p : Addr} (hp : g ≠ p.block) (u : Value) : Blk (w.setCell p u) g t cs := (Below.heap_setCell w p u g hp).trans h
theorem Blk.ne (h : Blk w g t cs) {g' : Nat} (hg : w.heap.size ≤ g') : g ≠ g' := by have := h.lt; omega
end
end Go.Proofs.Ythkphapmnlndbab.Flow
