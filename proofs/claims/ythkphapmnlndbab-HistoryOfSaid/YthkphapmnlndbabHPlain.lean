/- The plain law of history: the program's fold and the document's answer agree. No program in sight. -/
import Derived.Test.YthkphapmnlndbabHist
namespace Go.Proofs.Ythkphapmnlndbab
def Rc.new (r : Rc) : Rc := { r with en := 0, er := 0, an := 0, wr := false }
def Rc.upd (e r : Rc) : Rc := if 0 < r.en ∧ (e.en = 0 ∨ r.en < e.en) then { e with en := r.en, er := r.er, an := r.an, wr := r.wr } else e
theorem same_iff (a b : Rc) : a.same b = true ↔ a.nd = b.nd ∧ a.ss = b.ss ∧ a.sq = b.sq := by simp [Rc.same, and_assoc]
theorem same_refl (a : Rc) : a.same a = true := by simp [same_iff]
theorem same_comm (a b : Rc) : a.same b = b.same a := by
  rw [Bool.eq_iff_iff, same_iff, same_iff]
  constructor <;> (rintro ⟨h1, h2, h3⟩; exact ⟨h1.symm, h2.symm, h3.symm⟩)
theorem same_congr {a b : Rc} (h : a.same b = true) (c : Rc) : a.same c = b.same c := by
  obtain ⟨h1, h2, h3⟩ := (same_iff a b).1 h
  rw [Bool.eq_iff_iff, same_iff, same_iff, h1, h2, h3]
theorem upd_same (e r c : Rc) : (e.upd r).same c = e.same c := by unfold Rc.upd; split <;> rfl
theorem new_same (e c : Rc) : e.new.same c = e.same c := rfl
theorem upd_ky (e r : Rc) : (e.upd r).ky = e.ky := by unfold Rc.upd; split <;> rfl
theorem upd_st (e r : Rc) : (e.upd r).st = e.st := by unfold Rc.upd; split <;> rfl
theorem upd_op (e r : Rc) : (e.upd r).op = e.op := by unfold Rc.upd; split <;> rfl
/-- One record taken into an entry. -/
def Rc.take1 (x e y : Rc) : Rc := if y.refused = false ∧ y.same x = true then e.upd y else e
def foldE (x e : Rc) (l : List Rc) : Rc := l.foldl (x.take1) e
theorem take1_same (x e y c : Rc) : (x.take1 e y).same c = e.same c := by unfold Rc.take1; split; exact upd_same _ _ _; rfl
theorem take1_ky (x e y : Rc) : (x.take1 e y).ky = e.ky := by unfold Rc.take1; split; exact upd_ky _ _; rfl
theorem foldE_same (x : Rc) (l : List Rc) : ∀ (e c : Rc), (foldE x e l).same c = e.same c := by
  induction l with
  | nil => intro e c; rfl
  | cons y l ih => intro e c; show (foldE x (x.take1 e y) l).same c = _; rw [ih, take1_same]
theorem foldE_ky (x : Rc) (l : List Rc) : ∀ (e : Rc), (foldE x e l).ky = e.ky := by
  induction l with
  | nil => intro e; rfl
  | cons y l ih => intro e; show (foldE x (x.take1 e y) l).ky = _; rw [ih, take1_ky]
theorem foldE_snoc (x e : Rc) (l : List Rc) (r : Rc) : foldE x e (l ++ [r]) = x.take1 (foldE x e l) r := by simp [foldE]
/-- No earlier record of the call that counts. -/
def fresh (pre : List Rc) (x : Rc) : Prop := ∀ y ∈ pre, y.refused = false → y.same x = false
instance (pre : List Rc) (x : Rc) : Decidable (fresh pre x) := by unfold fresh; exact inferInstance
/-- The entries that begin in suf. -/
def refFrom : List Rc → List Rc → List Rc
  | _, [] => []
  | pre, x :: suf => (if x.refused = false ∧ fresh pre x then [foldE x x.new (x :: suf)] else []) ++ refFrom (pre ++ [x]) suf
theorem fresh_snoc (pre : List Rc) (x r : Rc) : fresh (pre ++ [x]) r ↔ fresh pre r ∧ (x.refused = false → x.same r = false) := by
  unfold fresh
  constructor
  · intro h; exact ⟨fun y hy => h y (by simp [hy]), fun hx => h x (by simp) hx⟩
  · rintro ⟨h1, h2⟩ y hy hr
    rcases List.mem_append.1 hy with hy | hy
    · exact h1 y hy hr
    · rw [List.mem_singleton] at hy; subst hy; exact h2 hr
theorem fresh_congr {pre : List Rc} {a b : Rc} (h : a.same b = true) : fresh pre a ↔ fresh pre b := by
  unfold fresh
  have e : ∀ y : Rc, y.same a = y.same b := fun y => by rw [same_comm y a, same_comm y b]; exact same_congr h y
  simp only [e]
theorem refFrom_snoc (r : Rc) : ∀ (suf pre : List Rc), refFrom pre (suf ++ [r]) = (refFrom pre suf).map (fun e => if r.refused = false ∧ r.same e = true then e.upd r else e) ++ (if r.refused = false ∧ fresh (pre ++ suf) r then [r.new.upd r] else []) := by
  intro suf
  induction suf with
  | nil =>
    intro pre
    simp only [List.nil_append, refFrom, List.map_nil, List.append_nil]
    by_cases h : r.refused = false ∧ fresh pre r
    · rw [if_pos h, if_pos h]
      simp [foldE, Rc.take1, h.1, same_refl]
    · rw [if_neg h, if_neg h]
  | cons x suf ih =>
    intro pre
    have e1 : (x :: suf) ++ [r] = x :: (suf ++ [r]) := rfl
    rw [e1]
    simp only [refFrom]
    rw [ih, show pre ++ [x] ++ suf = pre ++ x :: suf by simp, List.map_append, List.append_assoc]
    congr 1
    by_cases h : x.refused = false ∧ fresh pre x
    · rw [if_pos h, if_pos h, ← e1, foldE_snoc]
      simp only [List.map_cons, List.map_nil]
      congr 1
      unfold Rc.take1
      have e : r.same (foldE x x.new (x :: suf)) = r.same x := by rw [same_comm, foldE_same, new_same, same_comm]
      rw [e]
    · rw [if_neg h, if_neg h]; rfl
theorem fresh_iff (r : Rc) : ∀ (suf pre : List Rc), fresh (pre ++ suf) r ↔ fresh pre r ∧ ∀ e ∈ refFrom pre suf, e.same r = false := by
  intro suf
  induction suf with
  | nil => intro pre; simp [refFrom]
  | cons x suf ih =>
    intro pre
    rw [show pre ++ x :: suf = pre ++ [x] ++ suf by simp, ih, fresh_snoc]
    simp only [refFrom]
    have hs : (foldE x x.new (x :: suf)).same r = x.same r := by rw [foldE_same, new_same]
    constructor
    · rintro ⟨⟨h1, h2⟩, h3⟩
      refine ⟨h1, fun e he => ?_⟩
      rcases List.mem_append.1 he with he | he
      · split at he
        · rename_i hx
          rw [List.mem_singleton] at he
          subst he
          rw [hs]; exact h2 hx.1
        · cases he
      · exact h3 e he
    · rintro ⟨h1, h2⟩
      refine ⟨⟨h1, fun hx => ?_⟩, fun e he => h2 e (List.mem_append_right _ he)⟩
      rcases hxr : x.same r with _ | _
      · rfl
      · have hf : fresh pre x := (fresh_congr hxr).2 h1
        have := h2 (foldE x x.new (x :: suf)) (List.mem_append_left _ (by rw [if_pos ⟨hx, hf⟩]; simp))
        rw [hs, hxr] at this
        exact this
/-- The program's step. -/
def stepE (a : List Rc) (r : Rc) : List Rc :=
  if r.refused = true then a else if ∀ e ∈ a, e.same r = false then a ++ [r.new.upd r] else a.map (fun e => if e.same r = true then e.upd r else e)
theorem refFrom_step (l : List Rc) (r : Rc) : refFrom [] (l ++ [r]) = stepE (refFrom [] l) r := by
  rw [refFrom_snoc]
  unfold stepE
  rcases hr : r.refused with _ | _
  · rw [if_neg (show ¬ (false = true) by simp)]
    have hf := fresh_iff r l []
    rw [List.nil_append] at hf
    have hf2 : fresh l r ↔ ∀ e ∈ refFrom [] l, e.same r = false := by rw [hf]; exact ⟨fun h => h.2, fun h => ⟨fun y hy => (by cases hy), h⟩⟩
    have hm : ((refFrom [] l).map fun e => if false = false ∧ r.same e = true then e.upd r else e) = (refFrom [] l).map (fun e => if e.same r = true then e.upd r else e) := by
      refine List.map_congr_left (fun e _ => ?_)
      rw [same_comm r e]
      simp
    rw [hm, List.nil_append]
    by_cases h : ∀ e ∈ refFrom [] l, e.same r = false
    · rw [if_pos h, if_pos ⟨rfl, hf2.2 h⟩]
      congr 1
      conv => rhs; rw [← List.map_id (refFrom [] l)]
      refine List.map_congr_left (fun e he => ?_)
      rw [h e he]; simp
    · rw [if_neg h, if_neg (fun c => h (hf2.1 c.2)), List.append_nil]
  · rw [if_pos rfl]
    simp
/-- The entries of a key, as both say them. -/
def refOf (l : List Rc) (key : Int) : List Rc := (refFrom [] l).filter (fun e => e.ky == key)
theorem stepE_apart (a : List Rc) (r : Rc) (h : a.Pairwise (fun x y => x.same y = false)) : (stepE a r).Pairwise (fun x y => x.same y = false) := by
  unfold stepE
  split
  · exact h
  · split
    · rename_i hn
      refine List.pairwise_append.2 ⟨h, List.pairwise_singleton _ _, fun x hx y hy => ?_⟩
      rw [List.mem_singleton] at hy
      subst hy
      rw [same_comm, upd_same, new_same, same_comm]
      exact hn x hx
    · refine List.pairwise_map.2 (h.imp (fun {x y} hxy => ?_))
      have e1 : ∀ e c : Rc, (if e.same r = true then e.upd r else e).same c = e.same c := fun e c => by split; exact upd_same _ _ _; rfl
      rw [e1, same_comm, e1, same_comm]
      exact hxy
end Go.Proofs.Ythkphapmnlndbab
