/- Variables that a statement declares: a new block each, and what is stored into it; whatever order the tape picks, one goal. No program in sight. -/
import Derived.Test.YthkphapmnlndbabFlow
namespace Go.Proofs.Ythkphapmnlndbab.Flow
open Go.RowKit

structure Box where
  ia : Nat
  is : Nat
  d : Tmp
  s : Tmp
  t : TypeId
  z : Array Value
  c : Array Value

def putG (L : Nat → Bool) (g : Nat → Nat) : List Box → Act → Act
  | [], a => a
  | p :: ps, a => putG L g ps (if L p.ia then a.put (some p.d) (.pointer (some ⟨g p.ia, 0, none⟩)) else a)
theorem putG_put (L : Nat → Bool) (g : Nat → Nat) (d : Tmp) (v : Value) : ∀ (ps : List Box) (a : Act), (∀ p ∈ ps, p.d ≠ d) → putG L g ps (a.put (some d) v) = (putG L g ps a).put (some d) v
  | [], _, _ => rfl
  | p :: ps, a, h => by
    simp only [putG]
    have hp : p.d ≠ d := h p (by simp)
    have ih := fun a => putG_put L g d v ps a (fun q hq => h q (by simp [hq]))
    split
    · rw [← ih]
      congr 1
      exact Act.put_comm a v _ (fun e he => by cases he; intro h; cases h; exact hp rfl)
    · exact ih a
theorem putG_congr {L L' : Nat → Bool} {g g' : Nat → Nat} : ∀ (ps : List Box) (a : Act), (∀ p ∈ ps, L p.ia = L' p.ia ∧ g p.ia = g' p.ia) → putG L g ps a = putG L' g' ps a
  | [], _, _ => rfl
  | p :: ps, a, h => by
    simp only [putG, (h p (by simp)).1, (h p (by simp)).2]
    exact putG_congr ps _ (fun q hq => h q (by simp [hq]))
theorem putG_step {L L' : Nat → Bool} {g g' : Nat → Nat} {p : Box} : ∀ (ps : List Box) (a : Act), p ∈ ps → (ps.map (·.d)).Nodup → (ps.map (·.ia)).Nodup → L p.ia = false → L' p.ia = true →
    (∀ i, i ≠ p.ia → L' i = L i ∧ g' i = g i) → putG L' g' ps a = (putG L g ps a).put (some p.d) (.pointer (some ⟨g' p.ia, 0, none⟩))
  | q :: ps, a, hp, hd, hi, h0, h1, hs => by
    simp only [List.map_cons, List.nodup_cons, List.mem_map, not_exists, not_and] at hd hi
    simp only [putG]
    rcases List.mem_cons.1 hp with rfl | hp'
    · rw [h0, h1]
      simp only [if_true, Bool.false_eq_true, if_false]
      rw [← putG_put L g p.d _ ps a (fun r hr => fun e => hd.1 r hr e)]
      exact putG_congr ps _ (fun r hr => ⟨(hs r.ia (fun e => hi.1 r hr e)).1, (hs r.ia (fun e => hi.1 r hr e)).2⟩)
    · have hne : q.ia ≠ p.ia := fun e => hi.1 p hp' e.symm
      rw [(hs q.ia hne).1, (hs q.ia hne).2]
      exact putG_step ps _ hp' hd.2 hi.2 h0 h1 hs
theorem putG_size (L : Nat → Bool) (g : Nat → Nat) : ∀ (ps : List Box) (a : Act), (putG L g ps a).tmps.size = a.tmps.size
  | [], _ => rfl
  | p :: ps, a => by
    simp only [putG]
    rw [putG_size L g ps]
    split <;> simp [Act.put]
theorem putG_other (L : Nat → Bool) (g : Nat → Nat) (s : Tmp) : ∀ (ps : List Box) (a : Act), (∀ p ∈ ps, p.d ≠ s) → (putG L g ps a).tmps[s]? = a.tmps[s]?
  | [], _, _ => rfl
  | p :: ps, a, h => by
    simp only [putG]
    rw [putG_other L g s ps _ (fun q hq => h q (by simp [hq]))]
    split
    · simp [Act.put, Array.getElem?_setIfInBounds_ne (h p (by simp))]
    · rfl
theorem putG_at (L : Nat → Bool) (g : Nat → Nat) {p : Box} : ∀ (ps : List Box) (a : Act), p ∈ ps → (ps.map (·.d)).Nodup → L p.ia = true → p.d < a.tmps.size →
    (putG L g ps a).tmps[p.d]? = some (.pointer (some ⟨g p.ia, 0, none⟩))
  | q :: ps, a, hp, hd, h1, hlt => by
    simp only [List.map_cons, List.nodup_cons, List.mem_map, not_exists, not_and] at hd
    simp only [putG]
    rcases List.mem_cons.1 hp with rfl | hp'
    · rw [putG_other L g p.d ps _ (fun r hr e => hd.1 r hr e), h1]
      simp [Act.put, hlt]
    · exact putG_at L g ps _ hp' hd.2 h1 (by split <;> simpa [Act.put] using hlt)

def topoB (md : Region.Mode) (ops : Array Oper) : List Nat → Array Bool → Bool
  | [], _ => true
  | k :: ks, listed => (Region.ready md ops listed).contains k && topoB md ops ks (listed.setIfInBounds k true)
def boxB (md : Region.Mode) (ops : Array Oper) (listed : Array Bool) (ps : List Box) : Bool :=
  decide (listed.size = ops.size) && (List.range ops.size).all (fun i => listed.getD i false || ps.any (fun p => p.ia == i || p.is == i) ||
    (match ops[i]? with | some o => ps.all (fun p => o.after.any (fun e => Region.binds md e && e.on == p.is)) | none => false)) &&
  (ps.all fun p =>
    (match ops[p.ia]? with | some ⟨some d, .alloc t, _, _, _, none⟩ => d == p.d && t == p.t | _ => false) &&
    (match ops[p.is]? with | some ⟨none, .store t (.tmp d) (.tmp s), _, _, after, none⟩ => t == p.t && d == p.d && s == p.s && after.any (fun e => Region.binds md e && e.on == p.ia) | _ => false) &&
    !listed.getD p.ia true && !listed.getD p.is true && ps.all (fun q => q.d != p.s && q.ia != p.is)) &&
  topoB md ops (ps.map (·.ia) ++ ps.map (·.is)) listed && decide (ps.map (·.d)).Nodup && decide (ps.map (·.ia)).Nodup && decide (ps.map (·.is)).Nodup

section
variable {P : Program} {ops : Array Oper} {md : Region.Mode} {w0 : World}

theorem topo_ready : ∀ (ks : List Nat) (l0 listed : Array Bool), topoB md ops ks l0 = true → l0.size = listed.size → (∀ i, l0.getD i false = true → listed.getD i false = true) →
    ∀ k ∈ ks, listed.getD k true = false → Region.ready md ops listed ≠ []
  | k :: ks, l0, listed, hB, hz, hsub, j, hj, hun => by
    simp only [topoB, Bool.and_eq_true] at hB
    obtain ⟨hr, hB⟩ := hB
    have hk : k ∈ Region.ready md ops l0 := by simpa using hr
    obtain ⟨hk0, o, ho, hall⟩ := mem_ready.1 hk
    by_cases hl : listed.getD k true = false
    · intro h0
      have : k ∈ Region.ready md ops listed := mem_ready.2 ⟨hl, o, ho, fun e he hb => hsub _ (hall e he hb)⟩
      rw [h0] at this
      cases this
    · have hl' : listed.getD k true = true := by simpa using hl
      have hklt : k < l0.size := by
        rcases Nat.lt_or_ge k l0.size with h | h
        · exact h
        · simp [Array.getElem?_eq_none h] at hk0
      have hk1 : listed.getD k false = true := by
        have : k < listed.size := by omega
        simp [this] at hl' ⊢
        exact hl'
      have hjk : j ∈ ks := by
        rcases List.mem_cons.1 hj with rfl | h
        · rw [hl'] at hun; cases hun
        · exact h
      refine topo_ready ks (l0.setIfInBounds k true) listed hB (by simpa using hz) (fun i hi => ?_) j hjk hun
      by_cases hik : k = i
      · subst hik; exact hk1
      · rw [getD_set_ne false hik] at hi; exact hsub i hi

theorem inj_of_nodup {α : Type} {f : α → Nat} : ∀ {l : List α}, (l.map f).Nodup → ∀ {a b : α}, a ∈ l → b ∈ l → f a = f b → a = b
  | x :: l, h, a, b, ha, hb, he => by
    simp only [List.map_cons, List.nodup_cons, List.mem_map, not_exists, not_and] at h
    rcases List.mem_cons.1 ha with rfl | ha' <;> rcases List.mem_cons.1 hb with rfl | hb'
    · rfl
    · exact absurd he.symm (h.1 b hb')
    · exact absurd he (h.1 a ha')
    · exact inj_of_nodup h.2 ha' hb' he
theorem getD_set_self {listed : Array Bool} {i : Nat} (d : Bool) (h : i < listed.size) : (listed.setIfInBounds i true).getD i d = true := by
  simp [h]

theorem own_update {own : List (Nat × Obj)} {g k : Nat} {o o' : Obj} (h : (k, o) ∈ own) (hne : k ≠ g) : (k, o) ∈ own.map (fun p => if p.1 = g then (g, o') else p) :=
  List.mem_map.2 ⟨(k, o), h, by simp [hne]⟩
theorem own_update_self {own : List (Nat × Obj)} {g : Nat} {o o' : Obj} (h : (g, o) ∈ own) : (g, o') ∈ own.map (fun p => if p.1 = g then (g, o') else p) :=
  List.mem_map.2 ⟨(g, o), h, by simp⟩

theorem run_alloc_zero {w : World} {t : TypeId} {z : Array Value} {a : Act} {ty : TypeId} {pos : String} {after : Array Edge} {d : Tmp} (hz : (zeroValue t).run P w = .ok (.agg z) w) :
    (execOp a.eval ⟨some d, .alloc t, ty, pos, after, none⟩).run P w = .ok (.value (.pointer (some ⟨w.heap.size, 0, none⟩))) (w.alloc (.cells z t)) := by
  simp only [execOp, Instr.alloc, Sem.run_bind, hz, Result.andThen_ok]
  simp [newVar, newRow, Value.cells, go_sem]

theorem only_setRow (w : World) (g : Nat) (cs : Array Value) : Only g w (w.setRow g cs) :=
  ⟨rfl, rfl, rfl, setRow_size _ _ _, fun k hk => by simp only [World.setRow, Array.getElem?_modify]; rw [if_neg (by omega)]⟩

theorem listing_getD : ∀ (ks : List Nat) (l : Array Bool) (i : Nat), (listing ks l).size = l.size ∧ ((listing ks l).getD i false = true ↔ (l.getD i false = true ∨ (i ∈ ks ∧ i < l.size)))
  | [], l, i => by simp [listing]
  | k :: ks, l, i => by
    obtain ⟨h1, h2⟩ := listing_getD ks (l.setIfInBounds k true) i
    refine ⟨by simpa [listing] using h1, ?_⟩
    simp only [listing]
    rw [h2]
    by_cases hki : k = i
    · subst hki
      by_cases hlt : k < l.size
      · simp [hlt]
      · have e1 : l.setIfInBounds k true = l := by
          apply Array.ext
          · simp
          · intro j h1 h2
            rw [Array.getElem_setIfInBounds]
            rw [if_neg (by omega)]
        rw [e1]; simp [hlt]
    · rw [getD_set_ne false hki]
      simp [Ne.symm hki]
theorem bools_ext {a b : Array Bool} (h : a.size = b.size) (hi : ∀ i, a.getD i false = true ↔ b.getD i false = true) : a = b := by
  apply Array.ext h
  intro i h1 h2
  have := hi i
  simp [h1, h2] at this
  rcases ha : a[i] with _ | _ <;> rcases hb : b[i] with _ | _ <;> simp_all

def boxIds (ps : List Box) : List Nat := ps.map (·.ia) ++ ps.map (·.is)

/-- The declared variables, then the rest. -/
theorem wpF_boxes {Q : Act → World → Prop} {perm : List (Nat × Obj)} {a0 : Act} {l0 : Array Bool} {rest : Nat} (ps : List Box) (hB : boxB md ops l0 ps = true)
    (hz : ∀ p ∈ ps, ∀ w : World, (zeroValue p.t).run P w = .ok (.agg p.z) w)
    (hs : ∀ p ∈ ps, a0.tmps[p.s]? = some (.agg p.c) ∧ p.d < a0.tmps.size ∧ (P.info? p.t).map (·.size) = some p.c.size ∧ p.z.size = p.c.size ∧ p.c.all (·.oneCell') = true)
    (hQ : ∀ (g : Nat → Nat) (own : List (Nat × Obj)), (∀ p ∈ ps, w0.heap.size ≤ g p.ia) → (∀ p ∈ ps, ∀ q ∈ ps, p.ia ≠ q.ia → g p.ia ≠ g q.ia) → (∀ p ∈ ps, (g p.ia, Obj.cells p.c p.t (0, 0)) ∈ own) →
      wpF P md ops w0 Q rest (listing (boxIds ps) l0) (putG (fun _ => true) g ps a0) perm own) :
    ∀ (m : Nat) (listed : Array Bool) (a : Act) (own : List (Nat × Obj)), listed.size = l0.size → (∀ i, l0.getD i false = true → listed.getD i false = true) →
      (∀ i, listed.getD i false = true → l0.getD i false = true ∨ i ∈ boxIds ps) →
      ((boxIds ps).filter (fun i => !listed.getD i true)).length = m →
      (∃ g : Nat → Nat, a = putG (fun i => listed.getD i false) g ps a0 ∧
        (∀ p ∈ ps, listed.getD p.is false = true → listed.getD p.ia false = true) ∧
        (∀ p ∈ ps, listed.getD p.ia false = true → w0.heap.size ≤ g p.ia ∧ (g p.ia, Obj.cells (if listed.getD p.is false then p.c else p.z) p.t (0, 0)) ∈ own) ∧
        (∀ p ∈ ps, ∀ q ∈ ps, p.ia ≠ q.ia → listed.getD p.ia false = true → listed.getD q.ia false = true → g p.ia ≠ g q.ia) ∧
        (∀ p ∈ ps, listed.getD p.ia false = true → ∀ r ∈ perm, r.1 ≠ g p.ia)) →
      wpF P md ops w0 Q (m + rest) listed a perm own := by
  simp only [boxB, Bool.and_eq_true, decide_eq_true_eq, List.all_eq_true, List.mem_range, Bool.or_eq_true, List.any_eq_true, Bool.not_eq_true', bne_iff_ne, beq_iff_eq] at hB
  obtain ⟨⟨⟨⟨⟨⟨hsz, hcov⟩, hps⟩, htopo⟩, hnd⟩, hni⟩, hns⟩ := hB
  have hlt : ∀ p ∈ ps, p.ia < l0.size ∧ p.is < l0.size := fun p hp => by
    have := hps p hp
    obtain ⟨⟨⟨⟨_, _⟩, ha⟩, hb⟩, _⟩ := this
    constructor
    · rcases Nat.lt_or_ge p.ia l0.size with h | h
      · exact h
      · simp [Array.getElem?_eq_none h] at ha
    · rcases Nat.lt_or_ge p.is l0.size with h | h
      · exact h
      · simp [Array.getElem?_eq_none h] at hb
  have hids : (boxIds ps).Nodup := by
    unfold boxIds
    rw [List.nodup_append]
    refine ⟨hni, hns, fun x hx y hy e => ?_⟩
    obtain ⟨p, hp, rfl⟩ := List.mem_map.1 hx
    obtain ⟨q, hq, rfl⟩ := List.mem_map.1 hy
    exact ((hps q hq).2 p hp).2 e
  have hidlt : ∀ k ∈ boxIds ps, k < l0.size := fun k hk => by
    rcases List.mem_append.1 hk with h | h
    · obtain ⟨p, hp, rfl⟩ := List.mem_map.1 h; exact (hlt p hp).1
    · obtain ⟨p, hp, rfl⟩ := List.mem_map.1 h; exact (hlt p hp).2
  intro m
  induction m with
  | zero =>
    intro listed a own hl hsub hsup hcount hI
    have hall : ∀ k ∈ boxIds ps, listed.getD k false = true := fun k hk => by
      rcases hb : listed.getD k true with _ | _
      · have : k ∈ (boxIds ps).filter (fun i => !listed.getD i true) := by rw [List.mem_filter]; exact ⟨hk, by rw [hb]; rfl⟩
        rw [List.length_eq_zero_iff.1 hcount] at this
        cases this
      · have : k < listed.size := by rw [hl]; exact hidlt k hk
        simp [this] at hb ⊢
        exact hb
    obtain ⟨g, rfl, h0, h1, h2, _⟩ := hI
    have hia : ∀ p ∈ ps, listed.getD p.ia false = true := fun p hp => hall _ (List.mem_append_left _ (List.mem_map.2 ⟨p, hp, rfl⟩))
    have his : ∀ p ∈ ps, listed.getD p.is false = true := fun p hp => hall _ (List.mem_append_right _ (List.mem_map.2 ⟨p, hp, rfl⟩))
    have hL : listed = listing (boxIds ps) l0 := by
      refine bools_ext (by rw [(listing_getD (boxIds ps) l0 0).1, hl]) (fun i => ?_)
      rw [(listing_getD (boxIds ps) l0 i).2]
      constructor
      · intro h
        rcases hsup i h with h | h
        · exact .inl h
        · exact .inr ⟨h, hidlt i h⟩
      · rintro (h | ⟨h, _⟩)
        · exact hsub i h
        · exact hall i h
    rw [putG_congr (L' := fun _ => true) (g' := g) ps a0 (fun p hp => ⟨hia p hp, rfl⟩), Nat.zero_add, hL]
    exact hQ g own (fun p hp => (h1 p hp (hia p hp)).1) (fun p hp q hq hne => h2 p hp q hq hne (hia p hp) (hia q hq)) (fun p hp => by
      have := (h1 p hp (hia p hp)).2
      simpa only [his p hp, if_true] using this)
  | succ m ih =>
    intro listed a own hl hsub hsup hcount hI
    -- some box's operation is unlisted, so some store is
    have hex : ∃ k ∈ boxIds ps, listed.getD k true = false := by
      have hne : (boxIds ps).filter (fun i => !listed.getD i true) ≠ [] := fun h => by rw [h] at hcount; cases hcount
      obtain ⟨k, hk⟩ := List.exists_mem_of_ne_nil _ hne
      rw [List.mem_filter] at hk
      exact ⟨k, hk.1, by simpa using hk.2⟩
    rw [show m + 1 + rest = (m + rest) + 1 by omega]
    refine ⟨fun hr => ?_, fun i hi => ?_⟩
    · obtain ⟨k, hk, hun⟩ := hex
      exact absurd hr (topo_ready _ l0 listed htopo hl.symm hsub k hk hun)
    obtain ⟨hi0, o, ho, hall⟩ := mem_ready.1 hi
    have hilt : i < ops.size := (Array.getElem?_eq_some_iff.1 ho).1
    have hilt' : i < listed.size := by omega
    have hun : listed.getD i false = false := by
      simp [hilt'] at hi0 ⊢; exact hi0
    have hl0 : l0.getD i false = false := by
      cases hb : l0.getD i false with
      | false => rfl
      | true => rw [hsub i hb] at hun; cases hun
    have hl' : (listed.setIfInBounds i true).size = l0.size := by simpa using hl
    have hsub' : ∀ j, l0.getD j false = true → (listed.setIfInBounds i true).getD j false = true := fun j hj => getD_set_true (hsub j hj)
    obtain ⟨g, rfl, h0, h1, h2, h3⟩ := hI
    -- it is a box's
    have hbox : ∃ p ∈ ps, p.ia = i ∨ p.is = i := by
      rcases hcov i (by omega) with (hc | h) | hc
      · rw [hl0] at hc; cases hc
      · exact h
      · rw [ho] at hc
        simp only [List.all_eq_true] at hc
        obtain ⟨k, hk, hkun⟩ := hex
        have : ∃ p ∈ ps, listed.getD p.is false = false := by
          have hkf : listed.getD k false = false := by
            have : k < listed.size := by rw [hl]; exact hidlt k hk
            simp [this] at hkun ⊢; exact hkun
          rcases List.mem_append.1 hk with h | h
          · obtain ⟨p, hp, rfl⟩ := List.mem_map.1 h
            refine ⟨p, hp, ?_⟩
            cases hb : listed.getD p.is false with
            | false => rfl
            | true => rw [h0 p hp hb] at hkf; cases hkf
          · obtain ⟨p, hp, rfl⟩ := List.mem_map.1 h
            exact ⟨p, hp, hkf⟩
        obtain ⟨p, hp, hpf⟩ := this
        have he := hc p hp
        rw [Array.any_eq_true] at he
        obtain ⟨k, hk, he⟩ := he
        simp only [Bool.and_eq_true, beq_iff_eq] at he
        have := hall _ (Array.getElem_mem hk) he.1
        rw [he.2, hpf] at this
        cases this
    obtain ⟨p, hp, hpi⟩ := hbox
    have himem : i ∈ boxIds ps := by
      rcases hpi with h | h
      · exact List.mem_append_left _ (List.mem_map.2 ⟨p, hp, h⟩)
      · exact List.mem_append_right _ (List.mem_map.2 ⟨p, hp, h⟩)
    have hsup' : ∀ j, (listed.setIfInBounds i true).getD j false = true → l0.getD j false = true ∨ j ∈ boxIds ps := fun j hj => by
      by_cases hij : i = j
      · subst hij; exact .inr himem
      · rw [getD_set_ne false hij] at hj; exact hsup j hj
    have hcount' : ((boxIds ps).filter (fun j => !(listed.setIfInBounds i true).getD j true)).length = m := by
      have hmem : i ∈ (boxIds ps).filter (fun j => !listed.getD j true) := by
        rw [List.mem_filter]; exact ⟨himem, by rw [hi0]; rfl⟩
      have hnd : ((boxIds ps).filter (fun j => !listed.getD j true)).Nodup := hids.filter _
      have heq : (boxIds ps).filter (fun j => !(listed.setIfInBounds i true).getD j true) = ((boxIds ps).filter (fun j => !listed.getD j true)).erase i := by
        rw [hnd.erase_eq_filter, List.filter_filter]
        apply List.filter_congr
        intro j _
        by_cases hij : i = j
        · subst hij; rw [getD_set_self true hilt']; simp
        · rw [getD_set_ne true hij]; simp [Ne.symm hij]
      rw [heq, List.length_erase_of_mem hmem, hcount]
      rfl
    obtain ⟨⟨⟨⟨hA, hS⟩, hau⟩, hsu⟩, hq⟩ := hps p hp
    rcases hpi with hpi | hpi
    · -- an alloc
      subst hpi
      rw [ho] at hA
      obtain ⟨dst, op, ty, pos, after, guard⟩ := o
      split at hA
      case h_2 => cases hA
      rename_i d t ty' pos' after' heq
      simp only [Option.some.injEq, Oper.mk.injEq] at heq
      obtain ⟨rfl, rfl, rfl, rfl, rfl, rfl⟩ := heq
      simp only [Bool.and_eq_true, beq_iff_eq] at hA
      obtain ⟨rfl, rfl⟩ := hA
      refine fOp_make ho rfl (fun n => .pointer (some ⟨n, 0, none⟩)) (.cells p.z p.t) (fun w _ => run_alloc_zero (hz p hp w)) (fun gn hge hfp hfo => ?_)
      refine ih (listed.setIfInBounds p.ia true) _ _ hl' hsub' hsup' hcount' ⟨fun j => if j = p.ia then gn else g j, ?_, ?_, ?_, ?_, ?_⟩
      · have := putG_step (L := fun j => listed.getD j false) (L' := fun j => (listed.setIfInBounds p.ia true).getD j false) (g := g) (g' := fun j => if j = p.ia then gn else g j) ps a0 hp hnd hni hun (getD_set_self false hilt')
          (fun j hj => ⟨getD_set_ne false (Ne.symm hj), by simp [hj]⟩)
        rw [this]
        simp
      · intro q hq' hqs
        by_cases hqp : p.ia = q.ia
        · rw [← hqp]; exact getD_set_self false hilt'
        · rw [getD_set_ne false hqp]
          refine h0 q hq' ?_
          rwa [getD_set_ne false (fun e => by
            have := (hps q hq').2 p hp
            exact this.2 e)] at hqs
      · intro q hq' hqa
        have hqs : (listed.setIfInBounds p.ia true).getD q.is false = listed.getD q.is false := getD_set_ne false (fun e => by
            have := (hps q hq').2 p hp
            exact this.2 e)
        rw [hqs]
        by_cases hqp : q.ia = p.ia
        · have hqp' : q = p := by
            have hinj := hni
            exact (inj_of_nodup hinj) hq' hp hqp
          subst hqp'
          have : listed.getD q.is false = false := by
            cases hb : listed.getD q.is false with
            | false => rfl
            | true => rw [h0 q hq' hb] at hun; cases hun
          simp only [if_true, this, Bool.false_eq_true, if_false]
          exact ⟨hge, by simp⟩
        · simp only [hqp, if_false]
          rw [getD_set_ne false (Ne.symm hqp)] at hqa
          exact ⟨(h1 q hq' hqa).1, List.mem_cons_of_mem _ (h1 q hq' hqa).2⟩
      · intro q hq1 r hr1 hne hqa hra
        by_cases hqp : q.ia = p.ia
        · have hrp : r.ia ≠ p.ia := fun e => hne (hqp.trans e.symm)
          simp only [hqp, if_true, hrp, if_false]
          rw [getD_set_ne false (Ne.symm hrp)] at hra
          exact fun e => hfo _ (h1 r hr1 hra).2 e.symm
        · rw [getD_set_ne false (Ne.symm hqp)] at hqa
          by_cases hrp : r.ia = p.ia
          · simp only [hqp, if_false, hrp, if_true]
            exact fun e => hfo _ (h1 q hq1 hqa).2 e
          · rw [getD_set_ne false (Ne.symm hrp)] at hra
            simp only [hqp, hrp, if_false]
            exact h2 q hq1 r hr1 hne hqa hra
      · intro q hq' hqa r hr
        by_cases hqp : q.ia = p.ia
        · simp only [hqp, if_true]; exact hfp r hr
        · simp only [hqp, if_false]
          rw [getD_set_ne false (Ne.symm hqp)] at hqa
          exact h3 q hq' hqa r hr
    · -- a store
      subst hpi
      rw [ho] at hS
      obtain ⟨dst, op, ty, pos, after, guard⟩ := o
      split at hS
      case h_2 => cases hS
      rename_i t d s ty' pos' after' heq
      simp only [Option.some.injEq, Oper.mk.injEq] at heq
      obtain ⟨rfl, rfl, rfl, rfl, rfl, rfl⟩ := heq
      simp only [Bool.and_eq_true, beq_iff_eq] at hS
      obtain ⟨⟨⟨rfl, rfl⟩, rfl⟩, hedge⟩ := hS
      have hia : listed.getD p.ia false = true := by
        rw [Array.any_eq_true] at hedge
        obtain ⟨k, hk, he⟩ := hedge
        simp only [Bool.and_eq_true, beq_iff_eq] at he
        have := hall _ (Array.getElem_mem hk) he.1
        rwa [he.2] at this
      have hne : p.ia ≠ p.is := (hq p hp).2
      obtain ⟨e1, e2, e3, e4, e5⟩ := hs p hp
      have hmem := (h1 p hp hia).2
      rw [hun] at hmem
      simp only [Bool.false_eq_true, if_false] at hmem
      have ev1 : (putG (fun i => listed.getD i false) g ps a0).eval (.tmp p.d) = .pointer (some ⟨g p.ia, 0, none⟩) := by
        have := putG_at (fun i => listed.getD i false) g ps a0 hp hnd hia e2
        show (putG _ g ps a0).tmps.getD p.d undef = _
        rw [Array.getD_eq_getD_getElem?, this]; rfl
      have ev2 : (putG (fun i => listed.getD i false) g ps a0).eval (.tmp p.s) = .agg p.c := by
        have := putG_other (fun i => listed.getD i false) g p.s ps a0 (fun q hq' => (hq q hq').1)
        show (putG _ g ps a0).tmps.getD p.s undef = _
        rw [Array.getD_eq_getD_getElem?, this, e1]; rfl
      refine fOp_store ho rfl (g p.ia) _ (.cells p.c p.t (0, 0)) hmem (fun r hr => h3 p hp hia r hr) (fun w hC hw => ⟨w.setRow (g p.ia) p.c, .inl ?_, only_setRow _ _ _, setRow_heap _ _ _ _ _ _ hw⟩) ?_
      · simp only [execOp, ev1, ev2, Instr.storeAt, Instr.sureAddr, Sem.run_bind, Sem.run_pure, Result.andThen_ok, run_storeVar_row w (g p.ia) p.t p.t p.z p.c hw e3 e4 e5]
      · have hself : ∀ q ∈ ps, (listed.setIfInBounds p.is true).getD q.ia false = listed.getD q.ia false := fun q hq' => getD_set_ne false (fun e => (hq q hq').2 e.symm)
        refine ih (listed.setIfInBounds p.is true) _ _ hl' hsub' hsup' hcount' ⟨g, ?_, ?_, ?_, ?_, ?_⟩
        · show putG _ g ps a0 = _
          exact putG_congr ps a0 (fun q hq' => ⟨(hself q hq').symm, rfl⟩)
        · intro q hq' hqs
          rw [hself q hq']
          by_cases hqp : p.is = q.is
          · have : q = p := (inj_of_nodup hns) hq' hp hqp.symm
            subst this; exact hia
          · rw [getD_set_ne false hqp] at hqs; exact h0 q hq' hqs
        · intro q hq' hqa
          rw [hself q hq'] at hqa
          refine ⟨(h1 q hq' hqa).1, ?_⟩
          by_cases hqp : p.is = q.is
          · have : q = p := (inj_of_nodup hns) hq' hp hqp.symm
            subst this
            rw [getD_set_self false hilt']
            simp only [if_true]
            exact own_update_self hmem
          · rw [getD_set_ne false hqp]
            have hne' : q.ia ≠ p.ia := fun e => hqp (by rw [(inj_of_nodup hni) hq' hp e])
            exact own_update (h1 q hq' hqa).2 (h2 q hq' p hp hne' hqa hia)
        · intro q hq1 r hr1 hne hqa hra
          rw [hself q hq1] at hqa
          rw [hself r hr1] at hra
          exact h2 q hq1 r hr1 hne hqa hra
        · intro q hq' hqa
          rw [hself q hq'] at hqa
          exact h3 q hq' hqa
/-- .. from the state in which the quiet ones are done. -/
theorem wpF_declared {Q : Act → World → Prop} {perm : List (Nat × Obj)} {a : Act} {listed : Array Bool} {n : Nat} (ps : List Box) (rest : Nat)
    (hB : (boxB md ops listed ps && decide (n = 2 * ps.length + rest)) = true)
    (hz : ∀ p ∈ ps, ∀ w : World, (zeroValue p.t).run P w = .ok (.agg p.z) w)
    (hs : ∀ p ∈ ps, a.tmps[p.s]? = some (.agg p.c) ∧ p.d < a.tmps.size ∧ (P.info? p.t).map (·.size) = some p.c.size ∧ p.z.size = p.c.size ∧ p.c.all (·.oneCell') = true)
    (hQ : ∀ (g : Nat → Nat) (own : List (Nat × Obj)), (∀ p ∈ ps, w0.heap.size ≤ g p.ia) → (∀ p ∈ ps, ∀ q ∈ ps, p.ia ≠ q.ia → g p.ia ≠ g q.ia) → (∀ p ∈ ps, (g p.ia, Obj.cells p.c p.t (0, 0)) ∈ own) →
      wpF P md ops w0 Q rest (listing (boxIds ps) listed) (putG (fun _ => true) g ps a) perm own) : wpF P md ops w0 Q n listed a perm [] := by
  simp only [Bool.and_eq_true, decide_eq_true_eq] at hB
  have hB1 := hB.1
  simp only [boxB, Bool.and_eq_true, List.all_eq_true, Bool.not_eq_true'] at hB1
  have hun0 : ∀ k ∈ boxIds ps, listed.getD k true = false := fun k hk => by
    rcases List.mem_append.1 hk with h | h
    · obtain ⟨p, hp, rfl⟩ := List.mem_map.1 h; exact (hB1.1.1.1.1.2 p hp).1.1.2
    · obtain ⟨p, hp, rfl⟩ := List.mem_map.1 h; exact (hB1.1.1.1.1.2 p hp).1.2
  have hunf : ∀ k ∈ boxIds ps, listed.getD k false = false := fun k hk => by
    have := hun0 k hk
    rcases Nat.lt_or_ge k listed.size with h | h
    · simp [h] at this ⊢; exact this
    · simp [Array.getElem?_eq_none h]
  have hun : ∀ p ∈ ps, listed.getD p.ia false = false := fun p hp => hunf _ (List.mem_append_left _ (List.mem_map.2 ⟨p, hp, rfl⟩))
  have hun2 : ∀ p ∈ ps, listed.getD p.is false = false := fun p hp => hunf _ (List.mem_append_right _ (List.mem_map.2 ⟨p, hp, rfl⟩))
  have hcount : ((boxIds ps).filter (fun i => !listed.getD i true)).length = 2 * ps.length := by
    rw [List.filter_eq_self.2 (fun k hk => by rw [hun0 k hk]; rfl)]
    simp [boxIds]; omega
  rw [hB.2]
  refine wpF_boxes (a0 := a) (l0 := listed) ps hB.1 hz hs hQ (2 * ps.length) listed a [] rfl (fun _ h => h) (fun _ h => .inl h) hcount ⟨fun _ => 0, ?_, ?_, ?_, ?_, ?_⟩
  · have : ∀ (qs : List Box) (b : Act), (∀ p ∈ qs, listed.getD p.ia false = false) → putG (fun i => listed.getD i false) (fun _ => 0) qs b = b := by
      intro qs
      induction qs with
      | nil => intro b _; rfl
      | cons q qs ih =>
        intro b h
        simp only [putG, h q (by simp), Bool.false_eq_true, if_false]
        exact ih b (fun p hp => h p (by simp [hp]))
    exact (this ps a hun).symm
  · intro p hp h; rw [hun2 p hp] at h; cases h
  · intro p hp h; rw [hun p hp] at h; cases h
  · intro p hp q _ _ h; rw [hun p hp] at h; cases h
  · intro p hp h; rw [hun p hp] at h; cases h
end
end Go.Proofs.Ythkphapmnlndbab.Flow
