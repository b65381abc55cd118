/- The frame of a law's proof: an argument of plain data opened to its cells, whatever its structs; the row's last step. No program in sight. -/
import Derived.Below
import Derived.Carry
import Derived.ProofKit
import Derived.OpenShut
import Derived.Deep.Slices
namespace Go.Proofs.Ythkphapmnlndbab.Open
open Go.ChangeShapes Go.WideShapes Go.ChangeAt Go.RowKit Go.Deep

/-- What one cell of plain data holds. -/
inductive Shp where
  | int (k : IntKind)
  | bool
  | str
  | ref (t : TypeId)

section
variable {H : Type} {enc : TypeId × Value → H} {P : Program} {w : World} {base : Nat} {spare : Nat → Bool} {held : Bool}

def CellOk (enc : TypeId × Value → H) (P : Program) (w : World) (base : Nat) (spare : Nat → Bool) (held : Bool) : Shp → Value → Prop
  | .int k, v => ∃ n, v = .int k n ∧ (Lit.int k n).wf = true
  | .bool, v => ∃ b, v = .bool b
  | .str, v => ∃ s, v = .string s ∧ s.size ≤ maxLen
  | .ref t, v => ∃ fuel x, DataW.trod enc P w base spare held fuel t [v] = some x

mutual
def shapes (P : Program) : Nat → TypeId → Option (List Shp)
  | 0, _ => none
  | n + 1, t => match P.underlying t with
    | some .bool => some [.bool]
    | some (.int k) => some [.int k]
    | some .string => some [.str]
    | some (.slice _) => some [.ref t]
    | some (.struct fs) => (fieldShapes P n fs.toList []).bind fun ss => if ss.length = P.cellsOf t then some ss else none
    | some (.array m e) => (shapes P n e).bind fun ss => if ss.length = P.cellsOf e ∧ m * ss.length = P.cellsOf t then some (List.replicate m ss).flatten else none
    | _ => none
def fieldShapes (P : Program) : Nat → List Field → List Shp → Option (List Shp)
  | _, [], acc => some acc
  | 0, _ :: _, _ => none
  | n + 1, f :: fs, acc => if f.offset = acc.length then (shapes P n f.type).bind fun s => if s.length = P.cellsOf f.type then fieldShapes P n fs (acc ++ s) else none else none
end

def RowOk (enc : TypeId × Value → H) (P : Program) (w : World) (base : Nat) (spare : Nat → Bool) (held : Bool) (ss : List Shp) (cs : List Value) : Prop :=
  ∀ (j : Nat) (s : Shp), ss[j]? = some s → ∃ v, cs[j]? = some v ∧ CellOk enc P w base spare held s v

theorem rowOk_append {ss ts : List Shp} {cs : List Value} (h : RowOk enc P w base spare held ss cs) (k : RowOk enc P w base spare held ts ((cs.drop ss.length).take ts.length)) : RowOk enc P w base spare held (ss ++ ts) cs := by
  intro j s hj
  by_cases hl : j < ss.length
  · rw [List.getElem?_append_left hl] at hj
    exact h j s hj
  · rw [List.getElem?_append_right (by omega)] at hj
    obtain ⟨v, hv, ho⟩ := k _ s hj
    rw [List.getElem?_take] at hv
    split at hv
    · rw [List.getElem?_drop] at hv
      exact ⟨v, by rw [← hv]; congr 1; omega, ho⟩
    · cases hv

theorem rowOk_take {ss : List Shp} {cs : List Value} {m : Nat} (h : RowOk enc P w base spare held ss (cs.take m)) : RowOk enc P w base spare held ss cs := by
  intro j s hj
  obtain ⟨v, hv, ho⟩ := h j s hj
  rw [List.getElem?_take] at hv
  split at hv
  · exact ⟨v, hv, ho⟩
  · cases hv

theorem rows_ok : ∀ (N : Nat),
    (∀ (t : TypeId) (fuel : Nat) (cs : List Value) (x : DataW H × List MemPlace) (ss : List Shp), shapes P N t = some ss → DataW.trod enc P w base spare held fuel t cs = some x → RowOk enc P w base spare held ss cs ∧ (ss.length = P.cellsOf t → True)) ∧
    (∀ (fs : List Field) (acc ss : List Shp) (cs : List Value) (fuel : Nat), fieldShapes P N fs acc = some ss → RowOk enc P w base spare held acc cs →
      (∀ f ∈ fs, ∃ x, DataW.trod enc P w base spare held fuel f.type ((cs.drop f.offset).take (P.cellsOf f.type)) = some x) → RowOk enc P w base spare held ss cs)
  | 0 => ⟨fun t fuel cs x ss h => by simp [shapes] at h, fun fs acc ss cs fuel h ha hf => by
      cases fs with
      | nil => simp [fieldShapes] at h; subst h; exact ha
      | cons f fs => simp [fieldShapes] at h⟩
  | n + 1 => by
    obtain ⟨ih1, ih2⟩ := rows_ok n
    refine ⟨fun t fuel cs x ss h hx => ⟨?_, fun _ => trivial⟩, fun fs acc ss cs fuel h ha hf => ?_⟩
    · unfold shapes at h
      split at h
      · rename_i hu
        obtain ⟨b, rfl, _⟩ := DataW.trod_bool hu hx
        cases h
        intro j s hj
        match j, hj with
        | 0, hj => cases hj; exact ⟨_, rfl, b, rfl⟩
      · rename_i k hu
        obtain ⟨m, rfl, _, hw⟩ := DataW.trod_int hu hx
        cases h
        intro j s hj
        match j, hj with
        | 0, hj => cases hj; exact ⟨_, rfl, m, rfl, hw⟩
      · rename_i hu
        obtain ⟨s', rfl, _, hs⟩ := DataW.trod_string hu hx
        cases h
        intro j s hj
        match j, hj with
        | 0, hj => cases hj; exact ⟨_, rfl, s', rfl, hs⟩
      · rename_i e hu
        cases h
        have hone : ∃ v, cs = [v] := by
          rcases open_slice hu hx with ⟨h, _⟩ | ⟨a, len, cap, m, n, D, Pl, h, _⟩
          · exact ⟨_, h⟩
          · exact ⟨_, h⟩
        obtain ⟨v, rfl⟩ := hone
        intro j s hj
        match j, hj with
        | 0, hj => cases hj; exact ⟨v, rfl, fuel, x, hx⟩
      · rename_i fs hu
        obtain ⟨xs, m, rfl, _, hl, hxl, hf⟩ := DataW.trod_struct hu hx
        simp only [Option.bind_eq_some_iff] at h
        obtain ⟨ss', h1, h2⟩ := h
        split at h2
        · cases h2
          refine ih2 fs.toList [] ss cs m h1 (fun j s hj => by simp at hj) (fun f hfm => ?_)
          obtain ⟨i, hi⟩ := List.getElem?_of_mem hfm
          have hfi : fs[i]? = some f := by simpa using hi
          have hil : i < xs.length := by rw [hxl]; exact (Array.getElem?_eq_some_iff.1 hfi).1
          exact ⟨xs[i], by rw [hf i f hfi]; exact List.getElem?_eq_getElem hil⟩
        · cases h2
      · rename_i m e hu
        obtain ⟨xs, k, rfl, _, hl, hxl, hf⟩ := DataW.trod_array hu hx
        simp only [Option.bind_eq_some_iff] at h
        obtain ⟨ss', h1, h2⟩ := h
        split at h2
        · rename_i hc
          cases h2
          obtain ⟨c1, c2⟩ := hc
          intro j s hj
          have hpos : 0 < ss'.length := by
            rcases Nat.eq_zero_or_pos ss'.length with h0 | h0
            · have : ss' = [] := List.length_eq_zero_iff.1 h0
              subst this
              have : (List.replicate m ([] : List Shp)).flatten = [] := by simp
              rw [this] at hj; simp at hj
            · exact h0
          have hget : ∀ (m j : Nat), (List.replicate m ss').flatten[j]? = some s → j / ss'.length < m ∧ ss'[j % ss'.length]? = some s := by
            intro m
            induction m with
            | zero => intro j hj; simp at hj
            | succ m ihm =>
              intro j hj
              simp only [List.replicate_succ, List.flatten_cons] at hj
              by_cases hjl : j < ss'.length
              · rw [List.getElem?_append_left hjl] at hj
                rw [Nat.div_eq_of_lt hjl, Nat.mod_eq_of_lt hjl]
                exact ⟨by omega, hj⟩
              · rw [List.getElem?_append_right (by omega)] at hj
                obtain ⟨h3, h4⟩ := ihm _ hj
                have e1 : j = (j - ss'.length) + ss'.length := by omega
                rw [e1, Nat.add_div_right _ hpos, Nat.add_mod_right]
                exact ⟨by omega, h4⟩
          obtain ⟨hq, hr⟩ := hget m j hj
          have hxq : j / ss'.length < xs.length := by omega
          have ht := hf (j / ss'.length) hq
          rw [List.getElem?_eq_getElem hxq] at ht
          obtain ⟨v, hv, ho⟩ := (ih1 e k _ _ ss' h1 ht).1 _ s hr
          rw [List.getElem?_take] at hv
          split at hv
          · rw [List.getElem?_drop] at hv
            refine ⟨v, ?_, ho⟩
            rw [← hv, ← c1]
            congr 1
            rw [Nat.mul_comm]
            exact (Nat.div_add_mod j ss'.length).symm
          · cases hv
        · cases h2
      · cases h
    · cases fs with
      | nil => simp [fieldShapes] at h; subst h; exact ha
      | cons f fs =>
        unfold fieldShapes at h
        split at h
        · rename_i hoff
          simp only [Option.bind_eq_some_iff] at h
          obtain ⟨s, h1, h2⟩ := h
          split at h2
          · rename_i hlen
            obtain ⟨x, hx⟩ := hf f (by simp)
            have := (ih1 f.type fuel _ x s h1 hx).1
            rw [hoff, ← hlen] at this
            exact ih2 fs (acc ++ s) ss cs fuel h2 (rowOk_append ha this) (fun g hg => hf g (by simp [hg]))
          · cases h2
        · cases h

theorem rowOk_of {t : TypeId} {v : Value} {d : DataW H} {p : List MemPlace} (N : Nat) {ss : List Shp} (hs : shapes P N t = some ss) (h : DataW.Trod enc P w base spare held t v d p) :
    RowOk enc P w base spare held ss v.cells.toList := by
  obtain ⟨fuel, hf⟩ := h
  exact ((rows_ok N).1 t fuel _ _ ss hs hf).1

/-- A struct or an array by value, its cells written out. -/
theorem open_agg {r : Reach} {b0 : Nat} {t : TypeId} {v : Value} {d : DataW H} {p : List MemPlace} (N : Nat) {ss : List Shp}
    (hform : (∃ fs, P.underlying t = some (.struct fs)) ∨ (∃ n e, P.underlying t = some (.array n e))) (hs : shapes P N t = some ss) (hk : ss.length = P.cellsOf t)
    (hv : Value.okWide P w r b0 t v) (h : DataW.Trod enc P w base spare held t v d p) : ∃ cs : List Value, v = .agg cs.toArray ∧ cs.length = ss.length ∧ RowOk enc P w base spare held ss cs := by
  have hform' : ∃ cs, v = .agg cs ∧ cs.size = P.cellsOf t := by
    rcases hform with ⟨fs, hu⟩ | ⟨n, e, hu⟩
    · exact okWide_struct hu hv
    · have : ∃ cs, v = .agg cs ∧ cs.size = P.cellsOf t ∧ Row.okWide P w r b0 t cs := by simpa [Value.okWide, hu] using hv
      obtain ⟨cs, h1, h2, _⟩ := this
      exact ⟨cs, h1, h2⟩
  obtain ⟨cs, rfl, hsz⟩ := hform'
  refine ⟨cs.toList, by simp, by simp [hsz, hk], ?_⟩
  simpa [Value.cells] using rowOk_of N hs h
theorem RowOk.int {ss : List Shp} {cs : List Value} (h : RowOk enc P w base spare held ss cs) (j : Nat) {k : IntKind} (hj : ss[j]? = some (.int k)) : ∃ n, cs[j]? = some (.int k n) ∧ (Lit.int k n).wf = true := by
  obtain ⟨v, hv, n, rfl, hw⟩ := h j _ hj
  exact ⟨n, hv, hw⟩
theorem RowOk.bool {ss : List Shp} {cs : List Value} (h : RowOk enc P w base spare held ss cs) (j : Nat) (hj : ss[j]? = some .bool) : ∃ b, cs[j]? = some (.bool b) := by
  obtain ⟨v, hv, b, rfl⟩ := h j _ hj
  exact ⟨b, hv⟩

/-- A slice's elements, cell by cell. -/
theorem open_rows {t e : TypeId} {fuel : Nat} {v : Value} {x : DataW H × List MemPlace} (N : Nat) {ss : List Shp} (ht : P.underlying t = some (.slice e)) (hs : shapes P N e = some ss) (hpos : 0 < ss.length) (hk : ss.length = P.cellsOf e)
    (h : DataW.trod enc P w base spare held fuel t [v] = some x) :
    ∃ (A : Option Addr) (n c : Nat), v = .slice A n c ∧ n ≤ maxLen ∧ n ≤ c ∧ (0 < n → ∃ g off, A = some ⟨g, off, none⟩ ∧ g < w.heap.size ∧
      ∀ i, i < n → ∀ (j : Nat) (s : Shp), ss[j]? = some s → ∃ u, w.cell? ⟨g, off + (i * ss.length + j), none⟩ = some u ∧ CellOk enc P w base spare held s u) := by
  rcases open_slice ht h with ⟨hcs, _⟩ | ⟨a, len, cap, m, n', D, Pl, hcs, hb, hl, hm, hmm, hx, hi⟩
  · simp only [List.cons.injEq, and_true] at hcs
    exact ⟨none, 0, 0, hcs, by simp, by simp, fun h => absurd h (by omega)⟩
  · simp only [List.cons.injEq, and_true] at hcs
    refine ⟨some a, len, cap, hcs, by omega, hl, fun hn => ?_⟩
    have hlm : len ≤ m := by rw [hmm]; split <;> omega
    -- the first cell
    obtain ⟨cs0, hc0, _⟩ := hi 0 (by omega)
    obtain ⟨_, hl0, hat0⟩ := World.cells?_some hc0
    have h00 := hat0 0 (by omega)
    have hz : cs0[0]? = some (cs0[0]'(by omega)) := List.getElem?_eq_getElem (by omega)
    have hcell0 : w.cell? a = some (cs0[0]'(by omega)) := by
      rw [hz] at h00
      simpa [Addr.add] using h00
    have hspot : a.spot = none := World.cell?_spot hcell0
    have hlt : a.block < w.heap.size := World.block_lt_of_cell? w a hcell0
    obtain ⟨g, off, spot⟩ := a
    simp only at hspot
    subst hspot
    refine ⟨g, off, rfl, hlt, fun i hin j s hj => ?_⟩
    obtain ⟨cs', hc, ht'⟩ := hi i (by omega)
    obtain ⟨_, hcl, hat⟩ := World.cells?_some hc
    obtain ⟨u, hu, ho⟩ := ((rows_ok N).1 e n' cs' _ ss hs ht').1 j s hj
    have hjl : j < ss.length := (List.getElem?_eq_some_iff.1 hj).1
    refine ⟨u, ?_, ho⟩
    have := hat j (by omega)
    rw [hu] at this
    rw [← this]
    congr 1
    unfold Addr.add
    rw [← hk]
    by_cases h1 : i * ss.length = 0 <;> by_cases h2 : j = 0 <;> simp [h1, h2, Nat.add_assoc]
end

/-- The same of an argument. -/
theorem open_rows_arg {H : Type} {enc : TypeId × Value → H} {P : Program} {w : World} {base : Nat} {spare : Nat → Bool} {held : Bool} {r : Reach} {b0 : Nat} {t e : TypeId} {v : Value} {d : DataW H} {p : List MemPlace} (N : Nat) {ss : List Shp} (ht : P.underlying t = some (.slice e)) (hs : shapes P N e = some ss) (hpos : 0 < ss.length) (hk : ss.length = P.cellsOf e)
    (hv : Value.okWide P w r b0 t v) (h : DataW.Trod enc P w base spare held t v d p) :
    ∃ (A : Option Addr) (n c : Nat), v = .slice A n c ∧ n ≤ maxLen ∧ n ≤ c ∧ (0 < n → ∃ g off, A = some ⟨g, off, none⟩ ∧ g < w.heap.size ∧
      ∀ i, i < n → ∀ (j : Nat) (s : Shp), ss[j]? = some s → ∃ u, w.cell? ⟨g, off + (i * ss.length + j), none⟩ = some u ∧ CellOk enc P w base spare held s u) := by
  obtain ⟨a0, l0, c0, rfl⟩ := okWide_slice ht hv
  obtain ⟨fuel, hf⟩ := h
  exact open_rows (fuel := fuel) (x := (d, p)) N ht hs hpos hk (by simpa [Value.cells] using hf)

theorem list2 {cs : List Value} {a b : Value} (hl : cs.length = 2) (h0 : cs[0]? = some a) (h1 : cs[1]? = some b) : cs = [a, b] := by
  match cs, hl with
  | [x, y], _ => simp at h0 h1; rw [h0, h1]
theorem list3 {cs : List Value} {a b c : Value} (hl : cs.length = 3) (h0 : cs[0]? = some a) (h1 : cs[1]? = some b) (h2 : cs[2]? = some c) : cs = [a, b, c] := by
  match cs, hl with
  | [x, y, z], _ => simp at h0 h1 h2; rw [h0, h1, h2]
theorem list4 {cs : List Value} {a b c d : Value} (hl : cs.length = 4) (h0 : cs[0]? = some a) (h1 : cs[1]? = some b) (h2 : cs[2]? = some c) (h3 : cs[3]? = some d) : cs = [a, b, c, d] := by
  match cs, hl with
  | [x, y, z, u], _ => simp at h0 h1 h2 h3; rw [h0, h1, h2, h3]

/-! ### The row's last step -/
section
variable {H : Type} {enc : TypeId × Value → H} {P : Program}

theorem trodAll_below (hl : laidOutB P = true) {W W' : World} (hb : Below W.heap.size W W') : ∀ (ts : List TypeId) (vs : List Value) (ds : List (DataW H)) (ps : List MemPlace),
    (∀ t ∈ ts, P.readableRec t = true ∧ t < P.types.size) → (∀ x ∈ ps, x.block < W.heap.size) → DataW.TrodAll enc P W 0 (fun _ => true) true ts vs ds ps →
    DataW.TrodAll enc P W' 0 (fun b => decide (b < W.heap.size)) true ts vs ds ps
  | [], [], [], _, _, _, h => h
  | t :: ts, v :: vs, d :: ds, ps, ht, hp, h => by
    obtain ⟨p, q, h1, h2, rfl⟩ := h
    exact ⟨p, q, Below.trod hl (ht t (by simp)).1 (ht t (by simp)).2 h1 hb (fun x hx => hp x (by simp [hx])),
      trodAll_below hl hb ts vs ds q (fun t h => ht t (by simp [h])) (fun x hx => hp x (by simp [hx])) h2, rfl⟩
  | [], _ :: _, _, _, _, _, h => by cases h
  | [], [], _ :: _, _, _, _, h => by cases h
  | _ :: _, [], _, _, _, _, h => by cases h
  | _ :: _, _ :: _, [], _, _, _, h => by cases h

theorem law_post {f : Func} {s : ChangeSpec} {W W' : World} {args : Array Value} {ds gs : List (DataW H)} {before : List MemPlace} {tb : TypeId}
    (hl : laidOutB P = true) (hts : (f.params.toList.all fun t => P.readableRec t && decide (t < P.types.size)) = true) (hres : f.resultTypes = #[tb]) (hbool : P.underlying tb = some .bool) (hvars : s.vars = [])
    (hfn : s.fn H (ds ++ gs) = { results := [.lit (.bool true)], args := ds }) (hW : DataW.Whole enc P f.params.toList s.vars false W args.toList ds gs before) (hb : Below W.heap.size W W') :
    s.post enc P f false true false false W args (.bool true) W' := by
  have hlt : ∀ p ∈ before, p.block < W.heap.size := fun p hp => hW.lt p hp
  have hW' := hW
  obtain ⟨p, q, hA, hV, rfl, _, _⟩ := hW'
  rw [hvars] at hV
  have hgs : gs = [] ∧ q = [] := by
    cases gs with
    | nil => exact ⟨rfl, hV⟩
    | cons g gs => cases hV
  obtain ⟨rfl, rfl⟩ := hgs
  refine ⟨ds, [], _, [], p, [], hW, ?_, ?_, ?_, hb.frame _, fun h => by cases h⟩
  · rw [hfn, hres]
    exact trodAll_mk1 (shut_bool hbool _)
  · rw [hfn]
    refine trodAll_below hl hb _ _ _ _ (fun t ht => ?_) (fun x hx => hlt x (by simp [hx])) hA
    have := List.all_eq_true.1 hts t ht
    simpa using this
  · rw [hfn, hvars]
    rfl
end
end Go.Proofs.Ythkphapmnlndbab.Open
