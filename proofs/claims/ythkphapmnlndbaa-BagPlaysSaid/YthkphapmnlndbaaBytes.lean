/- Slices of bytes of the call's own: '[]byte(s)', one byte more, one byte stored, 'string(b)'. No program in sight. -/
import Derived.Test.YthkphapmnlndbaaChg
import Derived.Test.YthkphapmnlndbaaCrcPlain
import Derived.Laws.IdiomStrings
import Derived.Laws.IdiomCopy
namespace Go.Proofs.Ythkphapmnlndbaa
open Go.RowKit
/-- A text's bytes. -/
def bs (s : ByteArray) : List Nat := s.data.toList.map (·.toNat)
theorem bs_lt (s : ByteArray) : ∀ c ∈ bs s, c < 256 := by
  intro c hc
  obtain ⟨b, _, rfl⟩ := List.mem_map.1 hc
  exact b.toNat_lt
theorem bs_length (s : ByteArray) : (bs s).length = s.size := by simp [bs]
theorem bs_get (s : ByteArray) (k : Nat) (h : k < s.size) : (bs s)[k]? = some (s[k]).toNat := by
  have h' : k < s.data.toList.length := by simpa using h
  unfold bs
  rw [List.getElem?_map, List.getElem?_eq_getElem h']
  rfl
theorem bs_inj {s t : ByteArray} (h : bs s = bs t) : s = t := by
  have h1 : s.data.toList = t.data.toList := by
    unfold bs at h
    refine List.map_inj_right (f := fun b : UInt8 => b.toNat) (fun a b e => UInt8.toNat_inj.1 e) |>.1 h
  have h2 : s.data = t.data := Array.ext' h1
  cases s; cases t; simp at h2; rw [h2]
theorem str_beq (s t : ByteArray) : (s.toList == t.toList) = decide (s = t) := by
  rw [ByteArray.toList_eq, ByteArray.toList_eq]
  by_cases h : s = t
  · subst h; simp
  · rw [decide_eq_false h]
    simp only [beq_eq_false_iff_ne, ne_eq]
    intro e
    exact h (bs_inj (by unfold bs; rw [e]))
/-- The text of some bytes. -/
def txt (l : List Nat) : ByteArray := ⟨(l.map UInt8.ofNat).toArray⟩
theorem bs_txt {l : List Nat} (h : ∀ c ∈ l, c < 256) : bs (txt l) = l := by
  unfold bs txt
  simp only [List.map_map]
  rw [List.map_congr_left (g := id) (fun c hc => by simp [Nat.mod_eq_of_lt (h c hc)]), List.map_id]
namespace Flow
/-- A slice of bytes that begins a block of the call's own; the block may bear a mark behind its cells. -/
def Bytes (w : World) (e : TypeId) (v : Value) (g : Nat) (l : List Nat) : Prop :=
  ∃ cap cur fr, v = .slice (some ⟨g, 0, none⟩) l.length cap ∧ w.heap[g]? = some (.cells cur e fr) ∧ (fr.2 = 0 ∨ cur.size ≤ fr.1) ∧ cap = cur.size ∧ l.length ≤ cap ∧ cap ≤ maxLen ∧ ∀ (j c : Nat), l[j]? = some c → cur[j]? = some (.int .u8 (c : Int))
section
variable {w w' : World} {e : TypeId} {v : Value} {g : Nat} {l : List Nat}
theorem Bytes.lt (h : Bytes w e v g l) : g < w.heap.size := by
  obtain ⟨cap, cur, fr, _, hg, _⟩ := h
  exact (Array.getElem?_eq_some_iff.1 hg).1
theorem Bytes.chg {S : Nat → Prop} (h : Bytes w e v g l) (hc : Chg S w w') (hn : ¬ S g) : Bytes w' e v g l := by
  have hlt := h.lt
  obtain ⟨cap, cur, fr, hv, hg, r⟩ := h
  exact ⟨cap, cur, fr, hv, (hc.block g hlt hn).trans hg, r⟩
theorem Bytes.below (h : Bytes w e v g l) (hb : Below w.heap.size w w') : Bytes w' e v g l := h.chg (Chg.of_below hb) (fun e => e)
theorem Bytes.val (h : Bytes w e v g l) : ∃ cap, v = .slice (some ⟨g, 0, none⟩) l.length cap ∧ l.length ≤ cap := by
  obtain ⟨cap, cur, fr, hv, _, _, _, hle, _⟩ := h
  exact ⟨cap, hv, hle⟩
theorem Bytes.cell (h : Bytes w e v g l) {j c : Nat} (hj : l[j]? = some c) : w.cell? ⟨g, j, none⟩ = some (.int .u8 (c : Int)) := by
  obtain ⟨cap, cur, fr, hv, hg, _, _, _, _, hc⟩ := h
  simp [World.cell?, hg, hc j c hj]
theorem Bytes.frozen (h : Bytes w e v g l) {j : Nat} (hj : j < l.length) : w.frozen? ⟨g, j, none⟩ = false := by
  obtain ⟨cap, cur, fr, hv, hg, hfr, hcs, hle, _⟩ := h
  obtain ⟨lo, hi⟩ := fr
  simp only [World.frozen?, hg, Bool.and_eq_false_iff, decide_eq_false_iff_not]
  simp only at hfr
  omega
theorem Bytes.store (h : Bytes w e v g l) (j c : Nat) : Bytes (w.setCell ⟨g, j, none⟩ (.int .u8 (c : Int))) e v g (l.set j c) := by
  obtain ⟨cap, cur, fr, hv, hg, hfr, hcs, hle, hm, hc⟩ := h
  refine ⟨cap, cur.setIfInBounds j (.int .u8 (c : Int)), fr, by rw [List.length_set]; exact hv, ?_, by simpa using hfr, by simpa using hcs, by rw [List.length_set]; exact hle, hm, fun i d hd => ?_⟩
  · simp [World.setCell, Array.getElem?_modify, hg]
  · rw [List.getElem?_set] at hd
    rw [Array.getElem?_setIfInBounds]
    by_cases hij : j = i
    · subst hij
      rw [if_pos rfl] at hd ⊢
      split at hd
      · rw [if_pos (by omega)]; cases hd; rfl
      · cases hd
    · rw [if_neg hij] at hd ⊢
      exact hc i d hd
variable {P : Program}
theorem Bytes.of_string (w : World) (src dst e : TypeId) (s : ByteArray) (hs : P.underlying src = some .string) (hd : P.underlying dst = some (.slice e)) (he : P.underlying e = some (.int .u8)) (hz : s.size ≤ maxLen) :
    ∃ v w', (convert src dst (.string s)).run P w = .ok v w' ∧ Bytes w' e v w.heap.size (bs s) ∧ Below w.heap.size w w' := by
  have hge := grownCap_ge w s.size 0 e
  have hle := grownCap_le_maxLen w s.size 0 e hz
  refine ⟨_, _, run_bytes_of_string w src dst e s hs hd he, ⟨_, _, _, by rw [bs_length], heap_alloc_new w.drew _, .inr (Nat.le_refl _), ?_, by rw [bs_length]; exact hge, hle, fun j c hj => ?_⟩, (Below.refl w.heap.size w).drew.alloc (Nat.le_refl _) _⟩
  · simp [bytesRow]; omega
  · have hjl : j < (bs s).length := (List.getElem?_eq_some_iff.1 hj).1
    rw [bs_length] at hjl
    rw [bytesRow_at s _ j hjl]
    rw [bs_get s j hjl] at hj
    cases hj
    rfl
theorem Bytes.back (h : Bytes w e v g l) (src dst : TypeId) (hs : P.underlying src = some (.slice e)) (he : P.underlying e = some (.int .u8)) (hd : P.underlying dst = some .string) (hl : ∀ c ∈ l, c < 256) :
    (convert src dst v).run P w = .ok (.string (txt l)) w := by
  obtain ⟨cap, hv, _⟩ := h.val
  have := run_convert_bytes_back (P := P) w src dst e ⟨g, 0, none⟩ cap (l.map UInt8.ofNat) hs he hd (fun j hj => by
    have hj' : j < l.length := by simpa using hj
    have hadd : (⟨g, 0, none⟩ : Addr).add j = ⟨g, j, none⟩ := by unfold Addr.add; split <;> simp_all
    rw [hadd, h.cell (List.getElem?_eq_getElem hj')]
    simp [Nat.mod_eq_of_lt (hl _ (List.getElem_mem hj'))])
  rw [List.length_map] at this
  rw [hv, this]
  rfl
theorem Bytes.append (h : Bytes w e v g l) (t ty : TypeId) (i : TypeInfo) (ht : P.underlying t = some (.slice e)) (hi : P.info? e = some i) (hz : i.zero = some (.int .u8 0)) (hsize : i.size = 1) (hby : i.bytes = 1)
    (ad : Addr) (cp c : Nat) (hc : w.cell? ad = some (.int .u8 (c : Int))) (hlen : l.length + 1 ≤ 140737488355328) :
    ∃ v' w' g', (Builtin.append_ #[t, t] ty #[v, .slice (some ad) 1 cp]).run P w = .ok v' w' ∧ Bytes w' e v' g' (l ++ [c]) ∧ Chg (· = g) w w' ∧ (g' = g ∨ w.heap.size ≤ g') := by
  have hlt := h.lt
  have hcell := fun (j c : Nat) (hj : l[j]? = some c) => h.cell hj
  obtain ⟨cap, cur, fr, hv, hg, hfr, hcs, hle, hm, hcur⟩ := h
  subst hv
  have hone : ∀ j u, ([.int .u8 (c : Int)] : List Value)[j]? = some u → w.cell? (ad.add j) = some u := fun j u hu => by
    match j, hu with
    | 0, hu =>
      have : ad.add 0 = ad := by unfold Addr.add; simp
      rw [this, hc]; exact hu
  by_cases hroom : l.length + 1 ≤ cap
  · have hf := run_firstCells_some (P := P) w i.size 1 ad 1 cp [.int .u8 (c : Int)] (by simp [hsize]) hone
    have hst := run_storeCells_cells (P := P) g l.length [.int .u8 (c : Int)] 0 w
      (fun j hj => by
        have : j = 0 := by simp at hj; omega
        subst this
        simp [World.cell?, hg]; omega)
      (fun j hj => by
        have : j = 0 := by simp at hj; omega
        subst this
        obtain ⟨lo, hi'⟩ := fr
        simp only [World.frozen?, hg, Bool.and_eq_false_iff, decide_eq_false_iff_not]
        simp only at hfr
        omega)
      (fun x hx => by simp at hx; subst hx; rfl)
    refine ⟨.slice (some ⟨g, 0, none⟩) (l.length + 1) cap, w.setCell ⟨g, l.length, none⟩ (.int .u8 (c : Int)), g, ?_, ⟨cap, cur.setIfInBounds l.length (.int .u8 (c : Int)), fr, by simp, ?_, by simpa using hfr, by simpa using hcs, by simpa using hroom, hm, fun j d hd => ?_⟩, Chg.setAt _ _ _ _, .inl rfl⟩
    · simp only [hsize] at hf
      simp [Builtin.append_, run_underlying ht, sizeOf, typeInfo, hi, Builtin.lenOf, hroom, hsize, hf, Addr.add_lit] at hst ⊢
      rw [hst]
      rfl
    · simp [World.setCell, Array.getElem?_modify, hg]
    · rw [Array.getElem?_setIfInBounds]
      by_cases hjl : j < l.length
      · rw [List.getElem?_append_left hjl] at hd
        rw [if_neg (by omega)]
        exact hcur j d hd
      · rw [List.getElem?_append_right (by omega)] at hd
        have hj0 : j - l.length = 0 := by
          have := (List.getElem?_eq_some_iff.1 hd).1
          simp at this
          omega
        rw [hj0] at hd
        simp at hd
        subst hd
        have : l.length = j := by omega
        rw [if_pos this, if_pos (by omega)]
  · have hr := run_append_grow (P := P) w t ty e i (.int .u8 0) ht hi hz ⟨g, 0, none⟩ l.length cap (l.map fun c : Nat => Value.int .u8 (c : Int)) (by simp [hsize])
      (fun j u hu => by
        rw [List.getElem?_map] at hu
        rcases hj : l[j]? with _ | d
        · rw [hj] at hu; cases hu
        · rw [hj] at hu
          have hadd : (⟨g, 0, none⟩ : Addr).add j = ⟨g, j, none⟩ := by unfold Addr.add; split <;> simp_all
          rw [hadd, hcell j d hj]
          exact hu)
      ad 1 cp [.int .u8 (c : Int)] (by simp [hsize]) hone (by omega) (by omega) (growslice_fits (by omega) (by rw [hby]; omega))
    refine ⟨_, _, w.heap.size, hr, ⟨_, _, (0, 0), by simp; rfl, heap_alloc_new w.drew _, .inl rfl, ?_, ?_, ?_, fun j d hd => ?_⟩, ?_, .inr (Nat.le_refl _)⟩
    · have hge := grownCap_ge w (l.length + 1) cap e
      simp [Builtin.zeroCells, Value.cells]; omega
    · simpa using grownCap_ge w (l.length + 1) cap e
    · exact grownCap_le_maxLen w (l.length + 1) cap e (by unfold maxLen; omega)
    · rw [Array.getElem?_append_left (by have := (List.getElem?_eq_some_iff.1 hd).1; simpa using this)]
      have e1 : ((l.map fun c : Nat => Value.int .u8 (c : Int)).toArray ++ [Value.int .u8 (c : Int)].toArray) = ((l ++ [c]).map fun c : Nat => Value.int .u8 (c : Int)).toArray := by simp
      rw [e1]
      simp only [List.getElem?_toArray, List.getElem?_map, hd]
      rfl
    · exact (Chg.of_below ((Below.refl w.heap.size w).drew.alloc (Nat.le_refl _) _)).mono (fun _ _ e => e.elim)
theorem wpList_append_byte {ops : Array Oper} {rest : List Oper} {o : Oper} {a : Act} {Q : Exit → Act → World → Prop} (hgd : o.guard = none) (s x : Operand) (t : TypeId)
    (ho : o.op = .call { callee := .builtin .append, args := #[s, x], argTypes := #[t, t] })
    (e : TypeId) (i : TypeInfo) (ht : P.underlying t = some (.slice e)) (hi : P.info? e = some i) (hz : i.zero = some (.int .u8 0)) (hsize : i.size = 1) (hby : i.bytes = 1)
    (v : Value) (g : Nat) (l : List Nat) (hs : a.eval s = v) (hB : Bytes w e v g l)
    (ad : Addr) (cp c : Nat) (hx : a.eval x = .slice (some ad) 1 cp) (hc : w.cell? ad = some (.int .u8 (c : Int))) (hlen : l.length + 1 ≤ 140737488355328)
    (h : ∀ v' w' g', Bytes w' e v' g' (l ++ [c]) → Chg (· = g) w w' → (g' = g ∨ w.heap.size ≤ g') → wpList P ops Q rest (a.put o.dst v') w') : wpList P ops Q (o :: rest) a w := by
  refine wpList_plain hgd fun K hK => ?_
  obtain ⟨v', w', g', hr, h2, h3, h4⟩ := hB.append (P := P) t o.type i ht hi hz hsize hby ad cp c hc hlen
  unfold Oper.wp
  simp only [execOp, ho, resolve, invoke, builtin, Sem.run_bind, Sem.run_pure, Result.andThen_ok, List.map_toArray, List.map_cons, List.map_nil, hs, hx, hr]
  exact hK _ _ (h v' w' g' h2 h3 h4)
theorem wpList_bytes_of {ops : Array Oper} {rest : List Oper} {o : Oper} {a : Act} {Q : Exit → Act → World → Prop} (hgd : o.guard = none) (src dst e : TypeId) (x : Operand) (ho : o.op = .convert src dst x)
    (hs : P.underlying src = some .string) (hd : P.underlying dst = some (.slice e)) (he : P.underlying e = some (.int .u8)) (s : ByteArray) (hx : a.eval x = .string s) (hz : s.size ≤ 140737488355328)
    (h : ∀ v' w', Bytes w' e v' w.heap.size (bs s) → Below w.heap.size w w' → wpList P ops Q rest (a.put o.dst v') w') : wpList P ops Q (o :: rest) a w := by
  refine wpList_plain hgd fun K hK => ?_
  obtain ⟨v', w', hr, h2, h3⟩ := Bytes.of_string (P := P) w src dst e s hs hd he (by unfold maxLen; omega)
  unfold Oper.wp
  simp only [execOp, ho, hx, hr, Sem.run_bind, Sem.run_pure, Result.andThen_ok]
  exact hK _ _ (h v' w' h2 h3)
theorem wpList_bytes_back {ops : Array Oper} {rest : List Oper} {o : Oper} {a : Act} {Q : Exit → Act → World → Prop} (hgd : o.guard = none) (src dst e : TypeId) (x : Operand) (ho : o.op = .convert src dst x)
    (hs : P.underlying src = some (.slice e)) (he : P.underlying e = some (.int .u8)) (hd : P.underlying dst = some .string) (v : Value) (g : Nat) (l : List Nat) (hx : a.eval x = v) (hB : Bytes w e v g l) (hl : ∀ c ∈ l, c < 256)
    (h : wpList P ops Q rest (a.put o.dst (.string (txt l))) w) : wpList P ops Q (o :: rest) a w := by
  refine wpList_plain hgd fun K hK => ?_
  have hr := hB.back (P := P) src dst hs he hd hl
  unfold Oper.wp
  simp only [execOp, ho, hx, hr, Sem.run_bind, Sem.run_pure, Result.andThen_ok]
  exact hK _ _ h
end
end Flow
end Go.Proofs.Ythkphapmnlndbaa
