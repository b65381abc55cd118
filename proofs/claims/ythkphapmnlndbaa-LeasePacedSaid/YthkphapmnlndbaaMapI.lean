/- A map of the call's own from integers to integers, by what its look-ups give. No program in sight. -/
import Derived.Test.YthkphapmnlndbaaGen
import Derived.WideKeyEntry
import Derived.Maps.OwnSet
namespace Go.Proofs.Ythkphapmnlndbaa.Flow
open Go.RowKit Go.Maps
open Go.ChangeMaps
open Go.WideElems (Fit findIdx_arr findIdx_born modify_last set_self)

section
variable {P : Program} {w : World} {b n : Nat} {kt et t : TypeId} {kq eq : IntKind} {f : Int → Int}
/-- Block b is a map of at most n entries in which the look-up of c gives f c. -/
def MapIs (P : Program) (w : World) (b : Nat) (kt et : TypeId) (kq eq : IntKind) (n : Nat) (f : Int → Int) : Prop :=
  ∃ D : DataW Unit, w.ownsMap P kt (plainElem P et) b n D ∧ ∀ c, (Lit.int kq c).wf = true → D.atKey (.int kq c) (.lit (.int eq 0)) = .lit (.int eq (f c))
theorem MapIs.made (w : World) (P : Program) (kt et : TypeId) (kq eq : IntKind) : MapIs P (w.alloc (.map #[] 0)) w.heap.size kt et kq eq 0 (fun _ => 0) :=
  ⟨_, World.ownsMap_made w P kt _, fun _ _ => rfl⟩
theorem MapIs.lt (h : MapIs P w b kt et kq eq n f) : b < w.heap.size := let ⟨_, h, _⟩ := h; h.lt
theorem MapIs.chg {S : Nat → Prop} {w' : World} (h : MapIs P w b kt et kq eq n f) (hc : Chg S w w') (hb : ¬ S b) : MapIs P w' b kt et kq eq n f := by
  obtain ⟨D, ⟨es, clock, h1, h2⟩, h3⟩ := h
  have hlt : b < w.heap.size := (Array.getElem?_eq_some_iff.1 h1).1
  exact ⟨D, ⟨es, clock, (hc.block b hlt hb).trans h1, h2⟩, h3⟩
theorem MapIs.below {w' : World} (h : MapIs P w b kt et kq eq n f) (hb : Below w.heap.size w w') : MapIs P w' b kt et kq eq n f := h.chg (Chg.of_below hb) (fun e => e)
theorem MapIs.look (h : MapIs P w b kt et kq eq n f) (hk : P.underlying kt = some (.int kq)) (he : P.underlying et = some (.int eq)) (ht : P.underlying t = some (.map kt et)) (hz : (zeroValue et).run P w = .ok (.int eq 0) w)
    {c : Int} (hc : (Lit.int kq c).wf = true) : (Instr.lookup t (.map (some b)) (.int kq c) false).run P w = .ok (.int eq (f c)) w := by
  obtain ⟨D, h1, h2⟩ := h
  obtain ⟨c', hrun, hat, _⟩ := h1.lookup_int (int_keyed hk) ht he hz (keyOf_int_mk hk hc)
  rw [h2 c hc] at hat
  have : f c = c' := by injection hat with e; injection e
  rw [this]; exact hrun
theorem put_facts {D : DataW Unit} (hD : IsMap D) (hk : P.underlying kt = some (.int kq)) (hf : ∀ c, (Lit.int kq c).wf = true → D.atKey (.int kq c) (.lit (.int eq 0)) = .lit (.int eq (f c))) {c v : Int} (hc : (Lit.int kq c).wf = true) :
    ∀ x, (Lit.int kq x).wf = true → (D.put (.int kq c) (.lit (.int eq v))).atKey (.int kq x) (.lit (.int eq 0)) = .lit (.int eq (if x = c then v else f x)) := by
  intro x hx
  by_cases hxc : x = c
  · subst hxc
    rw [if_pos rfl]
    exact atKey_put_same hD ((int_keyed hk).key (keyOf_int_mk hk hx)) _ _
  · rw [if_neg hxc, atKey_put_other (fun e => hxc (by injection e)), hf x hx]
theorem MapIs.update (h : MapIs P w b kt et kq eq n f) (hk : P.underlying kt = some (.int kq)) (he : P.underlying et = some (.int eq)) (ht : P.underlying t = some (.map kt et)) (hn : n < maxLen)
    {c v : Int} (hc : (Lit.int kq c).wf = true) (hv : (Lit.int eq v).wf = true) :
    ∃ w', (Instr.mapUpdate t (.map (some b)) (.int kq c) (.int eq v)).run P w = .ok () w' ∧ MapIs P w' b kt et kq eq (n + 1) (fun x => if x = c then v else f x) ∧ Chg (· = b) w w' := by
  obtain ⟨D, h1, h2⟩ := h
  obtain ⟨w', hrun, ho, hg⟩ := h1.update (int_keyed hk) ht hn (keyOf_int_mk hk hc) (plainElem_int he hv)
  have hD : IsMap D := by obtain ⟨es, clock, _, _, _, e⟩ := h1; exact ⟨_, e⟩
  exact ⟨w', hrun, ⟨_, ho, put_facts hD hk h2 hc⟩, Chg.of_grown1 hg⟩
/-- 'm[k] = v' in two steps: the entry, then its value. -/
theorem entry_store {H : Type} {R : Value → Option (DataW H × List MemPlace)} {k e : TypeId} {es : Array MapEntry} {clock : Nat} (K : Keyed P k) (ht : P.underlying t = some (.map k e)) {z : Value} (hz : ∀ u : World, (zeroValue e).run P u = .ok z u) (hb : w.heap[b]? = some (.map es clock)) (F : Fit P k R es clock)
    {key : Value} {kl : Lit} (hkey : keyOf P k key = some kl) :
    ∃ (v0 : Value) (st : Nat) (es1 : Array MapEntry) (clock1 : Nat), (Instr.mapEntry t (.map (some b)) key).run P w = .ok (.tuple #[v0, goInt st]) (setBlock w b (.map es1 clock1)) ∧
      ∀ (w2 : World) (val : Value), w2.heap[b]? = some (.map es1 clock1) → ∃ es' clock', (Instr.entryStore t (.map (some b)) (goInt st) val).run P w2 = .ok () (setBlock w2 b (.map es' clock')) ∧
        (Instr.mapUpdate t (.map (some b)) key val).run P w = .ok () (setBlock w b (.map es' clock')) := by
  obtain ⟨s1, s2, _⟩ := F.stamped
  rcases K.find w hkey es.toList F.keys with ⟨h1, h2⟩ | ⟨j, e0, h1, h2, h3⟩
  · refine ⟨z, clock, es.push ⟨key, z, clock⟩, clock + 1, ?_, fun w2 val hw2 => ⟨es.push ⟨key, val, clock⟩, clock + 1, ?_, ?_⟩⟩
    · simp [Instr.mapEntry, run_underlying ht, MapKept.run_getObj_map hb, K.check w false hkey, h1, hz, MapKept.run_setObj_map _ hb, Result.andThen, setBlock]
    · have hidx : (es.push ⟨key, z, clock⟩).findIdx? (fun e => ((e.born : Nat) : Int) == ((clock : Nat) : Int)) = some es.size := by
        rw [findIdx_arr]
        refine findIdx_born (l := (es.push ⟨key, z, clock⟩).toList) (j := es.size) (e0 := ⟨key, z, clock⟩) ?_ (by simp)
        simp only [Array.toList_push, List.map_append, List.map_cons, List.map_nil]
        refine List.nodup_append.2 ⟨s2, by simp, fun a ha c hc e1 => ?_⟩
        simp only [List.mem_singleton] at hc
        obtain ⟨x, hx, rfl⟩ := List.mem_map.1 ha
        have := s1 x hx
        omega
      have hmod : (es.push ⟨key, z, clock⟩).modify es.size (fun e => { e with val := val }) = es.push ⟨key, val, clock⟩ := by
        apply Array.ext'
        rw [Array.toList_modify, Array.toList_push, Array.toList_push, ← Array.length_toList, modify_last]
      simp [Instr.entryStore, MapKept.run_getObj_map hw2, asInt, asIntOf, goInt, hidx, hmod, MapKept.run_setObj_map _ hw2, Result.andThen, setBlock]
    · simp [Instr.mapUpdate, run_underlying ht, MapKept.run_getObj_map hb, K.check w false hkey, h1, MapKept.run_setObj_map _ hb, Result.andThen, setBlock]
  · have hj : es[j]? = some e0 := by simpa using h2
    have hsame : es.modify j (fun e => { e with key := key }) = es := by
      apply Array.ext'
      rw [Array.toList_modify, modify_eq_set _ _ _ _ h2, show ({ e0 with key := key } : MapEntry) = e0 by rw [← h3]]
      exact set_self _ _ _ h2
    refine ⟨e0.val, e0.born, es, clock, ?_, fun w2 val hw2 => ⟨es.modify j (fun e' => { e' with key := key, val := val }), clock, ?_, ?_⟩⟩
    · simp [Instr.mapEntry, run_underlying ht, MapKept.run_getObj_map hb, K.check w false hkey, h1, hj, h3, K.stays w hkey, hsame, MapKept.run_setObj_map _ hb, Result.andThen, setBlock]
    · have hidx : es.findIdx? (fun e => ((e.born : Nat) : Int) == ((e0.born : Nat) : Int)) = some j := by
        rw [findIdx_arr]
        exact findIdx_born s2 h2
      have hmod : es.modify j (fun e => { e with val := val }) = es.modify j (fun e' => { e' with key := key, val := val }) := by
        apply Array.ext'
        rw [Array.toList_modify, Array.toList_modify, modify_eq_set _ _ _ _ h2, modify_eq_set _ _ _ _ h2, ← h3]
      simp [Instr.entryStore, MapKept.run_getObj_map hw2, asInt, asIntOf, goInt, hidx, hmod, MapKept.run_setObj_map _ hw2, Result.andThen, setBlock]
    · simp [Instr.mapUpdate, run_underlying ht, MapKept.run_getObj_map hb, K.check w false hkey, h1, hj, h3, K.stays w hkey, MapKept.run_setObj_map _ hb, Result.andThen, setBlock]
theorem chg_setBlock {es : Array MapEntry} {clock : Nat} (hb : w.heap[b]? = some (.map es clock)) (o : Obj) : Chg (· = b) w (setBlock w b o) :=
  ⟨rfl, rfl, rfl, by simp [setBlock], fun k _ hk => heap_setBlock_other hb _ (fun e => hk e)⟩
theorem MapIs.entry (h : MapIs P w b kt et kq eq n f) (hk : P.underlying kt = some (.int kq)) (he : P.underlying et = some (.int eq)) (ht : P.underlying t = some (.map kt et)) (hz : ∀ u : World, (zeroValue et).run P u = .ok (.int eq 0) u) (hn : n < maxLen)
    {c : Int} (hc : (Lit.int kq c).wf = true) :
    ∃ (v0 : Value) (st : Nat) (o1 : Obj), (Instr.mapEntry t (.map (some b)) (.int kq c)).run P w = .ok (.tuple #[v0, Value.int .i64 (st : Int)]) (setBlock w b o1) ∧ (setBlock w b o1).heap[b]? = some o1 ∧ Chg (· = b) w (setBlock w b o1) ∧
      ∀ (w2 : World) (v : Int), (Lit.int eq v).wf = true → w2.heap[b]? = some o1 → ∃ w3, (Instr.entryStore t (.map (some b)) (Value.int .i64 (st : Int)) (.int eq v)).run P w2 = .ok () w3 ∧ MapIs P w3 b kt et kq eq (n + 1) (fun x => if x = c then v else f x) ∧ Chg (· = b) w2 w3 := by
  have h' := h
  obtain ⟨D, ⟨es, clock, hb, F, hs, hD⟩, h2⟩ := h
  obtain ⟨v0, st, es1, clock1, r1, r2⟩ := entry_store (int_keyed hk) ht hz hb F (keyOf_int_mk hk hc)
  refine ⟨v0, st, .map es1 clock1, r1, heap_setBlock_same hb _, chg_setBlock hb _, fun w2 v hv hw2 => ?_⟩
  obtain ⟨es', clock', s1, s2⟩ := r2 w2 (.int eq v) hw2
  obtain ⟨w', hrun, hM, _⟩ := h'.update hk he ht hn hc hv
  rw [s2] at hrun
  have hw' : setBlock w b (.map es' clock') = w' := by injection hrun
  rw [← hw'] at hM
  refine ⟨_, s1, ?_, chg_setBlock hw2 _⟩
  obtain ⟨D', ⟨es2, clock2, hb2, r⟩, h3⟩ := hM
  rw [heap_setBlock_same hb] at hb2
  cases hb2
  exact ⟨D', ⟨es', clock', heap_setBlock_same hw2 _, r⟩, h3⟩
end
end Go.Proofs.Ythkphapmnlndbaa.Flow
