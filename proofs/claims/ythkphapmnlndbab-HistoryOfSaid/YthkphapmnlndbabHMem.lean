/- Rows and blocks of history: one element more, one cell written. No walk in sight. -/
import Derived.Test.YthkphapmnlndbabHMap
namespace Go.Proofs.Ythkphapmnlndbab
open Go.RowKit
set_option linter.unusedSimpArgs false
theorem chg_cellH {S : Nat → Prop} {w w' : World} {g : Nat} (h : Flow.Chg S w w') (hg : g < w.heap.size) (hn : ¬ S g) (i : Nat) : w'.cell? ⟨g, i, none⟩ = w.cell? ⟨g, i, none⟩ := by
  simp [World.cell?, h.block g hg hn]
theorem st_one {S : Nat → Prop} {w0 w w' : World} {g : Nat} {t : TypeId} {cs cs' : Array Value} (h : Flow.Blk w g t cs) (C : Flow.Chg S w0 w) (hS : S g) (i : Nat) (u : Value) (e : cs.setIfInBounds i u = cs') (hb : Below w.heap.size (w.setCell ⟨g, i, none⟩ u) w') : Flow.Blk w' g t cs' ∧ Flow.Chg S w0 w' := by
  have hb' : Below (w.setCell ⟨g, i, none⟩ u).heap.size (w.setCell ⟨g, i, none⟩ u) w' := by rw [World.size_setCell]; exact hb
  exact ⟨(Flow.Blk.set_is h i u e).below hb', (C.setCell (p := ⟨g, i, none⟩) (fun _ => hS) u).trans (Flow.Chg.of_below hb') (fun _ _ e => e.elim)⟩
theorem st_three {S : Nat → Prop} {w0 w w' : World} {g : Nat} {t : TypeId} {cs cs' : Array Value} (h : Flow.Blk w g t cs) (C : Flow.Chg S w0 w) (hS : S g) (i j k : Nat) (u v x : Value) (e : ((cs.setIfInBounds i u).setIfInBounds j v).setIfInBounds k x = cs')
    (hb : Below w.heap.size (((w.setCell ⟨g, i, none⟩ u).setCell ⟨g, j, none⟩ v).setCell ⟨g, k, none⟩ x) w') : Flow.Blk w' g t cs' ∧ Flow.Chg S w0 w' := by
  have h1 := Flow.Blk.set_is h i u rfl
  have h2 := Flow.Blk.set_is h1 j v rfl
  have C1 := C.setCell (p := ⟨g, i, none⟩) (fun _ => hS) u
  have C2 := C1.setCell (p := ⟨g, j, none⟩) (fun _ => hS) v
  exact st_one h2 C2 hS k x e (by simpa using hb)
theorem own_ne_blk {w : World} {b n sz g : Nat} {e t : TypeId} {v : Value} {x : List Value} {cs : Array Value} (h : w.ownsRow b e sz v n x) (k : Flow.Blk w g t cs) (he : e ≠ t) : v.ownBlock ≠ some g := by
  intro h1
  rcases h.2 with ⟨rfl, _⟩ | ⟨g1, c1, cur1, rfl, _, hg1, _⟩
  · cases h1
  simp only [Value.ownBlock, Option.some.injEq] at h1
  subst h1
  unfold Flow.Blk at k
  rw [hg1] at k
  simp only [Option.some.injEq, Obj.cells.injEq] at k
  exact he k.2.1
theorem own_ne_map {w : World} {b n sz g : Nat} {e : TypeId} {v : Value} {x : List Value} {all : List Rc} {ads : List Nat} (h : w.ownsRow b e sz v n x) (k : PM w g all ads) : v.ownBlock ≠ some g := by
  intro h1
  obtain ⟨_, _, ⟨es, clock, hb, _⟩, _⟩ := k
  rcases h.2 with ⟨rfl, _⟩ | ⟨g1, c1, cur1, rfl, _, hg1, _⟩
  · cases h1
  simp only [Value.ownBlock, Option.some.injEq] at h1
  subst h1
  rw [hg1] at hb
  cases hb
theorem blk_ne_map {w : World} {g b : Nat} {t : TypeId} {cs : Array Value} {all : List Rc} {ads : List Nat} (h : Flow.Blk w g t cs) (k : PM w b all ads) : g ≠ b := by
  intro h1
  obtain ⟨_, _, ⟨es, clock, hb, _⟩, _⟩ := k
  subst h1
  unfold Flow.Blk at h
  rw [h] at hb
  cases hb
theorem info151 : (Try.prog.info? 151).map (fun i => (i.zero, i.size, i.bytes)) = some (some (.pointer none), 1, 8) := by kernel_rfl
theorem info118f : (Try.prog.info? 118).map (fun i => (i.zero, i.size, i.bytes)) = some (some (.agg #[.int .i64 0, .int .i64 0, .string ⟨#[]⟩, .bool false, .string ⟨#[]⟩, .int .i64 0, .int .i64 0, .int .i64 0, .int .i64 0, .bool false, .string ⟨#[]⟩, .int .u32 0, .int .u8 0, .int .u8 0, .bool false]), 15, 128) := by kernel_rfl
theorem info111f : (Try.prog.info? 111).map (fun i => (i.zero, i.size, i.bytes)) = some (some (.agg #[.int .u8 0, .int .u32 0, .int .u32 0, .int .i64 0, .int .i64 0, .string ⟨#[]⟩, .bool false, .string ⟨#[]⟩, .int .i64 0, .int .i64 0, .int .i64 0, .int .i64 0, .bool false, .string ⟨#[]⟩, .int .u32 0, .int .u8 0, .int .u8 0, .bool false]), 18, 144) := by kernel_rfl
def ptrs (ads : List Nat) : List Value := ads.map (fun a => .pointer (some ⟨a, 0, none⟩))
theorem append_ptr {w : World} {base n : Nat} {v : Value} {ads : List Nat} (h : w.ownsRow base 151 1 v n (ptrs ads)) (a g cp : Nat) (K : Flow.Blk w g 151 #[.pointer (some ⟨a, 0, none⟩)]) (hn : n ≤ 1000) (hb : base ≤ w.heap.size) :
    ∃ v' w', (Builtin.append_ #[146, 146] 146 #[v, .slice (some ⟨g, 0, none⟩) 1 cp]).run Try.prog w = .ok v' w' ∧ w'.ownsRow base 151 1 v' (n + 1) (ptrs (ads ++ [a])) ∧ Below base w w' ∧ Flow.Chg (fun k => some k = v.ownBlock) w w' := by
  obtain ⟨v', w', h1, h2, h3, h4, _⟩ := Flow.append_row h 146 Try.underlying146 info151 rfl (by decide) [.pointer (some ⟨a, 0, none⟩)] rfl ⟨g, 0, none⟩ cp K.news (fun u hu => by simp at hu; subst hu; rfl) (by omega) (by omega) hb
  exact ⟨v', w', h1, by unfold ptrs at h2 ⊢; rw [List.map_append]; exact h2, h3, h4⟩
theorem append_ec {w : World} {base n : Nat} {v : Value} {l : List Rc} (h : w.ownsRow base 118 15 v n (rowsOf Rc.ecells l)) (c : Rc) (g cp : Nat) (K : Flow.Blk w g 118 #[.int .i64 5, .int .i64 c.ky, .string ⟨#[]⟩, .bool false, .string ⟨#[]⟩, .int .i64 c.op, .int .i64 c.st, .int .i64 c.en, .int .i64 c.er, .bool false, .string ⟨#[]⟩, .int .u32 c.an, .int .u8 0, .int .u8 0, .bool c.wr]) (hn : n ≤ 1000) (hb : base ≤ w.heap.size) :
    ∃ v' w', (Builtin.append_ #[114, 114] 114 #[v, .slice (some ⟨g, 0, none⟩) 1 cp]).run Try.prog w = .ok v' w' ∧ w'.ownsRow base 118 15 v' (n + 1) (rowsOf Rc.ecells (l ++ [c])) ∧ Below base w w' ∧ Flow.Chg (fun k => some k = v.ownBlock) w w' := by
  obtain ⟨v', w', h1, h2, h3, h4, _⟩ := Flow.append_row h 114 Try.underlying114 info118f rfl (by decide) c.ecells rfl ⟨g, 0, none⟩ cp K.news (fun u hu => by simp [Rc.ecells] at hu; repeat (first | (rcases hu with rfl | hu; · rfl) | (subst hu; rfl))) (by omega) (by omega) hb
  exact ⟨v', w', h1, by rw [rowsOf_snoc]; exact h2, h3, h4⟩
theorem append_wc {w : World} {base n : Nat} {v : Value} {l : List Rc} (h : w.ownsRow base 111 18 v n (rowsOf Rc.wcells l)) (c : Rc) (g cp : Nat) (K : Flow.Blk w g 111 #[.int .u8 c.nd, .int .u32 c.ss, .int .u32 c.sq, .int .i64 5, .int .i64 c.ky, .string ⟨#[]⟩, .bool false, .string ⟨#[]⟩, .int .i64 c.op, .int .i64 c.st, .int .i64 c.en, .int .i64 c.er, .bool false, .string ⟨#[]⟩, .int .u32 c.an, .int .u8 0, .int .u8 0, .bool c.wr]) (hn : n ≤ 1000) (hb : base ≤ w.heap.size) :
    ∃ v' w', (Builtin.append_ #[101, 101] 101 #[v, .slice (some ⟨g, 0, none⟩) 1 cp]).run Try.prog w = .ok v' w' ∧ w'.ownsRow base 111 18 v' (n + 1) (rowsOf Rc.wcells (l ++ [c])) ∧ Below base w w' ∧ Flow.Chg (fun k => some k = v.ownBlock) w w' := by
  obtain ⟨v', w', h1, h2, h3, h4, _⟩ := Flow.append_row h 101 Try.underlying101 info111f rfl (by decide) c.wcells rfl ⟨g, 0, none⟩ cp K.news (fun u hu => by simp [Rc.wcells] at hu; repeat (first | (rcases hu with rfl | hu; · rfl) | (subst hu; rfl))) (by omega) (by omega) hb
  exact ⟨v', w', h1, by rw [rowsOf_snoc]; exact h2, h3, h4⟩
theorem row_ptr {w : World} {B n : Nat} {v : Value} {ads : List Nat} (h : w.ownsRow B 151 1 v n (ptrs ads)) {j a : Nat} (ha : ads[j]? = some a) (hl : ads.length = n) :
    ∃ g cap, v = .slice (some ⟨g, 0, none⟩) n cap ∧ g < w.heap.size ∧ w.cell? ⟨g, j, none⟩ = some (.pointer (some ⟨a, 0, none⟩)) := by
  have hj : j < n := by rw [← hl]; exact (List.getElem?_eq_some_iff.1 ha).1
  obtain ⟨g, cap, rfl, hb, hlt, _, hcell, _⟩ := Flow.ownsRow_at h (by omega)
  refine ⟨g, cap, rfl, hlt, ?_⟩
  rw [hcell j (by omega)]
  simp [ptrs, ha]
theorem build150 (a b c : Int) (w : World) : (Instr.build 150 #[(0, .int .u8 a), (1, .int .u32 b), (2, .int .u32 c)]).run Try.prog w = .ok (.agg #[.int .u8 a, .int .u32 b, .int .u32 c]) w := run_build w 150 _ _ (by kernel_rfl)
theorem build118 (ky op st : Int) (w : World) : (Instr.build 118 #[(0, .agg #[.int .i64 5, .int .i64 ky, .string ⟨#[]⟩, .bool false, .string ⟨#[]⟩, .int .i64 op]), (1, .int .i64 st)]).run Try.prog w = .ok (.agg #[.int .i64 5, .int .i64 ky, .string ⟨#[]⟩, .bool false, .string ⟨#[]⟩, .int .i64 op, .int .i64 st, .int .i64 0, .int .i64 0, .bool false, .string ⟨#[]⟩, .int .u32 0, .int .u8 0, .int .u8 0, .bool false]) w := run_build w 118 _ _ (by kernel_rfl)
theorem run_loadVar_at {P : Program} (w : World) (g o : Nat) (ty : TypeId) (cs : Array Value) (d : TypeDesc) (hc : ∀ j v, cs.toList[j]? = some v → w.cell? ⟨g, o + j, none⟩ = some v)
    (hu : P.underlying ty = some d) (hd : (match d with | .struct _ | .array _ _ => true | _ => false) = true) (hi : (P.info? ty).map (·.size) = some cs.size) : (loadVar ty ⟨g, o, none⟩).run P w = .ok (.agg cs) w := by
  have hl : (loadCells ⟨g, o, none⟩ cs.toList.length).run P w = .ok cs.toList.toArray w :=
    run_loadCells_list (P := P) w ⟨g, o, none⟩ cs.toList (fun j v hv => by
      have hadd : (⟨g, o, none⟩ : Addr).add j = ⟨g, o + j, none⟩ := by unfold Addr.add; split <;> simp_all
      rw [hadd]
      exact hc j v hv)
  cases hq : P.info? ty with
  | none => simp [hq] at hi
  | some i =>
    have hs : i.size = cs.size := by simpa [hq] using hi
    have hagg : (isAgg ty).run P w = .ok true w := by
      unfold isAgg
      rw [Sem.run_bind, run_underlying hu w]
      cases d <;> simp_all
    simp only [Array.length_toList, Array.toArray_toList] at hl
    simp [loadVar, Sem.run_bind, hagg, sizeOf, typeInfo, hq, hs, hl]
theorem wp_load_at {P : Program} {o : Oper} {a : Act} {w : World} {K : Act → World → Prop} {Q : Exit → Act → World → Prop} (ty : TypeId) (x : Operand) (ho : o.op = .load ty x)
    (g off : Nat) (hx : a.eval x = .pointer (some ⟨g, off, none⟩)) (cs : Array Value) (d : TypeDesc) (hc : ∀ j v, cs.toList[j]? = some v → w.cell? ⟨g, off + j, none⟩ = some v)
    (hu : P.underlying ty = some d) (hd : (match d with | .struct _ | .array _ _ => true | _ => false) = true) (hi : (P.info? ty).map (·.size) = some cs.size)
    (h : K (a.put o.dst (.agg cs)) w) : o.wp P a w K Q := by
  unfold Oper.wp execOp
  simp only [ho, hx, Instr.loadAt, Instr.sureAddr, Sem.run_bind, Sem.run_pure, Result.andThen_ok, run_loadVar_at w g off ty cs d hc hu hd hi]
  exact h
theorem at111f {w : World} {B n : Nat} {v : Value} {l : List Rc} (h : w.ownsRow B 111 18 v n (rowsOf Rc.wcells l)) (hl : l.length = n) {k : Nat} {c : Rc} (hc : l[k]? = some c) :
    ∃ g cap, v = .slice (some ⟨g, 0, none⟩) n cap ∧ B ≤ g ∧ g < w.heap.size ∧ k < n ∧ ∀ j u, (#[.int .u8 c.nd, .int .u32 c.ss, .int .u32 c.sq, .int .i64 5, .int .i64 c.ky, .string ⟨#[]⟩, .bool false, .string ⟨#[]⟩, .int .i64 c.op, .int .i64 c.st, .int .i64 c.en, .int .i64 c.er, .bool false, .string ⟨#[]⟩, .int .u32 c.an, .int .u8 0, .int .u8 0, .bool c.wr] : Array Value).toList[j]? = some u → w.cell? ⟨g, k * 18 + j, none⟩ = some u := by
  have hk : k < n := by rw [← hl]; exact (List.getElem?_eq_some_iff.1 hc).1
  obtain ⟨g, cap, rfl, hb, hlt, _, hcell, _⟩ := Flow.ownsRow_at h (by omega)
  refine ⟨g, cap, rfl, hb, hlt, hk, fun j u hu => ?_⟩
  have hj : j < 18 := (List.getElem?_eq_some_iff.1 hu).1
  rw [hcell _ (by omega), rowsOf_get (k := 18) (fun _ => rfl) l k c hc j hj]
  exact hu
theorem at118f {w : World} {B n : Nat} {v : Value} {l : List Rc} (h : w.ownsRow B 118 15 v n (rowsOf Rc.ecells l)) (hl : l.length = n) {k : Nat} {c : Rc} (hc : l[k]? = some c) :
    ∃ g cap, v = .slice (some ⟨g, 0, none⟩) n cap ∧ B ≤ g ∧ g < w.heap.size ∧ k < n ∧ ∀ j u, (#[.int .i64 5, .int .i64 c.ky, .string ⟨#[]⟩, .bool false, .string ⟨#[]⟩, .int .i64 c.op, .int .i64 c.st, .int .i64 c.en, .int .i64 c.er, .bool false, .string ⟨#[]⟩, .int .u32 c.an, .int .u8 0, .int .u8 0, .bool c.wr] : Array Value).toList[j]? = some u → w.cell? ⟨g, k * 15 + j, none⟩ = some u := by
  have hk : k < n := by rw [← hl]; exact (List.getElem?_eq_some_iff.1 hc).1
  obtain ⟨g, cap, rfl, hb, hlt, _, hcell, _⟩ := Flow.ownsRow_at h (by omega)
  refine ⟨g, cap, rfl, hb, hlt, hk, fun j u hu => ?_⟩
  have hj : j < 15 := (List.getElem?_eq_some_iff.1 hu).1
  rw [hcell _ (by omega), rowsOf_get (k := 15) (fun _ => rfl) l k c hc j hj]
  exact hu
theorem upd_now (e r : Rc) (h : 0 < r.en ∧ (e.en = 0 ∨ r.en < e.en)) : e.upd r = { e with en := r.en, er := r.er, an := r.an, wr := r.wr } := by unfold Rc.upd; rw [if_pos h]
theorem upd_late (e r : Rc) (h : ¬ (0 < r.en ∧ (e.en = 0 ∨ r.en < e.en))) : e.upd r = e := by unfold Rc.upd; rw [if_neg h]
theorem set_same {all : List Rc} {i : Nat} {e : Rc} (h : all[i]? = some e) : all.set i e = all := by
  obtain ⟨hi, rfl⟩ := List.getElem?_eq_some_iff.1 h
  exact List.set_getElem_self hi
theorem set_snoc (all : List Rc) (e x : Rc) : (all ++ [e]).set all.length x = all ++ [x] := by
  rw [List.set_append_right _ _ (Nat.le_refl _)]; simp
end Go.Proofs.Ythkphapmnlndbab
