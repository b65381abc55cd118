/- Rows of the call's own: an element deleted, cells set to zero. No program in sight. -/
import Derived.Test.YthkphapmnlndbabOwn
import Derived.Laws.IdiomCopy
namespace Go.Proofs.Ythkphapmnlndbab.Flow
open Go.RowKit
theorem add_at (g o j : Nat) : (⟨g, o, none⟩ : Addr).add j = ⟨g, o + j, none⟩ := by unfold Addr.add; split <;> simp_all
/-- The cells of a row behind cell number o are a list's. -/
theorem setCells_heap (g : Nat) (t : TypeId) : ∀ (vs : List Value) (o : Nat) (w : World) (cur : Array Value), w.heap[g]? = some (.cells cur t (0, 0)) → o + vs.length ≤ cur.size →
    (w.setCells g o vs).heap[g]? = some (.cells (cur.toList.take o ++ vs ++ cur.toList.drop (o + vs.length)).toArray t (0, 0)) ∧ Chg (· = g) w (w.setCells g o vs)
  | [], o, w, cur, hg, _ => ⟨by simp [World.setCells, hg], Chg.refl _ _⟩
  | v :: r, o, w, cur, hg, hl => by
    have h1 : (w.setCell ⟨g, o, none⟩ v).heap[g]? = some (.cells (cur.setIfInBounds o v) t (0, 0)) := by simp [World.setCell, Array.getElem?_modify, hg]
    obtain ⟨h2, h3⟩ := setCells_heap g t r (o + 1) (w.setCell ⟨g, o, none⟩ v) _ h1 (by simp at hl ⊢; omega)
    refine ⟨?_, (Chg.setAt w g o v).trans h3 (fun _ _ e => e)⟩
    simp only [World.setCells]
    rw [h2]
    congr 2
    apply Array.ext'
    simp only [Array.toList_setIfInBounds]
    have ho : o < cur.toList.length := by simp at hl ⊢; omega
    rw [List.length_cons]
    rw [List.take_set, List.drop_set]
    rw [if_pos (by omega)]
    rw [List.take_add_one, List.getElem?_eq_getElem ho]
    rw [List.set_append]
    have hlt : ¬ o < (cur.toList.take o).length := by rw [List.length_take]; omega
    rw [if_neg hlt]
    have : o - (cur.toList.take o).length = 0 := by rw [List.length_take]; omega
    rw [this]
    simp [show o + 1 + r.length = o + (r.length + 1) by omega]
/-- 'clear(s)' on one element of any number of cells. -/
theorem run_clear_one {P : Program} (w : World) (t e ty : TypeId) (z : Value) (ht : P.underlying t = some (.slice e)) (hv : ∀ w, (zeroValue e).run P w = .ok z w) (h1 : ∀ u ∈ z.cells.toList, u.oneCell' = true) (b o c : Nat)
    (hc : ∀ j, j < z.cells.size → (w.cell? ⟨b, o + j, none⟩).isSome = true) (hf : ∀ j, j < z.cells.size → w.frozen? ⟨b, o + j, none⟩ = false) :
    (Builtin.clear_ #[t] ty #[.slice (some ⟨b, o, none⟩) 1 c]).run P w = .ok (.tuple #[]) (w.setCells b o z.cells.toList) := by
  have hzc : (Builtin.zeroCells z.cells 1).toList = z.cells.toList := by
    simp [Builtin.zeroCells]
    apply List.ext_getElem
    · simp
    · intro i h1 h2
      simp at h1 h2
      simp [Nat.mod_eq_of_lt h1, h1]
  have hst := run_storeCells_cells (P := P) b o z.cells.toList 0 w (by simpa using hc) (by simpa using hf) h1
  simp only [Nat.add_zero] at hst
  simp [Builtin.clear_, run_underlying ht, hv, hzc, hst]
/-- 'clear' of the element behind a row's last one. -/
theorem clear_row {P : Program} {w : World} {base m g cap : Nat} {xs : List Value} {e : TypeId} {sz : Nat} (h : w.ownsRow base e sz (.slice (some ⟨g, 0, none⟩) m cap) m xs) (hm : m < cap) (t : TypeId) (ht : P.underlying t = some (.slice e)) {z : Value}
    (hzs : z.cells.size = sz) (hz1 : ∀ u ∈ z.cells.toList, u.oneCell' = true) (hv : ∀ w, (zeroValue e).run P w = .ok z w) :
    ∃ w2, (∀ (ty : TypeId) (c : Nat), (Builtin.clear_ #[t] ty #[.slice (some ⟨g, m * sz, none⟩) 1 c]).run P w = .ok (.tuple #[]) w2) ∧ w2.ownsRow base e sz (.slice (some ⟨g, 0, none⟩) m cap) m xs ∧ Chg (· = g) w w2 := by
  have hxl := h.1
  rcases h.2 with ⟨h0, _⟩ | ⟨g', cap', cur, hv', hbg, hg, hnc, hcm, hcs, htake⟩
  · cases h0
  simp only [Value.slice.injEq, Option.some.injEq, Addr.mk.injEq, and_true, true_and] at hv'
  obtain ⟨rfl, rfl⟩ := hv'
  have hm1 : (m + 1) * sz ≤ cap * sz := Nat.mul_le_mul_right sz hm
  have hm2 : (m + 1) * sz = m * sz + sz := by rw [Nat.add_mul, Nat.one_mul]
  have hze : m * sz + z.cells.toList.length ≤ cur.size := by rw [Array.length_toList, hzs, hcs]; omega
  obtain ⟨hw2, hc2⟩ := setCells_heap g e z.cells.toList (m * sz) w cur hg hze
  have hcl : cur.toList.length = cap * sz := by simpa using hcs
  refine ⟨w.setCells g (m * sz) z.cells.toList, fun ty c => ?_, ⟨hxl, .inr ⟨g, cap, _, rfl, hbg, hw2, hnc, hcm, ?_, ?_⟩⟩, hc2⟩
  · exact run_clear_one (P := P) w t e ty z ht hv hz1 g (m * sz) c
      (fun j hj => by simp [World.cell?, hg]; rw [Array.length_toList] at hze; omega)
      (fun j hj => by simp [World.frozen?, hg])
  · simp only [List.size_toArray, List.length_append, List.length_take, List.length_drop, Array.length_toList, hzs]
    rw [hcs]
    omega
  · show (cur.toList.take (m * sz) ++ z.cells.toList ++ cur.toList.drop (m * sz + z.cells.toList.length)).take (m * sz) = _
    rw [List.append_assoc, List.take_append_of_le_length (by rw [List.length_take, hcl]; omega), List.take_take, ← htake]
    congr 1
    omega
/-- 'append(s[:i], s[i+1:]...)' on a row of the call's own. -/
theorem del_row {P : Program} {w : World} {base n : Nat} {v : Value} {xs : List Value} {e : TypeId} {sz : Nat} (h : w.ownsRow base e sz v n xs) (i : Nat) (hi : i < n) (t : TypeId) (ht : P.underlying t = some (.slice e)) {z : Value} {bytes : Nat}
    (hinfo : (P.info? e).map (fun i => (i.zero, i.size, i.bytes)) = some (some z, sz, bytes)) (hone : ∀ u ∈ xs, u.oneCell' = true) :
    ∃ g cap w1, v = .slice (some ⟨g, 0, none⟩) n cap ∧ n ≤ cap ∧ base ≤ g ∧ g < w.heap.size ∧
      (∀ (A : Addr) (c : Nat), (n - (i + 1) = 0 ∨ A = ⟨g, (i + 1) * sz, none⟩) → (Builtin.append_ #[t, t] t #[.slice (some ⟨g, 0, none⟩) i cap, .slice (some A) (n - (i + 1)) c]).run P w = .ok (.slice (some ⟨g, 0, none⟩) (n - 1) cap) w1) ∧
      w1.ownsRow base e sz (.slice (some ⟨g, 0, none⟩) (n - 1) cap) (n - 1) (xs.take (i * sz) ++ xs.drop ((i + 1) * sz)) ∧ Chg (· = g) w w1 := by
  obtain ⟨i0, hi0, hz0, hz1', hz2⟩ := info_parts hinfo
  have hxl := h.1
  have hcells := fun (q : Nat) => h.cells (g := q)
  rcases h.2 with ⟨rfl, hn0⟩ | ⟨g, cap, cur, rfl, hbg, hg, hnc, hcm, hcs, htake⟩
  · omega
  have hlt : g < w.heap.size := (Array.getElem?_eq_some_iff.1 hg).1
  have hm1 : n * sz ≤ cap * sz := Nat.mul_le_mul_right sz hnc
  have hm2 : (i + 1) * sz ≤ n * sz := Nat.mul_le_mul_right sz hi
  have hm3 : (i + 1) * sz = i * sz + sz := by rw [Nat.add_mul, Nat.one_mul]
  have hm4 : n * sz = (n - 1) * sz + sz := by rw [← Nat.succ_mul]; congr 1; omega
  have hm5 : (n - (i + 1)) * sz = n * sz - (i + 1) * sz := by rw [← Nat.sub_mul]
  have hnl : (xs.drop ((i + 1) * sz)).length = (n - (i + 1)) * sz := by rw [List.length_drop, hxl, hm5]
  obtain ⟨cur1, hcur1⟩ : ∃ c, c = (cur.toList.take (i * sz) ++ xs.drop ((i + 1) * sz) ++ cur.toList.drop (i * sz + (xs.drop ((i + 1) * sz)).length)).toArray := ⟨_, rfl⟩
  have hcl : cur.toList.length = cap * sz := by simpa using hcs
  have hs1 : cur1.size = cur.size := by
    rw [hcur1]
    simp only [List.size_toArray, List.length_append, List.length_take, List.length_drop, hnl]
    rw [hcl, hcs]
    omega
  have hw1 : (w.setRow g cur1).heap[g]? = some (.cells cur1 e (0, 0)) := setRow_heap w g cur cur1 e _ hg
  have hc1 : Chg (· = g) w (w.setRow g cur1) := ⟨rfl, rfl, rfl, by rw [setRow_size]; exact Nat.le_refl _, fun k _ hk => setRow_other w g k _ hk⟩
  refine ⟨g, cap, w.setRow g cur1, rfl, hnc, hbg, hlt, fun A c hA => ?_, ⟨?_, .inr ⟨g, cap, _, rfl, hbg, hw1, by omega, hcm, by rw [hs1]; exact hcs, ?_⟩⟩, hc1⟩
  · have hr := run_append_room (P := P) w t t e i0 ht hi0 g i cap cur hg A (n - (i + 1)) c (xs.drop ((i + 1) * sz)) (by rw [hz1']; exact hnl) (fun j u hu => by
        rcases hA with hA | hA
        · have : (xs.drop ((i + 1) * sz)).length = 0 := by rw [hnl, hA, Nat.zero_mul]
          have hj := (List.getElem?_eq_some_iff.1 hu).1
          omega
        · subst hA
          rw [List.getElem?_drop] at hu
          have := hcells g rfl _ u hu
          rw [add_at] at this ⊢
          simpa using this) (fun u hu => hone u (List.mem_of_mem_drop hu)) (by omega) (by rw [hz1', hnl, hcs]; omega)
    rw [hz1', ← hcur1] at hr
    rw [hr]
    congr 2
    omega
  · rw [List.length_append, hnl, List.length_take, hxl]
    have : min (i * sz) (n * sz) = i * sz := by omega
    rw [this, hm5]
    omega
  · rw [hcur1]
    show (cur.toList.take (i * sz) ++ xs.drop ((i + 1) * sz) ++ cur.toList.drop (i * sz + (xs.drop ((i + 1) * sz)).length)).take ((n - 1) * sz) = _
    rw [List.take_append_of_le_length (by rw [List.length_append, List.length_take, hnl, hcl]; omega)]
    rw [List.take_of_length_le (by rw [List.length_append, List.length_take, hnl, hcl]; omega)]
    congr 1
    rw [← htake, List.take_take]
    congr 1
    omega
end Go.Proofs.Ythkphapmnlndbab.Flow
