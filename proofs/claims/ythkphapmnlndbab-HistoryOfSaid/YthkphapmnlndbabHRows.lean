/- Rows of records in memory. -/
import Derived.Test.YthkphapmnlndbabHPlain
import Derived.Test.YthkphapmnlndbabHist2
namespace Go.Proofs.Ythkphapmnlndbab
open Go.RowKit
set_option linter.unusedSimpArgs false
def rowsOf (f : Rc → List Value) (l : List Rc) : List Value := l.flatMap f
theorem rowsOf_length {f : Rc → List Value} {k : Nat} (hf : ∀ r, (f r).length = k) (l : List Rc) : (rowsOf f l).length = l.length * k := by
  induction l with
  | nil => simp [rowsOf]
  | cons c l ih =>
    have : rowsOf f (c :: l) = f c ++ rowsOf f l := rfl
    rw [this, List.length_append, ih, List.length_cons, Nat.add_mul, hf]
    omega
theorem rowsOf_get {f : Rc → List Value} {k : Nat} (hf : ∀ r, (f r).length = k) (l : List Rc) (i : Nat) (c : Rc) (h : l[i]? = some c) (j : Nat) (hj : j < k) : (rowsOf f l)[i * k + j]? = (f c)[j]? := by
  induction l generalizing i with
  | nil => cases h
  | cons d l ih =>
    have e : rowsOf f (d :: l) = f d ++ rowsOf f l := rfl
    match i, h with
    | 0, h =>
      simp at h
      subst h
      rw [e, List.getElem?_append_left (by rw [hf]; omega)]
      simp
    | i + 1, h =>
      have hm : (i + 1) * k = i * k + k := by rw [Nat.add_mul]; omega
      rw [e, hm, List.getElem?_append_right (by rw [hf]; omega), hf, show i * k + k + j - k = i * k + j by omega]
      exact ih i (by simpa using h)
theorem rowsOf_snoc (f : Rc → List Value) (l : List Rc) (c : Rc) : rowsOf f (l ++ [c]) = rowsOf f l ++ f c := by simp [rowsOf]
theorem at113 {w : World} {B n : Nat} {v : Value} {l : List Rc} (h : w.ownsRow B 113 10 v n (rowsOf Rc.cells l)) (hl : l.length = n) {k : Nat} {c : Rc} (hc : l[k]? = some c) :
    ∃ g cap, v = .slice (some ⟨g, 0, none⟩) n cap ∧ B ≤ g ∧ g < w.heap.size ∧ k < n ∧ w.cell? ⟨g, k * 10, none⟩ = some (.int .u8 c.nd) ∧ w.cell? ⟨g, k * 10 + 1, none⟩ = some (.int .u32 c.ss) ∧ w.cell? ⟨g, k * 10 + 2, none⟩ = some (.int .u32 c.sq) ∧ w.cell? ⟨g, k * 10 + 3, none⟩ = some (.int .i64 c.ky) ∧ w.cell? ⟨g, k * 10 + 4, none⟩ = some (.int .u32 c.op) ∧ w.cell? ⟨g, k * 10 + 5, none⟩ = some (.int .i64 c.st) ∧ w.cell? ⟨g, k * 10 + 6, none⟩ = some (.int .i64 c.en) ∧ w.cell? ⟨g, k * 10 + 7, none⟩ = some (.int .i64 c.er) ∧ w.cell? ⟨g, k * 10 + 8, none⟩ = some (.int .u32 c.an) ∧ w.cell? ⟨g, k * 10 + 9, none⟩ = some (.bool c.wr) := by
  have hk : k < n := by rw [← hl]; exact (List.getElem?_eq_some_iff.1 hc).1
  obtain ⟨g, cap, rfl, hb, hlt, _, hcell, _⟩ := Flow.ownsRow_at h (by omega)
  have hx : ∀ j, j < 10 → w.cell? ⟨g, k * 10 + j, none⟩ = (Rc.cells c)[j]? := fun j hj => by rw [hcell _ (by omega), rowsOf_get (k := 10) (fun _ => rfl) l k c hc j hj]
  exact ⟨g, cap, rfl, hb, hlt, hk, hx 0 (by omega), hx 1 (by omega), hx 2 (by omega), hx 3 (by omega), hx 4 (by omega), hx 5 (by omega), hx 6 (by omega), hx 7 (by omega), hx 8 (by omega), hx 9 (by omega)⟩
theorem at111 {w : World} {B n : Nat} {v : Value} {l : List Rc} (h : w.ownsRow B 111 18 v n (rowsOf Rc.wcells l)) (hl : l.length = n) {k : Nat} {c : Rc} (hc : l[k]? = some c) :
    ∃ g cap, v = .slice (some ⟨g, 0, none⟩) n cap ∧ B ≤ g ∧ g < w.heap.size ∧ k < n ∧ w.cell? ⟨g, k * 18, none⟩ = some (.int .u8 c.nd) ∧ w.cell? ⟨g, k * 18 + 1, none⟩ = some (.int .u32 c.ss) ∧ w.cell? ⟨g, k * 18 + 2, none⟩ = some (.int .u32 c.sq) ∧ w.cell? ⟨g, k * 18 + 3, none⟩ = some (.int .i64 5) ∧ w.cell? ⟨g, k * 18 + 4, none⟩ = some (.int .i64 c.ky) ∧ w.cell? ⟨g, k * 18 + 5, none⟩ = some (.string ⟨#[]⟩) ∧ w.cell? ⟨g, k * 18 + 6, none⟩ = some (.bool false) ∧ w.cell? ⟨g, k * 18 + 7, none⟩ = some (.string ⟨#[]⟩) ∧ w.cell? ⟨g, k * 18 + 8, none⟩ = some (.int .i64 c.op) ∧ w.cell? ⟨g, k * 18 + 9, none⟩ = some (.int .i64 c.st) ∧ w.cell? ⟨g, k * 18 + 10, none⟩ = some (.int .i64 c.en) ∧ w.cell? ⟨g, k * 18 + 11, none⟩ = some (.int .i64 c.er) ∧ w.cell? ⟨g, k * 18 + 12, none⟩ = some (.bool false) ∧ w.cell? ⟨g, k * 18 + 13, none⟩ = some (.string ⟨#[]⟩) ∧ w.cell? ⟨g, k * 18 + 14, none⟩ = some (.int .u32 c.an) ∧ w.cell? ⟨g, k * 18 + 15, none⟩ = some (.int .u8 0) ∧ w.cell? ⟨g, k * 18 + 16, none⟩ = some (.int .u8 0) ∧ w.cell? ⟨g, k * 18 + 17, none⟩ = some (.bool c.wr) := by
  have hk : k < n := by rw [← hl]; exact (List.getElem?_eq_some_iff.1 hc).1
  obtain ⟨g, cap, rfl, hb, hlt, _, hcell, _⟩ := Flow.ownsRow_at h (by omega)
  have hx : ∀ j, j < 18 → w.cell? ⟨g, k * 18 + j, none⟩ = (Rc.wcells c)[j]? := fun j hj => by rw [hcell _ (by omega), rowsOf_get (k := 18) (fun _ => rfl) l k c hc j hj]
  exact ⟨g, cap, rfl, hb, hlt, hk, hx 0 (by omega), hx 1 (by omega), hx 2 (by omega), hx 3 (by omega), hx 4 (by omega), hx 5 (by omega), hx 6 (by omega), hx 7 (by omega), hx 8 (by omega), hx 9 (by omega), hx 10 (by omega), hx 11 (by omega), hx 12 (by omega), hx 13 (by omega), hx 14 (by omega), hx 15 (by omega), hx 16 (by omega), hx 17 (by omega)⟩
theorem at118 {w : World} {B n : Nat} {v : Value} {l : List Rc} (h : w.ownsRow B 118 15 v n (rowsOf Rc.ecells l)) (hl : l.length = n) {k : Nat} {c : Rc} (hc : l[k]? = some c) :
    ∃ g cap, v = .slice (some ⟨g, 0, none⟩) n cap ∧ B ≤ g ∧ g < w.heap.size ∧ k < n ∧ w.cell? ⟨g, k * 15, none⟩ = some (.int .i64 5) ∧ w.cell? ⟨g, k * 15 + 1, none⟩ = some (.int .i64 c.ky) ∧ w.cell? ⟨g, k * 15 + 2, none⟩ = some (.string ⟨#[]⟩) ∧ w.cell? ⟨g, k * 15 + 3, none⟩ = some (.bool false) ∧ w.cell? ⟨g, k * 15 + 4, none⟩ = some (.string ⟨#[]⟩) ∧ w.cell? ⟨g, k * 15 + 5, none⟩ = some (.int .i64 c.op) ∧ w.cell? ⟨g, k * 15 + 6, none⟩ = some (.int .i64 c.st) ∧ w.cell? ⟨g, k * 15 + 7, none⟩ = some (.int .i64 c.en) ∧ w.cell? ⟨g, k * 15 + 8, none⟩ = some (.int .i64 c.er) ∧ w.cell? ⟨g, k * 15 + 9, none⟩ = some (.bool false) ∧ w.cell? ⟨g, k * 15 + 10, none⟩ = some (.string ⟨#[]⟩) ∧ w.cell? ⟨g, k * 15 + 11, none⟩ = some (.int .u32 c.an) ∧ w.cell? ⟨g, k * 15 + 12, none⟩ = some (.int .u8 0) ∧ w.cell? ⟨g, k * 15 + 13, none⟩ = some (.int .u8 0) ∧ w.cell? ⟨g, k * 15 + 14, none⟩ = some (.bool c.wr) := by
  have hk : k < n := by rw [← hl]; exact (List.getElem?_eq_some_iff.1 hc).1
  obtain ⟨g, cap, rfl, hb, hlt, _, hcell, _⟩ := Flow.ownsRow_at h (by omega)
  have hx : ∀ j, j < 15 → w.cell? ⟨g, k * 15 + j, none⟩ = (Rc.ecells c)[j]? := fun j hj => by rw [hcell _ (by omega), rowsOf_get (k := 15) (fun _ => rfl) l k c hc j hj]
  exact ⟨g, cap, rfl, hb, hlt, hk, hx 0 (by omega), hx 1 (by omega), hx 2 (by omega), hx 3 (by omega), hx 4 (by omega), hx 5 (by omega), hx 6 (by omega), hx 7 (by omega), hx 8 (by omega), hx 9 (by omega), hx 10 (by omega), hx 11 (by omega), hx 12 (by omega), hx 13 (by omega), hx 14 (by omega)⟩
theorem info113f : (Try.prog.info? 113).map (fun i => (i.zero, i.size, i.bytes)) = some (some (.agg #[.int .u8 0, .int .u32 0, .int .u32 0, .int .i64 0, .int .u32 0, .int .i64 0, .int .i64 0, .int .i64 0, .int .u32 0, .bool false]), 10, 64) := by kernel_rfl
theorem append_rc {w : World} {base n : Nat} {v : Value} {l : List Rc} (h : w.ownsRow base 113 10 v n (rowsOf Rc.cells l)) (c : Rc) (g cp : Nat) (K : Flow.Blk w g 113 #[.int .u8 c.nd, .int .u32 c.ss, .int .u32 c.sq, .int .i64 c.ky, .int .u32 c.op, .int .i64 c.st, .int .i64 c.en, .int .i64 c.er, .int .u32 c.an, .bool c.wr]) (hn : n ≤ 1000) (hb : base ≤ w.heap.size) :
    ∃ v' w', (Builtin.append_ #[102, 102] 102 #[v, .slice (some ⟨g, 0, none⟩) 1 cp]).run Try.prog w = .ok v' w' ∧ w'.ownsRow base 113 10 v' (n + 1) (rowsOf Rc.cells (l ++ [c])) ∧ Below base w w' ∧ Flow.Chg (fun k => some k = v.ownBlock) w w' := by
  obtain ⟨v', w', h1, h2, h3, h4, _⟩ := Flow.append_row h 102 Try.underlying102 info113f rfl (by decide) c.cells rfl ⟨g, 0, none⟩ cp K.news (fun u hu => by simp [Rc.cells] at hu; rcases hu with rfl | rfl | rfl | rfl | rfl | rfl | rfl | rfl | rfl | rfl <;> rfl) (by omega) (by omega) hb
  exact ⟨v', w', h1, by rw [rowsOf_snoc]; exact h2, h3, h4⟩
theorem refFrom_length : ∀ (suf pre : List Rc), (refFrom pre suf).length ≤ suf.length := by
  intro suf
  induction suf with
  | nil => intro pre; simp [refFrom]
  | cons x suf ih =>
    intro pre
    have := ih (pre ++ [x])
    simp only [refFrom, List.length_append, List.length_cons]
    split <;> simp <;> omega
theorem refOf_length (l : List Rc) (key : Int) : (refOf l key).length ≤ l.length :=
  Nat.le_trans (List.length_filter_le _ _) (refFrom_length l [])
end Go.Proofs.Ythkphapmnlndbab
