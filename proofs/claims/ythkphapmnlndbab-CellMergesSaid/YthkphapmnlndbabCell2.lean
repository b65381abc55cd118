/- The contracts of talariaref17.Give and of the statements' helpers of package cell. -/
import Derived.Test.YthkphapmnlndbabCell
namespace Go.Proofs.Ythkphapmnlndbab
open Go.RowKit
set_option maxHeartbeats 2000000
set_option linter.unusedSimpArgs false
attribute [local irreducible] Flow.wpSeg Flow.wpF Flow.wpG Flow.wpS
set_option maxRecDepth 20000 in
theorem rgive_take0_true (c : Wc) (s : Int) (x : Wc) (u : Int) (w : World) (h1 : (s == 0) = true) :
    Calls Try.prog 39 #[.agg #[.int .u32 c.n, .int .u8 c.b, .int .u8 c.l, .bool c.has, .string c.text, .bool c.rmw, .int .i64 s], .agg #[.int .u32 x.n, .int .u8 x.b, .int .u8 x.l, .bool x.has, .string x.text, .bool x.rmw, .int .i64 u], .bool true] w fun e w' => e = .returned (.tuple #[.agg #[.int .u32 x.n, .int .u8 x.b, .int .u8 x.l, .bool x.has, .string x.text, .bool x.rmw, .int .i64 1], .bool true]) ∧ Below w.heap.size w w' := by
  have h30 := eql30
  have n30 := neq30
  have h34 := eql34
  go_enter Try.func39, Try.ntmps39
  go_wp2_with fail
  all_goals (go_returns; exact ⟨rfl, by go_grown⟩)
set_option maxRecDepth 20000 in
theorem rgive_takel_true (c : Wc) (s : Int) (x : Wc) (u : Int) (w : World) (hc : c.ok) (hx : x.ok) (h1 : (s == 0) = false) (h2 : ltW c x = true) :
    Calls Try.prog 39 #[.agg #[.int .u32 c.n, .int .u8 c.b, .int .u8 c.l, .bool c.has, .string c.text, .bool c.rmw, .int .i64 s], .agg #[.int .u32 x.n, .int .u8 x.b, .int .u8 x.l, .bool x.has, .string x.text, .bool x.rmw, .int .i64 u], .bool true] w fun e w' => e = .returned (.tuple #[.agg #[.int .u32 x.n, .int .u8 x.b, .int .u8 x.l, .bool x.has, .string x.text, .bool x.rmw, .int .i64 1], .bool true]) ∧ Below w.heap.size w w' := by
  have h30 := eql30
  have n30 := neq30
  have h34 := eql34
  have HC := Flow.hide hc
  clear hc
  have HX := Flow.hide hx
  clear hx
  have H2 := Flow.hide h2
  clear h2
  go_enter Try.func39, Try.ntmps39
  go_wp2_with fail
  (with_reducible refine (rless_any c x _ HC.out HX.out).mono ?_)
  rintro e w1 ⟨rfl, hb1⟩
  rw [H2.out]
  obtain ⟨k1, k2, k3, hB, hz⟩ := Flow.laid3 hb1
  clear hb1
  have q1 : ∀ i, w1.cell? ⟨w.heap.size, i, none⟩ = (#[.int .u32 c.n, .int .u8 c.b, .int .u8 c.l, .bool c.has, .string c.text, .bool c.rmw, .int .i64 s] : Array Value)[i]? := k1.cell
  have q2 : ∀ i, w1.cell? ⟨w.heap.size + 1, i, none⟩ = (#[.int .u32 x.n, .int .u8 x.b, .int .u8 x.l, .bool x.has, .string x.text, .bool x.rmw, .int .i64 u] : Array Value)[i]? := k2.cell
  have f2 := k2.frozen
  have q3 := k3.cell
  have f3 := k3.frozen
  have z1 := k1.lt
  go_wp2_with fail
  have k3 := k3.far (p := ⟨w.heap.size + 1, 6, none⟩) (by show _ ≠ w.heap.size + 1; omega) (.int .i64 2)
  have hB := hB.setCell (p := ⟨w.heap.size + 1, 6, none⟩) (by show _ ≤ w.heap.size + 1; omega) (.int .i64 2)
  have k3 := k3.far (p := ⟨w.heap.size + 1, 6, none⟩) (by show _ ≠ w.heap.size + 1; omega) (.int .i64 1)
  have hB := hB.setCell (p := ⟨w.heap.size + 1, 6, none⟩) (by show _ ≤ w.heap.size + 1; omega) (.int .i64 1)
  obtain ⟨w4, hw4⟩ : ∃ w4, w4 = (((((((((w1.setCell ⟨w.heap.size + 1, 6, none⟩ (.int .i64 2)).setCell ⟨w.heap.size + 1, 6, none⟩ (.int .i64 1)).setCell ⟨(w.heap.size + 1 + 1), 0, none⟩ (.int .u32 x.n)).setCell ⟨(w.heap.size + 1 + 1), 1, none⟩ (.int .u8 x.b)).setCell ⟨(w.heap.size + 1 + 1), 2, none⟩ (.int .u8 x.l)).setCell ⟨(w.heap.size + 1 + 1), 3, none⟩ (.bool x.has)).setCell ⟨(w.heap.size + 1 + 1), 4, none⟩ (.string x.text)).setCell ⟨(w.heap.size + 1 + 1), 5, none⟩ (.bool x.rmw)).setCell ⟨(w.heap.size + 1 + 1), 6, none⟩ (.int .i64 1)) := ⟨_, rfl⟩
  rw [← hw4]
  obtain ⟨k4, c4⟩ := Flow.store7 (b0 := .int .u32 x.n) (b1 := .int .u8 x.b) (b2 := .int .u8 x.l) (b3 := .bool x.has) (b4 := .string x.text) (b5 := .bool x.rmw) (b6 := .int .i64 1) k3
  rw [← hw4] at k4 c4
  have q4 := k4.cell
  exact bodyPost_ret (v := .tuple #[.agg #[.int .u32 x.n, .int .u8 x.b, .int .u8 x.l, .bool x.has, .string x.text, .bool x.rmw, .int .i64 1], .bool true]) (by simp [results, Try.results39, go_sem, q4]) rfl ⟨rfl, hB.trans (c4.below (fun j _ e => by omega) hB.size)⟩
set_option maxRecDepth 20000 in
theorem rgive_keep_s (c : Wc) (s : Int) (x : Wc) (u : Int) (w : World) (hc : c.ok) (hx : x.ok) (h1 : (s == 0) = false) (h2 : ltW c x = false) (h3 : (s == 2) = false) :
    Calls Try.prog 39 #[.agg #[.int .u32 c.n, .int .u8 c.b, .int .u8 c.l, .bool c.has, .string c.text, .bool c.rmw, .int .i64 s], .agg #[.int .u32 x.n, .int .u8 x.b, .int .u8 x.l, .bool x.has, .string x.text, .bool x.rmw, .int .i64 u], .bool true] w fun e w' => e = .returned (.tuple #[.agg #[.int .u32 c.n, .int .u8 c.b, .int .u8 c.l, .bool c.has, .string c.text, .bool c.rmw, .int .i64 s], .bool false]) ∧ Below w.heap.size w w' := by
  have h30 := eql30
  have n30 := neq30
  have h34 := eql34
  have HC := Flow.hide hc
  clear hc
  have HX := Flow.hide hx
  clear hx
  have H2 := Flow.hide h2
  clear h2
  go_enter Try.func39, Try.ntmps39
  go_wp2_with fail
  (with_reducible refine (rless_any c x _ HC.out HX.out).mono ?_)
  rintro e w1 ⟨rfl, hb1⟩
  rw [H2.out]
  obtain ⟨k1, k2, k3, hB, hz⟩ := Flow.laid3 hb1
  clear hb1
  have q1 : ∀ i, w1.cell? ⟨w.heap.size, i, none⟩ = (#[.int .u32 c.n, .int .u8 c.b, .int .u8 c.l, .bool c.has, .string c.text, .bool c.rmw, .int .i64 s] : Array Value)[i]? := k1.cell
  have q2 : ∀ i, w1.cell? ⟨w.heap.size + 1, i, none⟩ = (#[.int .u32 x.n, .int .u8 x.b, .int .u8 x.l, .bool x.has, .string x.text, .bool x.rmw, .int .i64 u] : Array Value)[i]? := k2.cell
  have f2 := k2.frozen
  have q3 := k3.cell
  have f3 := k3.frozen
  have z1 := k1.lt
  go_wp2_with fail
  obtain ⟨w4, hw4⟩ : ∃ w4, w4 = (((((((w1.setCell ⟨(w.heap.size + 1 + 1), 0, none⟩ (.int .u32 c.n)).setCell ⟨(w.heap.size + 1 + 1), 1, none⟩ (.int .u8 c.b)).setCell ⟨(w.heap.size + 1 + 1), 2, none⟩ (.int .u8 c.l)).setCell ⟨(w.heap.size + 1 + 1), 3, none⟩ (.bool c.has)).setCell ⟨(w.heap.size + 1 + 1), 4, none⟩ (.string c.text)).setCell ⟨(w.heap.size + 1 + 1), 5, none⟩ (.bool c.rmw)).setCell ⟨(w.heap.size + 1 + 1), 6, none⟩ (.int .i64 s)) := ⟨_, rfl⟩
  rw [← hw4]
  obtain ⟨k4, c4⟩ := Flow.store7 (b0 := .int .u32 c.n) (b1 := .int .u8 c.b) (b2 := .int .u8 c.l) (b3 := .bool c.has) (b4 := .string c.text) (b5 := .bool c.rmw) (b6 := .int .i64 s) k3
  rw [← hw4] at k4 c4
  have q4 := k4.cell
  exact bodyPost_ret (v := .tuple #[.agg #[.int .u32 c.n, .int .u8 c.b, .int .u8 c.l, .bool c.has, .string c.text, .bool c.rmw, .int .i64 s], .bool false]) (by simp [results, Try.results39, go_sem, q4]) rfl ⟨rfl, hB.trans (c4.below (fun j _ e => by omega) hB.size)⟩
set_option maxRecDepth 20000 in
theorem rgive_keep_e (c : Wc) (s : Int) (x : Wc) (u : Int) (w : World) (hc : c.ok) (hx : x.ok) (h1 : (s == 0) = false) (h2 : ltW c x = false) (h3 : (s == 2) = true) (h4 : eqS c.n c.b c.l x.n x.b x.l = false) :
    Calls Try.prog 39 #[.agg #[.int .u32 c.n, .int .u8 c.b, .int .u8 c.l, .bool c.has, .string c.text, .bool c.rmw, .int .i64 s], .agg #[.int .u32 x.n, .int .u8 x.b, .int .u8 x.l, .bool x.has, .string x.text, .bool x.rmw, .int .i64 u], .bool true] w fun e w' => e = .returned (.tuple #[.agg #[.int .u32 c.n, .int .u8 c.b, .int .u8 c.l, .bool c.has, .string c.text, .bool c.rmw, .int .i64 s], .bool false]) ∧ Below w.heap.size w w' := by
  have h30 := eql30
  have n30 := neq30
  have h34 := eql34
  have HC := Flow.hide hc
  clear hc
  have HX := Flow.hide hx
  clear hx
  have H2 := Flow.hide h2
  clear h2
  have H4 := Flow.hide h4
  clear h4
  go_enter Try.func39, Try.ntmps39
  go_wp2_with fail
  (with_reducible refine (rless_any c x _ HC.out HX.out).mono ?_)
  rintro e w1 ⟨rfl, hb1⟩
  rw [H2.out]
  obtain ⟨k1, k2, k3, hB, hz⟩ := Flow.laid3 hb1
  clear hb1
  have q1 : ∀ i, w1.cell? ⟨w.heap.size, i, none⟩ = (#[.int .u32 c.n, .int .u8 c.b, .int .u8 c.l, .bool c.has, .string c.text, .bool c.rmw, .int .i64 s] : Array Value)[i]? := k1.cell
  have q2 : ∀ i, w1.cell? ⟨w.heap.size + 1, i, none⟩ = (#[.int .u32 x.n, .int .u8 x.b, .int .u8 x.l, .bool x.has, .string x.text, .bool x.rmw, .int .i64 u] : Array Value)[i]? := k2.cell
  have f2 := k2.frozen
  have q3 := k3.cell
  have f3 := k3.frozen
  have z1 := k1.lt
  have h4 := H4.out
  go_wp2_with fail
  obtain ⟨w4, hw4⟩ : ∃ w4, w4 = (((((((w1.setCell ⟨(w.heap.size + 1 + 1), 0, none⟩ (.int .u32 c.n)).setCell ⟨(w.heap.size + 1 + 1), 1, none⟩ (.int .u8 c.b)).setCell ⟨(w.heap.size + 1 + 1), 2, none⟩ (.int .u8 c.l)).setCell ⟨(w.heap.size + 1 + 1), 3, none⟩ (.bool c.has)).setCell ⟨(w.heap.size + 1 + 1), 4, none⟩ (.string c.text)).setCell ⟨(w.heap.size + 1 + 1), 5, none⟩ (.bool c.rmw)).setCell ⟨(w.heap.size + 1 + 1), 6, none⟩ (.int .i64 s)) := ⟨_, rfl⟩
  rw [← hw4]
  obtain ⟨k4, c4⟩ := Flow.store7 (b0 := .int .u32 c.n) (b1 := .int .u8 c.b) (b2 := .int .u8 c.l) (b3 := .bool c.has) (b4 := .string c.text) (b5 := .bool c.rmw) (b6 := .int .i64 s) k3
  rw [← hw4] at k4 c4
  have q4 := k4.cell
  exact bodyPost_ret (v := .tuple #[.agg #[.int .u32 c.n, .int .u8 c.b, .int .u8 c.l, .bool c.has, .string c.text, .bool c.rmw, .int .i64 s], .bool false]) (by simp [results, Try.results39, go_sem, q4]) rfl ⟨rfl, hB.trans (c4.below (fun j _ e => by omega) hB.size)⟩
set_option maxRecDepth 20000 in
theorem rgive_val (c : Wc) (s : Int) (x : Wc) (u : Int) (w : World) (hc : c.ok) (hx : x.ok) (h1 : (s == 0) = false) (h2 : ltW c x = false) (h3 : (s == 2) = true) (h4 : eqS c.n c.b c.l x.n x.b x.l = true) :
    Calls Try.prog 39 #[.agg #[.int .u32 c.n, .int .u8 c.b, .int .u8 c.l, .bool c.has, .string c.text, .bool c.rmw, .int .i64 s], .agg #[.int .u32 x.n, .int .u8 x.b, .int .u8 x.l, .bool x.has, .string x.text, .bool x.rmw, .int .i64 u], .bool true] w fun e w' => e = .returned (.tuple #[.agg #[.int .u32 c.n, .int .u8 c.b, .int .u8 c.l, .bool c.has, .string c.text, .bool c.rmw, .int .i64 1], .bool true]) ∧ Below w.heap.size w w' := by
  have h30 := eql30
  have n30 := neq30
  have h34 := eql34
  have HC := Flow.hide hc
  clear hc
  have HX := Flow.hide hx
  clear hx
  have H2 := Flow.hide h2
  clear h2
  have H4 := Flow.hide h4
  clear h4
  go_enter Try.func39, Try.ntmps39
  go_wp2_with fail
  (with_reducible refine (rless_any c x _ HC.out HX.out).mono ?_)
  rintro e w1 ⟨rfl, hb1⟩
  rw [H2.out]
  obtain ⟨k1, k2, k3, hB, hz⟩ := Flow.laid3 hb1
  clear hb1
  have q1 : ∀ i, w1.cell? ⟨w.heap.size, i, none⟩ = (#[.int .u32 c.n, .int .u8 c.b, .int .u8 c.l, .bool c.has, .string c.text, .bool c.rmw, .int .i64 s] : Array Value)[i]? := k1.cell
  have q2 : ∀ i, w1.cell? ⟨w.heap.size + 1, i, none⟩ = (#[.int .u32 x.n, .int .u8 x.b, .int .u8 x.l, .bool x.has, .string x.text, .bool x.rmw, .int .i64 u] : Array Value)[i]? := k2.cell
  have f2 := k2.frozen
  have q3 := k3.cell
  have f3 := k3.frozen
  have z1 := k1.lt
  have f1 := k1.frozen
  have h4 := H4.out
  go_wp2_with fail
  have k3 := k3.far (p := ⟨w.heap.size, 6, none⟩) (by show _ ≠ w.heap.size; omega) (.int .i64 1)
  have hB := hB.setCell (p := ⟨w.heap.size, 6, none⟩) (by show _ ≤ w.heap.size; omega) (.int .i64 1)
  obtain ⟨w4, hw4⟩ : ∃ w4, w4 = ((((((((w1.setCell ⟨w.heap.size, 6, none⟩ (.int .i64 1)).setCell ⟨(w.heap.size + 1 + 1), 0, none⟩ (.int .u32 c.n)).setCell ⟨(w.heap.size + 1 + 1), 1, none⟩ (.int .u8 c.b)).setCell ⟨(w.heap.size + 1 + 1), 2, none⟩ (.int .u8 c.l)).setCell ⟨(w.heap.size + 1 + 1), 3, none⟩ (.bool c.has)).setCell ⟨(w.heap.size + 1 + 1), 4, none⟩ (.string c.text)).setCell ⟨(w.heap.size + 1 + 1), 5, none⟩ (.bool c.rmw)).setCell ⟨(w.heap.size + 1 + 1), 6, none⟩ (.int .i64 1)) := ⟨_, rfl⟩
  rw [← hw4]
  obtain ⟨k4, c4⟩ := Flow.store7 (b0 := .int .u32 c.n) (b1 := .int .u8 c.b) (b2 := .int .u8 c.l) (b3 := .bool c.has) (b4 := .string c.text) (b5 := .bool c.rmw) (b6 := .int .i64 1) k3
  rw [← hw4] at k4 c4
  have q4 := k4.cell
  exact bodyPost_ret (v := .tuple #[.agg #[.int .u32 c.n, .int .u8 c.b, .int .u8 c.l, .bool c.has, .string c.text, .bool c.rmw, .int .i64 1], .bool true]) (by simp [results, Try.results39, go_sem, q4]) rfl ⟨rfl, hB.trans (c4.below (fun j _ e => by omega) hB.size)⟩
set_option maxRecDepth 20000 in
theorem rgive_take0_false (c : Wc) (s : Int) (x : Wc) (u : Int) (w : World) (h1 : (s == 0) = true) :
    Calls Try.prog 39 #[.agg #[.int .u32 c.n, .int .u8 c.b, .int .u8 c.l, .bool c.has, .string c.text, .bool c.rmw, .int .i64 s], .agg #[.int .u32 x.n, .int .u8 x.b, .int .u8 x.l, .bool x.has, .string x.text, .bool x.rmw, .int .i64 u], .bool false] w fun e w' => e = .returned (.tuple #[.agg #[.int .u32 x.n, .int .u8 x.b, .int .u8 x.l, .bool x.has, .string x.text, .bool x.rmw, .int .i64 2], .bool true]) ∧ Below w.heap.size w w' := by
  have h30 := eql30
  have n30 := neq30
  have h34 := eql34
  go_enter Try.func39, Try.ntmps39
  go_wp2_with fail
  all_goals (go_returns; exact ⟨rfl, by go_grown⟩)
set_option maxRecDepth 20000 in
theorem rgive_takel_false (c : Wc) (s : Int) (x : Wc) (u : Int) (w : World) (hc : c.ok) (hx : x.ok) (h1 : (s == 0) = false) (h2 : ltW c x = true) :
    Calls Try.prog 39 #[.agg #[.int .u32 c.n, .int .u8 c.b, .int .u8 c.l, .bool c.has, .string c.text, .bool c.rmw, .int .i64 s], .agg #[.int .u32 x.n, .int .u8 x.b, .int .u8 x.l, .bool x.has, .string x.text, .bool x.rmw, .int .i64 u], .bool false] w fun e w' => e = .returned (.tuple #[.agg #[.int .u32 x.n, .int .u8 x.b, .int .u8 x.l, .bool x.has, .string x.text, .bool x.rmw, .int .i64 2], .bool true]) ∧ Below w.heap.size w w' := by
  have h30 := eql30
  have n30 := neq30
  have h34 := eql34
  have HC := Flow.hide hc
  clear hc
  have HX := Flow.hide hx
  clear hx
  have H2 := Flow.hide h2
  clear h2
  go_enter Try.func39, Try.ntmps39
  go_wp2_with fail
  (with_reducible refine (rless_any c x _ HC.out HX.out).mono ?_)
  rintro e w1 ⟨rfl, hb1⟩
  rw [H2.out]
  obtain ⟨k1, k2, k3, hB, hz⟩ := Flow.laid3 hb1
  clear hb1
  have q1 : ∀ i, w1.cell? ⟨w.heap.size, i, none⟩ = (#[.int .u32 c.n, .int .u8 c.b, .int .u8 c.l, .bool c.has, .string c.text, .bool c.rmw, .int .i64 s] : Array Value)[i]? := k1.cell
  have q2 : ∀ i, w1.cell? ⟨w.heap.size + 1, i, none⟩ = (#[.int .u32 x.n, .int .u8 x.b, .int .u8 x.l, .bool x.has, .string x.text, .bool x.rmw, .int .i64 u] : Array Value)[i]? := k2.cell
  have f2 := k2.frozen
  have q3 := k3.cell
  have f3 := k3.frozen
  have z1 := k1.lt
  go_wp2_with fail
  have k3 := k3.far (p := ⟨w.heap.size + 1, 6, none⟩) (by show _ ≠ w.heap.size + 1; omega) (.int .i64 2)
  have hB := hB.setCell (p := ⟨w.heap.size + 1, 6, none⟩) (by show _ ≤ w.heap.size + 1; omega) (.int .i64 2)
  obtain ⟨w4, hw4⟩ : ∃ w4, w4 = ((((((((w1.setCell ⟨w.heap.size + 1, 6, none⟩ (.int .i64 2)).setCell ⟨(w.heap.size + 1 + 1), 0, none⟩ (.int .u32 x.n)).setCell ⟨(w.heap.size + 1 + 1), 1, none⟩ (.int .u8 x.b)).setCell ⟨(w.heap.size + 1 + 1), 2, none⟩ (.int .u8 x.l)).setCell ⟨(w.heap.size + 1 + 1), 3, none⟩ (.bool x.has)).setCell ⟨(w.heap.size + 1 + 1), 4, none⟩ (.string x.text)).setCell ⟨(w.heap.size + 1 + 1), 5, none⟩ (.bool x.rmw)).setCell ⟨(w.heap.size + 1 + 1), 6, none⟩ (.int .i64 2)) := ⟨_, rfl⟩
  rw [← hw4]
  obtain ⟨k4, c4⟩ := Flow.store7 (b0 := .int .u32 x.n) (b1 := .int .u8 x.b) (b2 := .int .u8 x.l) (b3 := .bool x.has) (b4 := .string x.text) (b5 := .bool x.rmw) (b6 := .int .i64 2) k3
  rw [← hw4] at k4 c4
  have q4 := k4.cell
  exact bodyPost_ret (v := .tuple #[.agg #[.int .u32 x.n, .int .u8 x.b, .int .u8 x.l, .bool x.has, .string x.text, .bool x.rmw, .int .i64 2], .bool true]) (by simp [results, Try.results39, go_sem, q4]) rfl ⟨rfl, hB.trans (c4.below (fun j _ e => by omega) hB.size)⟩
set_option maxRecDepth 20000 in
theorem rgive_keep_v (c : Wc) (s : Int) (x : Wc) (u : Int) (w : World) (hc : c.ok) (hx : x.ok) (h1 : (s == 0) = false) (h2 : ltW c x = false) :
    Calls Try.prog 39 #[.agg #[.int .u32 c.n, .int .u8 c.b, .int .u8 c.l, .bool c.has, .string c.text, .bool c.rmw, .int .i64 s], .agg #[.int .u32 x.n, .int .u8 x.b, .int .u8 x.l, .bool x.has, .string x.text, .bool x.rmw, .int .i64 u], .bool false] w fun e w' => e = .returned (.tuple #[.agg #[.int .u32 c.n, .int .u8 c.b, .int .u8 c.l, .bool c.has, .string c.text, .bool c.rmw, .int .i64 s], .bool false]) ∧ Below w.heap.size w w' := by
  have h30 := eql30
  have n30 := neq30
  have h34 := eql34
  have HC := Flow.hide hc
  clear hc
  have HX := Flow.hide hx
  clear hx
  have H2 := Flow.hide h2
  clear h2
  go_enter Try.func39, Try.ntmps39
  go_wp2_with fail
  (with_reducible refine (rless_any c x _ HC.out HX.out).mono ?_)
  rintro e w1 ⟨rfl, hb1⟩
  rw [H2.out]
  obtain ⟨k1, k2, k3, hB, hz⟩ := Flow.laid3 hb1
  clear hb1
  have q1 : ∀ i, w1.cell? ⟨w.heap.size, i, none⟩ = (#[.int .u32 c.n, .int .u8 c.b, .int .u8 c.l, .bool c.has, .string c.text, .bool c.rmw, .int .i64 s] : Array Value)[i]? := k1.cell
  have q2 : ∀ i, w1.cell? ⟨w.heap.size + 1, i, none⟩ = (#[.int .u32 x.n, .int .u8 x.b, .int .u8 x.l, .bool x.has, .string x.text, .bool x.rmw, .int .i64 u] : Array Value)[i]? := k2.cell
  have f2 := k2.frozen
  have q3 := k3.cell
  have f3 := k3.frozen
  have z1 := k1.lt
  go_wp2_with fail
  obtain ⟨w4, hw4⟩ : ∃ w4, w4 = (((((((w1.setCell ⟨(w.heap.size + 1 + 1), 0, none⟩ (.int .u32 c.n)).setCell ⟨(w.heap.size + 1 + 1), 1, none⟩ (.int .u8 c.b)).setCell ⟨(w.heap.size + 1 + 1), 2, none⟩ (.int .u8 c.l)).setCell ⟨(w.heap.size + 1 + 1), 3, none⟩ (.bool c.has)).setCell ⟨(w.heap.size + 1 + 1), 4, none⟩ (.string c.text)).setCell ⟨(w.heap.size + 1 + 1), 5, none⟩ (.bool c.rmw)).setCell ⟨(w.heap.size + 1 + 1), 6, none⟩ (.int .i64 s)) := ⟨_, rfl⟩
  rw [← hw4]
  obtain ⟨k4, c4⟩ := Flow.store7 (b0 := .int .u32 c.n) (b1 := .int .u8 c.b) (b2 := .int .u8 c.l) (b3 := .bool c.has) (b4 := .string c.text) (b5 := .bool c.rmw) (b6 := .int .i64 s) k3
  rw [← hw4] at k4 c4
  have q4 := k4.cell
  exact bodyPost_ret (v := .tuple #[.agg #[.int .u32 c.n, .int .u8 c.b, .int .u8 c.l, .bool c.has, .string c.text, .bool c.rmw, .int .i64 s], .bool false]) (by simp [results, Try.results39, go_sem, q4]) rfl ⟨rfl, hB.trans (c4.below (fun j _ e => by omega) hB.size)⟩
theorem rgive_any (c : Wc) (s : Int) (x : Wc) (u : Int) (v : Bool) (w : World) (hc : c.ok) (hx : x.ok) : Calls Try.prog 39 #[.agg (cc c s), .agg (cc x u), .bool v] w fun e w' => e = .returned (.tuple #[.agg (cc (giveW c s x) (giveS c s x v)), .bool (giveR c s x v)]) ∧ Below w.heap.size w w' := by
  unfold giveW giveS giveR giveT
  by_cases h : s = 0
  · have h1 : (s == 0) = true := by simp [h]
    rw [decide_eq_true h, Bool.true_or]
    rcases v with _ | _
    · exact rgive_take0_false c s x u w h1
    · exact rgive_take0_true c s x u w h1
  · have h1 : (s == 0) = false := by simp [h]
    rw [decide_eq_false h, Bool.false_or]
    rcases h2 : ltW c x with _ | _
    · rcases v with _ | _
      · exact rgive_keep_v c s x u w hc hx h1 h2
      · unfold valS valR
        by_cases hs : s = 2
        · rcases he : eqW c x with _ | _
          · simp only [Bool.false_eq_true, if_false, if_true, and_false, decide_false]
            exact rgive_keep_e c s x u w hc hx h1 h2 (by simp [hs]) he
          · have e1 : (if s = 2 ∧ true = true then (1 : Int) else s) = 1 := if_pos ⟨hs, rfl⟩
            have e2 : decide (s = 2 ∧ true = true) = true := decide_eq_true ⟨hs, rfl⟩
            rw [e1, e2]
            exact rgive_val c s x u w hc hx h1 h2 (by simp [hs]) he
        · have e1 : (if s = 2 ∧ eqW c x = true then (1 : Int) else s) = s := if_neg (fun e => hs e.1)
          have e2 : decide (s = 2 ∧ eqW c x = true) = false := decide_eq_false (fun e => hs e.1)
          rw [e1, e2]
          exact rgive_keep_s c s x u w hc hx h1 h2 (by simp [hs])
    · rcases v with _ | _
      · exact rgive_takel_false c s x u w hc hx h1 h2
      · exact rgive_takel_true c s x u w hc hx h1 h2
theorem beq_refl_int (a : Int) : (a == a) = true := by simp
theorem beq_refl_bool (a : Bool) : (a == a) = true := by cases a <;> rfl
set_option maxRecDepth 20000 in
theorem same_any (c : Wc) (s : Int) (w : World) : Calls Try.prog 40 #[.agg #[.int .u32 c.n, .int .u8 c.b, .int .u8 c.l, .bool c.has, .string c.text, .bool c.rmw, .int .i64 s], .agg #[.int .u32 c.n, .int .u8 c.b, .int .u8 c.l, .bool c.has, .string c.text, .bool c.rmw, .int .i64 s]] w fun e w' => e = .returned (.bool true) ∧ Below w.heap.size w w' := by
  have e0 := beq_refl_int s
  have e1 := beq_refl_bool c.rmw
  have e2 := eql72 c.has c.text
  have e3 := beq_refl_int c.n
  have e4 := beq_refl_int c.b
  have e5 := beq_refl_int c.l
  go_enter Try.func40, Try.ntmps40
  go_wp2
  go_returns
  exact ⟨rfl, by go_grown⟩
set_option maxRecDepth 20000 in
theorem told17_any (x : Wc) (w : World) : Calls Try.prog 33 #[.agg #[.int .u32 x.n, .int .u8 x.b, .int .u8 x.l, .bool x.has, .bool x.rmw, .string x.text]] w fun e w' => e = .returned (.tuple #[.agg #[.int .u32 x.n, .int .u8 x.b, .int .u8 x.l, .bool x.has, .string x.text, .bool x.rmw], .agg #[.int .u32 x.n, .int .u8 x.b, .int .u8 x.l, .bool x.has, .string x.text, .bool x.rmw, .int .i64 0]]) ∧ Below w.heap.size w w' := by
  go_enter Try.func33, Try.ntmps33
  go_wp2_with fail
  have hb1 : Below ((((w.alloc (.cells #[.int .u32 x.n, .int .u8 x.b, .int .u8 x.l, .bool x.has, .bool x.rmw, .string x.text] 81)).alloc (.cells #[.int .u32 0, .int .u8 0, .int .u8 0, .bool false, .string { data := #[] }, .bool false] 74)).alloc (.cells #[.int .u32 0, .int .u8 0, .int .u8 0, .bool false, .string { data := #[] }, .bool false, .int .i64 0] 79)) : World).heap.size ((((w.alloc (.cells #[.int .u32 x.n, .int .u8 x.b, .int .u8 x.l, .bool x.has, .bool x.rmw, .string x.text] 81)).alloc (.cells #[.int .u32 0, .int .u8 0, .int .u8 0, .bool false, .string { data := #[] }, .bool false] 74)).alloc (.cells #[.int .u32 0, .int .u8 0, .int .u8 0, .bool false, .string { data := #[] }, .bool false, .int .i64 0] 79)) : World) ((((w.alloc (.cells #[.int .u32 x.n, .int .u8 x.b, .int .u8 x.l, .bool x.has, .bool x.rmw, .string x.text] 81)).alloc (.cells #[.int .u32 0, .int .u8 0, .int .u8 0, .bool false, .string { data := #[] }, .bool false] 74)).alloc (.cells #[.int .u32 0, .int .u8 0, .int .u8 0, .bool false, .string { data := #[] }, .bool false, .int .i64 0] 79)) : World) := Below.refl _ _
  obtain ⟨k1, k2, k3, hB, hz⟩ := Flow.laid3 hb1
  obtain ⟨w1, hw1⟩ : ∃ w1, w1 = ((((w.alloc (.cells #[.int .u32 x.n, .int .u8 x.b, .int .u8 x.l, .bool x.has, .bool x.rmw, .string x.text] 81)).alloc (.cells #[.int .u32 0, .int .u8 0, .int .u8 0, .bool false, .string { data := #[] }, .bool false] 74)).alloc (.cells #[.int .u32 0, .int .u8 0, .int .u8 0, .bool false, .string { data := #[] }, .bool false, .int .i64 0] 79)) : World) := ⟨_, rfl⟩
  rw [← hw1] at k1 k2 k3 hB hz ⊢
  clear hb1 hw1
  obtain ⟨C, hC⟩ : ∃ C, C = Flow.Chg (fun j => j = w.heap.size + 1 ∨ j = w.heap.size + 1 + 1) w1 := ⟨_, rfl⟩
  have rx : ∀ (p : Flow.Wd C) (i : Nat), p.w.cell? ⟨w.heap.size, i, none⟩ = (#[.int .u32 x.n, .int .u8 x.b, .int .u8 x.l, .bool x.has, .bool x.rmw, .string x.text] : Array Value)[i]? := fun p => (k1.chg (Eq.mp (congrFun hC p.w) p.ok) (by omega)).cell
  have g0 : Flow.Good C (Flow.Fx (fun j => j = w.heap.size + 1 ∨ j = w.heap.size + 1 + 1) w1 [(w.heap.size + 1, 74, #[.int .u32 0, .int .u8 0, .int .u8 0, .bool false, .string { data := #[] }, .bool false]), (w.heap.size + 1 + 1, 79, #[.int .u32 0, .int .u8 0, .int .u8 0, .bool false, .string { data := #[] }, .bool false, .int .i64 0])]) := by rw [hC]; exact Flow.good_fx _ _ _
  have hR : ∀ w5, Below w1.heap.size w1 w5 → (Flow.Fx (fun j => j = w.heap.size + 1 ∨ j = w.heap.size + 1 + 1) w1 [(w.heap.size + 1, 74, #[.int .u32 0, .int .u8 0, .int .u8 0, .bool false, .string { data := #[] }, .bool false]), (w.heap.size + 1 + 1, 79, #[.int .u32 0, .int .u8 0, .int .u8 0, .bool false, .string { data := #[] }, .bool false, .int .i64 0])]) w5 := fun w5 hb => ((Flow.Fx.nil ((Flow.Chg.of_below hb).mono (fun _ _ e => e.elim))).add (k3.below hb)).add (k2.below hb)
  have ne1 : Nonempty (Flow.Wd C) := ⟨⟨w1, g0.sub _ (hR _ (Below.refl _ _))⟩⟩
  have hCC : ∀ w, C w → C w := fun _ h => h
  have HC := Flow.hide hC
  clear hC
  refine Flow.wp_region_gen 1000 (Flow.two C C) _ g0 hR (by kernel_rfl) 33 rfl ?_
  refine Flow.wpG_seg [0, 1, 2, 3, 4, 5, 6, 7, 8, 9, 10, 11, 12, 13, 14, 15, 16, 17, 18, 19, 20, 21, 22, 23, 24, 25, 26, 27, 28, 29, 30] 2 rfl (by kernel_rfl) (hCC) (g0) ?_
  dsimp only [Flow.pickIdx, List.getElem?_cons_zero, List.getElem?_cons_succ]
  iterate 31 (
      (refine Flow.wpS_weak (by kernel_rfl) (fun K' hK' => ?_)
       go_simp
       first
         | (refine hK' _ ?_; clear hK' K')
         | (apply Exists.intro
            refine ⟨fun p => ?_, hK' _ ?_⟩
            (first | fail)
            clear hK' K')))
  refine Flow.wpS_nil ?_
  clear g0 rx
  refine Flow.wpG_next 31 _ (by kernel_rfl) rfl ?_
  intro w5 hw5
  have q5 := hw5.head.cell
  have f5 := hw5.head.frozen
  go_simp
  have g1 : Flow.Good C (Flow.Fx (fun j => j = w.heap.size + 1 ∨ j = w.heap.size + 1 + 1) w1 [(w.heap.size + 1, 74, #[.int .u32 x.n, .int .u8 x.b, .int .u8 x.l, .bool x.has, .string x.text, .bool x.rmw]), (w.heap.size + 1 + 1, 79, #[.int .u32 0, .int .u8 0, .int .u8 0, .bool false, .string { data := #[] }, .bool false, .int .i64 0])]) := by rw [HC.out]; exact Flow.good_fx _ _ _
  refine ⟨Flow.Fx (fun j => j = w.heap.size + 1 ∨ j = w.heap.size + 1 + 1) w1 [(w.heap.size + 1, 74, #[.int .u32 x.n, .int .u8 x.b, .int .u8 x.l, .bool x.has, .string x.text, .bool x.rmw]), (w.heap.size + 1 + 1, 79, #[.int .u32 0, .int .u8 0, .int .u8 0, .bool false, .string { data := #[] }, .bool false, .int .i64 0])], g1, ?_, ?_⟩
  · obtain ⟨k6, c6⟩ := Flow.store6 (b0 := .int .u32 x.n) (b1 := .int .u8 x.b) (b2 := .int .u8 x.l) (b3 := .bool x.has) (b4 := .string x.text) (b5 := .bool x.rmw) hw5.head
    exact ((Flow.Fx.nil (hw5.1.trans c6 (fun _ _ e => .inl e))).add (hw5.tail.head.chg c6 (by omega))).add k6
  clear q5 f5 hw5 w5 g1
  refine Flow.wpG_next 32 _ (by kernel_rfl) rfl ?_
  intro w5 hw5
  have q5 := hw5.tail.head.cell
  have f5 := hw5.tail.head.frozen
  go_simp
  have g1 : Flow.Good C (Flow.Fx (fun j => j = w.heap.size + 1 ∨ j = w.heap.size + 1 + 1) w1 [(w.heap.size + 1, 74, #[.int .u32 x.n, .int .u8 x.b, .int .u8 x.l, .bool x.has, .string x.text, .bool x.rmw]), (w.heap.size + 1 + 1, 79, #[.int .u32 x.n, .int .u8 x.b, .int .u8 x.l, .bool x.has, .string x.text, .bool x.rmw, .int .i64 0])]) := by rw [HC.out]; exact Flow.good_fx _ _ _
  refine ⟨Flow.Fx (fun j => j = w.heap.size + 1 ∨ j = w.heap.size + 1 + 1) w1 [(w.heap.size + 1, 74, #[.int .u32 x.n, .int .u8 x.b, .int .u8 x.l, .bool x.has, .string x.text, .bool x.rmw]), (w.heap.size + 1 + 1, 79, #[.int .u32 x.n, .int .u8 x.b, .int .u8 x.l, .bool x.has, .string x.text, .bool x.rmw, .int .i64 0])], g1, ?_, ?_⟩
  · obtain ⟨k6, c6⟩ := Flow.store7 (b0 := .int .u32 x.n) (b1 := .int .u8 x.b) (b2 := .int .u8 x.l) (b3 := .bool x.has) (b4 := .string x.text) (b5 := .bool x.rmw) (b6 := .int .i64 0) hw5.tail.head
    exact ((Flow.Fx.nil (hw5.1.trans c6 (fun _ _ e => .inr e))).add k6).add (hw5.head.chg c6 (by omega))
  clear q5 f5 hw5 w5 g1
  refine Flow.wpG_done (by kernel_rfl) ?_
  intro w4 hw4
  have q4 := hw4.head.cell
  have q5 := hw4.tail.head.cell
  have c4 := hw4.1
  clear hw4
  go_wp2_with fail
  exact bodyPost_ret (v := .tuple #[.agg #[.int .u32 x.n, .int .u8 x.b, .int .u8 x.l, .bool x.has, .string x.text, .bool x.rmw], .agg #[.int .u32 x.n, .int .u8 x.b, .int .u8 x.l, .bool x.has, .string x.text, .bool x.rmw, .int .i64 0]]) (by simp [results, Try.results33, go_sem, q4, q5]) rfl ⟨rfl, hB.trans (c4.below (fun j _ e => by omega) hB.size)⟩
end Go.Proofs.Ythkphapmnlndbab
