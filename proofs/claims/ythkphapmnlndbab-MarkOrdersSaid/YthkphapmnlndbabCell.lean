/- The contracts of package cell and of its reference. -/
import Derived.Test.YthkphapmnlndbabMark
import Derived.Test.YthkphapmnlndbabStores
namespace Go.Proofs.Ythkphapmnlndbab
open Go.RowKit
set_option maxHeartbeats 2000000
set_option linter.unusedSimpArgs false
attribute [local irreducible] Flow.wpSeg Flow.wpF Flow.wpG Flow.wpS
/-- A word. -/
structure Wc where
  n : Int
  b : Int
  l : Int
  has : Bool
  text : ByteArray
  rmw : Bool
abbrev wc (x : Wc) : Array Value := #[.int .u32 x.n, .int .u8 x.b, .int .u8 x.l, .bool x.has, .string x.text, .bool x.rmw]
abbrev cc (x : Wc) (s : Int) : Array Value := #[.int .u32 x.n, .int .u8 x.b, .int .u8 x.l, .bool x.has, .string x.text, .bool x.rmw, .int .i64 s]
/-- The numbers of a word fit their kinds. -/
def Wc.ok (x : Wc) : Prop := (0 ≤ x.n ∧ x.n ≤ 4294967295) ∧ (0 ≤ x.b ∧ x.b ≤ 255) ∧ (0 ≤ x.l ∧ x.l ≤ 255)
def ltW (x y : Wc) : Bool := slt x.n x.b x.l y.n y.b y.l
def eqS (a b c d e f : Int) : Bool := decide (a = d ∧ b = e ∧ c = f)
def eqW (x y : Wc) : Bool := eqS x.n x.b x.l y.n y.b y.l
theorem eql30 (a b c d e f : Int) (w : World) : (binOp .eql 30 (.agg #[.int .u32 a, .int .u8 b, .int .u8 c]) (.agg #[.int .u32 d, .int .u8 e, .int .u8 f])).run Try.prog w = .ok (.bool (eqS a b c d e f)) w := by
  go_simp
  unfold eqS
  by_cases h1 : a = d <;> by_cases h2 : b = e <;> by_cases h3 : c = f <;> simp [h1, h2, h3]
theorem neq30 (a b c d e f : Int) (w : World) : (binOp .neq 30 (.agg #[.int .u32 a, .int .u8 b, .int .u8 c]) (.agg #[.int .u32 d, .int .u8 e, .int .u8 f])).run Try.prog w = .ok (.bool (!eqS a b c d e f)) w := by
  go_simp
  unfold eqS
  by_cases h1 : a = d <;> by_cases h2 : b = e <;> by_cases h3 : c = f <;> simp [h1, h2, h3]
theorem eql34 (a b c d e f : Int) (w : World) : (binOp .eql 34 (.agg #[.int .u32 a, .int .u8 b, .int .u8 c]) (.agg #[.int .u32 d, .int .u8 e, .int .u8 f])).run Try.prog w = .ok (.bool (eqS a b c d e f)) w := by
  go_simp
  unfold eqS
  by_cases h1 : a = d <;> by_cases h2 : b = e <;> by_cases h3 : c = f <;> simp [h1, h2, h3]
theorem eql72 (a : Bool) (s : ByteArray) (w : World) : (binOp .eql 72 (.agg #[.bool a, .string s]) (.agg #[.bool a, .string s])).run Try.prog w = .ok (.bool true) w := by
  go_simp
theorem rval_any (x : Wc) (w : World) (hx : x.ok) :
    Calls Try.prog 58 #[.agg #[.int .u32 x.n, .int .u8 x.b, .int .u8 x.l]] w fun e w' => e = .returned (.int .u64 (x.n * 65536 + x.b * 256 + x.l)) ∧ Below w.heap.size w w' := by
  obtain ⟨⟨a1, a2⟩, ⟨a3, a4⟩, a5, a6⟩ := hx
  go_enter Try.func58, Try.ntmps58
  go_wp2
  go_ret
  exact ⟨rfl, Flow.below_alloc _ _⟩
theorem rless_any (x y : Wc) (w : World) (hx : x.ok) (hy : y.ok) :
    Calls Try.prog 22 #[.agg #[.int .u32 x.n, .int .u8 x.b, .int .u8 x.l], .agg #[.int .u32 y.n, .int .u8 y.b, .int .u8 y.l]] w fun e w' => e = .returned (.bool (ltW x y)) ∧ Below w.heap.size w w' := by
  have hv : ltW x y = decide (x.n * 65536 + x.b * 256 + x.l < y.n * 65536 + y.b * 256 + y.l) := by
    obtain ⟨_, ⟨_, _⟩, _, _⟩ := hx
    obtain ⟨_, ⟨_, _⟩, _, _⟩ := hy
    unfold ltW slt
    exact decide_eq_decide.2 (by omega)
  have HV := Flow.hide hv
  clear hv
  go_enter Try.func22, Try.ntmps22
  go_wp2_with fail
  obtain ⟨w1, hw1⟩ : ∃ w1, w1 = (w.alloc (.cells #[.int .u32 x.n, .int .u8 x.b, .int .u8 x.l] 34)).alloc (.cells #[.int .u32 y.n, .int .u8 y.b, .int .u8 y.l] 34) := ⟨_, rfl⟩
  rw [← hw1]
  have hb1 : Below ((w.alloc (.cells #[.int .u32 x.n, .int .u8 x.b, .int .u8 x.l] 34)).alloc (.cells #[.int .u32 y.n, .int .u8 y.b, .int .u8 y.l] 34)).heap.size ((w.alloc (.cells #[.int .u32 x.n, .int .u8 x.b, .int .u8 x.l] 34)).alloc (.cells #[.int .u32 y.n, .int .u8 y.b, .int .u8 y.l] 34)) w1 := by rw [hw1]; exact Below.refl _ _
  obtain ⟨k1, k2, hB, hz⟩ := Flow.laid2 hb1
  have r1 := k1.rg
  have r2 := k2.rg
  clear hw1 hb1 k1 k2
  refine Flow.wp_region_all (by kernel_rfl) (by kernel_rfl) ?_
  repeat (first
    | (refine Flow.wpSeg_step (fun K' hK' => ?_)
       go_simp
       first
         | (refine hK' _ ?_; clear hK' K')
         | (apply Exists.intro
            refine ⟨fun p => ?_, hK' _ ?_⟩
            (first | with_reducible exact (rval_any x _ hx) | with_reducible exact (rval_any y _ hy))
            clear hK' K')))
  refine Flow.wpSeg_nil ?_
  intro w' hb'
  go_wp2_with fail
  go_ret
  exact ⟨by rw [HV.out]; rfl, hB.trans (hb'.mono hB.size)⟩
theorem lessW (x y : Wc) (w : World) : Calls Try.prog 19 #[.agg #[.int .u32 x.n, .int .u8 x.b, .int .u8 x.l], .agg #[.int .u32 y.n, .int .u8 y.b, .int .u8 y.l]] w fun e w' => e = .returned (.bool (ltW x y)) ∧ Below w.heap.size w w' :=
  less_any _ _ _ _ _ _ w

/-! ### What the methods compute -/
def invW (c x : Wc) : Wc := if ltW c x then x else c
def invS (c : Wc) (s : Int) (x : Wc) : Int := if ltW c x then 2 else s
def invR (c x : Wc) : Int := if ltW c x then 1 else if eqW c x then 2 else if x.rmw then 4 else 3
def valS (c : Wc) (s : Int) (x : Wc) : Int := if s = 2 ∧ eqW c x = true then 1 else s
def valR (c : Wc) (s : Int) (x : Wc) : Bool := decide (s = 2 ∧ eqW c x = true)
def giveT (c : Wc) (s : Int) (x : Wc) : Bool := decide (s = 0) || ltW c x
def giveW (c : Wc) (s : Int) (x : Wc) : Wc := if giveT c s x then x else c
def giveS (c : Wc) (s : Int) (x : Wc) (v : Bool) : Int := if giveT c s x then (if v then 1 else 2) else if v then valS c s x else s
def giveR (c : Wc) (s : Int) (x : Wc) (v : Bool) : Bool := if giveT c s x then true else if v then valR c s x else false
set_option maxRecDepth 20000 in
theorem inv_took (c : Wc) (s : Int) (x : Wc) (w : World) (h1 : ltW c x = true) :
    Calls Try.prog 34 #[.agg #[.int .u32 c.n, .int .u8 c.b, .int .u8 c.l, .bool c.has, .string c.text, .bool c.rmw, .int .i64 s], .agg #[.int .u32 x.n, .int .u8 x.b, .int .u8 x.l, .bool x.has, .string x.text, .bool x.rmw]] w fun e w' => e = .returned (.tuple #[.agg #[.int .u32 x.n, .int .u8 x.b, .int .u8 x.l, .bool x.has, .string x.text, .bool x.rmw, .int .i64 2], .int .i64 1]) ∧ Below w.heap.size w w' := by
  have h30 := eql30
  have n30 := neq30
  have h34 := eql34
  have H1 := Flow.hide h1
  clear h1
  go_enter Try.func34, Try.ntmps34
  go_wp2_with fail
  (with_reducible refine (lessW c x _).mono ?_)
  rintro e w1 ⟨rfl, hb1⟩
  rw [H1.out]
  obtain ⟨k1, k2, k3, hB, hz⟩ := Flow.laid3 hb1
  clear hb1
  have q1 : ∀ i, w1.cell? ⟨w.heap.size, i, none⟩ = (#[.int .u32 c.n, .int .u8 c.b, .int .u8 c.l, .bool c.has, .string c.text, .bool c.rmw, .int .i64 s] : Array Value)[i]? := k1.cell
  have q2 : ∀ i, w1.cell? ⟨w.heap.size + 1, i, none⟩ = (#[.int .u32 x.n, .int .u8 x.b, .int .u8 x.l, .bool x.has, .string x.text, .bool x.rmw] : Array Value)[i]? := k2.cell
  have f2 := k2.frozen
  have q3 := k3.cell
  have f3 := k3.frozen
  have z1 := k1.lt
  go_wp2_with fail
  obtain ⟨w4, hw4⟩ : ∃ w4, w4 = (((((((w1.setCell ⟨(w.heap.size + 1 + 1), 0, none⟩ (.int .u32 x.n)).setCell ⟨(w.heap.size + 1 + 1), 1, none⟩ (.int .u8 x.b)).setCell ⟨(w.heap.size + 1 + 1), 2, none⟩ (.int .u8 x.l)).setCell ⟨(w.heap.size + 1 + 1), 3, none⟩ (.bool x.has)).setCell ⟨(w.heap.size + 1 + 1), 4, none⟩ (.string x.text)).setCell ⟨(w.heap.size + 1 + 1), 5, none⟩ (.bool x.rmw)).setCell ⟨(w.heap.size + 1 + 1), 6, none⟩ (.int .i64 2)) := ⟨_, rfl⟩
  rw [← hw4]
  obtain ⟨k4, c4⟩ := Flow.store7 (b0 := .int .u32 x.n) (b1 := .int .u8 x.b) (b2 := .int .u8 x.l) (b3 := .bool x.has) (b4 := .string x.text) (b5 := .bool x.rmw) (b6 := .int .i64 2) k3
  rw [← hw4] at k4 c4
  have q4 := k4.cell
  exact bodyPost_ret (v := .tuple #[.agg #[.int .u32 x.n, .int .u8 x.b, .int .u8 x.l, .bool x.has, .string x.text, .bool x.rmw, .int .i64 2], .int .i64 1]) (by simp [results, Try.results34, go_sem, q4]) rfl ⟨rfl, hB.trans (c4.below (fun j _ e => by omega) hB.size)⟩
set_option maxRecDepth 20000 in
theorem inv_same (c : Wc) (s : Int) (x : Wc) (w : World) (h1 : ltW c x = false) (h2 : eqS c.n c.b c.l x.n x.b x.l = true) :
    Calls Try.prog 34 #[.agg #[.int .u32 c.n, .int .u8 c.b, .int .u8 c.l, .bool c.has, .string c.text, .bool c.rmw, .int .i64 s], .agg #[.int .u32 x.n, .int .u8 x.b, .int .u8 x.l, .bool x.has, .string x.text, .bool x.rmw]] w fun e w' => e = .returned (.tuple #[.agg #[.int .u32 c.n, .int .u8 c.b, .int .u8 c.l, .bool c.has, .string c.text, .bool c.rmw, .int .i64 s], .int .i64 2]) ∧ Below w.heap.size w w' := by
  have h30 := eql30
  have n30 := neq30
  have h34 := eql34
  have H1 := Flow.hide h1
  clear h1
  have H2 := Flow.hide h2
  clear h2
  go_enter Try.func34, Try.ntmps34
  go_wp2_with fail
  (with_reducible refine (lessW c x _).mono ?_)
  rintro e w1 ⟨rfl, hb1⟩
  rw [H1.out]
  obtain ⟨k1, k2, k3, hB, hz⟩ := Flow.laid3 hb1
  clear hb1
  have q1 : ∀ i, w1.cell? ⟨w.heap.size, i, none⟩ = (#[.int .u32 c.n, .int .u8 c.b, .int .u8 c.l, .bool c.has, .string c.text, .bool c.rmw, .int .i64 s] : Array Value)[i]? := k1.cell
  have q2 : ∀ i, w1.cell? ⟨w.heap.size + 1, i, none⟩ = (#[.int .u32 x.n, .int .u8 x.b, .int .u8 x.l, .bool x.has, .string x.text, .bool x.rmw] : Array Value)[i]? := k2.cell
  have f2 := k2.frozen
  have q3 := k3.cell
  have f3 := k3.frozen
  have z1 := k1.lt
  have h2 := H2.out
  go_wp2_with fail
  obtain ⟨w4, hw4⟩ : ∃ w4, w4 = (((((((w1.setCell ⟨(w.heap.size + 1 + 1), 0, none⟩ (.int .u32 c.n)).setCell ⟨(w.heap.size + 1 + 1), 1, none⟩ (.int .u8 c.b)).setCell ⟨(w.heap.size + 1 + 1), 2, none⟩ (.int .u8 c.l)).setCell ⟨(w.heap.size + 1 + 1), 3, none⟩ (.bool c.has)).setCell ⟨(w.heap.size + 1 + 1), 4, none⟩ (.string c.text)).setCell ⟨(w.heap.size + 1 + 1), 5, none⟩ (.bool c.rmw)).setCell ⟨(w.heap.size + 1 + 1), 6, none⟩ (.int .i64 s)) := ⟨_, rfl⟩
  rw [← hw4]
  obtain ⟨k4, c4⟩ := Flow.store7 (b0 := .int .u32 c.n) (b1 := .int .u8 c.b) (b2 := .int .u8 c.l) (b3 := .bool c.has) (b4 := .string c.text) (b5 := .bool c.rmw) (b6 := .int .i64 s) k3
  rw [← hw4] at k4 c4
  have q4 := k4.cell
  exact bodyPost_ret (v := .tuple #[.agg #[.int .u32 c.n, .int .u8 c.b, .int .u8 c.l, .bool c.has, .string c.text, .bool c.rmw, .int .i64 s], .int .i64 2]) (by simp [results, Try.results34, go_sem, q4]) rfl ⟨rfl, hB.trans (c4.below (fun j _ e => by omega) hB.size)⟩
set_option maxRecDepth 20000 in
theorem inv_refused (c : Wc) (s : Int) (x : Wc) (w : World) (h1 : ltW c x = false) (h2 : eqS c.n c.b c.l x.n x.b x.l = false) (h3 : x.rmw = true) :
    Calls Try.prog 34 #[.agg #[.int .u32 c.n, .int .u8 c.b, .int .u8 c.l, .bool c.has, .string c.text, .bool c.rmw, .int .i64 s], .agg #[.int .u32 x.n, .int .u8 x.b, .int .u8 x.l, .bool x.has, .string x.text, .bool x.rmw]] w fun e w' => e = .returned (.tuple #[.agg #[.int .u32 c.n, .int .u8 c.b, .int .u8 c.l, .bool c.has, .string c.text, .bool c.rmw, .int .i64 s], .int .i64 4]) ∧ Below w.heap.size w w' := by
  have h30 := eql30
  have n30 := neq30
  have h34 := eql34
  have H1 := Flow.hide h1
  clear h1
  have H2 := Flow.hide h2
  clear h2
  have H3 := Flow.hide h3
  clear h3
  go_enter Try.func34, Try.ntmps34
  go_wp2_with fail
  (with_reducible refine (lessW c x _).mono ?_)
  rintro e w1 ⟨rfl, hb1⟩
  rw [H1.out]
  obtain ⟨k1, k2, k3, hB, hz⟩ := Flow.laid3 hb1
  clear hb1
  have q1 : ∀ i, w1.cell? ⟨w.heap.size, i, none⟩ = (#[.int .u32 c.n, .int .u8 c.b, .int .u8 c.l, .bool c.has, .string c.text, .bool c.rmw, .int .i64 s] : Array Value)[i]? := k1.cell
  have q2 : ∀ i, w1.cell? ⟨w.heap.size + 1, i, none⟩ = (#[.int .u32 x.n, .int .u8 x.b, .int .u8 x.l, .bool x.has, .string x.text, .bool x.rmw] : Array Value)[i]? := k2.cell
  have f2 := k2.frozen
  have q3 := k3.cell
  have f3 := k3.frozen
  have z1 := k1.lt
  have h2 := H2.out
  have h3 := H3.out
  go_wp2_with fail
  obtain ⟨w4, hw4⟩ : ∃ w4, w4 = (((((((w1.setCell ⟨(w.heap.size + 1 + 1), 0, none⟩ (.int .u32 c.n)).setCell ⟨(w.heap.size + 1 + 1), 1, none⟩ (.int .u8 c.b)).setCell ⟨(w.heap.size + 1 + 1), 2, none⟩ (.int .u8 c.l)).setCell ⟨(w.heap.size + 1 + 1), 3, none⟩ (.bool c.has)).setCell ⟨(w.heap.size + 1 + 1), 4, none⟩ (.string c.text)).setCell ⟨(w.heap.size + 1 + 1), 5, none⟩ (.bool c.rmw)).setCell ⟨(w.heap.size + 1 + 1), 6, none⟩ (.int .i64 s)) := ⟨_, rfl⟩
  rw [← hw4]
  obtain ⟨k4, c4⟩ := Flow.store7 (b0 := .int .u32 c.n) (b1 := .int .u8 c.b) (b2 := .int .u8 c.l) (b3 := .bool c.has) (b4 := .string c.text) (b5 := .bool c.rmw) (b6 := .int .i64 s) k3
  rw [← hw4] at k4 c4
  have q4 := k4.cell
  exact bodyPost_ret (v := .tuple #[.agg #[.int .u32 c.n, .int .u8 c.b, .int .u8 c.l, .bool c.has, .string c.text, .bool c.rmw, .int .i64 s], .int .i64 4]) (by simp [results, Try.results34, go_sem, q4]) rfl ⟨rfl, hB.trans (c4.below (fun j _ e => by omega) hB.size)⟩
set_option maxRecDepth 20000 in
theorem inv_covered (c : Wc) (s : Int) (x : Wc) (w : World) (h1 : ltW c x = false) (h2 : eqS c.n c.b c.l x.n x.b x.l = false) (h3 : x.rmw = false) :
    Calls Try.prog 34 #[.agg #[.int .u32 c.n, .int .u8 c.b, .int .u8 c.l, .bool c.has, .string c.text, .bool c.rmw, .int .i64 s], .agg #[.int .u32 x.n, .int .u8 x.b, .int .u8 x.l, .bool x.has, .string x.text, .bool x.rmw]] w fun e w' => e = .returned (.tuple #[.agg #[.int .u32 c.n, .int .u8 c.b, .int .u8 c.l, .bool c.has, .string c.text, .bool c.rmw, .int .i64 s], .int .i64 3]) ∧ Below w.heap.size w w' := by
  have h30 := eql30
  have n30 := neq30
  have h34 := eql34
  have H1 := Flow.hide h1
  clear h1
  have H2 := Flow.hide h2
  clear h2
  have H3 := Flow.hide h3
  clear h3
  go_enter Try.func34, Try.ntmps34
  go_wp2_with fail
  (with_reducible refine (lessW c x _).mono ?_)
  rintro e w1 ⟨rfl, hb1⟩
  rw [H1.out]
  obtain ⟨k1, k2, k3, hB, hz⟩ := Flow.laid3 hb1
  clear hb1
  have q1 : ∀ i, w1.cell? ⟨w.heap.size, i, none⟩ = (#[.int .u32 c.n, .int .u8 c.b, .int .u8 c.l, .bool c.has, .string c.text, .bool c.rmw, .int .i64 s] : Array Value)[i]? := k1.cell
  have q2 : ∀ i, w1.cell? ⟨w.heap.size + 1, i, none⟩ = (#[.int .u32 x.n, .int .u8 x.b, .int .u8 x.l, .bool x.has, .string x.text, .bool x.rmw] : Array Value)[i]? := k2.cell
  have f2 := k2.frozen
  have q3 := k3.cell
  have f3 := k3.frozen
  have z1 := k1.lt
  have h2 := H2.out
  have h3 := H3.out
  go_wp2_with fail
  obtain ⟨w4, hw4⟩ : ∃ w4, w4 = (((((((w1.setCell ⟨(w.heap.size + 1 + 1), 0, none⟩ (.int .u32 c.n)).setCell ⟨(w.heap.size + 1 + 1), 1, none⟩ (.int .u8 c.b)).setCell ⟨(w.heap.size + 1 + 1), 2, none⟩ (.int .u8 c.l)).setCell ⟨(w.heap.size + 1 + 1), 3, none⟩ (.bool c.has)).setCell ⟨(w.heap.size + 1 + 1), 4, none⟩ (.string c.text)).setCell ⟨(w.heap.size + 1 + 1), 5, none⟩ (.bool c.rmw)).setCell ⟨(w.heap.size + 1 + 1), 6, none⟩ (.int .i64 s)) := ⟨_, rfl⟩
  rw [← hw4]
  obtain ⟨k4, c4⟩ := Flow.store7 (b0 := .int .u32 c.n) (b1 := .int .u8 c.b) (b2 := .int .u8 c.l) (b3 := .bool c.has) (b4 := .string c.text) (b5 := .bool c.rmw) (b6 := .int .i64 s) k3
  rw [← hw4] at k4 c4
  have q4 := k4.cell
  exact bodyPost_ret (v := .tuple #[.agg #[.int .u32 c.n, .int .u8 c.b, .int .u8 c.l, .bool c.has, .string c.text, .bool c.rmw, .int .i64 s], .int .i64 3]) (by simp [results, Try.results34, go_sem, q4]) rfl ⟨rfl, hB.trans (c4.below (fun j _ e => by omega) hB.size)⟩
theorem inv_any (c : Wc) (s : Int) (x : Wc) (w : World) : Calls Try.prog 34 #[.agg (cc c s), .agg (wc x)] w fun e w' => e = .returned (.tuple #[.agg (cc (invW c x) (invS c s x)), .int .i64 (invR c x)]) ∧ Below w.heap.size w w' := by
  unfold invW invS invR
  rcases h1 : ltW c x with _ | _
  · rcases h2 : eqW c x with _ | _
    · rcases h3 : x.rmw with _ | _
      · exact inv_covered c s x w h1 h2 h3
      · exact inv_refused c s x w h1 h2 h3
    · exact inv_same c s x w h1 h2
  · exact inv_took c s x w h1
set_option maxRecDepth 20000 in
theorem rinv_took (c : Wc) (s : Int) (x : Wc) (u : Int) (w : World) (hc : c.ok) (hx : x.ok) (h1 : ltW c x = true) :
    Calls Try.prog 35 #[.agg #[.int .u32 c.n, .int .u8 c.b, .int .u8 c.l, .bool c.has, .string c.text, .bool c.rmw, .int .i64 s], .agg #[.int .u32 x.n, .int .u8 x.b, .int .u8 x.l, .bool x.has, .string x.text, .bool x.rmw, .int .i64 u]] w fun e w' => e = .returned (.tuple #[.agg #[.int .u32 x.n, .int .u8 x.b, .int .u8 x.l, .bool x.has, .string x.text, .bool x.rmw, .int .i64 2], .int .i64 1]) ∧ Below w.heap.size w w' := by
  have h30 := eql30
  have n30 := neq30
  have h34 := eql34
  have HC := Flow.hide hc
  clear hc
  have HX := Flow.hide hx
  clear hx
  have H1 := Flow.hide h1
  clear h1
  go_enter Try.func35, Try.ntmps35
  go_wp2_with fail
  (with_reducible refine (rless_any c x _ HC.out HX.out).mono ?_)
  rintro e w1 ⟨rfl, hb1⟩
  rw [H1.out]
  obtain ⟨k1, k2, k3, hB, hz⟩ := Flow.laid3 hb1
  clear hb1
  have q1 : ∀ i, w1.cell? ⟨w.heap.size, i, none⟩ = (#[.int .u32 c.n, .int .u8 c.b, .int .u8 c.l, .bool c.has, .string c.text, .bool c.rmw, .int .i64 s] : Array Value)[i]? := k1.cell
  have q2 : ∀ i, w1.cell? ⟨w.heap.size + 1, i, none⟩ = (#[.int .u32 x.n, .int .u8 x.b, .int .u8 x.l, .bool x.has, .string x.text, .bool x.rmw, .int .i64 u] : Array Value)[i]? := k2.cell
  have f2 := k2.frozen
  have q3 := k3.cell
  have f3 := k3.frozen
  have z1 := k1.lt
  go_wp2_with fail
  have k3 := k3.far (p := ⟨w.heap.size + 1, 6, none⟩) (by show _ ≠ w.heap.size + 1; omega) (.int .i64 2)
  have hB := hB.setCell (p := ⟨w.heap.size + 1, 6, none⟩) (by show _ ≤ w.heap.size + 1; omega) (.int .i64 2)
  obtain ⟨w4, hw4⟩ : ∃ w4, w4 = ((((((((w1.setCell ⟨w.heap.size + 1, 6, none⟩ (.int .i64 2)).setCell ⟨(w.heap.size + 1 + 1), 0, none⟩ (.int .u32 x.n)).setCell ⟨(w.heap.size + 1 + 1), 1, none⟩ (.int .u8 x.b)).setCell ⟨(w.heap.size + 1 + 1), 2, none⟩ (.int .u8 x.l)).setCell ⟨(w.heap.size + 1 + 1), 3, none⟩ (.bool x.has)).setCell ⟨(w.heap.size + 1 + 1), 4, none⟩ (.string x.text)).setCell ⟨(w.heap.size + 1 + 1), 5, none⟩ (.bool x.rmw)).setCell ⟨(w.heap.size + 1 + 1), 6, none⟩ (.int .i64 2)) := ⟨_, rfl⟩
  rw [← hw4]
  obtain ⟨k4, c4⟩ := Flow.store7 (b0 := .int .u32 x.n) (b1 := .int .u8 x.b) (b2 := .int .u8 x.l) (b3 := .bool x.has) (b4 := .string x.text) (b5 := .bool x.rmw) (b6 := .int .i64 2) k3
  rw [← hw4] at k4 c4
  have q4 := k4.cell
  exact bodyPost_ret (v := .tuple #[.agg #[.int .u32 x.n, .int .u8 x.b, .int .u8 x.l, .bool x.has, .string x.text, .bool x.rmw, .int .i64 2], .int .i64 1]) (by simp [results, Try.results35, go_sem, q4]) rfl ⟨rfl, hB.trans (c4.below (fun j _ e => by omega) hB.size)⟩
set_option maxRecDepth 20000 in
theorem rinv_same (c : Wc) (s : Int) (x : Wc) (u : Int) (w : World) (hc : c.ok) (hx : x.ok) (h1 : ltW c x = false) (h2 : ltW x c = false) :
    Calls Try.prog 35 #[.agg #[.int .u32 c.n, .int .u8 c.b, .int .u8 c.l, .bool c.has, .string c.text, .bool c.rmw, .int .i64 s], .agg #[.int .u32 x.n, .int .u8 x.b, .int .u8 x.l, .bool x.has, .string x.text, .bool x.rmw, .int .i64 u]] w fun e w' => e = .returned (.tuple #[.agg #[.int .u32 c.n, .int .u8 c.b, .int .u8 c.l, .bool c.has, .string c.text, .bool c.rmw, .int .i64 s], .int .i64 2]) ∧ Below w.heap.size w w' := by
  have h30 := eql30
  have n30 := neq30
  have h34 := eql34
  have HC := Flow.hide hc
  clear hc
  have HX := Flow.hide hx
  clear hx
  have H1 := Flow.hide h1
  clear h1
  have H2 := Flow.hide h2
  clear h2
  go_enter Try.func35, Try.ntmps35
  go_wp2_with fail
  (with_reducible refine (rless_any c x _ HC.out HX.out).mono ?_)
  rintro e w1 ⟨rfl, hb1⟩
  rw [H1.out]
  obtain ⟨k1, k2, k3, hB, hz⟩ := Flow.laid3 hb1
  clear hb1
  have q1 : ∀ i, w1.cell? ⟨w.heap.size, i, none⟩ = (#[.int .u32 c.n, .int .u8 c.b, .int .u8 c.l, .bool c.has, .string c.text, .bool c.rmw, .int .i64 s] : Array Value)[i]? := k1.cell
  have q2 : ∀ i, w1.cell? ⟨w.heap.size + 1, i, none⟩ = (#[.int .u32 x.n, .int .u8 x.b, .int .u8 x.l, .bool x.has, .string x.text, .bool x.rmw, .int .i64 u] : Array Value)[i]? := k2.cell
  have f2 := k2.frozen
  have q3 := k3.cell
  have f3 := k3.frozen
  have z1 := k1.lt
  go_wp2_with fail
  have q1' := q1
  (with_reducible refine (rless_any x c _ HX.out HC.out).mono ?_)
  rintro e w2 ⟨rfl, hb2⟩
  rw [H2.out]
  have q1 : ∀ i, w2.cell? ⟨w.heap.size, i, none⟩ = (#[.int .u32 c.n, .int .u8 c.b, .int .u8 c.l, .bool c.has, .string c.text, .bool c.rmw, .int .i64 s] : Array Value)[i]? := (k1.below hb2).cell
  have q2 : ∀ i, w2.cell? ⟨w.heap.size + 1, i, none⟩ = (#[.int .u32 x.n, .int .u8 x.b, .int .u8 x.l, .bool x.has, .string x.text, .bool x.rmw, .int .i64 u] : Array Value)[i]? := (k2.below hb2).cell
  have k3 := k3.below hb2
  have q3 := k3.cell
  have f3 := k3.frozen
  have hB := hB.trans (hb2.mono hB.size)
  have z1 := (k1.below hb2).lt
  clear q1' k1 k2 f2 hb2
  go_wp2_with fail
  obtain ⟨w4, hw4⟩ : ∃ w4, w4 = (((((((w2.setCell ⟨(w.heap.size + 1 + 1), 0, none⟩ (.int .u32 c.n)).setCell ⟨(w.heap.size + 1 + 1), 1, none⟩ (.int .u8 c.b)).setCell ⟨(w.heap.size + 1 + 1), 2, none⟩ (.int .u8 c.l)).setCell ⟨(w.heap.size + 1 + 1), 3, none⟩ (.bool c.has)).setCell ⟨(w.heap.size + 1 + 1), 4, none⟩ (.string c.text)).setCell ⟨(w.heap.size + 1 + 1), 5, none⟩ (.bool c.rmw)).setCell ⟨(w.heap.size + 1 + 1), 6, none⟩ (.int .i64 s)) := ⟨_, rfl⟩
  rw [← hw4]
  obtain ⟨k4, c4⟩ := Flow.store7 (b0 := .int .u32 c.n) (b1 := .int .u8 c.b) (b2 := .int .u8 c.l) (b3 := .bool c.has) (b4 := .string c.text) (b5 := .bool c.rmw) (b6 := .int .i64 s) k3
  rw [← hw4] at k4 c4
  have q4 := k4.cell
  exact bodyPost_ret (v := .tuple #[.agg #[.int .u32 c.n, .int .u8 c.b, .int .u8 c.l, .bool c.has, .string c.text, .bool c.rmw, .int .i64 s], .int .i64 2]) (by simp [results, Try.results35, go_sem, q4]) rfl ⟨rfl, hB.trans (c4.below (fun j _ e => by omega) hB.size)⟩
set_option maxRecDepth 20000 in
theorem rinv_refused (c : Wc) (s : Int) (x : Wc) (u : Int) (w : World) (hc : c.ok) (hx : x.ok) (h1 : ltW c x = false) (h2 : ltW x c = true) (h3 : x.rmw = true) :
    Calls Try.prog 35 #[.agg #[.int .u32 c.n, .int .u8 c.b, .int .u8 c.l, .bool c.has, .string c.text, .bool c.rmw, .int .i64 s], .agg #[.int .u32 x.n, .int .u8 x.b, .int .u8 x.l, .bool x.has, .string x.text, .bool x.rmw, .int .i64 u]] w fun e w' => e = .returned (.tuple #[.agg #[.int .u32 c.n, .int .u8 c.b, .int .u8 c.l, .bool c.has, .string c.text, .bool c.rmw, .int .i64 s], .int .i64 4]) ∧ Below w.heap.size w w' := by
  have h30 := eql30
  have n30 := neq30
  have h34 := eql34
  have HC := Flow.hide hc
  clear hc
  have HX := Flow.hide hx
  clear hx
  have H1 := Flow.hide h1
  clear h1
  have H2 := Flow.hide h2
  clear h2
  have H3 := Flow.hide h3
  clear h3
  go_enter Try.func35, Try.ntmps35
  go_wp2_with fail
  (with_reducible refine (rless_any c x _ HC.out HX.out).mono ?_)
  rintro e w1 ⟨rfl, hb1⟩
  rw [H1.out]
  obtain ⟨k1, k2, k3, hB, hz⟩ := Flow.laid3 hb1
  clear hb1
  have q1 : ∀ i, w1.cell? ⟨w.heap.size, i, none⟩ = (#[.int .u32 c.n, .int .u8 c.b, .int .u8 c.l, .bool c.has, .string c.text, .bool c.rmw, .int .i64 s] : Array Value)[i]? := k1.cell
  have q2 : ∀ i, w1.cell? ⟨w.heap.size + 1, i, none⟩ = (#[.int .u32 x.n, .int .u8 x.b, .int .u8 x.l, .bool x.has, .string x.text, .bool x.rmw, .int .i64 u] : Array Value)[i]? := k2.cell
  have f2 := k2.frozen
  have q3 := k3.cell
  have f3 := k3.frozen
  have z1 := k1.lt
  go_wp2_with fail
  have q1' := q1
  (with_reducible refine (rless_any x c _ HX.out HC.out).mono ?_)
  rintro e w2 ⟨rfl, hb2⟩
  rw [H2.out]
  have q1 : ∀ i, w2.cell? ⟨w.heap.size, i, none⟩ = (#[.int .u32 c.n, .int .u8 c.b, .int .u8 c.l, .bool c.has, .string c.text, .bool c.rmw, .int .i64 s] : Array Value)[i]? := (k1.below hb2).cell
  have q2 : ∀ i, w2.cell? ⟨w.heap.size + 1, i, none⟩ = (#[.int .u32 x.n, .int .u8 x.b, .int .u8 x.l, .bool x.has, .string x.text, .bool x.rmw, .int .i64 u] : Array Value)[i]? := (k2.below hb2).cell
  have k3 := k3.below hb2
  have q3 := k3.cell
  have f3 := k3.frozen
  have hB := hB.trans (hb2.mono hB.size)
  have z1 := (k1.below hb2).lt
  clear q1' k1 k2 f2 hb2
  have h3 := H3.out
  go_wp2_with fail
  obtain ⟨w4, hw4⟩ : ∃ w4, w4 = (((((((w2.setCell ⟨(w.heap.size + 1 + 1), 0, none⟩ (.int .u32 c.n)).setCell ⟨(w.heap.size + 1 + 1), 1, none⟩ (.int .u8 c.b)).setCell ⟨(w.heap.size + 1 + 1), 2, none⟩ (.int .u8 c.l)).setCell ⟨(w.heap.size + 1 + 1), 3, none⟩ (.bool c.has)).setCell ⟨(w.heap.size + 1 + 1), 4, none⟩ (.string c.text)).setCell ⟨(w.heap.size + 1 + 1), 5, none⟩ (.bool c.rmw)).setCell ⟨(w.heap.size + 1 + 1), 6, none⟩ (.int .i64 s)) := ⟨_, rfl⟩
  rw [← hw4]
  obtain ⟨k4, c4⟩ := Flow.store7 (b0 := .int .u32 c.n) (b1 := .int .u8 c.b) (b2 := .int .u8 c.l) (b3 := .bool c.has) (b4 := .string c.text) (b5 := .bool c.rmw) (b6 := .int .i64 s) k3
  rw [← hw4] at k4 c4
  have q4 := k4.cell
  exact bodyPost_ret (v := .tuple #[.agg #[.int .u32 c.n, .int .u8 c.b, .int .u8 c.l, .bool c.has, .string c.text, .bool c.rmw, .int .i64 s], .int .i64 4]) (by simp [results, Try.results35, go_sem, q4]) rfl ⟨rfl, hB.trans (c4.below (fun j _ e => by omega) hB.size)⟩
set_option maxRecDepth 20000 in
theorem rinv_covered (c : Wc) (s : Int) (x : Wc) (u : Int) (w : World) (hc : c.ok) (hx : x.ok) (h1 : ltW c x = false) (h2 : ltW x c = true) (h3 : x.rmw = false) :
    Calls Try.prog 35 #[.agg #[.int .u32 c.n, .int .u8 c.b, .int .u8 c.l, .bool c.has, .string c.text, .bool c.rmw, .int .i64 s], .agg #[.int .u32 x.n, .int .u8 x.b, .int .u8 x.l, .bool x.has, .string x.text, .bool x.rmw, .int .i64 u]] w fun e w' => e = .returned (.tuple #[.agg #[.int .u32 c.n, .int .u8 c.b, .int .u8 c.l, .bool c.has, .string c.text, .bool c.rmw, .int .i64 s], .int .i64 3]) ∧ Below w.heap.size w w' := by
  have h30 := eql30
  have n30 := neq30
  have h34 := eql34
  have HC := Flow.hide hc
  clear hc
  have HX := Flow.hide hx
  clear hx
  have H1 := Flow.hide h1
  clear h1
  have H2 := Flow.hide h2
  clear h2
  have H3 := Flow.hide h3
  clear h3
  go_enter Try.func35, Try.ntmps35
  go_wp2_with fail
  (with_reducible refine (rless_any c x _ HC.out HX.out).mono ?_)
  rintro e w1 ⟨rfl, hb1⟩
  rw [H1.out]
  obtain ⟨k1, k2, k3, hB, hz⟩ := Flow.laid3 hb1
  clear hb1
  have q1 : ∀ i, w1.cell? ⟨w.heap.size, i, none⟩ = (#[.int .u32 c.n, .int .u8 c.b, .int .u8 c.l, .bool c.has, .string c.text, .bool c.rmw, .int .i64 s] : Array Value)[i]? := k1.cell
  have q2 : ∀ i, w1.cell? ⟨w.heap.size + 1, i, none⟩ = (#[.int .u32 x.n, .int .u8 x.b, .int .u8 x.l, .bool x.has, .string x.text, .bool x.rmw, .int .i64 u] : Array Value)[i]? := k2.cell
  have f2 := k2.frozen
  have q3 := k3.cell
  have f3 := k3.frozen
  have z1 := k1.lt
  go_wp2_with fail
  have q1' := q1
  (with_reducible refine (rless_any x c _ HX.out HC.out).mono ?_)
  rintro e w2 ⟨rfl, hb2⟩
  rw [H2.out]
  have q1 : ∀ i, w2.cell? ⟨w.heap.size, i, none⟩ = (#[.int .u32 c.n, .int .u8 c.b, .int .u8 c.l, .bool c.has, .string c.text, .bool c.rmw, .int .i64 s] : Array Value)[i]? := (k1.below hb2).cell
  have q2 : ∀ i, w2.cell? ⟨w.heap.size + 1, i, none⟩ = (#[.int .u32 x.n, .int .u8 x.b, .int .u8 x.l, .bool x.has, .string x.text, .bool x.rmw, .int .i64 u] : Array Value)[i]? := (k2.below hb2).cell
  have k3 := k3.below hb2
  have q3 := k3.cell
  have f3 := k3.frozen
  have hB := hB.trans (hb2.mono hB.size)
  have z1 := (k1.below hb2).lt
  clear q1' k1 k2 f2 hb2
  have h3 := H3.out
  go_wp2_with fail
  obtain ⟨w4, hw4⟩ : ∃ w4, w4 = (((((((w2.setCell ⟨(w.heap.size + 1 + 1), 0, none⟩ (.int .u32 c.n)).setCell ⟨(w.heap.size + 1 + 1), 1, none⟩ (.int .u8 c.b)).setCell ⟨(w.heap.size + 1 + 1), 2, none⟩ (.int .u8 c.l)).setCell ⟨(w.heap.size + 1 + 1), 3, none⟩ (.bool c.has)).setCell ⟨(w.heap.size + 1 + 1), 4, none⟩ (.string c.text)).setCell ⟨(w.heap.size + 1 + 1), 5, none⟩ (.bool c.rmw)).setCell ⟨(w.heap.size + 1 + 1), 6, none⟩ (.int .i64 s)) := ⟨_, rfl⟩
  rw [← hw4]
  obtain ⟨k4, c4⟩ := Flow.store7 (b0 := .int .u32 c.n) (b1 := .int .u8 c.b) (b2 := .int .u8 c.l) (b3 := .bool c.has) (b4 := .string c.text) (b5 := .bool c.rmw) (b6 := .int .i64 s) k3
  rw [← hw4] at k4 c4
  have q4 := k4.cell
  exact bodyPost_ret (v := .tuple #[.agg #[.int .u32 c.n, .int .u8 c.b, .int .u8 c.l, .bool c.has, .string c.text, .bool c.rmw, .int .i64 s], .int .i64 3]) (by simp [results, Try.results35, go_sem, q4]) rfl ⟨rfl, hB.trans (c4.below (fun j _ e => by omega) hB.size)⟩
theorem rinv_any (c : Wc) (s : Int) (x : Wc) (u : Int) (w : World) (hc : c.ok) (hx : x.ok) : Calls Try.prog 35 #[.agg (cc c s), .agg (cc x u)] w fun e w' => e = .returned (.tuple #[.agg (cc (invW c x) (invS c s x)), .int .i64 (invR c x)]) ∧ Below w.heap.size w w' := by
  have hs : ltW c x = false → (ltW x c = !eqW c x) := by
    intro h
    unfold eqW eqS
    unfold ltW slt at *
    simp only [decide_eq_false_iff_not] at h
    by_cases he : c.n = x.n ∧ c.b = x.b ∧ c.l = x.l
    · rw [decide_eq_true he, Bool.not_true, decide_eq_false_iff_not]; omega
    · rw [decide_eq_false he, Bool.not_false, decide_eq_true_eq]; omega
  unfold invW invS invR
  rcases h1 : ltW c x with _ | _
  · have h2 := hs h1
    rcases he : eqW c x with _ | _
    · rw [he] at h2
      rcases h3 : x.rmw with _ | _
      · exact rinv_covered c s x u w hc hx h1 h2 h3
      · exact rinv_refused c s x u w hc hx h1 h2 h3
    · rw [he] at h2
      exact rinv_same c s x u w hc hx h1 h2
  · exact rinv_took c s x u w hc hx h1
set_option maxRecDepth 20000 in
theorem val_no2 (c : Wc) (s : Int) (x : Wc) (w : World) (h1 : (s != 2) = true) :
    Calls Try.prog 36 #[.agg #[.int .u32 c.n, .int .u8 c.b, .int .u8 c.l, .bool c.has, .string c.text, .bool c.rmw, .int .i64 s], .agg #[.int .u32 x.n, .int .u8 x.b, .int .u8 x.l]] w fun e w' => e = .returned (.tuple #[.agg #[.int .u32 c.n, .int .u8 c.b, .int .u8 c.l, .bool c.has, .string c.text, .bool c.rmw, .int .i64 s], .bool false]) ∧ Below w.heap.size w w' := by
  have h30 := eql30
  have n30 := neq30
  have h34 := eql34
  go_enter Try.func36, Try.ntmps36
  go_wp2_with fail
  all_goals (go_returns; exact ⟨rfl, by go_grown⟩)
set_option maxRecDepth 20000 in
theorem val_no1 (c : Wc) (s : Int) (x : Wc) (w : World) (h1 : (s != 2) = false) (h2 : eqS c.n c.b c.l x.n x.b x.l = false) :
    Calls Try.prog 36 #[.agg #[.int .u32 c.n, .int .u8 c.b, .int .u8 c.l, .bool c.has, .string c.text, .bool c.rmw, .int .i64 s], .agg #[.int .u32 x.n, .int .u8 x.b, .int .u8 x.l]] w fun e w' => e = .returned (.tuple #[.agg #[.int .u32 c.n, .int .u8 c.b, .int .u8 c.l, .bool c.has, .string c.text, .bool c.rmw, .int .i64 s], .bool false]) ∧ Below w.heap.size w w' := by
  have h30 := eql30
  have n30 := neq30
  have h34 := eql34
  go_enter Try.func36, Try.ntmps36
  go_wp2_with fail
  all_goals (go_returns; exact ⟨rfl, by go_grown⟩)
set_option maxRecDepth 20000 in
theorem val_yes (c : Wc) (s : Int) (x : Wc) (w : World) (h1 : (s != 2) = false) (h2 : eqS c.n c.b c.l x.n x.b x.l = true) :
    Calls Try.prog 36 #[.agg #[.int .u32 c.n, .int .u8 c.b, .int .u8 c.l, .bool c.has, .string c.text, .bool c.rmw, .int .i64 s], .agg #[.int .u32 x.n, .int .u8 x.b, .int .u8 x.l]] w fun e w' => e = .returned (.tuple #[.agg #[.int .u32 c.n, .int .u8 c.b, .int .u8 c.l, .bool c.has, .string c.text, .bool c.rmw, .int .i64 1], .bool true]) ∧ Below w.heap.size w w' := by
  have h30 := eql30
  have n30 := neq30
  have h34 := eql34
  go_enter Try.func36, Try.ntmps36
  go_wp2_with fail
  all_goals (go_returns; exact ⟨rfl, by go_grown⟩)
set_option maxRecDepth 20000 in
theorem rval_no2 (c : Wc) (s : Int) (x : Wc) (w : World) (h1 : (s == 2) = false) :
    Calls Try.prog 37 #[.agg #[.int .u32 c.n, .int .u8 c.b, .int .u8 c.l, .bool c.has, .string c.text, .bool c.rmw, .int .i64 s], .agg #[.int .u32 x.n, .int .u8 x.b, .int .u8 x.l]] w fun e w' => e = .returned (.tuple #[.agg #[.int .u32 c.n, .int .u8 c.b, .int .u8 c.l, .bool c.has, .string c.text, .bool c.rmw, .int .i64 s], .bool false]) ∧ Below w.heap.size w w' := by
  have h30 := eql30
  have n30 := neq30
  have h34 := eql34
  go_enter Try.func37, Try.ntmps37
  go_wp2_with fail
  all_goals (go_returns; exact ⟨rfl, by go_grown⟩)
set_option maxRecDepth 20000 in
theorem rval_no1 (c : Wc) (s : Int) (x : Wc) (w : World) (h1 : (s == 2) = true) (h2 : eqS c.n c.b c.l x.n x.b x.l = false) :
    Calls Try.prog 37 #[.agg #[.int .u32 c.n, .int .u8 c.b, .int .u8 c.l, .bool c.has, .string c.text, .bool c.rmw, .int .i64 s], .agg #[.int .u32 x.n, .int .u8 x.b, .int .u8 x.l]] w fun e w' => e = .returned (.tuple #[.agg #[.int .u32 c.n, .int .u8 c.b, .int .u8 c.l, .bool c.has, .string c.text, .bool c.rmw, .int .i64 s], .bool false]) ∧ Below w.heap.size w w' := by
  have h30 := eql30
  have n30 := neq30
  have h34 := eql34
  go_enter Try.func37, Try.ntmps37
  go_wp2_with fail
  all_goals (go_returns; exact ⟨rfl, by go_grown⟩)
set_option maxRecDepth 20000 in
theorem rval_yes (c : Wc) (s : Int) (x : Wc) (w : World) (h1 : (s == 2) = true) (h2 : eqS c.n c.b c.l x.n x.b x.l = true) :
    Calls Try.prog 37 #[.agg #[.int .u32 c.n, .int .u8 c.b, .int .u8 c.l, .bool c.has, .string c.text, .bool c.rmw, .int .i64 s], .agg #[.int .u32 x.n, .int .u8 x.b, .int .u8 x.l]] w fun e w' => e = .returned (.tuple #[.agg #[.int .u32 c.n, .int .u8 c.b, .int .u8 c.l, .bool c.has, .string c.text, .bool c.rmw, .int .i64 1], .bool true]) ∧ Below w.heap.size w w' := by
  have h30 := eql30
  have n30 := neq30
  have h34 := eql34
  go_enter Try.func37, Try.ntmps37
  go_wp2_with fail
  all_goals (go_returns; exact ⟨rfl, by go_grown⟩)
theorem val_any (c : Wc) (s : Int) (x : Wc) (w : World) : Calls Try.prog 36 #[.agg (cc c s), .agg #[.int .u32 x.n, .int .u8 x.b, .int .u8 x.l]] w fun e w' => e = .returned (.tuple #[.agg (cc c (valS c s x)), .bool (valR c s x)]) ∧ Below w.heap.size w w' := by
  unfold valS valR
  by_cases h : s = 2
  · rcases he : eqW c x with _ | _
    · rw [if_neg (by simp), decide_eq_false (by simp)]
      exact val_no1 c s x w (by simp [h]) he
    · rw [if_pos ⟨h, rfl⟩, decide_eq_true ⟨h, rfl⟩]
      exact val_yes c s x w (by simp [h]) he
  · rw [if_neg (fun e => h e.1), decide_eq_false (fun e => h e.1)]
    exact val_no2 c s x w (by simp [h])
theorem rval17_any (c : Wc) (s : Int) (x : Wc) (w : World) : Calls Try.prog 37 #[.agg (cc c s), .agg #[.int .u32 x.n, .int .u8 x.b, .int .u8 x.l]] w fun e w' => e = .returned (.tuple #[.agg (cc c (valS c s x)), .bool (valR c s x)]) ∧ Below w.heap.size w w' := by
  unfold valS valR
  by_cases h : s = 2
  · rcases he : eqW c x with _ | _
    · rw [if_neg (by simp), decide_eq_false (by simp)]
      exact rval_no1 c s x w (by simp [h]) he
    · rw [if_pos ⟨h, rfl⟩, decide_eq_true ⟨h, rfl⟩]
      exact rval_yes c s x w (by simp [h]) he
  · rw [if_neg (fun e => h e.1), decide_eq_false (fun e => h e.1)]
    exact rval_no2 c s x w (by simp [h])
theorem state_any (v : Bool) (w : World) : Calls Try.prog 59 #[.bool v] w fun e w' => e = .returned (.int .i64 (if v then 1 else 2)) ∧ w = w' := by
  rcases v with _ | _
  all_goals (
    go_enter Try.func59, Try.ntmps59
    go_wp2
    go_ret
    exact ⟨rfl, rfl⟩)
set_option maxRecDepth 20000 in
theorem give_take0 (c : Wc) (s : Int) (x : Wc) (v : Bool) (V : Int) (w : World) (h1 : (s == 0) = true) (hV : (if v then 1 else 2) = V) :
    Calls Try.prog 38 #[.agg #[.int .u32 c.n, .int .u8 c.b, .int .u8 c.l, .bool c.has, .string c.text, .bool c.rmw, .int .i64 s], .agg #[.int .u32 x.n, .int .u8 x.b, .int .u8 x.l, .bool x.has, .string x.text, .bool x.rmw], .bool v] w fun e w' => e = .returned (.tuple #[.agg #[.int .u32 x.n, .int .u8 x.b, .int .u8 x.l, .bool x.has, .string x.text, .bool x.rmw, .int .i64 V], .bool true]) ∧ Below w.heap.size w w' := by
  have HV := Flow.hide hV
  clear hV
  go_enter Try.func38, Try.ntmps38
  go_wp2_with fail
  have hb1 : Below ((((w.alloc (.cells #[.int .u32 c.n, .int .u8 c.b, .int .u8 c.l, .bool c.has, .string c.text, .bool c.rmw, .int .i64 s] 76)).alloc (.cells #[.int .u32 x.n, .int .u8 x.b, .int .u8 x.l, .bool x.has, .string x.text, .bool x.rmw] 74)).alloc (.cells #[.int .u32 0, .int .u8 0, .int .u8 0, .bool false, .string { data := #[] }, .bool false, .int .i64 0] 76)) : World).heap.size ((((w.alloc (.cells #[.int .u32 c.n, .int .u8 c.b, .int .u8 c.l, .bool c.has, .string c.text, .bool c.rmw, .int .i64 s] 76)).alloc (.cells #[.int .u32 x.n, .int .u8 x.b, .int .u8 x.l, .bool x.has, .string x.text, .bool x.rmw] 74)).alloc (.cells #[.int .u32 0, .int .u8 0, .int .u8 0, .bool false, .string { data := #[] }, .bool false, .int .i64 0] 76)) : World) ((((w.alloc (.cells #[.int .u32 c.n, .int .u8 c.b, .int .u8 c.l, .bool c.has, .string c.text, .bool c.rmw, .int .i64 s] 76)).alloc (.cells #[.int .u32 x.n, .int .u8 x.b, .int .u8 x.l, .bool x.has, .string x.text, .bool x.rmw] 74)).alloc (.cells #[.int .u32 0, .int .u8 0, .int .u8 0, .bool false, .string { data := #[] }, .bool false, .int .i64 0] 76)) : World) := Below.refl _ _
  obtain ⟨k1, k2, k3, hB, hz⟩ := Flow.laid3 hb1
  obtain ⟨w1, hw1⟩ : ∃ w1, w1 = ((((w.alloc (.cells #[.int .u32 c.n, .int .u8 c.b, .int .u8 c.l, .bool c.has, .string c.text, .bool c.rmw, .int .i64 s] 76)).alloc (.cells #[.int .u32 x.n, .int .u8 x.b, .int .u8 x.l, .bool x.has, .string x.text, .bool x.rmw] 74)).alloc (.cells #[.int .u32 0, .int .u8 0, .int .u8 0, .bool false, .string { data := #[] }, .bool false, .int .i64 0] 76)) : World) := ⟨_, rfl⟩
  rw [← hw1] at k1 k2 k3 hB hz ⊢
  clear hb1 hw1
  have q1 := k1.cell
  have q2 := k2.cell
  have f2 := k2.frozen
  have q3 := k3.cell
  have f3 := k3.frozen
  have z1 := k1.lt
  obtain ⟨C, hC⟩ : ∃ C, C = Flow.Chg (· = w.heap.size + 1 + 1) w1 := ⟨_, rfl⟩
  have rx : ∀ (p : Flow.Wd C) (i : Nat), p.w.cell? ⟨w.heap.size + 1, i, none⟩ = (#[.int .u32 x.n, .int .u8 x.b, .int .u8 x.l, .bool x.has, .string x.text, .bool x.rmw] : Array Value)[i]? := fun p => (k2.chg (Eq.mp (congrFun hC p.w) p.ok) (by omega)).cell
  have g0 : Flow.Good C (Flow.Fx (· = w.heap.size + 1 + 1) w1 [(w.heap.size + 1 + 1, 76, #[.int .u32 0, .int .u8 0, .int .u8 0, .bool false, .string { data := #[] }, .bool false, .int .i64 0])]) := by rw [hC]; exact Flow.good_fx _ _ _
  have hR : ∀ w5, Below w1.heap.size w1 w5 → Flow.Fx (· = w.heap.size + 1 + 1) w1 [(w.heap.size + 1 + 1, 76, #[.int .u32 0, .int .u8 0, .int .u8 0, .bool false, .string { data := #[] }, .bool false, .int .i64 0])] w5 := fun w5 hb => (Flow.Fx.nil ((Flow.Chg.of_below hb).mono (fun _ _ e => e.elim))).add (k3.below hb)
  have ne1 : Nonempty (Flow.Wd C) := ⟨⟨w1, g0.sub _ (hR _ (Below.refl _ _))⟩⟩
  have hCC : ∀ w, C w → C w := fun _ h => h
  have HC := Flow.hide hC
  clear hC
  refine Flow.wp_region_gen 1000 (Flow.two C C) _ g0 hR (by kernel_rfl) 6 rfl ?_
  refine Flow.wpG_seg [0, 1, 2, 3] 2 rfl (by kernel_rfl) (hCC) (g0) ?_
  dsimp only [Flow.pickIdx, List.getElem?_cons_zero, List.getElem?_cons_succ]
  iterate 4 (
      (refine Flow.wpS_weak (by kernel_rfl) (fun K' hK' => ?_)
       go_simp
       first
         | (refine hK' _ ?_; clear hK' K')
         | (apply Exists.intro
            refine ⟨fun p => ?_, hK' _ ?_⟩
            (first | with_reducible exact ((state_any v p.w).mono fun _ _ ⟨h1, h2⟩ => ⟨h1.trans (congrArg (fun z => Ending.returned (.int .i64 z)) HV.out), h2 ▸ Below.refl _ _⟩))
            clear hK' K')))
  refine Flow.wpS_nil ?_
  clear g0 rx
  refine Flow.wpG_next 4 _ (by kernel_rfl) rfl ?_
  intro w5 hw5
  have q5 := hw5.head.cell
  have f5 := hw5.head.frozen
  go_simp
  have g1 : Flow.Good C (Flow.Fx (· = w.heap.size + 1 + 1) w1 [(w.heap.size + 1 + 1, 76, #[.int .u32 x.n, .int .u8 x.b, .int .u8 x.l, .bool x.has, .string x.text, .bool x.rmw, .int .i64 V])]) := by rw [HC.out]; exact Flow.good_fx _ _ _
  refine ⟨Flow.Fx (· = w.heap.size + 1 + 1) w1 [(w.heap.size + 1 + 1, 76, #[.int .u32 x.n, .int .u8 x.b, .int .u8 x.l, .bool x.has, .string x.text, .bool x.rmw, .int .i64 V])], g1, ?_, ?_⟩
  · obtain ⟨k6, c6⟩ := Flow.store7 (b0 := .int .u32 x.n) (b1 := .int .u8 x.b) (b2 := .int .u8 x.l) (b3 := .bool x.has) (b4 := .string x.text) (b5 := .bool x.rmw) (b6 := .int .i64 V) hw5.head
    exact (Flow.Fx.nil (hw5.1.trans c6 (fun _ _ e => e))).add k6
  clear q5 f5 hw5 w5
  refine Flow.wpG_seg [5] 0 rfl (by kernel_rfl) (hCC) (g1) ?_
  dsimp only [Flow.pickIdx, List.getElem?_cons_zero, List.getElem?_cons_succ]
  iterate 1 (
      (refine Flow.wpS_weak (by kernel_rfl) (fun K' hK' => ?_)
       go_simp
       first
         | (refine hK' _ ?_; clear hK' K')
         | (apply Exists.intro
            refine ⟨fun p => ?_, hK' _ ?_⟩
            (first | fail)
            clear hK' K')))
  refine Flow.wpS_nil ?_
  clear g1
  refine Flow.wpG_done (by kernel_rfl) ?_
  intro w4 hw4
  have q4 := hw4.head.cell
  have c4 := hw4.1
  clear hw4
  go_wp2_with fail
  exact bodyPost_ret (v := .tuple #[.agg #[.int .u32 x.n, .int .u8 x.b, .int .u8 x.l, .bool x.has, .string x.text, .bool x.rmw, .int .i64 V], .bool true]) (by simp [results, Try.results38, go_sem, q4]) rfl ⟨rfl, hB.trans (c4.below (fun j _ e => by omega) hB.size)⟩
set_option maxRecDepth 20000 in
theorem give_takel (c : Wc) (s : Int) (x : Wc) (v : Bool) (V : Int) (w : World) (h1 : (s == 0) = false) (h2 : ltW c x = true) (hV : (if v then 1 else 2) = V) :
    Calls Try.prog 38 #[.agg #[.int .u32 c.n, .int .u8 c.b, .int .u8 c.l, .bool c.has, .string c.text, .bool c.rmw, .int .i64 s], .agg #[.int .u32 x.n, .int .u8 x.b, .int .u8 x.l, .bool x.has, .string x.text, .bool x.rmw], .bool v] w fun e w' => e = .returned (.tuple #[.agg #[.int .u32 x.n, .int .u8 x.b, .int .u8 x.l, .bool x.has, .string x.text, .bool x.rmw, .int .i64 V], .bool true]) ∧ Below w.heap.size w w' := by
  have HV := Flow.hide hV
  clear hV
  have H2 := Flow.hide h2
  clear h2
  go_enter Try.func38, Try.ntmps38
  go_wp2_with fail
  (with_reducible refine (lessW c x _).mono ?_)
  rintro e w1 ⟨rfl, hb1⟩
  rw [H2.out]
  obtain ⟨k1, k2, k3, hB, hz⟩ := Flow.laid3 hb1
  clear hb1
  have q1 : ∀ i, w1.cell? ⟨w.heap.size, i, none⟩ = (#[.int .u32 c.n, .int .u8 c.b, .int .u8 c.l, .bool c.has, .string c.text, .bool c.rmw, .int .i64 s] : Array Value)[i]? := k1.cell
  have q2 : ∀ i, w1.cell? ⟨w.heap.size + 1, i, none⟩ = (#[.int .u32 x.n, .int .u8 x.b, .int .u8 x.l, .bool x.has, .string x.text, .bool x.rmw] : Array Value)[i]? := k2.cell
  have f2 := k2.frozen
  have q3 := k3.cell
  have f3 := k3.frozen
  have z1 := k1.lt
  go_wp2_with fail
  obtain ⟨C, hC⟩ : ∃ C, C = Flow.Chg (· = w.heap.size + 1 + 1) w1 := ⟨_, rfl⟩
  have rx : ∀ (p : Flow.Wd C) (i : Nat), p.w.cell? ⟨w.heap.size + 1, i, none⟩ = (#[.int .u32 x.n, .int .u8 x.b, .int .u8 x.l, .bool x.has, .string x.text, .bool x.rmw] : Array Value)[i]? := fun p => (k2.chg (Eq.mp (congrFun hC p.w) p.ok) (by omega)).cell
  have g0 : Flow.Good C (Flow.Fx (· = w.heap.size + 1 + 1) w1 [(w.heap.size + 1 + 1, 76, #[.int .u32 0, .int .u8 0, .int .u8 0, .bool false, .string { data := #[] }, .bool false, .int .i64 0])]) := by rw [hC]; exact Flow.good_fx _ _ _
  have hR : ∀ w5, Below w1.heap.size w1 w5 → Flow.Fx (· = w.heap.size + 1 + 1) w1 [(w.heap.size + 1 + 1, 76, #[.int .u32 0, .int .u8 0, .int .u8 0, .bool false, .string { data := #[] }, .bool false, .int .i64 0])] w5 := fun w5 hb => (Flow.Fx.nil ((Flow.Chg.of_below hb).mono (fun _ _ e => e.elim))).add (k3.below hb)
  have ne1 : Nonempty (Flow.Wd C) := ⟨⟨w1, g0.sub _ (hR _ (Below.refl _ _))⟩⟩
  have hCC : ∀ w, C w → C w := fun _ h => h
  have HC := Flow.hide hC
  clear hC
  refine Flow.wp_region_gen 1000 (Flow.two C C) _ g0 hR (by kernel_rfl) 6 rfl ?_
  refine Flow.wpG_seg [0, 1, 2, 3] 2 rfl (by kernel_rfl) (hCC) (g0) ?_
  dsimp only [Flow.pickIdx, List.getElem?_cons_zero, List.getElem?_cons_succ]
  iterate 4 (
      (refine Flow.wpS_weak (by kernel_rfl) (fun K' hK' => ?_)
       go_simp
       first
         | (refine hK' _ ?_; clear hK' K')
         | (apply Exists.intro
            refine ⟨fun p => ?_, hK' _ ?_⟩
            (first | with_reducible exact ((state_any v p.w).mono fun _ _ ⟨h1, h2⟩ => ⟨h1.trans (congrArg (fun z => Ending.returned (.int .i64 z)) HV.out), h2 ▸ Below.refl _ _⟩))
            clear hK' K')))
  refine Flow.wpS_nil ?_
  clear g0 rx
  refine Flow.wpG_next 4 _ (by kernel_rfl) rfl ?_
  intro w5 hw5
  have q5 := hw5.head.cell
  have f5 := hw5.head.frozen
  go_simp
  have g1 : Flow.Good C (Flow.Fx (· = w.heap.size + 1 + 1) w1 [(w.heap.size + 1 + 1, 76, #[.int .u32 x.n, .int .u8 x.b, .int .u8 x.l, .bool x.has, .string x.text, .bool x.rmw, .int .i64 V])]) := by rw [HC.out]; exact Flow.good_fx _ _ _
  refine ⟨Flow.Fx (· = w.heap.size + 1 + 1) w1 [(w.heap.size + 1 + 1, 76, #[.int .u32 x.n, .int .u8 x.b, .int .u8 x.l, .bool x.has, .string x.text, .bool x.rmw, .int .i64 V])], g1, ?_, ?_⟩
  · obtain ⟨k6, c6⟩ := Flow.store7 (b0 := .int .u32 x.n) (b1 := .int .u8 x.b) (b2 := .int .u8 x.l) (b3 := .bool x.has) (b4 := .string x.text) (b5 := .bool x.rmw) (b6 := .int .i64 V) hw5.head
    exact (Flow.Fx.nil (hw5.1.trans c6 (fun _ _ e => e))).add k6
  clear q5 f5 hw5 w5
  refine Flow.wpG_seg [5] 0 rfl (by kernel_rfl) (hCC) (g1) ?_
  dsimp only [Flow.pickIdx, List.getElem?_cons_zero, List.getElem?_cons_succ]
  iterate 1 (
      (refine Flow.wpS_weak (by kernel_rfl) (fun K' hK' => ?_)
       go_simp
       first
         | (refine hK' _ ?_; clear hK' K')
         | (apply Exists.intro
            refine ⟨fun p => ?_, hK' _ ?_⟩
            (first | fail)
            clear hK' K')))
  refine Flow.wpS_nil ?_
  clear g1
  refine Flow.wpG_done (by kernel_rfl) ?_
  intro w4 hw4
  have q4 := hw4.head.cell
  have c4 := hw4.1
  clear hw4
  go_wp2_with fail
  exact bodyPost_ret (v := .tuple #[.agg #[.int .u32 x.n, .int .u8 x.b, .int .u8 x.l, .bool x.has, .string x.text, .bool x.rmw, .int .i64 V], .bool true]) (by simp [results, Try.results38, go_sem, q4]) rfl ⟨rfl, hB.trans (c4.below (fun j _ e => by omega) hB.size)⟩
set_option maxRecDepth 20000 in
theorem give_keep (c : Wc) (s : Int) (x : Wc) (w : World) (h1 : (s == 0) = false) (h2 : ltW c x = false) :
    Calls Try.prog 38 #[.agg #[.int .u32 c.n, .int .u8 c.b, .int .u8 c.l, .bool c.has, .string c.text, .bool c.rmw, .int .i64 s], .agg #[.int .u32 x.n, .int .u8 x.b, .int .u8 x.l, .bool x.has, .string x.text, .bool x.rmw], .bool false] w fun e w' => e = .returned (.tuple #[.agg #[.int .u32 c.n, .int .u8 c.b, .int .u8 c.l, .bool c.has, .string c.text, .bool c.rmw, .int .i64 s], .bool false]) ∧ Below w.heap.size w w' := by
  have H2 := Flow.hide h2
  clear h2
  go_enter Try.func38, Try.ntmps38
  go_wp2_with fail
  (with_reducible refine (lessW c x _).mono ?_)
  rintro e w1 ⟨rfl, hb1⟩
  rw [H2.out]
  obtain ⟨k1, k2, k3, hB, hz⟩ := Flow.laid3 hb1
  clear hb1
  have q1 : ∀ i, w1.cell? ⟨w.heap.size, i, none⟩ = (#[.int .u32 c.n, .int .u8 c.b, .int .u8 c.l, .bool c.has, .string c.text, .bool c.rmw, .int .i64 s] : Array Value)[i]? := k1.cell
  have q2 : ∀ i, w1.cell? ⟨w.heap.size + 1, i, none⟩ = (#[.int .u32 x.n, .int .u8 x.b, .int .u8 x.l, .bool x.has, .string x.text, .bool x.rmw] : Array Value)[i]? := k2.cell
  have f2 := k2.frozen
  have q3 := k3.cell
  have f3 := k3.frozen
  have z1 := k1.lt
  go_wp2_with fail
  obtain ⟨w4, hw4⟩ : ∃ w4, w4 = (((((((w1.setCell ⟨(w.heap.size + 1 + 1), 0, none⟩ (.int .u32 c.n)).setCell ⟨(w.heap.size + 1 + 1), 1, none⟩ (.int .u8 c.b)).setCell ⟨(w.heap.size + 1 + 1), 2, none⟩ (.int .u8 c.l)).setCell ⟨(w.heap.size + 1 + 1), 3, none⟩ (.bool c.has)).setCell ⟨(w.heap.size + 1 + 1), 4, none⟩ (.string c.text)).setCell ⟨(w.heap.size + 1 + 1), 5, none⟩ (.bool c.rmw)).setCell ⟨(w.heap.size + 1 + 1), 6, none⟩ (.int .i64 s)) := ⟨_, rfl⟩
  rw [← hw4]
  obtain ⟨k4, c4⟩ := Flow.store7 (b0 := .int .u32 c.n) (b1 := .int .u8 c.b) (b2 := .int .u8 c.l) (b3 := .bool c.has) (b4 := .string c.text) (b5 := .bool c.rmw) (b6 := .int .i64 s) k3
  rw [← hw4] at k4 c4
  have q4 := k4.cell
  exact bodyPost_ret (v := .tuple #[.agg #[.int .u32 c.n, .int .u8 c.b, .int .u8 c.l, .bool c.has, .string c.text, .bool c.rmw, .int .i64 s], .bool false]) (by simp [results, Try.results38, go_sem, q4]) rfl ⟨rfl, hB.trans (c4.below (fun j _ e => by omega) hB.size)⟩
set_option maxRecDepth 20000 in
theorem give_val (c : Wc) (s : Int) (x : Wc) (w : World) (h1 : (s == 0) = false) (h2 : ltW c x = false) :
    Calls Try.prog 38 #[.agg #[.int .u32 c.n, .int .u8 c.b, .int .u8 c.l, .bool c.has, .string c.text, .bool c.rmw, .int .i64 s], .agg #[.int .u32 x.n, .int .u8 x.b, .int .u8 x.l, .bool x.has, .string x.text, .bool x.rmw], .bool true] w fun e w' => e = .returned (.tuple #[.agg #[.int .u32 c.n, .int .u8 c.b, .int .u8 c.l, .bool c.has, .string c.text, .bool c.rmw, .int .i64 (valS c s x)], .bool (valR c s x)]) ∧ Below w.heap.size w w' := by
  have H2 := Flow.hide h2
  clear h2
  go_enter Try.func38, Try.ntmps38
  go_wp2_with fail
  (with_reducible refine (lessW c x _).mono ?_)
  rintro e w1 ⟨rfl, hb1⟩
  rw [H2.out]
  obtain ⟨k1, k2, k3, hB, hz⟩ := Flow.laid3 hb1
  clear hb1
  have q1 : ∀ i, w1.cell? ⟨w.heap.size, i, none⟩ = (#[.int .u32 c.n, .int .u8 c.b, .int .u8 c.l, .bool c.has, .string c.text, .bool c.rmw, .int .i64 s] : Array Value)[i]? := k1.cell
  have q2 : ∀ i, w1.cell? ⟨w.heap.size + 1, i, none⟩ = (#[.int .u32 x.n, .int .u8 x.b, .int .u8 x.l, .bool x.has, .string x.text, .bool x.rmw] : Array Value)[i]? := k2.cell
  have f2 := k2.frozen
  have q3 := k3.cell
  have f3 := k3.frozen
  have z1 := k1.lt
  go_wp2_with fail
  (with_reducible refine (val_any c s x _).mono ?_)
  rintro e w2 ⟨rfl, hb2⟩
  have k3 := k3.below hb2
  have q3 := k3.cell
  have f3 := k3.frozen
  have hB := hB.trans (hb2.mono hB.size)
  clear hb2 k1 k2 q1 q2 f2
  go_wp2_with fail
  obtain ⟨w4, hw4⟩ : ∃ w4, w4 = (((((((w2.setCell ⟨(w.heap.size + 1 + 1), 0, none⟩ (.int .u32 c.n)).setCell ⟨(w.heap.size + 1 + 1), 1, none⟩ (.int .u8 c.b)).setCell ⟨(w.heap.size + 1 + 1), 2, none⟩ (.int .u8 c.l)).setCell ⟨(w.heap.size + 1 + 1), 3, none⟩ (.bool c.has)).setCell ⟨(w.heap.size + 1 + 1), 4, none⟩ (.string c.text)).setCell ⟨(w.heap.size + 1 + 1), 5, none⟩ (.bool c.rmw)).setCell ⟨(w.heap.size + 1 + 1), 6, none⟩ (.int .i64 (valS c s x))) := ⟨_, rfl⟩
  rw [← hw4]
  obtain ⟨k4, c4⟩ := Flow.store7 (b0 := .int .u32 c.n) (b1 := .int .u8 c.b) (b2 := .int .u8 c.l) (b3 := .bool c.has) (b4 := .string c.text) (b5 := .bool c.rmw) (b6 := .int .i64 (valS c s x)) k3
  rw [← hw4] at k4 c4
  have q4 := k4.cell
  exact bodyPost_ret (v := .tuple #[.agg #[.int .u32 c.n, .int .u8 c.b, .int .u8 c.l, .bool c.has, .string c.text, .bool c.rmw, .int .i64 (valS c s x)], .bool (valR c s x)]) (by simp [results, Try.results38, go_sem, q4]) rfl ⟨rfl, hB.trans (c4.below (fun j _ e => by omega) hB.size)⟩
theorem give_any (c : Wc) (s : Int) (x : Wc) (v : Bool) (w : World) : Calls Try.prog 38 #[.agg (cc c s), .agg (wc x), .bool v] w fun e w' => e = .returned (.tuple #[.agg (cc (giveW c s x) (giveS c s x v)), .bool (giveR c s x v)]) ∧ Below w.heap.size w w' := by
  unfold giveW giveS giveR giveT
  by_cases h : s = 0
  · have h1 : (s == 0) = true := by simp [h]
    rw [decide_eq_true h, Bool.true_or]
    exact give_take0 c s x v _ w h1 rfl
  · have h1 : (s == 0) = false := by simp [h]
    rw [decide_eq_false h, Bool.false_or]
    rcases h2 : ltW c x with _ | _
    · rcases v with _ | _
      · exact give_keep c s x w h1 h2
      · exact give_val c s x w h1 h2
    · exact give_takel c s x v _ w h1 h2 rfl
end Go.Proofs.Ythkphapmnlndbab
