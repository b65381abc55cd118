/- CellRises: for every list of acts the law returns true and leaves its argument as it was. No condition. -/
import Derived.Test.YthkphapmnlndbabRows
import Derived.Test.YthkphapmnlndbabCSpeaks
import Derived.Test.YthkphapmnlndbabOpen
namespace Go.Proofs.Ythkphapmnlndbab.CRises
open Go.ChangeShapes Go.WideShapes Go.ChangeAt Go.RowKit
set_option maxHeartbeats 4000000
set_option linter.unusedSimpArgs false
attribute [local irreducible] Flow.wpSeg Flow.wpF Flow.wpG Flow.wpS
/-- What the calls come to, written out. -/
theorem told_lit (x : Wc) (w : World) : Calls Try.prog 33 #[.agg #[.int .u32 x.n, .int .u8 x.b, .int .u8 x.l, .bool x.has, .bool x.rmw, .string x.text]] w fun e w' => e = .returned (.tuple #[.agg #[.int .u32 x.n, .int .u8 x.b, .int .u8 x.l, .bool x.has, .string x.text, .bool x.rmw], .agg #[.int .u32 x.n, .int .u8 x.b, .int .u8 x.l, .bool x.has, .string x.text, .bool x.rmw, .int .i64 0]]) ∧ Below w.heap.size w w' := told17_any x w
theorem inv_lit (c : Wc) (s : Int) (x : Wc) (w : World) : Calls Try.prog 34 #[.agg #[.int .u32 c.n, .int .u8 c.b, .int .u8 c.l, .bool c.has, .string c.text, .bool c.rmw, .int .i64 s], .agg #[.int .u32 x.n, .int .u8 x.b, .int .u8 x.l, .bool x.has, .string x.text, .bool x.rmw]] w fun e w' => e = .returned (.tuple #[.agg #[.int .u32 (invW c x).n, .int .u8 (invW c x).b, .int .u8 (invW c x).l, .bool (invW c x).has, .string (invW c x).text, .bool (invW c x).rmw, .int .i64 (invS c s x)], .int .i64 (invR c x)]) ∧ Below w.heap.size w w' := inv_any c s x w
theorem rinv_lit (c : Wc) (s : Int) (x : Wc) (w : World) (hc : c.ok) (hx : x.ok) : Calls Try.prog 35 #[.agg #[.int .u32 c.n, .int .u8 c.b, .int .u8 c.l, .bool c.has, .string c.text, .bool c.rmw, .int .i64 s], .agg #[.int .u32 x.n, .int .u8 x.b, .int .u8 x.l, .bool x.has, .string x.text, .bool x.rmw, .int .i64 0]] w fun e w' => e = .returned (.tuple #[.agg #[.int .u32 (invW c x).n, .int .u8 (invW c x).b, .int .u8 (invW c x).l, .bool (invW c x).has, .string (invW c x).text, .bool (invW c x).rmw, .int .i64 (invS c s x)], .int .i64 (invR c x)]) ∧ Below w.heap.size w w' := rinv_any c s x 0 w hc hx
theorem val_lit (c : Wc) (s : Int) (x : Wc) (w : World) : Calls Try.prog 36 #[.agg #[.int .u32 c.n, .int .u8 c.b, .int .u8 c.l, .bool c.has, .string c.text, .bool c.rmw, .int .i64 s], .agg #[.int .u32 x.n, .int .u8 x.b, .int .u8 x.l]] w fun e w' => e = .returned (.tuple #[.agg #[.int .u32 c.n, .int .u8 c.b, .int .u8 c.l, .bool c.has, .string c.text, .bool c.rmw, .int .i64 (valS c s x)], .bool (valR c s x)]) ∧ Below w.heap.size w w' := val_any c s x w
theorem rval_lit (c : Wc) (s : Int) (x : Wc) (w : World) : Calls Try.prog 37 #[.agg #[.int .u32 c.n, .int .u8 c.b, .int .u8 c.l, .bool c.has, .string c.text, .bool c.rmw, .int .i64 s], .agg #[.int .u32 x.n, .int .u8 x.b, .int .u8 x.l]] w fun e w' => e = .returned (.tuple #[.agg #[.int .u32 c.n, .int .u8 c.b, .int .u8 c.l, .bool c.has, .string c.text, .bool c.rmw, .int .i64 (valS c s x)], .bool (valR c s x)]) ∧ Below w.heap.size w w' := rval17_any c s x w
theorem give_lit (c : Wc) (s : Int) (x : Wc) (v : Bool) (w : World) : Calls Try.prog 38 #[.agg #[.int .u32 c.n, .int .u8 c.b, .int .u8 c.l, .bool c.has, .string c.text, .bool c.rmw, .int .i64 s], .agg #[.int .u32 x.n, .int .u8 x.b, .int .u8 x.l, .bool x.has, .string x.text, .bool x.rmw], .bool v] w fun e w' => e = .returned (.tuple #[.agg #[.int .u32 (giveW c s x).n, .int .u8 (giveW c s x).b, .int .u8 (giveW c s x).l, .bool (giveW c s x).has, .string (giveW c s x).text, .bool (giveW c s x).rmw, .int .i64 (giveS c s x v)], .bool (giveR c s x v)]) ∧ Below w.heap.size w w' := give_any c s x v w
theorem rgive_lit (c : Wc) (s : Int) (x : Wc) (v : Bool) (w : World) (hc : c.ok) (hx : x.ok) : Calls Try.prog 39 #[.agg #[.int .u32 c.n, .int .u8 c.b, .int .u8 c.l, .bool c.has, .string c.text, .bool c.rmw, .int .i64 s], .agg #[.int .u32 x.n, .int .u8 x.b, .int .u8 x.l, .bool x.has, .string x.text, .bool x.rmw, .int .i64 0], .bool v] w fun e w' => e = .returned (.tuple #[.agg #[.int .u32 (giveW c s x).n, .int .u8 (giveW c s x).b, .int .u8 (giveW c s x).l, .bool (giveW c s x).has, .string (giveW c s x).text, .bool (giveW c s x).rmw, .int .i64 (giveS c s x v)], .bool (giveR c s x v)]) ∧ Below w.heap.size w w' := rgive_any c s x 0 v w hc hx
theorem invW_ok {c x : Wc} (hc : c.ok) (hx : x.ok) : (invW c x).ok := by unfold invW; split <;> assumption
theorem giveW_ok {c x : Wc} (s : Int) (hc : c.ok) (hx : x.ok) : (giveW c s x).ok := by unfold giveW; split <;> assumption
theorem bne_int (a : Int) : (a != a) = false := by simp
theorem bne_bool (a : Bool) : (a != a) = false := by cases a <;> rfl
/-- The list of acts: what each holds. -/
def Acts (w : World) (A : Option Addr) (n : Nat) (q : Nat → Int) (x : Nat → Wc) (v : Nat → Bool) : Prop :=
  0 < n → ∃ g off, A = some ⟨g, off, none⟩ ∧ g < w.heap.size ∧ ∀ i, i < n → (∀ j u, (#[.int .u8 (q i), .int .u32 (x i).n, .int .u8 (x i).b, .int .u8 (x i).l, .bool (x i).has, .bool (x i).rmw, .string (x i).text, .bool (v i)] : Array Value)[j]? = some u → w.cell? ⟨g, off + i * 8 + j, none⟩ = some u) ∧ (0 ≤ q i ∧ q i ≤ 255) ∧ (x i).ok
theorem acts_of {H : Type} {enc : TypeId × Value → H} {base : Nat} {spare : Nat → Bool} {held : Bool} {w : World} {A : Option Addr} {n : Nat} (h : 0 < n → ∃ g off, A = some ⟨g, off, none⟩ ∧ g < w.heap.size ∧
    ∀ i, i < n → ∀ (j : Nat) (s : Open.Shp), ([.int .u8, .int .u32, .int .u8, .int .u8, .bool, .bool, .str, .bool] : List Open.Shp)[j]? = some s → ∃ u, w.cell? ⟨g, off + (i * ([.int .u8, .int .u32, .int .u8, .int .u8, .bool, .bool, .str, .bool] : List Open.Shp).length + j), none⟩ = some u ∧ Open.CellOk enc Try.prog w base spare held s u) :
    ∃ q x v, Acts w A n q x v := by
  rcases Nat.eq_zero_or_pos n with h0 | h0
  · exact ⟨fun _ => 0, fun _ => ⟨0, 0, 0, false, ⟨#[]⟩, false⟩, fun _ => false, fun hn => by omega⟩
  · obtain ⟨g, off, rfl, hg, hc⟩ := h h0
    have hx : ∀ i, i < n → ∃ y : Int × Wc × Bool, (∀ j u, (#[.int .u8 y.1, .int .u32 y.2.1.n, .int .u8 y.2.1.b, .int .u8 y.2.1.l, .bool y.2.1.has, .bool y.2.1.rmw, .string y.2.1.text, .bool y.2.2] : Array Value)[j]? = some u → w.cell? ⟨g, off + i * 8 + j, none⟩ = some u) ∧ (0 ≤ y.1 ∧ y.1 ≤ 255) ∧ y.2.1.ok := by
      intro i hi
      obtain ⟨u0, e0, a0, rfl, w0⟩ := hc i hi 0 _ rfl
      obtain ⟨u1, e1, a1, rfl, w1⟩ := hc i hi 1 _ rfl
      obtain ⟨u2, e2, a2, rfl, w2⟩ := hc i hi 2 _ rfl
      obtain ⟨u3, e3, a3, rfl, w3⟩ := hc i hi 3 _ rfl
      obtain ⟨u4, e4, a4, rfl⟩ := hc i hi 4 _ rfl
      obtain ⟨u5, e5, a5, rfl⟩ := hc i hi 5 _ rfl
      obtain ⟨u6, e6, a6, rfl, _⟩ := hc i hi 6 _ rfl
      obtain ⟨u7, e7, a7, rfl⟩ := hc i hi 7 _ rfl
      refine ⟨(a0, ⟨a1, a2, a3, a4, a6, a5⟩, a7), fun j u hj => ?_, bounds_u8 w0, bounds_u32 w1, bounds_u8 w2, bounds_u8 w3⟩
      have e : off + i * 8 + j = off + (i * 8 + j) := by omega
      rw [e]
      match j, hj with
      | 0, hj => cases hj; exact e0
      | 1, hj => cases hj; exact e1
      | 2, hj => cases hj; exact e2
      | 3, hj => cases hj; exact e3
      | 4, hj => cases hj; exact e4
      | 5, hj => cases hj; exact e5
      | 6, hj => cases hj; exact e6
      | 7, hj => cases hj; exact e7
    have : Inhabited Wc := ⟨⟨0, 0, 0, false, ⟨#[]⟩, false⟩⟩
    obtain ⟨f, hf⟩ := Deep.choose_lt hx
    exact ⟨fun i => (f i).1, fun i => (f i).2.1, fun i => (f i).2.2, fun _ => ⟨g, off, rfl, hg, fun i hi => hf i hi⟩⟩
theorem Acts.at_ {w wr : World} {B : Nat} {g off : Nat} (Q : Int) (x : Wc) (V : Bool) (i : Nat) (hb : Below B w wr) (hg : g < B) (h : ∀ j u, (#[.int .u8 Q, .int .u32 x.n, .int .u8 x.b, .int .u8 x.l, .bool x.has, .bool x.rmw, .string x.text, .bool V] : Array Value)[j]? = some u → w.cell? ⟨g, off + i * 8 + j, none⟩ = some u) :
    wr.cell? ⟨g, off + i * 8, none⟩ = some (.int .u8 Q) ∧ wr.cell? ⟨g, off + i * 8 + 1, none⟩ = some (.int .u32 x.n) ∧ wr.cell? ⟨g, off + i * 8 + 2, none⟩ = some (.int .u8 x.b) ∧ wr.cell? ⟨g, off + i * 8 + 3, none⟩ = some (.int .u8 x.l) ∧
    wr.cell? ⟨g, off + i * 8 + 4, none⟩ = some (.bool x.has) ∧ wr.cell? ⟨g, off + i * 8 + 5, none⟩ = some (.bool x.rmw) ∧ wr.cell? ⟨g, off + i * 8 + 6, none⟩ = some (.string x.text) ∧ wr.cell? ⟨g, off + i * 8 + 7, none⟩ = some (.bool V) := by
  have e : ∀ o, wr.cell? ⟨g, o, none⟩ = w.cell? ⟨g, o, none⟩ := fun o => hb.cell (p := ⟨g, o, none⟩) hg
  simp only [e]
  exact ⟨h 0 _ rfl, h 1 _ rfl, h 2 _ rfl, h 3 _ rfl, h 4 _ rfl, h 5 _ rfl, h 6 _ rfl, h 7 _ rfl⟩
theorem neq74 (c : Wc) (w : World) : (binOp .neq 74 (.agg #[.int .u32 c.n, .int .u8 c.b, .int .u8 c.l, .bool c.has, .string c.text, .bool c.rmw]) (.agg #[.int .u32 c.n, .int .u8 c.b, .int .u8 c.l, .bool c.has, .string c.text, .bool c.rmw])).run Try.prog w = .ok (.bool false) w := by
  go_simp
theorem ltW_anti {x y : Wc} (h : ltW x y = true) : ltW y x = false ∧ eqS y.n y.b y.l x.n x.b x.l = false := by
  simp only [ltW, slt, eqS, decide_eq_true_eq, decide_eq_false_iff_not] at *
  omega
theorem ltW_irr (x : Wc) : ltW x x = false := by simp [ltW, slt]
theorem eqS_refl (x : Wc) : eqS x.n x.b x.l x.n x.b x.l = true := by simp [eqS]
/-- What a round may come to: the new word and state, against the old ones and the word told. -/
def kA1 (s ns : Int) : Prop := (s != 0) = false ∧ (s == 1) = false ∧ (ns == 1) = false
def kA2 (s ns : Int) (x nw : Wc) : Prop := nw = x ∧ (s != 0) = false ∧ (s == 1) = false ∧ (s != 1) = true ∧ (ns == 1) = true
def kB1 (s ns : Int) (c nw : Wc) : Prop := nw = c ∧ (s != 0) = true ∧ (s == 1) = true ∧ (s != 1) = false ∧ (ns == 1) = true ∧ (ns != 1) = false ∧ (ns == 0) = false
def kB2 (s ns : Int) (c x nw : Wc) : Prop := nw = x ∧ ltW c x = true ∧ (s != 0) = true ∧ (s == 1) = true ∧ (s != 1) = false ∧ (ns == 1) = true ∧ (ns != 1) = false ∧ (ns == 0) = false
def kB3 (s ns : Int) (c x nw : Wc) : Prop := nw = x ∧ ltW c x = true ∧ (s != 0) = true ∧ (s == 1) = true ∧ (ns == 1) = false ∧ (ns != 1) = true ∧ (ns == 0) = false
def kC1 (s ns : Int) (c nw : Wc) : Prop := nw = c ∧ (s != 0) = true ∧ (s == 1) = false ∧ (ns == 1) = false ∧ (ns == 0) = false
def kC2 (s ns : Int) (c x nw : Wc) : Prop := nw = x ∧ ltW c x = true ∧ (s != 0) = true ∧ (s == 1) = false ∧ (ns == 1) = false ∧ (ns == 0) = false
def kC3 (s ns : Int) (c x nw : Wc) : Prop := nw = c ∧ eqS c.n c.b c.l x.n x.b x.l = true ∧ (s != 0) = true ∧ (s == 1) = false ∧ (s != 1) = true ∧ (ns == 1) = true ∧ (ns == 0) = false
def kC5 (s ns : Int) (c x nw : Wc) : Prop := nw = x ∧ ltW c x = true ∧ (s != 0) = true ∧ (s == 1) = false ∧ (s != 1) = true ∧ (ns == 1) = true ∧ (ns == 0) = false
theorem rise_inv (c : Wc) (s : Int) (x : Wc) {nw : Wc} {ns : Int} (h : nw = invW c x) (hs : ns = invS c s x) :
    kA1 s ns ∨ kB1 s ns c nw ∨ kB3 s ns c x nw ∨ kC1 s ns c nw ∨ kC2 s ns c x nw := by
  unfold invW at h; unfold invS at hs
  cases hl : ltW c x
  · simp [hl] at h hs
    subst nw; subst ns
    by_cases h0 : s = 0 <;> by_cases h1 : s = 1 <;> simp_all [kA1, kB1, kB3, kC1, kC2]
  · simp [hl] at h hs
    subst nw; subst ns
    by_cases h0 : s = 0 <;> by_cases h1 : s = 1 <;> simp_all [kA1, kB1, kB3, kC1, kC2]
theorem rise_val (c : Wc) (s : Int) (x : Wc) {nw : Wc} {ns : Int} (h : nw = c) (hs : ns = valS c s x) :
    kA1 s ns ∨ kB1 s ns c nw ∨ kC1 s ns c nw ∨ kC3 s ns c x nw := by
  unfold valS at hs
  subst nw
  by_cases hl : s = 2 ∧ eqW c x = true
  · obtain ⟨rfl, he⟩ := hl
    simp [he] at hs; subst ns
    exact .inr (.inr (.inr ⟨rfl, he, by simp, by simp, by simp, by simp, by simp⟩))
  · simp [hl] at hs
    subst ns
    by_cases h0 : s = 0 <;> by_cases h1 : s = 1 <;> simp_all [kA1, kB1, kC1]
theorem rise_give1 (c : Wc) (s : Int) (x : Wc) {nw : Wc} {ns : Int} (h : nw = giveW c s x) (hs : ns = giveS c s x true) :
    kA2 s ns x nw ∨ kB1 s ns c nw ∨ kB2 s ns c x nw ∨ kC1 s ns c nw ∨ kC3 s ns c x nw ∨ kC5 s ns c x nw := by
  unfold giveW at h; unfold giveS at hs
  by_cases h0 : s = 0
  · have e : giveT c s x = true := by simp [giveT, h0]
    simp [e] at h hs
    subst nw; subst ns; subst h0
    exact .inl ⟨rfl, by simp, by simp, by simp, by simp⟩
  · cases hl : ltW c x
    · have e : giveT c s x = false := by simp [giveT, h0, hl]
      simp [e] at h hs
      rcases rise_val c s x h hs with h | h | h | h
      · exact absurd h.1 (by simp [h0])
      · exact .inr (.inl h)
      · exact .inr (.inr (.inr (.inl h)))
      · exact .inr (.inr (.inr (.inr (.inl h))))
    · have e : giveT c s x = true := by simp [giveT, hl]
      simp [e] at h hs
      subst nw; subst ns
      by_cases h1 : s = 1 <;> simp_all [kA2, kB1, kB2, kC1, kC3, kC5]
theorem rise_give0 (c : Wc) (s : Int) (x : Wc) {nw : Wc} {ns : Int} (h : nw = giveW c s x) (hs : ns = giveS c s x false) :
    kA1 s ns ∨ kB1 s ns c nw ∨ kB3 s ns c x nw ∨ kC1 s ns c nw ∨ kC2 s ns c x nw := by
  unfold giveW at h; unfold giveS at hs
  by_cases h0 : s = 0
  · have e : giveT c s x = true := by simp [giveT, h0]
    simp [e] at h hs
    subst nw; subst ns; subst h0
    exact .inl ⟨by simp, by simp, by simp⟩
  · cases hl : ltW c x
    · have e : giveT c s x = false := by simp [giveT, h0, hl]
      simp [e] at h hs
      subst nw; subst ns
      by_cases h1 : s = 1 <;> simp_all [kA1, kB1, kB3, kC1, kC2]
    · have e : giveT c s x = true := by simp [giveT, hl]
      simp [e] at h hs
      subst nw; subst ns
      by_cases h1 : s = 1 <;> simp_all [kA1, kB1, kB3, kC1, kC2]
theorem inv_at (c : Wc) (s : Int) (x : Wc) (w : World) (nw : Wc) (ns : Int) (h1 : nw = invW c x) (h2 : ns = invS c s x) : Calls Try.prog 34 #[.agg #[.int .u32 c.n, .int .u8 c.b, .int .u8 c.l, .bool c.has, .string c.text, .bool c.rmw, .int .i64 s], .agg #[.int .u32 x.n, .int .u8 x.b, .int .u8 x.l, .bool x.has, .string x.text, .bool x.rmw]] w fun e w' => e = .returned (.tuple #[.agg #[.int .u32 (nw).n, .int .u8 (nw).b, .int .u8 (nw).l, .bool (nw).has, .string (nw).text, .bool (nw).rmw, .int .i64 ns], .int .i64 (invR c x)]) ∧ Below w.heap.size w w' := by subst h1 h2; exact inv_any c s x w
theorem val_at (c : Wc) (s : Int) (x : Wc) (w : World) (nw : Wc) (ns : Int) (h1 : nw = c) (h2 : ns = valS c s x) : Calls Try.prog 36 #[.agg #[.int .u32 c.n, .int .u8 c.b, .int .u8 c.l, .bool c.has, .string c.text, .bool c.rmw, .int .i64 s], .agg #[.int .u32 x.n, .int .u8 x.b, .int .u8 x.l]] w fun e w' => e = .returned (.tuple #[.agg #[.int .u32 (nw).n, .int .u8 (nw).b, .int .u8 (nw).l, .bool (nw).has, .string (nw).text, .bool (nw).rmw, .int .i64 ns], .bool (valR c s x)]) ∧ Below w.heap.size w w' := by subst h1 h2; exact val_any _ s x w
theorem give_at (c : Wc) (s : Int) (x : Wc) (v : Bool) (w : World) (nw : Wc) (ns : Int) (h1 : nw = giveW c s x) (h2 : ns = giveS c s x v) : Calls Try.prog 38 #[.agg #[.int .u32 c.n, .int .u8 c.b, .int .u8 c.l, .bool c.has, .string c.text, .bool c.rmw, .int .i64 s], .agg #[.int .u32 x.n, .int .u8 x.b, .int .u8 x.l, .bool x.has, .string x.text, .bool x.rmw], .bool v] w fun e w' => e = .returned (.tuple #[.agg #[.int .u32 (nw).n, .int .u8 (nw).b, .int .u8 (nw).l, .bool (nw).has, .string (nw).text, .bool (nw).rmw, .int .i64 ns], .bool (giveR c s x v)]) ∧ Below w.heap.size w w' := by subst h1 h2; exact give_any c s x v w
set_option maxRecDepth 100000 in
theorem walk (AA : Option Addr) (len cap : Nat) (q : Nat → Int) (xs : Nat → Wc) (vs : Nat → Bool) (w : World) (hl : len ≤ maxLen) (hacts : Acts w AA len q xs vs) :
    Calls Try.prog 9 #[.slice AA len cap] w fun e w' => e = .returned (.bool true) ∧ Below w.heap.size w w' := by
  unfold maxLen at hl
  have HA := Flow.hide hacts
  clear hacts
  have h30 := eql30
  have h74 := neq74
  go_enter Try.func9, Try.ntmps9
  go_wp2_with fail
  refine (speaks17 _).mono ?_
  rintro e w1 ⟨rfl, b1⟩
  go_wp2_with fail
  obtain ⟨cb, hcb⟩ : ∃ m, m = w1.heap.size := ⟨_, rfl⟩
  obtain ⟨w3, hw3⟩ : ∃ w3, w3 = w1.alloc (.cells #[.int .u32 0, .int .u8 0, .int .u8 0, .bool false, .string { data := #[] }, .bool false, .int .i64 0] 76) := ⟨_, rfl⟩
  have hwc : w.heap.size ≤ cb := by rw [hcb]; exact b1.size
  have K3 : Flow.Blk w3 cb 76 (cc ⟨0, 0, 0, false, ⟨#[]⟩, false⟩ 0) := by rw [hw3, hcb]; exact Flow.Blk.new _ _ _
  have b3 : Below w.heap.size w w3 := by rw [hw3]; exact b1.alloc b1.size _
  rw [← hw3, ← hcb]
  have K3 := Flow.hide K3
  have b3 := Flow.hide b3
  clear hcb hw3 b1
  go_loopw [4] (fun t5 wr => ∃ (k : Nat) (c : Wc) (s : Int), k ≤ len ∧ k ≤ 60 ∧ t5 = .int .i64 k ∧ c.ok ∧ Flow.Blk wr cb 76 (cc c s) ∧ Below w.heap.size w wr) (fun t5 _ => len - (intOf t5).toNat)
  case atStart => exact ⟨0, _, 0, by omega, by omega, rfl, ⟨by simp, by simp, by simp⟩, K3.out, b3.out⟩
  case round =>
    obtain ⟨k, c, s, hk, hk60, rfl, ok0, K0, B0⟩ := hrel
    have HK := Flow.hide K0
    have BW := Flow.hide B0
    have OKC := Flow.hide ok0
    clear K3 b3 K0 B0 ok0
    by_cases hlt : k < len ∧ k < 60
    · obtain ⟨hlt, hlt60⟩ := hlt
      obtain ⟨ab, aoff, rfl, hab, hcells⟩ := HA.out (by omega)
      obtain ⟨xc, xq, xok⟩ := hcells k hlt
      obtain ⟨y0, y1, y2, y3, y4, y5, y6, y7⟩ := Acts.at_ (q k) (xs k) (vs k) k BW.out hab xc
      generalize q k = Q at *
      generalize xs k = x at *
      generalize vs k = V at *
      have OKX := Flow.hide xok
      clear hcells xc xok
      have hxq := xq
      go_wp2_with fail
      (with_reducible refine (told_lit x _).mono ?_)
      rintro e w4 ⟨rfl, hb4⟩
      obtain ⟨KX, hB4, hz4⟩ := Flow.laid1 hb4
      clear hb4 y0 y1 y2 y3 y4 y5 y6 y7
      have HK4 := Flow.hide (HK.out.below hB4)
      have B4 : Hid (Below w.heap.size w w4) := BW.out.trans (hB4.mono BW.out.size)
      have hcl : cb < w4.heap.size := HK4.out.lt
      have hcx : cb < wr.heap.size := HK.out.lt
      generalize wr.heap.size = xb at *
      clear hB4 HK BW
      have qc : ∀ i, w4.cell? ⟨cb, i, none⟩ = (#[.int .u32 c.n, .int .u8 c.b, .int .u8 c.l, .bool c.has, .string c.text, .bool c.rmw, .int .i64 s] : Array Value)[i]? := HK4.out.cell
      have qx := KX.cell
      have hxl : xb < w4.heap.size := KX.lt
      have hxl1 : xb < w4.heap.size + 1 := by omega
      have hxl2 : xb < w4.heap.size + 1 + 1 := by omega
      have hcl1 : cb < w4.heap.size + 1 := by omega
      have hcl2 : cb < w4.heap.size + 1 + 1 := by omega
      by_cases hq0 : Q % 3 = 0
      · have t1 : (Q % 3 == 0) = true := by simp [hq0]
        have t2 : (Q % 3 == 1) = false := by simp [hq0]
        have t3 : (Q % 3 == 2) = false := by simp [hq0]
        clear hq0
        obtain ⟨nw, hnw⟩ : ∃ nw, nw = invW c x := ⟨_, rfl⟩
        obtain ⟨ns, hns⟩ : ∃ ns, ns = invS c s x := ⟨_, rfl⟩
        have OKN : Hid nw.ok := by rw [hnw]; exact invW_ok OKC.out OKX.out
        have HD := Flow.hide (rise_inv c s x hnw hns)
        go_wp2_with fail
        (with_reducible refine (inv_at c s x _ nw ns hnw hns).mono ?_)
        rintro e w6 ⟨rfl, hb6⟩
        clear hnw hns
        obtain ⟨KW, KO, KS, hB6, hz6⟩ := Flow.laid3 hb6
        have K6 := HK4.out.below hB6
        have X6 := KX.below hB6
        have B6 : Hid (Below w.heap.size w w6) := B4.out.trans (hB6.mono B4.out.size)
        generalize w4.heap.size = wb at *
        clear hb6 hB6 HK4 B4 KX qc qx KO
        have fc := K6.frozen
        have qc := K6.cell
        simp only [cc] at qc
        have qx := X6.cell
        have qw := KW.cell
        have qs := KS.cell
        rcases HD.out with ⟨s0, s1, n1⟩ | ⟨enw, s0, s1, s1', n1, n1', n0⟩ | ⟨enw, lt, s0, s1, n1, n1', n0⟩ | ⟨enw, s0, s1, n1, n0⟩ | ⟨enw, lt, s0, s1, n1, n0⟩
        · go_wp2_with fail
          obtain ⟨w7, hw7⟩ : ∃ w7, w7 = (((((((w6.setCell ⟨cb, 0, none⟩ (.int .u32 (nw).n)).setCell ⟨cb, 1, none⟩ (.int .u8 (nw).b)).setCell ⟨cb, 2, none⟩ (.int .u8 (nw).l)).setCell ⟨cb, 3, none⟩ (.bool (nw).has)).setCell ⟨cb, 4, none⟩ (.string (nw).text)).setCell ⟨cb, 5, none⟩ (.bool (nw).rmw)).setCell ⟨cb, 6, none⟩ (.int .i64 ns)) := ⟨_, rfl⟩
          rw [← hw7]
          obtain ⟨K7, c7⟩ := Flow.store7 (b0 := .int .u32 (nw).n) (b1 := .int .u8 (nw).b) (b2 := .int .u8 (nw).l) (b3 := .bool (nw).has) (b4 := .string (nw).text) (b5 := .bool (nw).rmw) (b6 := .int .i64 ns) K6
          rw [← hw7] at K7 c7
          have X7 := Flow.hide (X6.chg c7 (by omega))
          have W7 := Flow.hide (KW.chg c7 (by omega))
          have S7 := Flow.hide (KS.chg c7 (by omega))
          have B7 : Hid (Below w.heap.size w w7) := B6.out.trans (c7.below (fun j _ e => by omega) B6.out.size)
          have K7 := Flow.hide K7
          clear hw7 c7 fc qc qx qw qs K6 X6 KS KW B6
          have qc : ∀ i, w7.cell? ⟨cb, i, none⟩ = (#[.int .u32 (nw).n, .int .u8 (nw).b, .int .u8 (nw).l, .bool (nw).has, .string (nw).text, .bool (nw).rmw, .int .i64 ns] : Array Value)[i]? := K7.out.cell
          have qx := X7.out.cell
          have qw := W7.out.cell
          have qs := S7.out.cell
          have lc : cb < w7.heap.size := K7.out.lt
          have lx : xb < w7.heap.size := X7.out.lt
          have lw : wb < w7.heap.size := W7.out.lt
          have ls : wb + 1 + 1 < w7.heap.size := S7.out.lt
          go_roundw
          case rel => exact ⟨k + 1, nw, ns, by omega, by omega, by go_num, OKN.out, K7.out, B7.out⟩
          case measure => simp [intOf]; omega
        · have L1 : ltW nw c = false := by rw [enw]; exact ltW_irr c
          have ec : eqS nw.n nw.b nw.l c.n c.b c.l = true := by rw [enw]; exact eqS_refl c
          have n74 : ∀ w : World, (binOp .neq 74 (.agg #[.int .u32 nw.n, .int .u8 nw.b, .int .u8 nw.l, .bool nw.has, .string nw.text, .bool nw.rmw]) (.agg #[.int .u32 c.n, .int .u8 c.b, .int .u8 c.l, .bool c.has, .string c.text, .bool c.rmw])).run Try.prog w = .ok (.bool false) w := by rw [enw]; exact neq74 c
          clear enw
          go_wp2_with fail
          obtain ⟨w7, hw7⟩ : ∃ w7, w7 = (((((((w6.setCell ⟨cb, 0, none⟩ (.int .u32 (nw).n)).setCell ⟨cb, 1, none⟩ (.int .u8 (nw).b)).setCell ⟨cb, 2, none⟩ (.int .u8 (nw).l)).setCell ⟨cb, 3, none⟩ (.bool (nw).has)).setCell ⟨cb, 4, none⟩ (.string (nw).text)).setCell ⟨cb, 5, none⟩ (.bool (nw).rmw)).setCell ⟨cb, 6, none⟩ (.int .i64 ns)) := ⟨_, rfl⟩
          rw [← hw7]
          obtain ⟨K7, c7⟩ := Flow.store7 (b0 := .int .u32 (nw).n) (b1 := .int .u8 (nw).b) (b2 := .int .u8 (nw).l) (b3 := .bool (nw).has) (b4 := .string (nw).text) (b5 := .bool (nw).rmw) (b6 := .int .i64 ns) K6
          rw [← hw7] at K7 c7
          have X7 := Flow.hide (X6.chg c7 (by omega))
          have W7 := Flow.hide (KW.chg c7 (by omega))
          have S7 := Flow.hide (KS.chg c7 (by omega))
          have B7 : Hid (Below w.heap.size w w7) := B6.out.trans (c7.below (fun j _ e => by omega) B6.out.size)
          have K7 := Flow.hide K7
          clear hw7 c7 fc qc qx qw qs K6 X6 KS KW B6
          have qc : ∀ i, w7.cell? ⟨cb, i, none⟩ = (#[.int .u32 (nw).n, .int .u8 (nw).b, .int .u8 (nw).l, .bool (nw).has, .string (nw).text, .bool (nw).rmw, .int .i64 ns] : Array Value)[i]? := K7.out.cell
          have qx := X7.out.cell
          have qw := W7.out.cell
          have qs := S7.out.cell
          have lc : cb < w7.heap.size := K7.out.lt
          have lx : xb < w7.heap.size := X7.out.lt
          have lw : wb < w7.heap.size := W7.out.lt
          have ls : wb + 1 + 1 < w7.heap.size := S7.out.lt
          (with_reducible refine (lessW nw c _).mono ?_)
          rintro e w8 ⟨rfl, hb8⟩
          rw [L1]
          have K8 := Flow.hide (K7.out.below hb8)
          have X8 := Flow.hide (X7.out.below hb8)
          have W8 := Flow.hide (W7.out.below hb8)
          have S8 := Flow.hide (S7.out.below hb8)
          have B8 : Hid (Below w.heap.size w w8) := B7.out.trans (hb8.mono B7.out.size)
          clear hb8 qc qx qw qs lc lx lw ls K7 X7 W7 S7 B7
          have qc : ∀ i, w8.cell? ⟨cb, i, none⟩ = (#[.int .u32 (nw).n, .int .u8 (nw).b, .int .u8 (nw).l, .bool (nw).has, .string (nw).text, .bool (nw).rmw, .int .i64 ns] : Array Value)[i]? := K8.out.cell
          have qx := X8.out.cell
          have qw := W8.out.cell
          have qs := S8.out.cell
          have lc : cb < w8.heap.size := K8.out.lt
          have lx : xb < w8.heap.size := X8.out.lt
          have lw : wb < w8.heap.size := W8.out.lt
          have ls : wb + 1 + 1 < w8.heap.size := S8.out.lt
          go_wp2_with fail
          go_roundw
          case rel => exact ⟨k + 1, nw, ns, by omega, by omega, by go_num, OKN.out, K8.out, B8.out⟩
          case measure => simp [intOf]; omega
        · have L1 : ltW nw c = false := by rw [enw]; exact (ltW_anti lt).1
          have ec : eqS nw.n nw.b nw.l c.n c.b c.l = false := by rw [enw]; exact (ltW_anti lt).2
          have L2 : ltW c nw = true := by rw [enw]; exact lt
          clear enw
          go_wp2_with fail
          obtain ⟨w7, hw7⟩ : ∃ w7, w7 = (((((((w6.setCell ⟨cb, 0, none⟩ (.int .u32 (nw).n)).setCell ⟨cb, 1, none⟩ (.int .u8 (nw).b)).setCell ⟨cb, 2, none⟩ (.int .u8 (nw).l)).setCell ⟨cb, 3, none⟩ (.bool (nw).has)).setCell ⟨cb, 4, none⟩ (.string (nw).text)).setCell ⟨cb, 5, none⟩ (.bool (nw).rmw)).setCell ⟨cb, 6, none⟩ (.int .i64 ns)) := ⟨_, rfl⟩
          rw [← hw7]
          obtain ⟨K7, c7⟩ := Flow.store7 (b0 := .int .u32 (nw).n) (b1 := .int .u8 (nw).b) (b2 := .int .u8 (nw).l) (b3 := .bool (nw).has) (b4 := .string (nw).text) (b5 := .bool (nw).rmw) (b6 := .int .i64 ns) K6
          rw [← hw7] at K7 c7
          have X7 := Flow.hide (X6.chg c7 (by omega))
          have W7 := Flow.hide (KW.chg c7 (by omega))
          have S7 := Flow.hide (KS.chg c7 (by omega))
          have B7 : Hid (Below w.heap.size w w7) := B6.out.trans (c7.below (fun j _ e => by omega) B6.out.size)
          have K7 := Flow.hide K7
          clear hw7 c7 fc qc qx qw qs K6 X6 KS KW B6
          have qc : ∀ i, w7.cell? ⟨cb, i, none⟩ = (#[.int .u32 (nw).n, .int .u8 (nw).b, .int .u8 (nw).l, .bool (nw).has, .string (nw).text, .bool (nw).rmw, .int .i64 ns] : Array Value)[i]? := K7.out.cell
          have qx := X7.out.cell
          have qw := W7.out.cell
          have qs := S7.out.cell
          have lc : cb < w7.heap.size := K7.out.lt
          have lx : xb < w7.heap.size := X7.out.lt
          have lw : wb < w7.heap.size := W7.out.lt
          have ls : wb + 1 + 1 < w7.heap.size := S7.out.lt
          (with_reducible refine (lessW nw c _).mono ?_)
          rintro e w8 ⟨rfl, hb8⟩
          rw [L1]
          have K8 := Flow.hide (K7.out.below hb8)
          have X8 := Flow.hide (X7.out.below hb8)
          have W8 := Flow.hide (W7.out.below hb8)
          have S8 := Flow.hide (S7.out.below hb8)
          have B8 : Hid (Below w.heap.size w w8) := B7.out.trans (hb8.mono B7.out.size)
          clear hb8 qc qx qw qs lc lx lw ls K7 X7 W7 S7 B7
          have qc : ∀ i, w8.cell? ⟨cb, i, none⟩ = (#[.int .u32 (nw).n, .int .u8 (nw).b, .int .u8 (nw).l, .bool (nw).has, .string (nw).text, .bool (nw).rmw, .int .i64 ns] : Array Value)[i]? := K8.out.cell
          have qx := X8.out.cell
          have qw := W8.out.cell
          have qs := S8.out.cell
          have lc : cb < w8.heap.size := K8.out.lt
          have lx : xb < w8.heap.size := X8.out.lt
          have lw : wb < w8.heap.size := W8.out.lt
          have ls : wb + 1 + 1 < w8.heap.size := S8.out.lt
          go_wp2_with fail
          (with_reducible refine (lessW c nw _).mono ?_)
          rintro e w9 ⟨rfl, hb9⟩
          rw [L2]
          have K9 := Flow.hide (K8.out.below hb9)
          have X9 := Flow.hide (X8.out.below hb9)
          have W9 := Flow.hide (W8.out.below hb9)
          have S9 := Flow.hide (S8.out.below hb9)
          have B9 : Hid (Below w.heap.size w w9) := B8.out.trans (hb9.mono B8.out.size)
          clear hb9 qc qx qw qs lc lx lw ls K8 X8 W8 S8 B8
          have qc : ∀ i, w9.cell? ⟨cb, i, none⟩ = (#[.int .u32 (nw).n, .int .u8 (nw).b, .int .u8 (nw).l, .bool (nw).has, .string (nw).text, .bool (nw).rmw, .int .i64 ns] : Array Value)[i]? := K9.out.cell
          have qx := X9.out.cell
          have qw := W9.out.cell
          have qs := S9.out.cell
          have lc : cb < w9.heap.size := K9.out.lt
          have lx : xb < w9.heap.size := X9.out.lt
          have lw : wb < w9.heap.size := W9.out.lt
          have ls : wb + 1 + 1 < w9.heap.size := S9.out.lt
          go_wp2_with fail
          go_roundw
          case rel => exact ⟨k + 1, nw, ns, by omega, by omega, by go_num, OKN.out, K9.out, B9.out⟩
          case measure => simp [intOf]; omega
        · have L1 : ltW nw c = false := by rw [enw]; exact ltW_irr c
          have ec : eqS nw.n nw.b nw.l c.n c.b c.l = true := by rw [enw]; exact eqS_refl c
          have n74 : ∀ w : World, (binOp .neq 74 (.agg #[.int .u32 nw.n, .int .u8 nw.b, .int .u8 nw.l, .bool nw.has, .string nw.text, .bool nw.rmw]) (.agg #[.int .u32 c.n, .int .u8 c.b, .int .u8 c.l, .bool c.has, .string c.text, .bool c.rmw])).run Try.prog w = .ok (.bool false) w := by rw [enw]; exact neq74 c
          clear enw
          go_wp2_with fail
          obtain ⟨w7, hw7⟩ : ∃ w7, w7 = (((((((w6.setCell ⟨cb, 0, none⟩ (.int .u32 (nw).n)).setCell ⟨cb, 1, none⟩ (.int .u8 (nw).b)).setCell ⟨cb, 2, none⟩ (.int .u8 (nw).l)).setCell ⟨cb, 3, none⟩ (.bool (nw).has)).setCell ⟨cb, 4, none⟩ (.string (nw).text)).setCell ⟨cb, 5, none⟩ (.bool (nw).rmw)).setCell ⟨cb, 6, none⟩ (.int .i64 ns)) := ⟨_, rfl⟩
          rw [← hw7]
          obtain ⟨K7, c7⟩ := Flow.store7 (b0 := .int .u32 (nw).n) (b1 := .int .u8 (nw).b) (b2 := .int .u8 (nw).l) (b3 := .bool (nw).has) (b4 := .string (nw).text) (b5 := .bool (nw).rmw) (b6 := .int .i64 ns) K6
          rw [← hw7] at K7 c7
          have X7 := Flow.hide (X6.chg c7 (by omega))
          have W7 := Flow.hide (KW.chg c7 (by omega))
          have S7 := Flow.hide (KS.chg c7 (by omega))
          have B7 : Hid (Below w.heap.size w w7) := B6.out.trans (c7.below (fun j _ e => by omega) B6.out.size)
          have K7 := Flow.hide K7
          clear hw7 c7 fc qc qx qw qs K6 X6 KS KW B6
          have qc : ∀ i, w7.cell? ⟨cb, i, none⟩ = (#[.int .u32 (nw).n, .int .u8 (nw).b, .int .u8 (nw).l, .bool (nw).has, .string (nw).text, .bool (nw).rmw, .int .i64 ns] : Array Value)[i]? := K7.out.cell
          have qx := X7.out.cell
          have qw := W7.out.cell
          have qs := S7.out.cell
          have lc : cb < w7.heap.size := K7.out.lt
          have lx : xb < w7.heap.size := X7.out.lt
          have lw : wb < w7.heap.size := W7.out.lt
          have ls : wb + 1 + 1 < w7.heap.size := S7.out.lt
          (with_reducible refine (lessW nw c _).mono ?_)
          rintro e w8 ⟨rfl, hb8⟩
          rw [L1]
          have K8 := Flow.hide (K7.out.below hb8)
          have X8 := Flow.hide (X7.out.below hb8)
          have W8 := Flow.hide (W7.out.below hb8)
          have S8 := Flow.hide (S7.out.below hb8)
          have B8 : Hid (Below w.heap.size w w8) := B7.out.trans (hb8.mono B7.out.size)
          clear hb8 qc qx qw qs lc lx lw ls K7 X7 W7 S7 B7
          have qc : ∀ i, w8.cell? ⟨cb, i, none⟩ = (#[.int .u32 (nw).n, .int .u8 (nw).b, .int .u8 (nw).l, .bool (nw).has, .string (nw).text, .bool (nw).rmw, .int .i64 ns] : Array Value)[i]? := K8.out.cell
          have qx := X8.out.cell
          have qw := W8.out.cell
          have qs := S8.out.cell
          have lc : cb < w8.heap.size := K8.out.lt
          have lx : xb < w8.heap.size := X8.out.lt
          have lw : wb < w8.heap.size := W8.out.lt
          have ls : wb + 1 + 1 < w8.heap.size := S8.out.lt
          go_wp2_with fail
          go_roundw
          case rel => exact ⟨k + 1, nw, ns, by omega, by omega, by go_num, OKN.out, K8.out, B8.out⟩
          case measure => simp [intOf]; omega
        · have L1 : ltW nw c = false := by rw [enw]; exact (ltW_anti lt).1
          have ec : eqS nw.n nw.b nw.l c.n c.b c.l = false := by rw [enw]; exact (ltW_anti lt).2
          clear enw
          go_wp2_with fail
          obtain ⟨w7, hw7⟩ : ∃ w7, w7 = (((((((w6.setCell ⟨cb, 0, none⟩ (.int .u32 (nw).n)).setCell ⟨cb, 1, none⟩ (.int .u8 (nw).b)).setCell ⟨cb, 2, none⟩ (.int .u8 (nw).l)).setCell ⟨cb, 3, none⟩ (.bool (nw).has)).setCell ⟨cb, 4, none⟩ (.string (nw).text)).setCell ⟨cb, 5, none⟩ (.bool (nw).rmw)).setCell ⟨cb, 6, none⟩ (.int .i64 ns)) := ⟨_, rfl⟩
          rw [← hw7]
          obtain ⟨K7, c7⟩ := Flow.store7 (b0 := .int .u32 (nw).n) (b1 := .int .u8 (nw).b) (b2 := .int .u8 (nw).l) (b3 := .bool (nw).has) (b4 := .string (nw).text) (b5 := .bool (nw).rmw) (b6 := .int .i64 ns) K6
          rw [← hw7] at K7 c7
          have X7 := Flow.hide (X6.chg c7 (by omega))
          have W7 := Flow.hide (KW.chg c7 (by omega))
          have S7 := Flow.hide (KS.chg c7 (by omega))
          have B7 : Hid (Below w.heap.size w w7) := B6.out.trans (c7.below (fun j _ e => by omega) B6.out.size)
          have K7 := Flow.hide K7
          clear hw7 c7 fc qc qx qw qs K6 X6 KS KW B6
          have qc : ∀ i, w7.cell? ⟨cb, i, none⟩ = (#[.int .u32 (nw).n, .int .u8 (nw).b, .int .u8 (nw).l, .bool (nw).has, .string (nw).text, .bool (nw).rmw, .int .i64 ns] : Array Value)[i]? := K7.out.cell
          have qx := X7.out.cell
          have qw := W7.out.cell
          have qs := S7.out.cell
          have lc : cb < w7.heap.size := K7.out.lt
          have lx : xb < w7.heap.size := X7.out.lt
          have lw : wb < w7.heap.size := W7.out.lt
          have ls : wb + 1 + 1 < w7.heap.size := S7.out.lt
          (with_reducible refine (lessW nw c _).mono ?_)
          rintro e w8 ⟨rfl, hb8⟩
          rw [L1]
          have K8 := Flow.hide (K7.out.below hb8)
          have X8 := Flow.hide (X7.out.below hb8)
          have W8 := Flow.hide (W7.out.below hb8)
          have S8 := Flow.hide (S7.out.below hb8)
          have B8 : Hid (Below w.heap.size w w8) := B7.out.trans (hb8.mono B7.out.size)
          clear hb8 qc qx qw qs lc lx lw ls K7 X7 W7 S7 B7
          have qc : ∀ i, w8.cell? ⟨cb, i, none⟩ = (#[.int .u32 (nw).n, .int .u8 (nw).b, .int .u8 (nw).l, .bool (nw).has, .string (nw).text, .bool (nw).rmw, .int .i64 ns] : Array Value)[i]? := K8.out.cell
          have qx := X8.out.cell
          have qw := W8.out.cell
          have qs := S8.out.cell
          have lc : cb < w8.heap.size := K8.out.lt
          have lx : xb < w8.heap.size := X8.out.lt
          have lw : wb < w8.heap.size := W8.out.lt
          have ls : wb + 1 + 1 < w8.heap.size := S8.out.lt
          go_wp2_with fail
          go_roundw
          case rel => exact ⟨k + 1, nw, ns, by omega, by omega, by go_num, OKN.out, K8.out, B8.out⟩
          case measure => simp [intOf]; omega
      · have t1 : (Q % 3 == 0) = false := by simp [hq0]
        by_cases hq1 : Q % 3 = 1
        · have t2 : (Q % 3 == 1) = true := by simp [hq1]
          clear hq0 hq1
          obtain ⟨nw, hnw⟩ : ∃ nw, nw = c := ⟨_, rfl⟩
          obtain ⟨ns, hns⟩ : ∃ ns, ns = valS c s x := ⟨_, rfl⟩
          have OKN : Hid nw.ok := by rw [hnw]; exact OKC.out
          have HD := Flow.hide (rise_val c s x hnw hns)
          go_wp2_with fail
          (with_reducible refine (val_at c s x _ nw ns hnw hns).mono ?_)
          rintro e w6 ⟨rfl, hb6⟩
          clear hnw hns
          obtain ⟨KW, KO, KS, hB6, hz6⟩ := Flow.laid3 hb6
          have K6 := HK4.out.below hB6
          have X6 := KX.below hB6
          have B6 : Hid (Below w.heap.size w w6) := B4.out.trans (hB6.mono B4.out.size)
          generalize w4.heap.size = wb at *
          clear hb6 hB6 HK4 B4 KX qc qx KO
          have fc := K6.frozen
          have qc := K6.cell
          simp only [cc] at qc
          have qx := X6.cell
          have qw := KW.cell
          have qs := KS.cell
          rcases HD.out with ⟨s0, s1, n1⟩ | ⟨enw, s0, s1, s1', n1, n1', n0⟩ | ⟨enw, s0, s1, n1, n0⟩ | ⟨enw, ex0, s0, s1, s1', n1, n0⟩
          · go_wp2_with fail
            obtain ⟨w7, hw7⟩ : ∃ w7, w7 = (((((((w6.setCell ⟨cb, 0, none⟩ (.int .u32 (nw).n)).setCell ⟨cb, 1, none⟩ (.int .u8 (nw).b)).setCell ⟨cb, 2, none⟩ (.int .u8 (nw).l)).setCell ⟨cb, 3, none⟩ (.bool (nw).has)).setCell ⟨cb, 4, none⟩ (.string (nw).text)).setCell ⟨cb, 5, none⟩ (.bool (nw).rmw)).setCell ⟨cb, 6, none⟩ (.int .i64 ns)) := ⟨_, rfl⟩
            rw [← hw7]
            obtain ⟨K7, c7⟩ := Flow.store7 (b0 := .int .u32 (nw).n) (b1 := .int .u8 (nw).b) (b2 := .int .u8 (nw).l) (b3 := .bool (nw).has) (b4 := .string (nw).text) (b5 := .bool (nw).rmw) (b6 := .int .i64 ns) K6
            rw [← hw7] at K7 c7
            have X7 := Flow.hide (X6.chg c7 (by omega))
            have W7 := Flow.hide (KW.chg c7 (by omega))
            have S7 := Flow.hide (KS.chg c7 (by omega))
            have B7 : Hid (Below w.heap.size w w7) := B6.out.trans (c7.below (fun j _ e => by omega) B6.out.size)
            have K7 := Flow.hide K7
            clear hw7 c7 fc qc qx qw qs K6 X6 KS KW B6
            have qc : ∀ i, w7.cell? ⟨cb, i, none⟩ = (#[.int .u32 (nw).n, .int .u8 (nw).b, .int .u8 (nw).l, .bool (nw).has, .string (nw).text, .bool (nw).rmw, .int .i64 ns] : Array Value)[i]? := K7.out.cell
            have qx := X7.out.cell
            have qw := W7.out.cell
            have qs := S7.out.cell
            have lc : cb < w7.heap.size := K7.out.lt
            have lx : xb < w7.heap.size := X7.out.lt
            have lw : wb < w7.heap.size := W7.out.lt
            have ls : wb + 1 + 1 < w7.heap.size := S7.out.lt
            go_roundw
            case rel => exact ⟨k + 1, nw, ns, by omega, by omega, by go_num, OKN.out, K7.out, B7.out⟩
            case measure => simp [intOf]; omega
          · have L1 : ltW nw c = false := by rw [enw]; exact ltW_irr c
            have ec : eqS nw.n nw.b nw.l c.n c.b c.l = true := by rw [enw]; exact eqS_refl c
            have n74 : ∀ w : World, (binOp .neq 74 (.agg #[.int .u32 nw.n, .int .u8 nw.b, .int .u8 nw.l, .bool nw.has, .string nw.text, .bool nw.rmw]) (.agg #[.int .u32 c.n, .int .u8 c.b, .int .u8 c.l, .bool c.has, .string c.text, .bool c.rmw])).run Try.prog w = .ok (.bool false) w := by rw [enw]; exact neq74 c
            clear enw
            go_wp2_with fail
            obtain ⟨w7, hw7⟩ : ∃ w7, w7 = (((((((w6.setCell ⟨cb, 0, none⟩ (.int .u32 (nw).n)).setCell ⟨cb, 1, none⟩ (.int .u8 (nw).b)).setCell ⟨cb, 2, none⟩ (.int .u8 (nw).l)).setCell ⟨cb, 3, none⟩ (.bool (nw).has)).setCell ⟨cb, 4, none⟩ (.string (nw).text)).setCell ⟨cb, 5, none⟩ (.bool (nw).rmw)).setCell ⟨cb, 6, none⟩ (.int .i64 ns)) := ⟨_, rfl⟩
            rw [← hw7]
            obtain ⟨K7, c7⟩ := Flow.store7 (b0 := .int .u32 (nw).n) (b1 := .int .u8 (nw).b) (b2 := .int .u8 (nw).l) (b3 := .bool (nw).has) (b4 := .string (nw).text) (b5 := .bool (nw).rmw) (b6 := .int .i64 ns) K6
            rw [← hw7] at K7 c7
            have X7 := Flow.hide (X6.chg c7 (by omega))
            have W7 := Flow.hide (KW.chg c7 (by omega))
            have S7 := Flow.hide (KS.chg c7 (by omega))
            have B7 : Hid (Below w.heap.size w w7) := B6.out.trans (c7.below (fun j _ e => by omega) B6.out.size)
            have K7 := Flow.hide K7
            clear hw7 c7 fc qc qx qw qs K6 X6 KS KW B6
            have qc : ∀ i, w7.cell? ⟨cb, i, none⟩ = (#[.int .u32 (nw).n, .int .u8 (nw).b, .int .u8 (nw).l, .bool (nw).has, .string (nw).text, .bool (nw).rmw, .int .i64 ns] : Array Value)[i]? := K7.out.cell
            have qx := X7.out.cell
            have qw := W7.out.cell
            have qs := S7.out.cell
            have lc : cb < w7.heap.size := K7.out.lt
            have lx : xb < w7.heap.size := X7.out.lt
            have lw : wb < w7.heap.size := W7.out.lt
            have ls : wb + 1 + 1 < w7.heap.size := S7.out.lt
            (with_reducible refine (lessW nw c _).mono ?_)
            rintro e w8 ⟨rfl, hb8⟩
            rw [L1]
            have K8 := Flow.hide (K7.out.below hb8)
            have X8 := Flow.hide (X7.out.below hb8)
            have W8 := Flow.hide (W7.out.below hb8)
            have S8 := Flow.hide (S7.out.below hb8)
            have B8 : Hid (Below w.heap.size w w8) := B7.out.trans (hb8.mono B7.out.size)
            clear hb8 qc qx qw qs lc lx lw ls K7 X7 W7 S7 B7
            have qc : ∀ i, w8.cell? ⟨cb, i, none⟩ = (#[.int .u32 (nw).n, .int .u8 (nw).b, .int .u8 (nw).l, .bool (nw).has, .string (nw).text, .bool (nw).rmw, .int .i64 ns] : Array Value)[i]? := K8.out.cell
            have qx := X8.out.cell
            have qw := W8.out.cell
            have qs := S8.out.cell
            have lc : cb < w8.heap.size := K8.out.lt
            have lx : xb < w8.heap.size := X8.out.lt
            have lw : wb < w8.heap.size := W8.out.lt
            have ls : wb + 1 + 1 < w8.heap.size := S8.out.lt
            go_wp2_with fail
            go_roundw
            case rel => exact ⟨k + 1, nw, ns, by omega, by omega, by go_num, OKN.out, K8.out, B8.out⟩
            case measure => simp [intOf]; omega
          · have L1 : ltW nw c = false := by rw [enw]; exact ltW_irr c
            have ec : eqS nw.n nw.b nw.l c.n c.b c.l = true := by rw [enw]; exact eqS_refl c
            have n74 : ∀ w : World, (binOp .neq 74 (.agg #[.int .u32 nw.n, .int .u8 nw.b, .int .u8 nw.l, .bool nw.has, .string nw.text, .bool nw.rmw]) (.agg #[.int .u32 c.n, .int .u8 c.b, .int .u8 c.l, .bool c.has, .string c.text, .bool c.rmw])).run Try.prog w = .ok (.bool false) w := by rw [enw]; exact neq74 c
            clear enw
            go_wp2_with fail
            obtain ⟨w7, hw7⟩ : ∃ w7, w7 = (((((((w6.setCell ⟨cb, 0, none⟩ (.int .u32 (nw).n)).setCell ⟨cb, 1, none⟩ (.int .u8 (nw).b)).setCell ⟨cb, 2, none⟩ (.int .u8 (nw).l)).setCell ⟨cb, 3, none⟩ (.bool (nw).has)).setCell ⟨cb, 4, none⟩ (.string (nw).text)).setCell ⟨cb, 5, none⟩ (.bool (nw).rmw)).setCell ⟨cb, 6, none⟩ (.int .i64 ns)) := ⟨_, rfl⟩
            rw [← hw7]
            obtain ⟨K7, c7⟩ := Flow.store7 (b0 := .int .u32 (nw).n) (b1 := .int .u8 (nw).b) (b2 := .int .u8 (nw).l) (b3 := .bool (nw).has) (b4 := .string (nw).text) (b5 := .bool (nw).rmw) (b6 := .int .i64 ns) K6
            rw [← hw7] at K7 c7
            have X7 := Flow.hide (X6.chg c7 (by omega))
            have W7 := Flow.hide (KW.chg c7 (by omega))
            have S7 := Flow.hide (KS.chg c7 (by omega))
            have B7 : Hid (Below w.heap.size w w7) := B6.out.trans (c7.below (fun j _ e => by omega) B6.out.size)
            have K7 := Flow.hide K7
            clear hw7 c7 fc qc qx qw qs K6 X6 KS KW B6
            have qc : ∀ i, w7.cell? ⟨cb, i, none⟩ = (#[.int .u32 (nw).n, .int .u8 (nw).b, .int .u8 (nw).l, .bool (nw).has, .string (nw).text, .bool (nw).rmw, .int .i64 ns] : Array Value)[i]? := K7.out.cell
            have qx := X7.out.cell
            have qw := W7.out.cell
            have qs := S7.out.cell
            have lc : cb < w7.heap.size := K7.out.lt
            have lx : xb < w7.heap.size := X7.out.lt
            have lw : wb < w7.heap.size := W7.out.lt
            have ls : wb + 1 + 1 < w7.heap.size := S7.out.lt
            (with_reducible refine (lessW nw c _).mono ?_)
            rintro e w8 ⟨rfl, hb8⟩
            rw [L1]
            have K8 := Flow.hide (K7.out.below hb8)
            have X8 := Flow.hide (X7.out.below hb8)
            have W8 := Flow.hide (W7.out.below hb8)
            have S8 := Flow.hide (S7.out.below hb8)
            have B8 : Hid (Below w.heap.size w w8) := B7.out.trans (hb8.mono B7.out.size)
            clear hb8 qc qx qw qs lc lx lw ls K7 X7 W7 S7 B7
            have qc : ∀ i, w8.cell? ⟨cb, i, none⟩ = (#[.int .u32 (nw).n, .int .u8 (nw).b, .int .u8 (nw).l, .bool (nw).has, .string (nw).text, .bool (nw).rmw, .int .i64 ns] : Array Value)[i]? := K8.out.cell
            have qx := X8.out.cell
            have qw := W8.out.cell
            have qs := S8.out.cell
            have lc : cb < w8.heap.size := K8.out.lt
            have lx : xb < w8.heap.size := X8.out.lt
            have lw : wb < w8.heap.size := W8.out.lt
            have ls : wb + 1 + 1 < w8.heap.size := S8.out.lt
            go_wp2_with fail
            go_roundw
            case rel => exact ⟨k + 1, nw, ns, by omega, by omega, by go_num, OKN.out, K8.out, B8.out⟩
            case measure => simp [intOf]; omega
          · have ex : eqS nw.n nw.b nw.l x.n x.b x.l = true := by rw [enw]; exact ex0
            have L1 : ltW nw c = false := by rw [enw]; exact ltW_irr c
            have ec : eqS nw.n nw.b nw.l c.n c.b c.l = true := by rw [enw]; exact eqS_refl c
            have n74 : ∀ w : World, (binOp .neq 74 (.agg #[.int .u32 nw.n, .int .u8 nw.b, .int .u8 nw.l, .bool nw.has, .string nw.text, .bool nw.rmw]) (.agg #[.int .u32 c.n, .int .u8 c.b, .int .u8 c.l, .bool c.has, .string c.text, .bool c.rmw])).run Try.prog w = .ok (.bool false) w := by rw [enw]; exact neq74 c
            clear enw
            go_wp2_with fail
            obtain ⟨w7, hw7⟩ : ∃ w7, w7 = (((((((w6.setCell ⟨cb, 0, none⟩ (.int .u32 (nw).n)).setCell ⟨cb, 1, none⟩ (.int .u8 (nw).b)).setCell ⟨cb, 2, none⟩ (.int .u8 (nw).l)).setCell ⟨cb, 3, none⟩ (.bool (nw).has)).setCell ⟨cb, 4, none⟩ (.string (nw).text)).setCell ⟨cb, 5, none⟩ (.bool (nw).rmw)).setCell ⟨cb, 6, none⟩ (.int .i64 ns)) := ⟨_, rfl⟩
            rw [← hw7]
            obtain ⟨K7, c7⟩ := Flow.store7 (b0 := .int .u32 (nw).n) (b1 := .int .u8 (nw).b) (b2 := .int .u8 (nw).l) (b3 := .bool (nw).has) (b4 := .string (nw).text) (b5 := .bool (nw).rmw) (b6 := .int .i64 ns) K6
            rw [← hw7] at K7 c7
            have X7 := Flow.hide (X6.chg c7 (by omega))
            have W7 := Flow.hide (KW.chg c7 (by omega))
            have S7 := Flow.hide (KS.chg c7 (by omega))
            have B7 : Hid (Below w.heap.size w w7) := B6.out.trans (c7.below (fun j _ e => by omega) B6.out.size)
            have K7 := Flow.hide K7
            clear hw7 c7 fc qc qx qw qs K6 X6 KS KW B6
            have qc : ∀ i, w7.cell? ⟨cb, i, none⟩ = (#[.int .u32 (nw).n, .int .u8 (nw).b, .int .u8 (nw).l, .bool (nw).has, .string (nw).text, .bool (nw).rmw, .int .i64 ns] : Array Value)[i]? := K7.out.cell
            have qx := X7.out.cell
            have qw := W7.out.cell
            have qs := S7.out.cell
            have lc : cb < w7.heap.size := K7.out.lt
            have lx : xb < w7.heap.size := X7.out.lt
            have lw : wb < w7.heap.size := W7.out.lt
            have ls : wb + 1 + 1 < w7.heap.size := S7.out.lt
            (with_reducible refine (lessW nw c _).mono ?_)
            rintro e w8 ⟨rfl, hb8⟩
            rw [L1]
            have K8 := Flow.hide (K7.out.below hb8)
            have X8 := Flow.hide (X7.out.below hb8)
            have W8 := Flow.hide (W7.out.below hb8)
            have S8 := Flow.hide (S7.out.below hb8)
            have B8 : Hid (Below w.heap.size w w8) := B7.out.trans (hb8.mono B7.out.size)
            clear hb8 qc qx qw qs lc lx lw ls K7 X7 W7 S7 B7
            have qc : ∀ i, w8.cell? ⟨cb, i, none⟩ = (#[.int .u32 (nw).n, .int .u8 (nw).b, .int .u8 (nw).l, .bool (nw).has, .string (nw).text, .bool (nw).rmw, .int .i64 ns] : Array Value)[i]? := K8.out.cell
            have qx := X8.out.cell
            have qw := W8.out.cell
            have qs := S8.out.cell
            have lc : cb < w8.heap.size := K8.out.lt
            have lx : xb < w8.heap.size := X8.out.lt
            have lw : wb < w8.heap.size := W8.out.lt
            have ls : wb + 1 + 1 < w8.heap.size := S8.out.lt
            go_wp2_with fail
            go_roundw
            case rel => exact ⟨k + 1, nw, ns, by omega, by omega, by go_num, OKN.out, K8.out, B8.out⟩
            case measure => simp [intOf]; omega
        · have t2 : (Q % 3 == 1) = false := by simp [hq1]
          have t3 : (Q % 3 == 2) = true := by simp; omega
          clear hq0 hq1
          cases V with
          | true =>
            obtain ⟨nw, hnw⟩ : ∃ nw, nw = giveW c s x := ⟨_, rfl⟩
            obtain ⟨ns, hns⟩ : ∃ ns, ns = giveS c s x true := ⟨_, rfl⟩
            have OKN : Hid nw.ok := by rw [hnw]; exact giveW_ok s OKC.out OKX.out
            have HD := Flow.hide (rise_give1 c s x hnw hns)
            go_wp2_with fail
            (with_reducible refine (give_at c s x true _ nw ns hnw hns).mono ?_)
            rintro e w6 ⟨rfl, hb6⟩
            clear hnw hns
            obtain ⟨KW, KO, KS, hB6, hz6⟩ := Flow.laid3 hb6
            have K6 := HK4.out.below hB6
            have X6 := KX.below hB6
            have B6 : Hid (Below w.heap.size w w6) := B4.out.trans (hB6.mono B4.out.size)
            generalize w4.heap.size = wb at *
            clear hb6 hB6 HK4 B4 KX qc qx KO
            have fc := K6.frozen
            have qc := K6.cell
            simp only [cc] at qc
            have qx := X6.cell
            have qw := KW.cell
            have qs := KS.cell
            rcases HD.out with ⟨enw, s0, s1, s1', n1⟩ | ⟨enw, s0, s1, s1', n1, n1', n0⟩ | ⟨enw, lt, s0, s1, s1', n1, n1', n0⟩ | ⟨enw, s0, s1, n1, n0⟩ | ⟨enw, ex0, s0, s1, s1', n1, n0⟩ | ⟨enw, lt, s0, s1, s1', n1, n0⟩
            · have ex : eqS nw.n nw.b nw.l x.n x.b x.l = true := by rw [enw]; exact eqS_refl x
              clear enw
              go_wp2_with fail
              obtain ⟨w7, hw7⟩ : ∃ w7, w7 = (((((((w6.setCell ⟨cb, 0, none⟩ (.int .u32 (nw).n)).setCell ⟨cb, 1, none⟩ (.int .u8 (nw).b)).setCell ⟨cb, 2, none⟩ (.int .u8 (nw).l)).setCell ⟨cb, 3, none⟩ (.bool (nw).has)).setCell ⟨cb, 4, none⟩ (.string (nw).text)).setCell ⟨cb, 5, none⟩ (.bool (nw).rmw)).setCell ⟨cb, 6, none⟩ (.int .i64 ns)) := ⟨_, rfl⟩
              rw [← hw7]
              obtain ⟨K7, c7⟩ := Flow.store7 (b0 := .int .u32 (nw).n) (b1 := .int .u8 (nw).b) (b2 := .int .u8 (nw).l) (b3 := .bool (nw).has) (b4 := .string (nw).text) (b5 := .bool (nw).rmw) (b6 := .int .i64 ns) K6
              rw [← hw7] at K7 c7
              have X7 := Flow.hide (X6.chg c7 (by omega))
              have W7 := Flow.hide (KW.chg c7 (by omega))
              have S7 := Flow.hide (KS.chg c7 (by omega))
              have B7 : Hid (Below w.heap.size w w7) := B6.out.trans (c7.below (fun j _ e => by omega) B6.out.size)
              have K7 := Flow.hide K7
              clear hw7 c7 fc qc qx qw qs K6 X6 KS KW B6
              have qc : ∀ i, w7.cell? ⟨cb, i, none⟩ = (#[.int .u32 (nw).n, .int .u8 (nw).b, .int .u8 (nw).l, .bool (nw).has, .string (nw).text, .bool (nw).rmw, .int .i64 ns] : Array Value)[i]? := K7.out.cell
              have qx := X7.out.cell
              have qw := W7.out.cell
              have qs := S7.out.cell
              have lc : cb < w7.heap.size := K7.out.lt
              have lx : xb < w7.heap.size := X7.out.lt
              have lw : wb < w7.heap.size := W7.out.lt
              have ls : wb + 1 + 1 < w7.heap.size := S7.out.lt
              go_roundw
              case rel => exact ⟨k + 1, nw, ns, by omega, by omega, by go_num, OKN.out, K7.out, B7.out⟩
              case measure => simp [intOf]; omega
            · have L1 : ltW nw c = false := by rw [enw]; exact ltW_irr c
              have ec : eqS nw.n nw.b nw.l c.n c.b c.l = true := by rw [enw]; exact eqS_refl c
              have n74 : ∀ w : World, (binOp .neq 74 (.agg #[.int .u32 nw.n, .int .u8 nw.b, .int .u8 nw.l, .bool nw.has, .string nw.text, .bool nw.rmw]) (.agg #[.int .u32 c.n, .int .u8 c.b, .int .u8 c.l, .bool c.has, .string c.text, .bool c.rmw])).run Try.prog w = .ok (.bool false) w := by rw [enw]; exact neq74 c
              clear enw
              go_wp2_with fail
              obtain ⟨w7, hw7⟩ : ∃ w7, w7 = (((((((w6.setCell ⟨cb, 0, none⟩ (.int .u32 (nw).n)).setCell ⟨cb, 1, none⟩ (.int .u8 (nw).b)).setCell ⟨cb, 2, none⟩ (.int .u8 (nw).l)).setCell ⟨cb, 3, none⟩ (.bool (nw).has)).setCell ⟨cb, 4, none⟩ (.string (nw).text)).setCell ⟨cb, 5, none⟩ (.bool (nw).rmw)).setCell ⟨cb, 6, none⟩ (.int .i64 ns)) := ⟨_, rfl⟩
              rw [← hw7]
              obtain ⟨K7, c7⟩ := Flow.store7 (b0 := .int .u32 (nw).n) (b1 := .int .u8 (nw).b) (b2 := .int .u8 (nw).l) (b3 := .bool (nw).has) (b4 := .string (nw).text) (b5 := .bool (nw).rmw) (b6 := .int .i64 ns) K6
              rw [← hw7] at K7 c7
              have X7 := Flow.hide (X6.chg c7 (by omega))
              have W7 := Flow.hide (KW.chg c7 (by omega))
              have S7 := Flow.hide (KS.chg c7 (by omega))
              have B7 : Hid (Below w.heap.size w w7) := B6.out.trans (c7.below (fun j _ e => by omega) B6.out.size)
              have K7 := Flow.hide K7
              clear hw7 c7 fc qc qx qw qs K6 X6 KS KW B6
              have qc : ∀ i, w7.cell? ⟨cb, i, none⟩ = (#[.int .u32 (nw).n, .int .u8 (nw).b, .int .u8 (nw).l, .bool (nw).has, .string (nw).text, .bool (nw).rmw, .int .i64 ns] : Array Value)[i]? := K7.out.cell
              have qx := X7.out.cell
              have qw := W7.out.cell
              have qs := S7.out.cell
              have lc : cb < w7.heap.size := K7.out.lt
              have lx : xb < w7.heap.size := X7.out.lt
              have lw : wb < w7.heap.size := W7.out.lt
              have ls : wb + 1 + 1 < w7.heap.size := S7.out.lt
              (with_reducible refine (lessW nw c _).mono ?_)
              rintro e w8 ⟨rfl, hb8⟩
              rw [L1]
              have K8 := Flow.hide (K7.out.below hb8)
              have X8 := Flow.hide (X7.out.below hb8)
              have W8 := Flow.hide (W7.out.below hb8)
              have S8 := Flow.hide (S7.out.below hb8)
              have B8 : Hid (Below w.heap.size w w8) := B7.out.trans (hb8.mono B7.out.size)
              clear hb8 qc qx qw qs lc lx lw ls K7 X7 W7 S7 B7
              have qc : ∀ i, w8.cell? ⟨cb, i, none⟩ = (#[.int .u32 (nw).n, .int .u8 (nw).b, .int .u8 (nw).l, .bool (nw).has, .string (nw).text, .bool (nw).rmw, .int .i64 ns] : Array Value)[i]? := K8.out.cell
              have qx := X8.out.cell
              have qw := W8.out.cell
              have qs := S8.out.cell
              have lc : cb < w8.heap.size := K8.out.lt
              have lx : xb < w8.heap.size := X8.out.lt
              have lw : wb < w8.heap.size := W8.out.lt
              have ls : wb + 1 + 1 < w8.heap.size := S8.out.lt
              go_wp2_with fail
              go_roundw
              case rel => exact ⟨k + 1, nw, ns, by omega, by omega, by go_num, OKN.out, K8.out, B8.out⟩
              case measure => simp [intOf]; omega
            · have ex : eqS nw.n nw.b nw.l x.n x.b x.l = true := by rw [enw]; exact eqS_refl x
              have L1 : ltW nw c = false := by rw [enw]; exact (ltW_anti lt).1
              have ec : eqS nw.n nw.b nw.l c.n c.b c.l = false := by rw [enw]; exact (ltW_anti lt).2
              clear enw
              go_wp2_with fail
              obtain ⟨w7, hw7⟩ : ∃ w7, w7 = (((((((w6.setCell ⟨cb, 0, none⟩ (.int .u32 (nw).n)).setCell ⟨cb, 1, none⟩ (.int .u8 (nw).b)).setCell ⟨cb, 2, none⟩ (.int .u8 (nw).l)).setCell ⟨cb, 3, none⟩ (.bool (nw).has)).setCell ⟨cb, 4, none⟩ (.string (nw).text)).setCell ⟨cb, 5, none⟩ (.bool (nw).rmw)).setCell ⟨cb, 6, none⟩ (.int .i64 ns)) := ⟨_, rfl⟩
              rw [← hw7]
              obtain ⟨K7, c7⟩ := Flow.store7 (b0 := .int .u32 (nw).n) (b1 := .int .u8 (nw).b) (b2 := .int .u8 (nw).l) (b3 := .bool (nw).has) (b4 := .string (nw).text) (b5 := .bool (nw).rmw) (b6 := .int .i64 ns) K6
              rw [← hw7] at K7 c7
              have X7 := Flow.hide (X6.chg c7 (by omega))
              have W7 := Flow.hide (KW.chg c7 (by omega))
              have S7 := Flow.hide (KS.chg c7 (by omega))
              have B7 : Hid (Below w.heap.size w w7) := B6.out.trans (c7.below (fun j _ e => by omega) B6.out.size)
              have K7 := Flow.hide K7
              clear hw7 c7 fc qc qx qw qs K6 X6 KS KW B6
              have qc : ∀ i, w7.cell? ⟨cb, i, none⟩ = (#[.int .u32 (nw).n, .int .u8 (nw).b, .int .u8 (nw).l, .bool (nw).has, .string (nw).text, .bool (nw).rmw, .int .i64 ns] : Array Value)[i]? := K7.out.cell
              have qx := X7.out.cell
              have qw := W7.out.cell
              have qs := S7.out.cell
              have lc : cb < w7.heap.size := K7.out.lt
              have lx : xb < w7.heap.size := X7.out.lt
              have lw : wb < w7.heap.size := W7.out.lt
              have ls : wb + 1 + 1 < w7.heap.size := S7.out.lt
              (with_reducible refine (lessW nw c _).mono ?_)
              rintro e w8 ⟨rfl, hb8⟩
              rw [L1]
              have K8 := Flow.hide (K7.out.below hb8)
              have X8 := Flow.hide (X7.out.below hb8)
              have W8 := Flow.hide (W7.out.below hb8)
              have S8 := Flow.hide (S7.out.below hb8)
              have B8 : Hid (Below w.heap.size w w8) := B7.out.trans (hb8.mono B7.out.size)
              clear hb8 qc qx qw qs lc lx lw ls K7 X7 W7 S7 B7
              have qc : ∀ i, w8.cell? ⟨cb, i, none⟩ = (#[.int .u32 (nw).n, .int .u8 (nw).b, .int .u8 (nw).l, .bool (nw).has, .string (nw).text, .bool (nw).rmw, .int .i64 ns] : Array Value)[i]? := K8.out.cell
              have qx := X8.out.cell
              have qw := W8.out.cell
              have qs := S8.out.cell
              have lc : cb < w8.heap.size := K8.out.lt
              have lx : xb < w8.heap.size := X8.out.lt
              have lw : wb < w8.heap.size := W8.out.lt
              have ls : wb + 1 + 1 < w8.heap.size := S8.out.lt
              go_wp2_with fail
              go_roundw
              case rel => exact ⟨k + 1, nw, ns, by omega, by omega, by go_num, OKN.out, K8.out, B8.out⟩
              case measure => simp [intOf]; omega
            · have L1 : ltW nw c = false := by rw [enw]; exact ltW_irr c
              have ec : eqS nw.n nw.b nw.l c.n c.b c.l = true := by rw [enw]; exact eqS_refl c
              have n74 : ∀ w : World, (binOp .neq 74 (.agg #[.int .u32 nw.n, .int .u8 nw.b, .int .u8 nw.l, .bool nw.has, .string nw.text, .bool nw.rmw]) (.agg #[.int .u32 c.n, .int .u8 c.b, .int .u8 c.l, .bool c.has, .string c.text, .bool c.rmw])).run Try.prog w = .ok (.bool false) w := by rw [enw]; exact neq74 c
              clear enw
              go_wp2_with fail
              obtain ⟨w7, hw7⟩ : ∃ w7, w7 = (((((((w6.setCell ⟨cb, 0, none⟩ (.int .u32 (nw).n)).setCell ⟨cb, 1, none⟩ (.int .u8 (nw).b)).setCell ⟨cb, 2, none⟩ (.int .u8 (nw).l)).setCell ⟨cb, 3, none⟩ (.bool (nw).has)).setCell ⟨cb, 4, none⟩ (.string (nw).text)).setCell ⟨cb, 5, none⟩ (.bool (nw).rmw)).setCell ⟨cb, 6, none⟩ (.int .i64 ns)) := ⟨_, rfl⟩
              rw [← hw7]
              obtain ⟨K7, c7⟩ := Flow.store7 (b0 := .int .u32 (nw).n) (b1 := .int .u8 (nw).b) (b2 := .int .u8 (nw).l) (b3 := .bool (nw).has) (b4 := .string (nw).text) (b5 := .bool (nw).rmw) (b6 := .int .i64 ns) K6
              rw [← hw7] at K7 c7
              have X7 := Flow.hide (X6.chg c7 (by omega))
              have W7 := Flow.hide (KW.chg c7 (by omega))
              have S7 := Flow.hide (KS.chg c7 (by omega))
              have B7 : Hid (Below w.heap.size w w7) := B6.out.trans (c7.below (fun j _ e => by omega) B6.out.size)
              have K7 := Flow.hide K7
              clear hw7 c7 fc qc qx qw qs K6 X6 KS KW B6
              have qc : ∀ i, w7.cell? ⟨cb, i, none⟩ = (#[.int .u32 (nw).n, .int .u8 (nw).b, .int .u8 (nw).l, .bool (nw).has, .string (nw).text, .bool (nw).rmw, .int .i64 ns] : Array Value)[i]? := K7.out.cell
              have qx := X7.out.cell
              have qw := W7.out.cell
              have qs := S7.out.cell
              have lc : cb < w7.heap.size := K7.out.lt
              have lx : xb < w7.heap.size := X7.out.lt
              have lw : wb < w7.heap.size := W7.out.lt
              have ls : wb + 1 + 1 < w7.heap.size := S7.out.lt
              (with_reducible refine (lessW nw c _).mono ?_)
              rintro e w8 ⟨rfl, hb8⟩
              rw [L1]
              have K8 := Flow.hide (K7.out.below hb8)
              have X8 := Flow.hide (X7.out.below hb8)
              have W8 := Flow.hide (W7.out.below hb8)
              have S8 := Flow.hide (S7.out.below hb8)
              have B8 : Hid (Below w.heap.size w w8) := B7.out.trans (hb8.mono B7.out.size)
              clear hb8 qc qx qw qs lc lx lw ls K7 X7 W7 S7 B7
              have qc : ∀ i, w8.cell? ⟨cb, i, none⟩ = (#[.int .u32 (nw).n, .int .u8 (nw).b, .int .u8 (nw).l, .bool (nw).has, .string (nw).text, .bool (nw).rmw, .int .i64 ns] : Array Value)[i]? := K8.out.cell
              have qx := X8.out.cell
              have qw := W8.out.cell
              have qs := S8.out.cell
              have lc : cb < w8.heap.size := K8.out.lt
              have lx : xb < w8.heap.size := X8.out.lt
              have lw : wb < w8.heap.size := W8.out.lt
              have ls : wb + 1 + 1 < w8.heap.size := S8.out.lt
              go_wp2_with fail
              go_roundw
              case rel => exact ⟨k + 1, nw, ns, by omega, by omega, by go_num, OKN.out, K8.out, B8.out⟩
              case measure => simp [intOf]; omega
            · have ex : eqS nw.n nw.b nw.l x.n x.b x.l = true := by rw [enw]; exact ex0
              have L1 : ltW nw c = false := by rw [enw]; exact ltW_irr c
              have ec : eqS nw.n nw.b nw.l c.n c.b c.l = true := by rw [enw]; exact eqS_refl c
              have n74 : ∀ w : World, (binOp .neq 74 (.agg #[.int .u32 nw.n, .int .u8 nw.b, .int .u8 nw.l, .bool nw.has, .string nw.text, .bool nw.rmw]) (.agg #[.int .u32 c.n, .int .u8 c.b, .int .u8 c.l, .bool c.has, .string c.text, .bool c.rmw])).run Try.prog w = .ok (.bool false) w := by rw [enw]; exact neq74 c
              clear enw
              go_wp2_with fail
              obtain ⟨w7, hw7⟩ : ∃ w7, w7 = (((((((w6.setCell ⟨cb, 0, none⟩ (.int .u32 (nw).n)).setCell ⟨cb, 1, none⟩ (.int .u8 (nw).b)).setCell ⟨cb, 2, none⟩ (.int .u8 (nw).l)).setCell ⟨cb, 3, none⟩ (.bool (nw).has)).setCell ⟨cb, 4, none⟩ (.string (nw).text)).setCell ⟨cb, 5, none⟩ (.bool (nw).rmw)).setCell ⟨cb, 6, none⟩ (.int .i64 ns)) := ⟨_, rfl⟩
              rw [← hw7]
              obtain ⟨K7, c7⟩ := Flow.store7 (b0 := .int .u32 (nw).n) (b1 := .int .u8 (nw).b) (b2 := .int .u8 (nw).l) (b3 := .bool (nw).has) (b4 := .string (nw).text) (b5 := .bool (nw).rmw) (b6 := .int .i64 ns) K6
              rw [← hw7] at K7 c7
              have X7 := Flow.hide (X6.chg c7 (by omega))
              have W7 := Flow.hide (KW.chg c7 (by omega))
              have S7 := Flow.hide (KS.chg c7 (by omega))
              have B7 : Hid (Below w.heap.size w w7) := B6.out.trans (c7.below (fun j _ e => by omega) B6.out.size)
              have K7 := Flow.hide K7
              clear hw7 c7 fc qc qx qw qs K6 X6 KS KW B6
              have qc : ∀ i, w7.cell? ⟨cb, i, none⟩ = (#[.int .u32 (nw).n, .int .u8 (nw).b, .int .u8 (nw).l, .bool (nw).has, .string (nw).text, .bool (nw).rmw, .int .i64 ns] : Array Value)[i]? := K7.out.cell
              have qx := X7.out.cell
              have qw := W7.out.cell
              have qs := S7.out.cell
              have lc : cb < w7.heap.size := K7.out.lt
              have lx : xb < w7.heap.size := X7.out.lt
              have lw : wb < w7.heap.size := W7.out.lt
              have ls : wb + 1 + 1 < w7.heap.size := S7.out.lt
              (with_reducible refine (lessW nw c _).mono ?_)
              rintro e w8 ⟨rfl, hb8⟩
              rw [L1]
              have K8 := Flow.hide (K7.out.below hb8)
              have X8 := Flow.hide (X7.out.below hb8)
              have W8 := Flow.hide (W7.out.below hb8)
              have S8 := Flow.hide (S7.out.below hb8)
              have B8 : Hid (Below w.heap.size w w8) := B7.out.trans (hb8.mono B7.out.size)
              clear hb8 qc qx qw qs lc lx lw ls K7 X7 W7 S7 B7
              have qc : ∀ i, w8.cell? ⟨cb, i, none⟩ = (#[.int .u32 (nw).n, .int .u8 (nw).b, .int .u8 (nw).l, .bool (nw).has, .string (nw).text, .bool (nw).rmw, .int .i64 ns] : Array Value)[i]? := K8.out.cell
              have qx := X8.out.cell
              have qw := W8.out.cell
              have qs := S8.out.cell
              have lc : cb < w8.heap.size := K8.out.lt
              have lx : xb < w8.heap.size := X8.out.lt
              have lw : wb < w8.heap.size := W8.out.lt
              have ls : wb + 1 + 1 < w8.heap.size := S8.out.lt
              go_wp2_with fail
              go_roundw
              case rel => exact ⟨k + 1, nw, ns, by omega, by omega, by go_num, OKN.out, K8.out, B8.out⟩
              case measure => simp [intOf]; omega
            · have ex : eqS nw.n nw.b nw.l x.n x.b x.l = true := by rw [enw]; exact eqS_refl x
              have L1 : ltW nw c = false := by rw [enw]; exact (ltW_anti lt).1
              have ec : eqS nw.n nw.b nw.l c.n c.b c.l = false := by rw [enw]; exact (ltW_anti lt).2
              clear enw
              go_wp2_with fail
              obtain ⟨w7, hw7⟩ : ∃ w7, w7 = (((((((w6.setCell ⟨cb, 0, none⟩ (.int .u32 (nw).n)).setCell ⟨cb, 1, none⟩ (.int .u8 (nw).b)).setCell ⟨cb, 2, none⟩ (.int .u8 (nw).l)).setCell ⟨cb, 3, none⟩ (.bool (nw).has)).setCell ⟨cb, 4, none⟩ (.string (nw).text)).setCell ⟨cb, 5, none⟩ (.bool (nw).rmw)).setCell ⟨cb, 6, none⟩ (.int .i64 ns)) := ⟨_, rfl⟩
              rw [← hw7]
              obtain ⟨K7, c7⟩ := Flow.store7 (b0 := .int .u32 (nw).n) (b1 := .int .u8 (nw).b) (b2 := .int .u8 (nw).l) (b3 := .bool (nw).has) (b4 := .string (nw).text) (b5 := .bool (nw).rmw) (b6 := .int .i64 ns) K6
              rw [← hw7] at K7 c7
              have X7 := Flow.hide (X6.chg c7 (by omega))
              have W7 := Flow.hide (KW.chg c7 (by omega))
              have S7 := Flow.hide (KS.chg c7 (by omega))
              have B7 : Hid (Below w.heap.size w w7) := B6.out.trans (c7.below (fun j _ e => by omega) B6.out.size)
              have K7 := Flow.hide K7
              clear hw7 c7 fc qc qx qw qs K6 X6 KS KW B6
              have qc : ∀ i, w7.cell? ⟨cb, i, none⟩ = (#[.int .u32 (nw).n, .int .u8 (nw).b, .int .u8 (nw).l, .bool (nw).has, .string (nw).text, .bool (nw).rmw, .int .i64 ns] : Array Value)[i]? := K7.out.cell
              have qx := X7.out.cell
              have qw := W7.out.cell
              have qs := S7.out.cell
              have lc : cb < w7.heap.size := K7.out.lt
              have lx : xb < w7.heap.size := X7.out.lt
              have lw : wb < w7.heap.size := W7.out.lt
              have ls : wb + 1 + 1 < w7.heap.size := S7.out.lt
              (with_reducible refine (lessW nw c _).mono ?_)
              rintro e w8 ⟨rfl, hb8⟩
              rw [L1]
              have K8 := Flow.hide (K7.out.below hb8)
              have X8 := Flow.hide (X7.out.below hb8)
              have W8 := Flow.hide (W7.out.below hb8)
              have S8 := Flow.hide (S7.out.below hb8)
              have B8 : Hid (Below w.heap.size w w8) := B7.out.trans (hb8.mono B7.out.size)
              clear hb8 qc qx qw qs lc lx lw ls K7 X7 W7 S7 B7
              have qc : ∀ i, w8.cell? ⟨cb, i, none⟩ = (#[.int .u32 (nw).n, .int .u8 (nw).b, .int .u8 (nw).l, .bool (nw).has, .string (nw).text, .bool (nw).rmw, .int .i64 ns] : Array Value)[i]? := K8.out.cell
              have qx := X8.out.cell
              have qw := W8.out.cell
              have qs := S8.out.cell
              have lc : cb < w8.heap.size := K8.out.lt
              have lx : xb < w8.heap.size := X8.out.lt
              have lw : wb < w8.heap.size := W8.out.lt
              have ls : wb + 1 + 1 < w8.heap.size := S8.out.lt
              go_wp2_with fail
              go_roundw
              case rel => exact ⟨k + 1, nw, ns, by omega, by omega, by go_num, OKN.out, K8.out, B8.out⟩
              case measure => simp [intOf]; omega
          | false =>
            obtain ⟨nw, hnw⟩ : ∃ nw, nw = giveW c s x := ⟨_, rfl⟩
            obtain ⟨ns, hns⟩ : ∃ ns, ns = giveS c s x false := ⟨_, rfl⟩
            have OKN : Hid nw.ok := by rw [hnw]; exact giveW_ok s OKC.out OKX.out
            have HD := Flow.hide (rise_give0 c s x hnw hns)
            go_wp2_with fail
            (with_reducible refine (give_at c s x false _ nw ns hnw hns).mono ?_)
            rintro e w6 ⟨rfl, hb6⟩
            clear hnw hns
            obtain ⟨KW, KO, KS, hB6, hz6⟩ := Flow.laid3 hb6
            have K6 := HK4.out.below hB6
            have X6 := KX.below hB6
            have B6 : Hid (Below w.heap.size w w6) := B4.out.trans (hB6.mono B4.out.size)
            generalize w4.heap.size = wb at *
            clear hb6 hB6 HK4 B4 KX qc qx KO
            have fc := K6.frozen
            have qc := K6.cell
            simp only [cc] at qc
            have qx := X6.cell
            have qw := KW.cell
            have qs := KS.cell
            rcases HD.out with ⟨s0, s1, n1⟩ | ⟨enw, s0, s1, s1', n1, n1', n0⟩ | ⟨enw, lt, s0, s1, n1, n1', n0⟩ | ⟨enw, s0, s1, n1, n0⟩ | ⟨enw, lt, s0, s1, n1, n0⟩
            · go_wp2_with fail
              obtain ⟨w7, hw7⟩ : ∃ w7, w7 = (((((((w6.setCell ⟨cb, 0, none⟩ (.int .u32 (nw).n)).setCell ⟨cb, 1, none⟩ (.int .u8 (nw).b)).setCell ⟨cb, 2, none⟩ (.int .u8 (nw).l)).setCell ⟨cb, 3, none⟩ (.bool (nw).has)).setCell ⟨cb, 4, none⟩ (.string (nw).text)).setCell ⟨cb, 5, none⟩ (.bool (nw).rmw)).setCell ⟨cb, 6, none⟩ (.int .i64 ns)) := ⟨_, rfl⟩
              rw [← hw7]
              obtain ⟨K7, c7⟩ := Flow.store7 (b0 := .int .u32 (nw).n) (b1 := .int .u8 (nw).b) (b2 := .int .u8 (nw).l) (b3 := .bool (nw).has) (b4 := .string (nw).text) (b5 := .bool (nw).rmw) (b6 := .int .i64 ns) K6
              rw [← hw7] at K7 c7
              have X7 := Flow.hide (X6.chg c7 (by omega))
              have W7 := Flow.hide (KW.chg c7 (by omega))
              have S7 := Flow.hide (KS.chg c7 (by omega))
              have B7 : Hid (Below w.heap.size w w7) := B6.out.trans (c7.below (fun j _ e => by omega) B6.out.size)
              have K7 := Flow.hide K7
              clear hw7 c7 fc qc qx qw qs K6 X6 KS KW B6
              have qc : ∀ i, w7.cell? ⟨cb, i, none⟩ = (#[.int .u32 (nw).n, .int .u8 (nw).b, .int .u8 (nw).l, .bool (nw).has, .string (nw).text, .bool (nw).rmw, .int .i64 ns] : Array Value)[i]? := K7.out.cell
              have qx := X7.out.cell
              have qw := W7.out.cell
              have qs := S7.out.cell
              have lc : cb < w7.heap.size := K7.out.lt
              have lx : xb < w7.heap.size := X7.out.lt
              have lw : wb < w7.heap.size := W7.out.lt
              have ls : wb + 1 + 1 < w7.heap.size := S7.out.lt
              go_roundw
              case rel => exact ⟨k + 1, nw, ns, by omega, by omega, by go_num, OKN.out, K7.out, B7.out⟩
              case measure => simp [intOf]; omega
            · have L1 : ltW nw c = false := by rw [enw]; exact ltW_irr c
              have ec : eqS nw.n nw.b nw.l c.n c.b c.l = true := by rw [enw]; exact eqS_refl c
              have n74 : ∀ w : World, (binOp .neq 74 (.agg #[.int .u32 nw.n, .int .u8 nw.b, .int .u8 nw.l, .bool nw.has, .string nw.text, .bool nw.rmw]) (.agg #[.int .u32 c.n, .int .u8 c.b, .int .u8 c.l, .bool c.has, .string c.text, .bool c.rmw])).run Try.prog w = .ok (.bool false) w := by rw [enw]; exact neq74 c
              clear enw
              go_wp2_with fail
              obtain ⟨w7, hw7⟩ : ∃ w7, w7 = (((((((w6.setCell ⟨cb, 0, none⟩ (.int .u32 (nw).n)).setCell ⟨cb, 1, none⟩ (.int .u8 (nw).b)).setCell ⟨cb, 2, none⟩ (.int .u8 (nw).l)).setCell ⟨cb, 3, none⟩ (.bool (nw).has)).setCell ⟨cb, 4, none⟩ (.string (nw).text)).setCell ⟨cb, 5, none⟩ (.bool (nw).rmw)).setCell ⟨cb, 6, none⟩ (.int .i64 ns)) := ⟨_, rfl⟩
              rw [← hw7]
              obtain ⟨K7, c7⟩ := Flow.store7 (b0 := .int .u32 (nw).n) (b1 := .int .u8 (nw).b) (b2 := .int .u8 (nw).l) (b3 := .bool (nw).has) (b4 := .string (nw).text) (b5 := .bool (nw).rmw) (b6 := .int .i64 ns) K6
              rw [← hw7] at K7 c7
              have X7 := Flow.hide (X6.chg c7 (by omega))
              have W7 := Flow.hide (KW.chg c7 (by omega))
              have S7 := Flow.hide (KS.chg c7 (by omega))
              have B7 : Hid (Below w.heap.size w w7) := B6.out.trans (c7.below (fun j _ e => by omega) B6.out.size)
              have K7 := Flow.hide K7
              clear hw7 c7 fc qc qx qw qs K6 X6 KS KW B6
              have qc : ∀ i, w7.cell? ⟨cb, i, none⟩ = (#[.int .u32 (nw).n, .int .u8 (nw).b, .int .u8 (nw).l, .bool (nw).has, .string (nw).text, .bool (nw).rmw, .int .i64 ns] : Array Value)[i]? := K7.out.cell
              have qx := X7.out.cell
              have qw := W7.out.cell
              have qs := S7.out.cell
              have lc : cb < w7.heap.size := K7.out.lt
              have lx : xb < w7.heap.size := X7.out.lt
              have lw : wb < w7.heap.size := W7.out.lt
              have ls : wb + 1 + 1 < w7.heap.size := S7.out.lt
              (with_reducible refine (lessW nw c _).mono ?_)
              rintro e w8 ⟨rfl, hb8⟩
              rw [L1]
              have K8 := Flow.hide (K7.out.below hb8)
              have X8 := Flow.hide (X7.out.below hb8)
              have W8 := Flow.hide (W7.out.below hb8)
              have S8 := Flow.hide (S7.out.below hb8)
              have B8 : Hid (Below w.heap.size w w8) := B7.out.trans (hb8.mono B7.out.size)
              clear hb8 qc qx qw qs lc lx lw ls K7 X7 W7 S7 B7
              have qc : ∀ i, w8.cell? ⟨cb, i, none⟩ = (#[.int .u32 (nw).n, .int .u8 (nw).b, .int .u8 (nw).l, .bool (nw).has, .string (nw).text, .bool (nw).rmw, .int .i64 ns] : Array Value)[i]? := K8.out.cell
              have qx := X8.out.cell
              have qw := W8.out.cell
              have qs := S8.out.cell
              have lc : cb < w8.heap.size := K8.out.lt
              have lx : xb < w8.heap.size := X8.out.lt
              have lw : wb < w8.heap.size := W8.out.lt
              have ls : wb + 1 + 1 < w8.heap.size := S8.out.lt
              go_wp2_with fail
              go_roundw
              case rel => exact ⟨k + 1, nw, ns, by omega, by omega, by go_num, OKN.out, K8.out, B8.out⟩
              case measure => simp [intOf]; omega
            · have L1 : ltW nw c = false := by rw [enw]; exact (ltW_anti lt).1
              have ec : eqS nw.n nw.b nw.l c.n c.b c.l = false := by rw [enw]; exact (ltW_anti lt).2
              have L2 : ltW c nw = true := by rw [enw]; exact lt
              clear enw
              go_wp2_with fail
              obtain ⟨w7, hw7⟩ : ∃ w7, w7 = (((((((w6.setCell ⟨cb, 0, none⟩ (.int .u32 (nw).n)).setCell ⟨cb, 1, none⟩ (.int .u8 (nw).b)).setCell ⟨cb, 2, none⟩ (.int .u8 (nw).l)).setCell ⟨cb, 3, none⟩ (.bool (nw).has)).setCell ⟨cb, 4, none⟩ (.string (nw).text)).setCell ⟨cb, 5, none⟩ (.bool (nw).rmw)).setCell ⟨cb, 6, none⟩ (.int .i64 ns)) := ⟨_, rfl⟩
              rw [← hw7]
              obtain ⟨K7, c7⟩ := Flow.store7 (b0 := .int .u32 (nw).n) (b1 := .int .u8 (nw).b) (b2 := .int .u8 (nw).l) (b3 := .bool (nw).has) (b4 := .string (nw).text) (b5 := .bool (nw).rmw) (b6 := .int .i64 ns) K6
              rw [← hw7] at K7 c7
              have X7 := Flow.hide (X6.chg c7 (by omega))
              have W7 := Flow.hide (KW.chg c7 (by omega))
              have S7 := Flow.hide (KS.chg c7 (by omega))
              have B7 : Hid (Below w.heap.size w w7) := B6.out.trans (c7.below (fun j _ e => by omega) B6.out.size)
              have K7 := Flow.hide K7
              clear hw7 c7 fc qc qx qw qs K6 X6 KS KW B6
              have qc : ∀ i, w7.cell? ⟨cb, i, none⟩ = (#[.int .u32 (nw).n, .int .u8 (nw).b, .int .u8 (nw).l, .bool (nw).has, .string (nw).text, .bool (nw).rmw, .int .i64 ns] : Array Value)[i]? := K7.out.cell
              have qx := X7.out.cell
              have qw := W7.out.cell
              have qs := S7.out.cell
              have lc : cb < w7.heap.size := K7.out.lt
              have lx : xb < w7.heap.size := X7.out.lt
              have lw : wb < w7.heap.size := W7.out.lt
              have ls : wb + 1 + 1 < w7.heap.size := S7.out.lt
              (with_reducible refine (lessW nw c _).mono ?_)
              rintro e w8 ⟨rfl, hb8⟩
              rw [L1]
              have K8 := Flow.hide (K7.out.below hb8)
              have X8 := Flow.hide (X7.out.below hb8)
              have W8 := Flow.hide (W7.out.below hb8)
              have S8 := Flow.hide (S7.out.below hb8)
              have B8 : Hid (Below w.heap.size w w8) := B7.out.trans (hb8.mono B7.out.size)
              clear hb8 qc qx qw qs lc lx lw ls K7 X7 W7 S7 B7
              have qc : ∀ i, w8.cell? ⟨cb, i, none⟩ = (#[.int .u32 (nw).n, .int .u8 (nw).b, .int .u8 (nw).l, .bool (nw).has, .string (nw).text, .bool (nw).rmw, .int .i64 ns] : Array Value)[i]? := K8.out.cell
              have qx := X8.out.cell
              have qw := W8.out.cell
              have qs := S8.out.cell
              have lc : cb < w8.heap.size := K8.out.lt
              have lx : xb < w8.heap.size := X8.out.lt
              have lw : wb < w8.heap.size := W8.out.lt
              have ls : wb + 1 + 1 < w8.heap.size := S8.out.lt
              go_wp2_with fail
              (with_reducible refine (lessW c nw _).mono ?_)
              rintro e w9 ⟨rfl, hb9⟩
              rw [L2]
              have K9 := Flow.hide (K8.out.below hb9)
              have X9 := Flow.hide (X8.out.below hb9)
              have W9 := Flow.hide (W8.out.below hb9)
              have S9 := Flow.hide (S8.out.below hb9)
              have B9 : Hid (Below w.heap.size w w9) := B8.out.trans (hb9.mono B8.out.size)
              clear hb9 qc qx qw qs lc lx lw ls K8 X8 W8 S8 B8
              have qc : ∀ i, w9.cell? ⟨cb, i, none⟩ = (#[.int .u32 (nw).n, .int .u8 (nw).b, .int .u8 (nw).l, .bool (nw).has, .string (nw).text, .bool (nw).rmw, .int .i64 ns] : Array Value)[i]? := K9.out.cell
              have qx := X9.out.cell
              have qw := W9.out.cell
              have qs := S9.out.cell
              have lc : cb < w9.heap.size := K9.out.lt
              have lx : xb < w9.heap.size := X9.out.lt
              have lw : wb < w9.heap.size := W9.out.lt
              have ls : wb + 1 + 1 < w9.heap.size := S9.out.lt
              go_wp2_with fail
              go_roundw
              case rel => exact ⟨k + 1, nw, ns, by omega, by omega, by go_num, OKN.out, K9.out, B9.out⟩
              case measure => simp [intOf]; omega
            · have L1 : ltW nw c = false := by rw [enw]; exact ltW_irr c
              have ec : eqS nw.n nw.b nw.l c.n c.b c.l = true := by rw [enw]; exact eqS_refl c
              have n74 : ∀ w : World, (binOp .neq 74 (.agg #[.int .u32 nw.n, .int .u8 nw.b, .int .u8 nw.l, .bool nw.has, .string nw.text, .bool nw.rmw]) (.agg #[.int .u32 c.n, .int .u8 c.b, .int .u8 c.l, .bool c.has, .string c.text, .bool c.rmw])).run Try.prog w = .ok (.bool false) w := by rw [enw]; exact neq74 c
              clear enw
              go_wp2_with fail
              obtain ⟨w7, hw7⟩ : ∃ w7, w7 = (((((((w6.setCell ⟨cb, 0, none⟩ (.int .u32 (nw).n)).setCell ⟨cb, 1, none⟩ (.int .u8 (nw).b)).setCell ⟨cb, 2, none⟩ (.int .u8 (nw).l)).setCell ⟨cb, 3, none⟩ (.bool (nw).has)).setCell ⟨cb, 4, none⟩ (.string (nw).text)).setCell ⟨cb, 5, none⟩ (.bool (nw).rmw)).setCell ⟨cb, 6, none⟩ (.int .i64 ns)) := ⟨_, rfl⟩
              rw [← hw7]
              obtain ⟨K7, c7⟩ := Flow.store7 (b0 := .int .u32 (nw).n) (b1 := .int .u8 (nw).b) (b2 := .int .u8 (nw).l) (b3 := .bool (nw).has) (b4 := .string (nw).text) (b5 := .bool (nw).rmw) (b6 := .int .i64 ns) K6
              rw [← hw7] at K7 c7
              have X7 := Flow.hide (X6.chg c7 (by omega))
              have W7 := Flow.hide (KW.chg c7 (by omega))
              have S7 := Flow.hide (KS.chg c7 (by omega))
              have B7 : Hid (Below w.heap.size w w7) := B6.out.trans (c7.below (fun j _ e => by omega) B6.out.size)
              have K7 := Flow.hide K7
              clear hw7 c7 fc qc qx qw qs K6 X6 KS KW B6
              have qc : ∀ i, w7.cell? ⟨cb, i, none⟩ = (#[.int .u32 (nw).n, .int .u8 (nw).b, .int .u8 (nw).l, .bool (nw).has, .string (nw).text, .bool (nw).rmw, .int .i64 ns] : Array Value)[i]? := K7.out.cell
              have qx := X7.out.cell
              have qw := W7.out.cell
              have qs := S7.out.cell
              have lc : cb < w7.heap.size := K7.out.lt
              have lx : xb < w7.heap.size := X7.out.lt
              have lw : wb < w7.heap.size := W7.out.lt
              have ls : wb + 1 + 1 < w7.heap.size := S7.out.lt
              (with_reducible refine (lessW nw c _).mono ?_)
              rintro e w8 ⟨rfl, hb8⟩
              rw [L1]
              have K8 := Flow.hide (K7.out.below hb8)
              have X8 := Flow.hide (X7.out.below hb8)
              have W8 := Flow.hide (W7.out.below hb8)
              have S8 := Flow.hide (S7.out.below hb8)
              have B8 : Hid (Below w.heap.size w w8) := B7.out.trans (hb8.mono B7.out.size)
              clear hb8 qc qx qw qs lc lx lw ls K7 X7 W7 S7 B7
              have qc : ∀ i, w8.cell? ⟨cb, i, none⟩ = (#[.int .u32 (nw).n, .int .u8 (nw).b, .int .u8 (nw).l, .bool (nw).has, .string (nw).text, .bool (nw).rmw, .int .i64 ns] : Array Value)[i]? := K8.out.cell
              have qx := X8.out.cell
              have qw := W8.out.cell
              have qs := S8.out.cell
              have lc : cb < w8.heap.size := K8.out.lt
              have lx : xb < w8.heap.size := X8.out.lt
              have lw : wb < w8.heap.size := W8.out.lt
              have ls : wb + 1 + 1 < w8.heap.size := S8.out.lt
              go_wp2_with fail
              go_roundw
              case rel => exact ⟨k + 1, nw, ns, by omega, by omega, by go_num, OKN.out, K8.out, B8.out⟩
              case measure => simp [intOf]; omega
            · have L1 : ltW nw c = false := by rw [enw]; exact (ltW_anti lt).1
              have ec : eqS nw.n nw.b nw.l c.n c.b c.l = false := by rw [enw]; exact (ltW_anti lt).2
              clear enw
              go_wp2_with fail
              obtain ⟨w7, hw7⟩ : ∃ w7, w7 = (((((((w6.setCell ⟨cb, 0, none⟩ (.int .u32 (nw).n)).setCell ⟨cb, 1, none⟩ (.int .u8 (nw).b)).setCell ⟨cb, 2, none⟩ (.int .u8 (nw).l)).setCell ⟨cb, 3, none⟩ (.bool (nw).has)).setCell ⟨cb, 4, none⟩ (.string (nw).text)).setCell ⟨cb, 5, none⟩ (.bool (nw).rmw)).setCell ⟨cb, 6, none⟩ (.int .i64 ns)) := ⟨_, rfl⟩
              rw [← hw7]
              obtain ⟨K7, c7⟩ := Flow.store7 (b0 := .int .u32 (nw).n) (b1 := .int .u8 (nw).b) (b2 := .int .u8 (nw).l) (b3 := .bool (nw).has) (b4 := .string (nw).text) (b5 := .bool (nw).rmw) (b6 := .int .i64 ns) K6
              rw [← hw7] at K7 c7
              have X7 := Flow.hide (X6.chg c7 (by omega))
              have W7 := Flow.hide (KW.chg c7 (by omega))
              have S7 := Flow.hide (KS.chg c7 (by omega))
              have B7 : Hid (Below w.heap.size w w7) := B6.out.trans (c7.below (fun j _ e => by omega) B6.out.size)
              have K7 := Flow.hide K7
              clear hw7 c7 fc qc qx qw qs K6 X6 KS KW B6
              have qc : ∀ i, w7.cell? ⟨cb, i, none⟩ = (#[.int .u32 (nw).n, .int .u8 (nw).b, .int .u8 (nw).l, .bool (nw).has, .string (nw).text, .bool (nw).rmw, .int .i64 ns] : Array Value)[i]? := K7.out.cell
              have qx := X7.out.cell
              have qw := W7.out.cell
              have qs := S7.out.cell
              have lc : cb < w7.heap.size := K7.out.lt
              have lx : xb < w7.heap.size := X7.out.lt
              have lw : wb < w7.heap.size := W7.out.lt
              have ls : wb + 1 + 1 < w7.heap.size := S7.out.lt
              (with_reducible refine (lessW nw c _).mono ?_)
              rintro e w8 ⟨rfl, hb8⟩
              rw [L1]
              have K8 := Flow.hide (K7.out.below hb8)
              have X8 := Flow.hide (X7.out.below hb8)
              have W8 := Flow.hide (W7.out.below hb8)
              have S8 := Flow.hide (S7.out.below hb8)
              have B8 : Hid (Below w.heap.size w w8) := B7.out.trans (hb8.mono B7.out.size)
              clear hb8 qc qx qw qs lc lx lw ls K7 X7 W7 S7 B7
              have qc : ∀ i, w8.cell? ⟨cb, i, none⟩ = (#[.int .u32 (nw).n, .int .u8 (nw).b, .int .u8 (nw).l, .bool (nw).has, .string (nw).text, .bool (nw).rmw, .int .i64 ns] : Array Value)[i]? := K8.out.cell
              have qx := X8.out.cell
              have qw := W8.out.cell
              have qs := S8.out.cell
              have lc : cb < w8.heap.size := K8.out.lt
              have lx : xb < w8.heap.size := X8.out.lt
              have lw : wb < w8.heap.size := W8.out.lt
              have ls : wb + 1 + 1 < w8.heap.size := S8.out.lt
              go_wp2_with fail
              go_roundw
              case rel => exact ⟨k + 1, nw, ns, by omega, by omega, by go_num, OKN.out, K8.out, B8.out⟩
              case measure => simp [intOf]; omega
    · by_cases hlen : k < len
      · obtain rfl : k = 60 := by omega
        go_wp2_with fail
        go_ret
        exact ⟨rfl, BW.out⟩
      · go_wp2_with fail
        go_ret
        exact ⟨rfl, BW.out⟩

theorem own : ownKnob Try.prog.godebug = none := by kernel_rfl
theorem laidOut : laidOutB Try.prog = true := by kernel_rfl

set_option maxRecDepth 100000 in
theorem lifted (os : Os) (started : os.Started) (H : Type) (enc : TypeId × Value → H) :
    ReturnsInHanded {} Try.checked os 9 .any (Rows.cellRisesSpec.pre6 enc Try.prog Try.f9 Rows.cellRisesRow.domain false) (Rows.cellRisesSpec.post enc Try.prog Try.f9 false true false false) := by
  refine returnsInHanded_of_change (C := Try.checked) own started (by kernel_rfl) Try.func9
    (ChangeSpec.witness6 (enc := enc) (C := Try.checked) false ⟨#[], #[.slice none 0 0], []⟩ 8 (by kernel_rfl) (by kernel_rfl) (by kernel_rfl) (by kernel_rfl)) ?_
  intro W base args ds gs before hval0 hW hcnd _
  have hval : ∀ (j : Nat) t v, Try.f9.params[j]? = some t → args[j]? = some v → Value.okWide Try.prog W .any base t v := hval0
  have hW' := hW
  obtain ⟨p, q, hA0, hV, rfl, hfz, hnd⟩ := hW
  have hA : DataW.TrodAll enc Try.prog W 0 (fun _ => true) true Try.f9.params.toList args.toList ds p := hA0
  rw [Try.params9] at hA hval
  obtain ⟨v0, d0, hargs, rfl, h0⟩ := trodAll_one hA
  obtain ⟨rfl, rfl⟩ := trodVars_none hV
  subst hargs
  obtain ⟨A0, n0, c0, rfl, hl0, _, hr0⟩ := Open.open_rows_arg 30 (ss := [.int .u8, .int .u32, .int .u8, .int .u8, .bool, .bool, .str, .bool]) Try.underlying70 (by kernel_rfl) (by decide) (by kernel_rfl) (hval 0 70 v0 rfl rfl) h0
  obtain ⟨q0, x0, v0, ha0⟩ := acts_of hr0
  clear hA0 hval0
  refine (walk A0 n0 c0 q0 x0 v0 W hl0 ha0).mono fun e W' ⟨he, hb⟩ => ?_
  subst he
  exact ⟨_, rfl, Open.law_post laidOut (by kernel_rfl) (by kernel_rfl) Try.underlying4 rfl rfl hW' hb⟩

theorem over : Rows.cellRisesRow.holds Try.pinned (OpenSpec.ofChange Rows.cellRisesSpec) :=
  OpenClaim.holds_of_wide 9 Try.f9 rfl rfl rfl rfl rfl rfl rfl ⟨rfl, rfl, rfl, rfl, rfl⟩ rfl rfl rfl rfl rfl (by kernel_rfl) Try.func9 (by kernel_rfl)
    (of_decide_eq_true (by kernel_rfl)) (by unfold Func.isWrapper; first | (rw [if_pos (by decide +kernel)]; kernel_rfl) | (rw [if_neg (by decide +kernel)]; exact ⟨rfl, rfl⟩))
    (fun os started H enc _ => lifted os started H enc)

theorem proved : Rows.CellRisesSaid := over
#print axioms proved
end Go.Proofs.Ythkphapmnlndbab.CRises
