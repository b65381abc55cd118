/- CellPlays: for every list of acts the law returns true and leaves its argument as it was. No condition. -/
import Derived.Test.YthkphapmnlndbabRows
import Derived.Test.YthkphapmnlndbabCSpeaks
import Derived.Test.YthkphapmnlndbabOpen
namespace Go.Proofs.Ythkphapmnlndbab.CPlays
open Go.ChangeShapes Go.WideShapes Go.ChangeAt Go.RowKit
set_option maxHeartbeats 4000000
set_option linter.unusedSimpArgs false
attribute [local irreducible] Flow.wpSeg Flow.wpF Flow.wpG Flow.wpS
/-- What the calls come to, written out. -/
theorem told_lit (x : Wc) (w : World) : Calls Try.prog 33 #[.agg #[.int .u32 x.n, .int .u8 x.b, .int .u8 x.l, .bool x.has, .bool x.rmw, .string x.text]] w fun e w' => e = .returned (.tuple #[.agg #[.int .u32 x.n, .int .u8 x.b, .int .u8 x.l, .bool x.has, .string x.text, .bool x.rmw], .agg #[.int .u32 x.n, .int .u8 x.b, .int .u8 x.l, .bool x.has, .string x.text, .bool x.rmw, .int .i64 0]]) ∧ Below w.heap.size w w' := told17_any x w
theorem inv_lit (c : Wc) (s : Int) (x : Wc) (w : World) : Calls Try.prog 34 #[.agg #[.int .u32 c.n, .int .u8 c.b, .int .u8 c.l, .bool c.has, .string c.text, .bool c.rmw, .int .i64 s], .agg #[.int .u32 x.n, .int .u8 x.b, .int .u8 x.l, .bool x.has, .string x.text, .bool x.rmw]] w fun e w' => e = .returned (.tuple #[.agg #[.int .u32 (invW c x).n, .int .u8 (invW c x).b, .int .u8 (invW c x).l, .bool (invW c x).has, .string (invW c x).text, .bool (invW c x).rmw, .int .i64 (invS c s x)], .int .i64 (invR c x)]) ∧ Below w.heap.size w w' := inv_any c s x w
theorem rinv_lit (c : Wc) (s : Int) (x : Wc) (w : World) (hc : c.ok) (hx : x.ok) : Calls Try.prog 35 #[.agg #[.int .u32 c.n, .int .u8 c.b, .int .u8 c.l, .bool c.has, .string c.text, .bool c.rmw, .int .i64 s], .agg #[.int .u32 x.n, .int .u8 x.b, .int .u8 x.l, .bool x.has, .string x.text, .bool x.rmw, .int .i64 0]] w fun e w' => e = .returned (.tuple #[.agg #[.int .u32 (invW c x).n, .int .u8 (invW c x).b, .int .u8 (invW c x).l, .bool (invW c x).has, .string (invW c x).text, .bool (invW c x).rmw, .int .i64 (invS c s x)], .int .i64 (invR c x)]) ∧ Below w.heap.size w w' := rinv_any c s x 0 w hc hx
theorem val_lit (c : Wc) (s : Int) (x : Wc) (w : World) : Calls Try.prog 36 #[.agg #[.int .u32 c.n, .int .u8 c.b, .int .u8 c.l, .bool c.has, .string c.text, .bool c.rmw, .int .i64 s], .agg #[.int .u32 x.n, .int .u8 x.b, .int .u8 x.l]] w fun e w' => e = .returned (.tuple #[.agg #[.int .u32 c.n, .int .u8 c.b, .int .u8 c.l, .bool c.has, .string c.text, .bool c.rmw, .int .i64 (valS c s x)], .bool (valR c s x)]) ∧ Below w.heap.size w w' := val_any c s x w
theorem rval_lit (c : Wc) (s : Int) (x : Wc) (w : World) : Calls Try.prog 37 #[.agg #[.int .u32 c.n, .int .u8 c.b, .int .u8 c.l, .bool c.has, .string c.text, .bool c.rmw, .int .i64 s], .agg #[.int .u32 x.n, .int .u8 x.b, .int .u8 x.l]] w fun e w' => e = .returned (.tuple #[.agg #[.int .u32 c.n, .int .u8 c.b, .int .u8 c.l, .bool c.has, .string c.text, .bool c.rmw, .int .i64 (valS c s x)], .bool (valR c s x)]) ∧ Below w.heap.size w w' := rval17_any c s x w
theorem give_lit (c : Wc) (s : Int) (x : Wc) (v : Bool) (w : World) : Calls Try.prog 38 #[.agg #[.int .u32 c.n, .int .u8 c.b, .int .u8 c.l, .bool c.has, .string c.text, .bool c.rmw, .int .i64 s], .agg #[.int .u32 x.n, .int .u8 x.b, .int .u8 x.l, .bool x.has, .string x.text, .bool x.rmw], .bool v] w fun e w' => e = .returned (.tuple #[.agg #[.int .u32 (giveW c s x).n, .int .u8 (giveW c s x).b, .int .u8 (giveW c s x).l, .bool (giveW c s x).has, .string (giveW c s x).text, .bool (giveW c s x).rmw, .int .i64 (giveS c s x v)], .bool (giveR c s x v)]) ∧ Below w.heap.size w w' := give_any c s x v w
theorem rgive_lit (c : Wc) (s : Int) (x : Wc) (v : Bool) (w : World) (hc : c.ok) (hx : x.ok) : Calls Try.prog 39 #[.agg #[.int .u32 c.n, .int .u8 c.b, .int .u8 c.l, .bool c.has, .string c.text, .bool c.rmw, .int .i64 s], .agg #[.int .u32 x.n, .int .u8 x.b, .int .u8 x.l, .bool x.has, .string x.text, .bool x.rmw, .int .i64 0], .bool v] w fun e w' => e = .returned (.tuple #[.agg #[.int .u32 (giveW c s x).n, .int .u8 (giveW c s x).b, .int .u8 (giveW c s x).l, .bool (giveW c s x).has, .string (giveW c s x).text, .bool (giveW c s x).rmw, .int .i64 (giveS c s x v)], .bool (giveR c s x v)]) ∧ Below w.heap.size w w' := rgive_any c s x 0 v w hc hx
theorem invW_ok {c x : Wc} (hc : c.ok) (hx : x.ok) : (invW c x).ok := by unfold invW; split <;> assumption
theorem giveW_ok {c x : Wc} (s : Int) (hc : c.ok) (hx : x.ok) : (giveW c s x).ok := by unfold giveW; split <;> assumption
theorem bne_int (a : Int) : (a != a) = false := by simp
theorem bne_bool (a : Bool) : (a != a) = false := by cases a <;> rfl
/-- The list of acts: what each holds. -/
def Acts (w : World) (A : Option Addr) (n : Nat) (q : Nat → Int) (x : Nat → Wc) (v : Nat → Bool) : Prop :=
  0 < n → ∃ g off, A = some ⟨g, off, none⟩ ∧ g < w.heap.size ∧ ∀ i, i < n → (∀ j u, (#[.int .u8 (q i), .int .u32 (x i).n, .int .u8 (x i).b, .int .u8 (x i).l, .bool (x i).has, .bool (x i).rmw, .string (x i).text, .bool (v i)] : Array Value)[j]? = some u → w.cell? ⟨g, off + i * 8 + j, none⟩ = some u) ∧ (0 ≤ q i ∧ q i ≤ 255) ∧ (x i).ok
theorem acts_of {H : Type} {enc : TypeId × Value → H} {base : Nat} {spare : Nat → Bool} {held : Bool} {w : World} {A : Option Addr} {n : Nat} (h : 0 < n → ∃ g off, A = some ⟨g, off, none⟩ ∧ g < w.heap.size ∧
    ∀ i, i < n → ∀ (j : Nat) (s : Open.Shp), ([.int .u8, .int .u32, .int .u8, .int .u8, .bool, .bool, .str, .bool] : List Open.Shp)[j]? = some s → ∃ u, w.cell? ⟨g, off + (i * ([.int .u8, .int .u32, .int .u8, .int .u8, .bool, .bool, .str, .bool] : List Open.Shp).length + j), none⟩ = some u ∧ Open.CellOk enc Try.prog w base spare held s u) :
    ∃ q x v, Acts w A n q x v := by
  rcases Nat.eq_zero_or_pos n with h0 | h0
  · exact ⟨fun _ => 0, fun _ => ⟨0, 0, 0, false, ⟨#[]⟩, false⟩, fun _ => false, fun hn => by omega⟩
  · obtain ⟨g, off, rfl, hg, hc⟩ := h h0
    have hx : ∀ i, i < n → ∃ y : Int × Wc × Bool, (∀ j u, (#[.int .u8 y.1, .int .u32 y.2.1.n, .int .u8 y.2.1.b, .int .u8 y.2.1.l, .bool y.2.1.has, .bool y.2.1.rmw, .string y.2.1.text, .bool y.2.2] : Array Value)[j]? = some u → w.cell? ⟨g, off + i * 8 + j, none⟩ = some u) ∧ (0 ≤ y.1 ∧ y.1 ≤ 255) ∧ y.2.1.ok := by
      intro i hi
      obtain ⟨u0, e0, a0, rfl, w0⟩ := hc i hi 0 _ rfl
      obtain ⟨u1, e1, a1, rfl, w1⟩ := hc i hi 1 _ rfl
      obtain ⟨u2, e2, a2, rfl, w2⟩ := hc i hi 2 _ rfl
      obtain ⟨u3, e3, a3, rfl, w3⟩ := hc i hi 3 _ rfl
      obtain ⟨u4, e4, a4, rfl⟩ := hc i hi 4 _ rfl
      obtain ⟨u5, e5, a5, rfl⟩ := hc i hi 5 _ rfl
      obtain ⟨u6, e6, a6, rfl, _⟩ := hc i hi 6 _ rfl
      obtain ⟨u7, e7, a7, rfl⟩ := hc i hi 7 _ rfl
      refine ⟨(a0, ⟨a1, a2, a3, a4, a6, a5⟩, a7), fun j u hj => ?_, bounds_u8 w0, bounds_u32 w1, bounds_u8 w2, bounds_u8 w3⟩
      have e : off + i * 8 + j = off + (i * 8 + j) := by omega
      rw [e]
      match j, hj with
      | 0, hj => cases hj; exact e0
      | 1, hj => cases hj; exact e1
      | 2, hj => cases hj; exact e2
      | 3, hj => cases hj; exact e3
      | 4, hj => cases hj; exact e4
      | 5, hj => cases hj; exact e5
      | 6, hj => cases hj; exact e6
      | 7, hj => cases hj; exact e7
    have : Inhabited Wc := ⟨⟨0, 0, 0, false, ⟨#[]⟩, false⟩⟩
    obtain ⟨f, hf⟩ := Deep.choose_lt hx
    exact ⟨fun i => (f i).1, fun i => (f i).2.1, fun i => (f i).2.2, fun _ => ⟨g, off, rfl, hg, fun i hi => hf i hi⟩⟩
theorem Acts.at_ {w wr : World} {B : Nat} {g off : Nat} (Q : Int) (x : Wc) (V : Bool) (i : Nat) (hb : Below B w wr) (hg : g < B) (h : ∀ j u, (#[.int .u8 Q, .int .u32 x.n, .int .u8 x.b, .int .u8 x.l, .bool x.has, .bool x.rmw, .string x.text, .bool V] : Array Value)[j]? = some u → w.cell? ⟨g, off + i * 8 + j, none⟩ = some u) :
    wr.cell? ⟨g, off + i * 8, none⟩ = some (.int .u8 Q) ∧ wr.cell? ⟨g, off + i * 8 + 1, none⟩ = some (.int .u32 x.n) ∧ wr.cell? ⟨g, off + i * 8 + 2, none⟩ = some (.int .u8 x.b) ∧ wr.cell? ⟨g, off + i * 8 + 3, none⟩ = some (.int .u8 x.l) ∧
    wr.cell? ⟨g, off + i * 8 + 4, none⟩ = some (.bool x.has) ∧ wr.cell? ⟨g, off + i * 8 + 5, none⟩ = some (.bool x.rmw) ∧ wr.cell? ⟨g, off + i * 8 + 6, none⟩ = some (.string x.text) ∧ wr.cell? ⟨g, off + i * 8 + 7, none⟩ = some (.bool V) := by
  have e : ∀ o, wr.cell? ⟨g, o, none⟩ = w.cell? ⟨g, o, none⟩ := fun o => hb.cell (p := ⟨g, o, none⟩) hg
  simp only [e]
  exact ⟨h 0 _ rfl, h 1 _ rfl, h 2 _ rfl, h 3 _ rfl, h 4 _ rfl, h 5 _ rfl, h 6 _ rfl, h 7 _ rfl⟩
set_option maxRecDepth 100000 in
theorem walk (AA : Option Addr) (len cap : Nat) (q : Nat → Int) (xs : Nat → Wc) (vs : Nat → Bool) (w : World) (hl : len ≤ maxLen) (hacts : Acts w AA len q xs vs) :
    Calls Try.prog 8 #[.slice AA len cap] w fun e w' => e = .returned (.bool true) ∧ Below w.heap.size w w' := by
  unfold maxLen at hl
  have HA := Flow.hide hacts
  clear hacts
  go_enter Try.func8, Try.ntmps8
  go_wp2_with fail
  refine (speaks17 _).mono ?_
  rintro e w1 ⟨rfl, b1⟩
  go_wp2_with fail
  obtain ⟨cb, hcb⟩ : ∃ m, m = w1.heap.size := ⟨_, rfl⟩
  obtain ⟨mb, hmb⟩ : ∃ m, m = cb + 1 := ⟨_, rfl⟩
  obtain ⟨w3, hw3⟩ : ∃ w3, w3 = (w1.alloc (.cells #[.int .u32 0, .int .u8 0, .int .u8 0, .bool false, .string { data := #[] }, .bool false, .int .i64 0] 76)).alloc (.cells #[.int .u32 0, .int .u8 0, .int .u8 0, .bool false, .string { data := #[] }, .bool false, .int .i64 0] 79) := ⟨_, rfl⟩
  have hwc : w.heap.size ≤ cb := by rw [hcb]; exact b1.size
  have K3 : Flow.Blk w3 cb 76 (cc ⟨0, 0, 0, false, ⟨#[]⟩, false⟩ 0) := by rw [hw3, hcb]; exact (Flow.Blk.new _ _ _).alloc _
  have M3 : Flow.Blk w3 mb 79 (cc ⟨0, 0, 0, false, ⟨#[]⟩, false⟩ 0) := by
    have h := Flow.Blk.new (w1.alloc (.cells #[.int .u32 0, .int .u8 0, .int .u8 0, .bool false, .string { data := #[] }, .bool false, .int .i64 0] 76)) 79 #[.int .u32 0, .int .u8 0, .int .u8 0, .bool false, .string { data := #[] }, .bool false, .int .i64 0]
    rw [World.size_alloc, ← hcb, ← hmb, ← hw3] at h
    exact h
  have b3 : Below w.heap.size w w3 := by rw [hw3]; exact (b1.alloc b1.size _).alloc (by simp; have := b1.size; omega) _
  rw [← hw3, ← hcb, ← hmb]
  have K3 := Flow.hide K3
  have M3 := Flow.hide M3
  have b3 := Flow.hide b3
  have hcm : cb < mb := by omega
  clear hcb hmb hw3 b1
  go_loopw [5] (fun t5 wr => ∃ (k : Nat) (c : Wc) (s : Int), k ≤ len ∧ k ≤ 60 ∧ t5 = .int .i64 k ∧ c.ok ∧ Flow.Blk wr cb 76 (cc c s) ∧ Flow.Blk wr mb 79 (cc c s) ∧ Below w.heap.size w wr) (fun t5 _ => len - (intOf t5).toNat)
  case atStart => exact ⟨0, _, 0, by omega, by omega, rfl, ⟨by simp, by simp, by simp⟩, K3.out, M3.out, b3.out⟩
  case round =>
    obtain ⟨k, c, s, hk, hk60, rfl, ok0, K0, M0, B0⟩ := hrel
    have HK := Flow.hide K0
    have HM := Flow.hide M0
    have BW := Flow.hide B0
    have OKC := Flow.hide ok0
    clear K3 M3 b3 K0 M0 B0 ok0
    by_cases hlt : k < len ∧ k < 60
    · obtain ⟨hlt, hlt60⟩ := hlt
      obtain ⟨ab, aoff, rfl, hab, hcells⟩ := HA.out (by omega)
      obtain ⟨xc, xq, xok⟩ := hcells k hlt
      obtain ⟨y0, y1, y2, y3, y4, y5, y6, y7⟩ := Acts.at_ (q k) (xs k) (vs k) k BW.out hab xc
      generalize q k = Q at *
      generalize xs k = x at *
      generalize vs k = V at *
      have OKX := Flow.hide xok
      clear hcells xc xok
      have hxq := xq
      go_wp2_with fail
      (with_reducible refine (told_lit x _).mono ?_)
      rintro e w4 ⟨rfl, hb4⟩
      obtain ⟨KX, hB4, hz4⟩ := Flow.laid1 hb4
      clear hb4 y0 y1 y2 y3 y4 y5 y6 y7
      have HK4 := Flow.hide (HK.out.below hB4)
      have HM4 := Flow.hide (HM.out.below hB4)
      have B4 : Hid (Below w.heap.size w w4) := BW.out.trans (hB4.mono BW.out.size)
      have hcl : cb < w4.heap.size := HK4.out.lt
      have hml : mb < w4.heap.size := HM4.out.lt
      generalize wr.heap.size = xb at *
      clear hB4 HK HM BW
      have qc : ∀ i, w4.cell? ⟨cb, i, none⟩ = (#[.int .u32 c.n, .int .u8 c.b, .int .u8 c.l, .bool c.has, .string c.text, .bool c.rmw, .int .i64 s] : Array Value)[i]? := HK4.out.cell
      have qx := KX.cell
      have hxl : xb < w4.heap.size := KX.lt
      by_cases hq0 : Q % 3 = 0
      · have t1 : (Q % 3 == 0) = true := by simp [hq0]
        clear hq0
        have t3 := bne_int (invR c x)
        go_wp2_with fail
        (with_reducible refine (inv_lit c s x _).mono ?_)
        rintro e w6 ⟨rfl, hb6⟩
        obtain ⟨KW, KO, hB6, hz6⟩ := Flow.laid2 hb6
        have K6 := HK4.out.below hB6
        have M6 := HM4.out.below hB6
        have X6 := KX.below hB6
        have B6 : Hid (Below w.heap.size w w6) := B4.out.trans (hB6.mono B4.out.size)
        have hwl : w4.heap.size + 1 < w6.heap.size := KO.lt
        generalize w4.heap.size = wb at *
        clear hb6 hB6 HK4 HM4 B4 KX qc qx
        have fc := K6.frozen
        have qc := K6.cell
        have qm : ∀ i, w6.cell? ⟨mb, i, none⟩ = (#[.int .u32 c.n, .int .u8 c.b, .int .u8 c.l, .bool c.has, .string c.text, .bool c.rmw, .int .i64 s] : Array Value)[i]? := M6.cell
        have qo := KO.cell
        have qx := X6.cell
        simp only [cc] at qc
        go_wp2_with fail
        obtain ⟨w7, hw7⟩ : ∃ w7, w7 = (((((((w6.setCell ⟨cb, 0, none⟩ (.int .u32 (invW c x).n)).setCell ⟨cb, 1, none⟩ (.int .u8 (invW c x).b)).setCell ⟨cb, 2, none⟩ (.int .u8 (invW c x).l)).setCell ⟨cb, 3, none⟩ (.bool (invW c x).has)).setCell ⟨cb, 4, none⟩ (.string (invW c x).text)).setCell ⟨cb, 5, none⟩ (.bool (invW c x).rmw)).setCell ⟨cb, 6, none⟩ (.int .i64 (invS c s x))) := ⟨_, rfl⟩
        rw [← hw7]
        obtain ⟨K7, c7⟩ := Flow.store7 (b0 := .int .u32 (invW c x).n) (b1 := .int .u8 (invW c x).b) (b2 := .int .u8 (invW c x).l) (b3 := .bool (invW c x).has) (b4 := .string (invW c x).text) (b5 := .bool (invW c x).rmw) (b6 := .int .i64 (invS c s x)) K6
        rw [← hw7] at K7 c7
        have M7 := M6.chg c7 (by omega)
        have B7 : Hid (Below w.heap.size w w7) := B6.out.trans (c7.below (fun j _ e => by omega) B6.out.size)
        clear hw7 c7 fc qc qm qo qx K6 M6 X6 KO KW B6
        (with_reducible refine (rinv_lit c s x _ OKC.out OKX.out).mono ?_)
        rintro e w8 ⟨rfl, hb8⟩
        have K8 := K7.below hb8
        have M8 := M7.below hb8
        have B8 : Hid (Below w.heap.size w w8) := B7.out.trans (hb8.mono B7.out.size)
        clear hb8 K7 M7 B7
        have fm := M8.frozen
        have qm := M8.cell
        simp only [cc] at qm
        have qc := K8.cell
        go_wp2_with fail
        obtain ⟨w9, hw9⟩ : ∃ w9, w9 = (((((((w8.setCell ⟨mb, 0, none⟩ (.int .u32 (invW c x).n)).setCell ⟨mb, 1, none⟩ (.int .u8 (invW c x).b)).setCell ⟨mb, 2, none⟩ (.int .u8 (invW c x).l)).setCell ⟨mb, 3, none⟩ (.bool (invW c x).has)).setCell ⟨mb, 4, none⟩ (.string (invW c x).text)).setCell ⟨mb, 5, none⟩ (.bool (invW c x).rmw)).setCell ⟨mb, 6, none⟩ (.int .i64 (invS c s x))) := ⟨_, rfl⟩
        rw [← hw9]
        obtain ⟨M9, c9⟩ := Flow.store7 (b0 := .int .u32 (invW c x).n) (b1 := .int .u8 (invW c x).b) (b2 := .int .u8 (invW c x).l) (b3 := .bool (invW c x).has) (b4 := .string (invW c x).text) (b5 := .bool (invW c x).rmw) (b6 := .int .i64 (invS c s x)) M8
        rw [← hw9] at M9 c9
        have K9 := K8.chg c9 (by omega)
        have B9 : Hid (Below w.heap.size w w9) := B8.out.trans (c9.below (fun j _ e => by omega) B8.out.size)
        clear hw9 c9 fm qm qc K8 M8 B8
        (with_reducible refine (same_any (invW c x) (invS c s x) _).mono ?_)
        rintro e w10 ⟨rfl, hb10⟩
        have K10 := Flow.hide (K9.below hb10)
        have M10 := Flow.hide (M9.below hb10)
        have B10 : Hid (Below w.heap.size w w10) := B9.out.trans (hb10.mono B9.out.size)
        clear hb10 K9 M9 B9 t3
        go_wp2_with fail
        go_roundw
        case rel => exact ⟨k + 1, invW c x, invS c s x, by omega, by omega, by go_num, invW_ok OKC.out OKX.out, K10.out, M10.out, B10.out⟩
        case measure => simp [intOf]; omega
      · have t1 : (Q % 3 == 0) = false := by simp [hq0]
        by_cases hq1 : Q % 3 = 1
        · have t2 : (Q % 3 == 1) = true := by simp [hq1]
          clear hq0 hq1
          have t3 := bne_bool (valR c s x)
          go_wp2_with fail
          (with_reducible refine (val_lit c s x _).mono ?_)
          rintro e w6 ⟨rfl, hb6⟩
          obtain ⟨KW, KO, hB6, hz6⟩ := Flow.laid2 hb6
          have K6 := HK4.out.below hB6
          have M6 := HM4.out.below hB6
          have X6 := KX.below hB6
          have B6 : Hid (Below w.heap.size w w6) := B4.out.trans (hB6.mono B4.out.size)
          have hwl : w4.heap.size + 1 < w6.heap.size := KO.lt
          generalize w4.heap.size = wb at *
          clear hb6 hB6 HK4 HM4 B4 KX qc qx
          have fc := K6.frozen
          have qc := K6.cell
          have qm : ∀ i, w6.cell? ⟨mb, i, none⟩ = (#[.int .u32 c.n, .int .u8 c.b, .int .u8 c.l, .bool c.has, .string c.text, .bool c.rmw, .int .i64 s] : Array Value)[i]? := M6.cell
          have qo := KO.cell
          have qx := X6.cell
          simp only [cc] at qc
          go_wp2_with fail
          obtain ⟨w7, hw7⟩ : ∃ w7, w7 = (((((((w6.setCell ⟨cb, 0, none⟩ (.int .u32 (c).n)).setCell ⟨cb, 1, none⟩ (.int .u8 (c).b)).setCell ⟨cb, 2, none⟩ (.int .u8 (c).l)).setCell ⟨cb, 3, none⟩ (.bool (c).has)).setCell ⟨cb, 4, none⟩ (.string (c).text)).setCell ⟨cb, 5, none⟩ (.bool (c).rmw)).setCell ⟨cb, 6, none⟩ (.int .i64 (valS c s x))) := ⟨_, rfl⟩
          rw [← hw7]
          obtain ⟨K7, c7⟩ := Flow.store7 (b0 := .int .u32 (c).n) (b1 := .int .u8 (c).b) (b2 := .int .u8 (c).l) (b3 := .bool (c).has) (b4 := .string (c).text) (b5 := .bool (c).rmw) (b6 := .int .i64 (valS c s x)) K6
          rw [← hw7] at K7 c7
          have M7 := M6.chg c7 (by omega)
          have B7 : Hid (Below w.heap.size w w7) := B6.out.trans (c7.below (fun j _ e => by omega) B6.out.size)
          clear hw7 c7 fc qc qm qo qx K6 M6 X6 KO KW B6
          (with_reducible refine (rval_lit c s x _).mono ?_)
          rintro e w8 ⟨rfl, hb8⟩
          have K8 := K7.below hb8
          have M8 := M7.below hb8
          have B8 : Hid (Below w.heap.size w w8) := B7.out.trans (hb8.mono B7.out.size)
          clear hb8 K7 M7 B7
          have fm := M8.frozen
          have qm := M8.cell
          simp only [cc] at qm
          have qc := K8.cell
          go_wp2_with fail
          obtain ⟨w9, hw9⟩ : ∃ w9, w9 = (((((((w8.setCell ⟨mb, 0, none⟩ (.int .u32 (c).n)).setCell ⟨mb, 1, none⟩ (.int .u8 (c).b)).setCell ⟨mb, 2, none⟩ (.int .u8 (c).l)).setCell ⟨mb, 3, none⟩ (.bool (c).has)).setCell ⟨mb, 4, none⟩ (.string (c).text)).setCell ⟨mb, 5, none⟩ (.bool (c).rmw)).setCell ⟨mb, 6, none⟩ (.int .i64 (valS c s x))) := ⟨_, rfl⟩
          rw [← hw9]
          obtain ⟨M9, c9⟩ := Flow.store7 (b0 := .int .u32 (c).n) (b1 := .int .u8 (c).b) (b2 := .int .u8 (c).l) (b3 := .bool (c).has) (b4 := .string (c).text) (b5 := .bool (c).rmw) (b6 := .int .i64 (valS c s x)) M8
          rw [← hw9] at M9 c9
          have K9 := K8.chg c9 (by omega)
          have B9 : Hid (Below w.heap.size w w9) := B8.out.trans (c9.below (fun j _ e => by omega) B8.out.size)
          clear hw9 c9 fm qm qc K8 M8 B8
          (with_reducible refine (same_any (c) (valS c s x) _).mono ?_)
          rintro e w10 ⟨rfl, hb10⟩
          have K10 := Flow.hide (K9.below hb10)
          have M10 := Flow.hide (M9.below hb10)
          have B10 : Hid (Below w.heap.size w w10) := B9.out.trans (hb10.mono B9.out.size)
          clear hb10 K9 M9 B9 t3
          go_wp2_with fail
          go_roundw
          case rel => exact ⟨k + 1, c, valS c s x, by omega, by omega, by go_num, OKC.out, K10.out, M10.out, B10.out⟩
          case measure => simp [intOf]; omega
        · have t2 : (Q % 3 == 1) = false := by simp [hq1]
          clear hq0 hq1
          have t3 := bne_bool (giveR c s x V)
          go_wp2_with fail
          (with_reducible refine (give_lit c s x V _).mono ?_)
          rintro e w6 ⟨rfl, hb6⟩
          obtain ⟨KW, KO, hB6, hz6⟩ := Flow.laid2 hb6
          have K6 := HK4.out.below hB6
          have M6 := HM4.out.below hB6
          have X6 := KX.below hB6
          have B6 : Hid (Below w.heap.size w w6) := B4.out.trans (hB6.mono B4.out.size)
          have hwl : w4.heap.size + 1 < w6.heap.size := KO.lt
          generalize w4.heap.size = wb at *
          clear hb6 hB6 HK4 HM4 B4 KX qc qx
          have fc := K6.frozen
          have qc := K6.cell
          have qm : ∀ i, w6.cell? ⟨mb, i, none⟩ = (#[.int .u32 c.n, .int .u8 c.b, .int .u8 c.l, .bool c.has, .string c.text, .bool c.rmw, .int .i64 s] : Array Value)[i]? := M6.cell
          have qo := KO.cell
          have qx := X6.cell
          simp only [cc] at qc
          go_wp2_with fail
          obtain ⟨w7, hw7⟩ : ∃ w7, w7 = (((((((w6.setCell ⟨cb, 0, none⟩ (.int .u32 (giveW c s x).n)).setCell ⟨cb, 1, none⟩ (.int .u8 (giveW c s x).b)).setCell ⟨cb, 2, none⟩ (.int .u8 (giveW c s x).l)).setCell ⟨cb, 3, none⟩ (.bool (giveW c s x).has)).setCell ⟨cb, 4, none⟩ (.string (giveW c s x).text)).setCell ⟨cb, 5, none⟩ (.bool (giveW c s x).rmw)).setCell ⟨cb, 6, none⟩ (.int .i64 (giveS c s x V))) := ⟨_, rfl⟩
          rw [← hw7]
          obtain ⟨K7, c7⟩ := Flow.store7 (b0 := .int .u32 (giveW c s x).n) (b1 := .int .u8 (giveW c s x).b) (b2 := .int .u8 (giveW c s x).l) (b3 := .bool (giveW c s x).has) (b4 := .string (giveW c s x).text) (b5 := .bool (giveW c s x).rmw) (b6 := .int .i64 (giveS c s x V)) K6
          rw [← hw7] at K7 c7
          have M7 := M6.chg c7 (by omega)
          have B7 : Hid (Below w.heap.size w w7) := B6.out.trans (c7.below (fun j _ e => by omega) B6.out.size)
          clear hw7 c7 fc qc qm qo qx K6 M6 X6 KO KW B6
          (with_reducible refine (rgive_lit c s x V _ OKC.out OKX.out).mono ?_)
          rintro e w8 ⟨rfl, hb8⟩
          have K8 := K7.below hb8
          have M8 := M7.below hb8
          have B8 : Hid (Below w.heap.size w w8) := B7.out.trans (hb8.mono B7.out.size)
          clear hb8 K7 M7 B7
          have fm := M8.frozen
          have qm := M8.cell
          simp only [cc] at qm
          have qc := K8.cell
          go_wp2_with fail
          obtain ⟨w9, hw9⟩ : ∃ w9, w9 = (((((((w8.setCell ⟨mb, 0, none⟩ (.int .u32 (giveW c s x).n)).setCell ⟨mb, 1, none⟩ (.int .u8 (giveW c s x).b)).setCell ⟨mb, 2, none⟩ (.int .u8 (giveW c s x).l)).setCell ⟨mb, 3, none⟩ (.bool (giveW c s x).has)).setCell ⟨mb, 4, none⟩ (.string (giveW c s x).text)).setCell ⟨mb, 5, none⟩ (.bool (giveW c s x).rmw)).setCell ⟨mb, 6, none⟩ (.int .i64 (giveS c s x V))) := ⟨_, rfl⟩
          rw [← hw9]
          obtain ⟨M9, c9⟩ := Flow.store7 (b0 := .int .u32 (giveW c s x).n) (b1 := .int .u8 (giveW c s x).b) (b2 := .int .u8 (giveW c s x).l) (b3 := .bool (giveW c s x).has) (b4 := .string (giveW c s x).text) (b5 := .bool (giveW c s x).rmw) (b6 := .int .i64 (giveS c s x V)) M8
          rw [← hw9] at M9 c9
          have K9 := K8.chg c9 (by omega)
          have B9 : Hid (Below w.heap.size w w9) := B8.out.trans (c9.below (fun j _ e => by omega) B8.out.size)
          clear hw9 c9 fm qm qc K8 M8 B8
          (with_reducible refine (same_any (giveW c s x) (giveS c s x V) _).mono ?_)
          rintro e w10 ⟨rfl, hb10⟩
          have K10 := Flow.hide (K9.below hb10)
          have M10 := Flow.hide (M9.below hb10)
          have B10 : Hid (Below w.heap.size w w10) := B9.out.trans (hb10.mono B9.out.size)
          clear hb10 K9 M9 B9 t3
          go_wp2_with fail
          go_roundw
          case rel => exact ⟨k + 1, giveW c s x, giveS c s x V, by omega, by omega, by go_num, giveW_ok s OKC.out OKX.out, K10.out, M10.out, B10.out⟩
          case measure => simp [intOf]; omega
    · by_cases hlen : k < len
      · obtain rfl : k = 60 := by omega
        go_wp2_with fail
        go_ret
        exact ⟨rfl, BW.out⟩
      · go_wp2_with fail
        go_ret
        exact ⟨rfl, BW.out⟩

theorem own : ownKnob Try.prog.godebug = none := by kernel_rfl
theorem laidOut : laidOutB Try.prog = true := by kernel_rfl

set_option maxRecDepth 100000 in
theorem lifted (os : Os) (started : os.Started) (H : Type) (enc : TypeId × Value → H) :
    ReturnsInHanded {} Try.checked os 8 .any (Rows.cellPlaysSpec.pre6 enc Try.prog Try.f8 Rows.cellPlaysRow.domain false) (Rows.cellPlaysSpec.post enc Try.prog Try.f8 false true false false) := by
  refine returnsInHanded_of_change (C := Try.checked) own started (by kernel_rfl) Try.func8
    (ChangeSpec.witness6 (enc := enc) (C := Try.checked) false ⟨#[], #[.slice none 0 0], []⟩ 8 (by kernel_rfl) (by kernel_rfl) (by kernel_rfl) (by kernel_rfl)) ?_
  intro W base args ds gs before hval0 hW hcnd _
  have hval : ∀ (j : Nat) t v, Try.f8.params[j]? = some t → args[j]? = some v → Value.okWide Try.prog W .any base t v := hval0
  have hW' := hW
  obtain ⟨p, q, hA0, hV, rfl, hfz, hnd⟩ := hW
  have hA : DataW.TrodAll enc Try.prog W 0 (fun _ => true) true Try.f8.params.toList args.toList ds p := hA0
  rw [Try.params8] at hA hval
  obtain ⟨v0, d0, hargs, rfl, h0⟩ := trodAll_one hA
  obtain ⟨rfl, rfl⟩ := trodVars_none hV
  subst hargs
  obtain ⟨A0, n0, c0, rfl, hl0, _, hr0⟩ := Open.open_rows_arg 30 (ss := [.int .u8, .int .u32, .int .u8, .int .u8, .bool, .bool, .str, .bool]) Try.underlying70 (by kernel_rfl) (by decide) (by kernel_rfl) (hval 0 70 v0 rfl rfl) h0
  obtain ⟨q0, x0, v0, ha0⟩ := acts_of hr0
  clear hA0 hval0
  refine (walk A0 n0 c0 q0 x0 v0 W hl0 ha0).mono fun e W' ⟨he, hb⟩ => ?_
  subst he
  exact ⟨_, rfl, Open.law_post laidOut (by kernel_rfl) (by kernel_rfl) Try.underlying4 rfl rfl hW' hb⟩

theorem over : Rows.cellPlaysRow.holds Try.pinned (OpenSpec.ofChange Rows.cellPlaysSpec) :=
  OpenClaim.holds_of_wide 8 Try.f8 rfl rfl rfl rfl rfl rfl rfl ⟨rfl, rfl, rfl, rfl, rfl⟩ rfl rfl rfl rfl rfl (by kernel_rfl) Try.func8 (by kernel_rfl)
    (of_decide_eq_true (by kernel_rfl)) (by unfold Func.isWrapper; first | (rw [if_pos (by decide +kernel)]; kernel_rfl) | (rw [if_neg (by decide +kernel)]; exact ⟨rfl, rfl⟩))
    (fun os started H enc _ => lifted os started H enc)

theorem proved : Rows.CellPlaysSaid := over
#print axioms proved
end Go.Proofs.Ythkphapmnlndbab.CPlays
