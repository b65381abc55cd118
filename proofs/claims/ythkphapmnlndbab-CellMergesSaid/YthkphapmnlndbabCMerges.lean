/- CellMerges: for every list of acts and of turns the law returns true and leaves its arguments as they were. No condition. -/
import Derived.Test.YthkphapmnlndbabRows
import Derived.Test.YthkphapmnlndbabCPut
import Derived.Test.YthkphapmnlndbabOpen2
import Derived.Laws.AppendOwn
import Derived.Test.YthkphapmnlndbabChain
import Derived.Deep.DeepCutAuto
import Derived.Deep.CutBlock
namespace Go.Proofs.Ythkphapmnlndbab.CMerges
open Go.ChangeShapes Go.WideShapes Go.ChangeAt Go.RowKit
set_option maxHeartbeats 4000000
set_option linter.unusedSimpArgs false
attribute [local irreducible] Flow.wpSeg Flow.wpF Flow.wpG Flow.wpS
/-- The list of acts: what each holds. -/
def Acts (w : World) (A : Option Addr) (n : Nat) (q : Nat → Int) (x : Nat → Wc) (v : Nat → Bool) : Prop :=
  0 < n → ∃ g off, A = some ⟨g, off, none⟩ ∧ g < w.heap.size ∧ ∀ i, i < n → (∀ j u, (#[.int .u8 (q i), .int .u32 (x i).n, .int .u8 (x i).b, .int .u8 (x i).l, .bool (x i).has, .bool (x i).rmw, .string (x i).text, .bool (v i)] : Array Value)[j]? = some u → w.cell? ⟨g, off + i * 8 + j, none⟩ = some u) ∧ (0 ≤ q i ∧ q i ≤ 255) ∧ (x i).ok
theorem acts_of {H : Type} {enc : TypeId × Value → H} {base : Nat} {spare : Nat → Bool} {held : Bool} {w : World} {A : Option Addr} {n : Nat} (h : 0 < n → ∃ g off, A = some ⟨g, off, none⟩ ∧ g < w.heap.size ∧
    ∀ i, i < n → ∀ (j : Nat) (s : Open.Shp), ([.int .u8, .int .u32, .int .u8, .int .u8, .bool, .bool, .str, .bool] : List Open.Shp)[j]? = some s → ∃ u, w.cell? ⟨g, off + (i * ([.int .u8, .int .u32, .int .u8, .int .u8, .bool, .bool, .str, .bool] : List Open.Shp).length + j), none⟩ = some u ∧ Open.CellOk enc Try.prog w base spare held s u) :
    ∃ q x v, Acts w A n q x v := by
  rcases Nat.eq_zero_or_pos n with h0 | h0
  · exact ⟨fun _ => 0, fun _ => ⟨0, 0, 0, false, ⟨#[]⟩, false⟩, fun _ => false, fun hn => by omega⟩
  · obtain ⟨g, off, rfl, hg, hc⟩ := h h0
    have hx : ∀ i, i < n → ∃ y : Int × Wc × Bool, (∀ j u, (#[.int .u8 y.1, .int .u32 y.2.1.n, .int .u8 y.2.1.b, .int .u8 y.2.1.l, .bool y.2.1.has, .bool y.2.1.rmw, .string y.2.1.text, .bool y.2.2] : Array Value)[j]? = some u → w.cell? ⟨g, off + i * 8 + j, none⟩ = some u) ∧ (0 ≤ y.1 ∧ y.1 ≤ 255) ∧ y.2.1.ok := by
      intro i hi
      obtain ⟨u0, e0, a0, rfl, w0⟩ := hc i hi 0 _ rfl
      obtain ⟨u1, e1, a1, rfl, w1⟩ := hc i hi 1 _ rfl
      obtain ⟨u2, e2, a2, rfl, w2⟩ := hc i hi 2 _ rfl
      obtain ⟨u3, e3, a3, rfl, w3⟩ := hc i hi 3 _ rfl
      obtain ⟨u4, e4, a4, rfl⟩ := hc i hi 4 _ rfl
      obtain ⟨u5, e5, a5, rfl⟩ := hc i hi 5 _ rfl
      obtain ⟨u6, e6, a6, rfl, _⟩ := hc i hi 6 _ rfl
      obtain ⟨u7, e7, a7, rfl⟩ := hc i hi 7 _ rfl
      refine ⟨(a0, ⟨a1, a2, a3, a4, a6, a5⟩, a7), fun j u hj => ?_, bounds_u8 w0, bounds_u32 w1, bounds_u8 w2, bounds_u8 w3⟩
      have e : off + i * 8 + j = off + (i * 8 + j) := by omega
      rw [e]
      match j, hj with
      | 0, hj => cases hj; exact e0
      | 1, hj => cases hj; exact e1
      | 2, hj => cases hj; exact e2
      | 3, hj => cases hj; exact e3
      | 4, hj => cases hj; exact e4
      | 5, hj => cases hj; exact e5
      | 6, hj => cases hj; exact e6
      | 7, hj => cases hj; exact e7
    have : Inhabited Wc := ⟨⟨0, 0, 0, false, ⟨#[]⟩, false⟩⟩
    obtain ⟨f, hf⟩ := Deep.choose_lt hx
    exact ⟨fun i => (f i).1, fun i => (f i).2.1, fun i => (f i).2.2, fun _ => ⟨g, off, rfl, hg, fun i hi => hf i hi⟩⟩
theorem Acts.at_ {w wr : World} {B : Nat} {g off : Nat} (Q : Int) (x : Wc) (V : Bool) (i : Nat) (hb : Below B w wr) (hg : g < B) (h : ∀ j u, (#[.int .u8 Q, .int .u32 x.n, .int .u8 x.b, .int .u8 x.l, .bool x.has, .bool x.rmw, .string x.text, .bool V] : Array Value)[j]? = some u → w.cell? ⟨g, off + i * 8 + j, none⟩ = some u) :
    wr.cell? ⟨g, off + i * 8, none⟩ = some (.int .u8 Q) ∧ wr.cell? ⟨g, off + i * 8 + 1, none⟩ = some (.int .u32 x.n) ∧ wr.cell? ⟨g, off + i * 8 + 2, none⟩ = some (.int .u8 x.b) ∧ wr.cell? ⟨g, off + i * 8 + 3, none⟩ = some (.int .u8 x.l) ∧
    wr.cell? ⟨g, off + i * 8 + 4, none⟩ = some (.bool x.has) ∧ wr.cell? ⟨g, off + i * 8 + 5, none⟩ = some (.bool x.rmw) ∧ wr.cell? ⟨g, off + i * 8 + 6, none⟩ = some (.string x.text) ∧ wr.cell? ⟨g, off + i * 8 + 7, none⟩ = some (.bool V) := by
  have e : ∀ o, wr.cell? ⟨g, o, none⟩ = w.cell? ⟨g, o, none⟩ := fun o => hb.cell (p := ⟨g, o, none⟩) hg
  simp only [e]
  exact ⟨h 0 _ rfl, h 1 _ rfl, h 2 _ rfl, h 3 _ rfl, h 4 _ rfl, h 5 _ rfl, h 6 _ rfl, h 7 _ rfl⟩

/-! ### The plain law -/
theorem eql74 (c d : Wc) (w : World) (h : c = d) : (binOp .eql 74 (.agg #[.int .u32 c.n, .int .u8 c.b, .int .u8 c.l, .bool c.has, .string c.text, .bool c.rmw]) (.agg #[.int .u32 d.n, .int .u8 d.b, .int .u8 d.l, .bool d.has, .string d.text, .bool d.rmw])).run Try.prog w = .ok (.bool true) w := by
  subst h
  go_simp
def putW (Q : Int) (c : Wc) (s : Int) (x : Wc) : Wc := if (bits BinOp.and IntKind.u8 Q 1 == 0) = true then invW c x else giveW c s x
def putS (Q : Int) (V : Bool) (c : Wc) (s : Int) (x : Wc) : Int := if (bits BinOp.and IntKind.u8 Q 1 == 0) = true then invS c s x else giveS c s x V
theorem put_any (c : Wc) (s : Int) (Q : Int) (x : Wc) (V : Bool) (w : World) (hQ : 0 ≤ Q ∧ Q ≤ 255) :
    Calls Try.prog 41 #[.agg #[.int .u32 c.n, .int .u8 c.b, .int .u8 c.l, .bool c.has, .string c.text, .bool c.rmw, .int .i64 s], .agg #[.int .u8 Q, .int .u32 x.n, .int .u8 x.b, .int .u8 x.l, .bool x.has, .bool x.rmw, .string x.text, .bool V]] w fun e w' => e = .returned (.agg #[.int .u32 (putW Q c s x).n, .int .u8 (putW Q c s x).b, .int .u8 (putW Q c s x).l, .bool (putW Q c s x).has, .string (putW Q c s x).text, .bool (putW Q c s x).rmw, .int .i64 (putS Q V c s x)]) ∧ Below w.heap.size w w' := by
  unfold putW putS
  rcases h : (bits BinOp.and IntKind.u8 Q 1 == 0) with _ | _
  · exact put_give c s Q x V w h hQ
  · exact put_inv c s Q x V w h hQ
/-- The words, each with a number of its own. -/
def W (x : Nat → Wc) (i : Nat) : Wc := { x i with n := (i : Int) + 1 }
/-- The cell holds the greatest of the first m words. -/
def At (x : Nat → Wc) (m : Nat) (c : Wc) (s : Int) : Prop := (m = 0 ∧ c = c0 ∧ s = 0) ∨ (0 < m ∧ c = W x (m - 1) ∧ s ≠ 0)
theorem ltW_W (x : Nat → Wc) (i j : Nat) : ltW (W x i) (W x j) = decide (i < j) := by
  by_cases h : i = j
  · subst h; simp [ltW, slt]
  · simp only [ltW, slt, W]
    exact decide_eq_decide.2 (by omega)
theorem ltW_c0 (x : Nat → Wc) (j : Nat) : ltW c0 (W x j) = true := by
  simp only [ltW, slt, W, c0]
  exact decide_eq_true (by omega)
theorem At.put {x : Nat → Wc} {m : Nat} {c : Wc} {s : Int} (h : At x m c s) (Q : Int) (V : Bool) (j : Nat) : At x (max m (j + 1)) (putW Q c s (W x j)) (putS Q V c s (W x j)) := by
  unfold putW putS invW invS giveW giveS giveT valS
  rcases h with ⟨rfl, rfl, rfl⟩ | ⟨hm, rfl, hs⟩
  · refine .inr ⟨by omega, ?_, ?_⟩
    · rw [show max 0 (j + 1) - 1 = j by omega]
      simp [ltW_c0]
    · simp only [ltW_c0, decide_true, Bool.true_or, if_true]
      split
      · decide
      · split <;> decide
  · refine .inr ⟨by omega, ?_, ?_⟩
    · by_cases hlt : m - 1 < j
      · rw [show max m (j + 1) - 1 = j by omega]
        simp [ltW_W, hlt]
      · rw [show max m (j + 1) - 1 = m - 1 by omega]
        simp [ltW_W, hlt, hs]
    · by_cases hlt : m - 1 < j
      · simp only [ltW_W, hlt, decide_true, Bool.or_true, if_true]
        split
        · decide
        · split <;> decide
      · simp only [ltW_W, hlt, hs, decide_false, Bool.or_false, Bool.false_eq_true, if_false]
        split
        · exact hs
        · split
          · split
            · decide
            · exact hs
          · exact hs
theorem At.full {x : Nat → Wc} {m n : Nat} {c : Wc} {s : Int} (h : At x m c s) (hm : m ≤ n) (Q : Int) (V : Bool) (hn : 0 < n) : At x n (putW Q c s (W x (n - 1))) (putS Q V c s (W x (n - 1))) := by
  have := h.put Q V (n - 1)
  rwa [show max m (n - 1 + 1) = n by omega] at this
theorem At.word {x : Nat → Wc} {m : Nat} {c d : Wc} {s r : Int} (h : At x m c s) (k : At x m d r) : c = d := by
  rcases h with ⟨h0, rfl, _⟩ | ⟨h0, rfl, _⟩ <;> rcases k with ⟨k0, rfl, _⟩ | ⟨k0, rfl, _⟩ <;> first | rfl | omega
theorem At.num {x : Nat → Wc} {m : Nat} {c : Wc} {s : Int} (h : At x m c s) (hm : 0 < m) : c.n = m := by
  rcases h with ⟨h0, _⟩ | ⟨_, rfl, _⟩
  · omega
  · simp only [W]; omega
/-- The acts in the block of the call's own; the first k have their numbers. -/
def xk (x : Nat → Wc) (k i : Nat) : Wc := if i < k then W x i else x i
def Rows (w : World) (g n : Nat) (q : Nat → Int) (x : Nat → Wc) (v : Nat → Bool) : Prop :=
  g < w.heap.size ∧ (∀ i, i < n → ∀ j u, (#[.int .u8 (q i), .int .u32 (x i).n, .int .u8 (x i).b, .int .u8 (x i).l, .bool (x i).has, .bool (x i).rmw, .string (x i).text, .bool (v i)] : Array Value)[j]? = some u → w.cell? ⟨g, i * 8 + j, none⟩ = some u) ∧ ∀ o, w.frozen? ⟨g, o, none⟩ = false
theorem Rows.chg {S : Nat → Prop} {w w' : World} {g n : Nat} {q : Nat → Int} {x : Nat → Wc} {v : Nat → Bool} (h : Rows w g n q x v) (hc : Flow.Chg S w w') (hg : ¬ S g) : Rows w' g n q x v := by
  have hb := hc.block g h.1 hg
  exact ⟨Nat.lt_of_lt_of_le h.1 hc.size, fun i hi j u hu => (World.cell?_of_block (a := ⟨g, i * 8 + j, none⟩) hb).trans (h.2.1 i hi j u hu), fun o => (World.frozen?_of_block (a := ⟨g, o, none⟩) hb).trans (h.2.2 o)⟩
theorem Rows.below {w w' : World} {g n : Nat} {q : Nat → Int} {x : Nat → Wc} {v : Nat → Bool} (h : Rows w g n q x v) (hb : Below w.heap.size w w') : Rows w' g n q x v := h.chg (Flow.Chg.of_below hb) (fun e => e)
theorem Rows.number {w : World} {g n k : Nat} {q : Nat → Int} {x : Nat → Wc} {v : Nat → Bool} (h : Rows w g n q (xk x k) v) (hk : k < n) : Rows (w.setCell ⟨g, k * 8 + 1, none⟩ (.int .u32 ((k : Int) + 1))) g n q (xk x (k + 1)) v := by
  refine ⟨by rw [World.size_setCell]; exact h.1, fun i hi j u hu => ?_, fun o => by rw [World.frozen?_setCell]; exact h.2.2 o⟩
  by_cases hij : i = k ∧ j = 1
  · obtain ⟨rfl, rfl⟩ := hij
    have hs : (w.cell? ⟨g, i * 8 + 1, none⟩).isSome = true := by rw [h.2.1 i hi 1 _ rfl]; rfl
    obtain ⟨z, hz⟩ := Option.isSome_iff_exists.1 hs
    rw [World.cell?_setCell_same _ _ _ hz, ← hu]
    simp [xk, W]
  · have hne : i * 8 + j ≠ k * 8 + 1 := by
      have hj : j < 8 := by have := (Array.getElem?_eq_some_iff.1 hu).1; simpa using this
      omega
    rw [World.cell?_setCell_other _ _ _ _ (by simp <;> omega)]
    refine h.2.1 i hi j u ?_
    rw [← hu]
    by_cases hk' : i = k
    · subst hk'
      have h1 : j ≠ 1 := fun e => hij ⟨rfl, e⟩
      match j, h1 with
      | 0, _ => simp [xk]
      | 2, _ => simp [xk, W]
      | 3, _ => simp [xk, W]
      | 4, _ => simp [xk, W]
      | 5, _ => simp [xk, W]
      | 6, _ => simp [xk, W]
      | 7, _ => simp [xk]
      | j + 8, _ => simp
    · have : xk x (k + 1) i = xk x k i := by unfold xk; by_cases hlt : i < k <;> simp [hlt] <;> omega
      rw [this]
theorem Rows.at_ {w : World} {g n : Nat} {q : Nat → Int} {x : Nat → Wc} {v : Nat → Bool} (h : Rows w g n q x v) (i : Nat) (hi : i < n) :
    w.cell? ⟨g, i * 8, none⟩ = some (.int .u8 (q i)) ∧ w.cell? ⟨g, i * 8 + 1, none⟩ = some (.int .u32 (x i).n) ∧ w.cell? ⟨g, i * 8 + 2, none⟩ = some (.int .u8 (x i).b) ∧ w.cell? ⟨g, i * 8 + 3, none⟩ = some (.int .u8 (x i).l) ∧
    w.cell? ⟨g, i * 8 + 4, none⟩ = some (.bool (x i).has) ∧ w.cell? ⟨g, i * 8 + 5, none⟩ = some (.bool (x i).rmw) ∧ w.cell? ⟨g, i * 8 + 6, none⟩ = some (.string (x i).text) ∧ w.cell? ⟨g, i * 8 + 7, none⟩ = some (.bool (v i)) :=
  ⟨h.2.1 i hi 0 _ rfl, h.2.1 i hi 1 _ rfl, h.2.1 i hi 2 _ rfl, h.2.1 i hi 3 _ rfl, h.2.1 i hi 4 _ rfl, h.2.1 i hi 5 _ rfl, h.2.1 i hi 6 _ rfl, h.2.1 i hi 7 _ rfl⟩
theorem info83 : (Try.prog.info? 83).map (fun i => (i.zero, i.size, i.bytes)) = some (some (.agg #[.int .u8 0, .int .u32 0, .int .u8 0, .int .u8 0, .bool false, .bool false, .string ⟨#[]⟩, .bool false]), 8, 40) := by kernel_rfl
def act8 (q : Int) (x : Wc) (v : Bool) : List Value := [.int .u8 q, .int .u32 x.n, .int .u8 x.b, .int .u8 x.l, .bool x.has, .bool x.rmw, .string x.text, .bool v]
def actsOf (m : Nat) (q : Nat → Int) (x : Nat → Wc) (v : Nat → Bool) : List Value := (List.range (m * 8)).map fun j => (act8 (q (j / 8)) (x (j / 8)) (v (j / 8))).getD (j % 8) (.bool false)
theorem actsOf_length (m : Nat) (q : Nat → Int) (x : Nat → Wc) (v : Nat → Bool) : (actsOf m q x v).length = m * 8 := by simp [actsOf]
theorem actsOf_one (m : Nat) (q : Nat → Int) (x : Nat → Wc) (v : Nat → Bool) : ∀ u ∈ actsOf m q x v, u.oneCell' = true := by
  intro u hu
  obtain ⟨j, _, rfl⟩ := List.mem_map.1 hu
  have h8 : j % 8 < 8 := Nat.mod_lt _ (by omega)
  match j % 8, h8 with
  | 0, _ => rfl
  | 1, _ => rfl
  | 2, _ => rfl
  | 3, _ => rfl
  | 4, _ => rfl
  | 5, _ => rfl
  | 6, _ => rfl
  | 7, _ => rfl
theorem actsOf_get (m : Nat) (q : Nat → Int) (x : Nat → Wc) (v : Nat → Bool) (i j : Nat) (hi : i < m) {u : Value} (hu : (act8 (q i) (x i) (v i))[j]? = some u) : (actsOf m q x v)[i * 8 + j]? = some u := by
  have hj : j < 8 := by have := (List.getElem?_eq_some_iff.1 hu).1; simpa [act8] using this
  unfold actsOf
  rw [List.getElem?_map, List.getElem?_range (by omega)]
  simp only [Option.map_some]
  rw [show (i * 8 + j) / 8 = i by omega, show (i * 8 + j) % 8 = j by omega, List.getD_eq_getElem?_getD, hu]
  rfl
theorem actsOf_news {w : World} {g off n : Nat} {q : Nat → Int} {x : Nat → Wc} {v : Nat → Bool} (m : Nat) (hm : m ≤ n) (h : ∀ i, i < n → ∀ j u, (#[.int .u8 (q i), .int .u32 (x i).n, .int .u8 (x i).b, .int .u8 (x i).l, .bool (x i).has, .bool (x i).rmw, .string (x i).text, .bool (v i)] : Array Value)[j]? = some u → w.cell? ⟨g, off + i * 8 + j, none⟩ = some u) :
    ∀ j u, (actsOf m q x v)[j]? = some u → w.cell? ((⟨g, off, none⟩ : Addr).add j) = some u := by
  intro j u hu
  have hj : j < m * 8 := by have := (List.getElem?_eq_some_iff.1 hu).1; rwa [actsOf_length] at this
  have e : j = j / 8 * 8 + j % 8 := by omega
  rw [e] at hu
  have h8 : j % 8 < 8 := Nat.mod_lt _ (by omega)
  obtain ⟨z, hz⟩ : ∃ z, (act8 (q (j / 8)) (x (j / 8)) (v (j / 8)))[j % 8]? = some z := ⟨_, List.getElem?_eq_getElem (by simpa [act8] using h8)⟩
  rw [actsOf_get m q x v (j / 8) (j % 8) (by omega) hz] at hu
  cases hu
  have hadd : (⟨g, off, none⟩ : Addr).add j = ⟨g, off + j / 8 * 8 + j % 8, none⟩ := by unfold Addr.add; split <;> simp <;> omega
  rw [hadd]
  exact h (j / 8) (by omega) (j % 8) u (by simpa [act8] using hz)
theorem Rows.of_own {w : World} {base m : Nat} {v' : Value} {q : Nat → Int} {x : Nat → Wc} {v : Nat → Bool} (h : w.ownsRow base 83 8 v' m (actsOf m q x v)) :
    ∃ A g cap, v' = .slice A m cap ∧ m ≤ cap ∧ (0 < m → A = some ⟨g, 0, none⟩ ∧ base ≤ g ∧ Rows w g m q x v) := by
  rcases Nat.eq_zero_or_pos m with rfl | hm
  · obtain ⟨A, cap, rfl, hmc, _⟩ := Flow.ownsRow_form h
    exact ⟨A, 0, cap, rfl, hmc, fun h => by omega⟩
  · obtain ⟨g, cap, rfl, hb, hlt, hmc, hc, hf⟩ := Flow.ownsRow_at h hm
    refine ⟨_, g, cap, rfl, hmc, fun _ => ⟨rfl, hb, hlt, fun i hi j u hu => ?_, hf⟩⟩
    have hj : j < 8 := by have := (Array.getElem?_eq_some_iff.1 hu).1; simpa using this
    rw [hc _ (by omega)]
    exact actsOf_get m q x v i j hi (by simpa [act8] using hu)
theorem Rows.congr {w : World} {g n : Nat} {q : Nat → Int} {x x' : Nat → Wc} {v : Nat → Bool} (h : Rows w g n q x v) (e : ∀ i, i < n → x i = x' i) : Rows w g n q x' v :=
  ⟨h.1, fun i hi j u hu => h.2.1 i hi j u (by rw [e i hi]; exact hu), h.2.2⟩
theorem xk0 (x : Nat → Wc) : xk x 0 = x := by funext i; simp [xk]
theorem xkn (x : Nat → Wc) (n : Nat) : ∀ i, i < n → xk x n i = W x i := fun i hi => by simp [xk, hi]
/-- A slice of bytes that came in. -/
theorem bytes_of {H : Type} {enc : TypeId × Value → H} {base : Nat} {spare : Nat → Bool} {held : Bool} {w : World} {A : Option Addr} {n : Nat} (h : 0 < n → ∃ g off, A = some ⟨g, off, none⟩ ∧ g < w.heap.size ∧
    ∀ i, i < n → ∀ (j : Nat) (s : Open.Shp), ([.int .u8] : List Open.Shp)[j]? = some s → ∃ u, w.cell? ⟨g, off + (i * ([.int .u8] : List Open.Shp).length + j), none⟩ = some u ∧ Open.CellOk enc Try.prog w base spare held s u) :
    ∃ ts : Nat → Int, 0 < n → ∃ g off, A = some ⟨g, off, none⟩ ∧ g < w.heap.size ∧ ∀ i, i < n → w.cell? ⟨g, off + i, none⟩ = some (.int .u8 (ts i)) ∧ 0 ≤ ts i ∧ ts i ≤ 255 := by
  rcases Nat.eq_zero_or_pos n with h0 | h0
  · exact ⟨fun _ => 0, fun hn => by omega⟩
  · obtain ⟨g, off, rfl, hg, hc⟩ := h h0
    have hx : ∀ i, i < n → ∃ y : Int, w.cell? ⟨g, off + i, none⟩ = some (.int .u8 y) ∧ 0 ≤ y ∧ y ≤ 255 := by
      intro i hi
      obtain ⟨u0, e0, a0, rfl, w0⟩ := hc i hi 0 _ rfl
      have e : off + (i * ([.int .u8] : List Open.Shp).length + 0) = off + i := by simp
      rw [e] at e0
      exact ⟨a0, e0, bounds_u8 w0⟩
    obtain ⟨f, hf⟩ := Deep.choose_lt hx
    exact ⟨f, fun _ => ⟨g, off, rfl, hg, hf⟩⟩
set_option maxRecDepth 100000 in
theorem walk (AA : Option Addr) (len cap : Nat) (q : Nat → Int) (xs : Nat → Wc) (vs : Nat → Bool) (AT : Option Addr) (tl tc : Nat) (ts : Nat → Int) (w : World) (hl : len ≤ maxLen) (hlc : len ≤ cap) (hacts : Acts w AA len q xs vs) (hnone : AA = none → len = 0 ∧ cap = 0)
    (htl : tl ≤ maxLen) (hts : 0 < tl → ∃ g off, AT = some ⟨g, off, none⟩ ∧ g < w.heap.size ∧ ∀ i, i < tl → w.cell? ⟨g, off + i, none⟩ = some (.int .u8 (ts i)) ∧ 0 ≤ ts i ∧ ts i ≤ 255) :
    Calls Try.prog 10 #[.slice AA len cap, .slice AT tl tc] w fun e w' => e = .returned (.bool true) ∧ Below w.heap.size w w' := by
  unfold maxLen at hl htl
  obtain ⟨m, hm⟩ : ∃ m, m = if 12 < len then 12 else len := ⟨_, rfl⟩
  have hm12 : m ≤ 12 := by rw [hm]; split <;> omega
  have hml : m ≤ len := by rw [hm]; split <;> omega
  have hmq : ∀ k, k < m → 0 ≤ q k ∧ q k ≤ 255 := fun k hk => by
    obtain ⟨_, _, _, _, hc⟩ := hacts (by omega)
    exact (hc k (by omega)).2.1
  have HM := Flow.hide hm
  have HQ := Flow.hide hmq
  have HT := Flow.hide hts
  have HA := Flow.hide hacts
  have h74 := eql74
  clear hacts hm hmq hts
  obtain ⟨i0, hi, hz0, hz1, hz2⟩ := info_parts info83
  go_enter Try.func10, Try.ntmps10
  go_upto_region 3 with ((refine (speaks17 _).mono ?_; rintro e w1 ⟨rfl, b1⟩))
  have B1 := Flow.hide b1
  go_cut [0] (fun s0 wx => ∃ A g cp, s0 = .slice A m cp ∧ m ≤ cp ∧ (0 < m → A = some ⟨g, 0, none⟩ ∧ w.heap.size ≤ g ∧ Rows wx g m q xs vs) ∧ Below w.heap.size w wx)
  case first =>
    clear h74 HT HQ
    have hown := World.ownsRow_made (base := w.heap.size) (e := 83) (size := 8) w1 #[] 0 b1.size (by unfold maxLen; omega) rfl
    have HO := Flow.hide hown
    clear hown
    cases AA with
    | none =>
      obtain ⟨rfl, rfl⟩ := hnone rfl
      obtain rfl : m = 0 := by omega
      clear HM hnone b1 HA
      go_wp2_with (at_builtin; refine wpList_append_own_none rfl _ _ 70 rfl w.heap.size 83 i0 8 Try.underlying70 hi _ _ _ rfl HO.out rfl ?_)
      go_meet
      exact ⟨_, 0, 0, rfl, by omega, fun h => by omega, B1.out.alloc B1.out.size _⟩
    | some a =>
      have hnews : ∀ j u, (actsOf m q xs vs)[j]? = some u → (w1.alloc (.cells #[] 83)).cell? (a.add j) = some u := by
        intro j u hu
        have hj : j < m * 8 := by have := (List.getElem?_eq_some_iff.1 hu).1; rwa [actsOf_length] at this
        obtain ⟨g0, off, e0, hg0, hcells⟩ := HA.out (by omega)
        cases e0
        have h := actsOf_news m hml (fun i hi => (hcells i hi).1) j u hu
        rw [← h]
        exact (b1.alloc b1.size _).cell (p := (⟨g0, off, none⟩ : Addr).add j) (by unfold Addr.add; split <;> exact hg0)
      have HN := Flow.hide hnews
      have one := actsOf_one m q xs vs
      have H1 := Flow.hide one
      clear hnews b1 HA hnone one
      by_cases h12 : 12 < len
      · obtain rfl : m = 12 := by have := HM.out; rwa [if_pos h12] at this
        have hcap : 12 ≤ cap := by omega
        go_wp2_with (at_builtin; refine wpList_append_own _ rfl _ _ 70 rfl w.heap.size 83 i0 _ 8 40 Try.underlying70 hi hz0 hz1 hz2 rfl (by decide) _ _ _ rfl HO.out a 12 cap (actsOf 12 q xs vs) rfl (actsOf_length _ _ _ _) HN.out H1.out ?c3 ?c4 ?c5 ?_)
        case c3 => unfold maxLen; omega
        case c4 => omega
        case c5 => have := B1.out.size; simp; omega
        intro v' w2 hown2 hgr _
        obtain ⟨A', g', cp', rfl, hcp, hr⟩ := Rows.of_own (by simpa only [Nat.zero_add, List.nil_append] using hown2)
        have b2 : Hid (Below w.heap.size w w2) := (B1.out.alloc B1.out.size _).trans ((Flow.Chg.of_grown1 hgr).below (fun j _ e => by subst e; exact B1.out.size) (by have := B1.out.size; simp; omega))
        have HR := Flow.hide hr
        clear hown2 hgr hr HO HN H1
        go_wp2_with fail
        go_meet
        exact ⟨A', g', cp', rfl, hcp, HR.out, b2.out⟩
      · obtain rfl : m = len := by have := HM.out; rwa [if_neg h12] at this
        go_wp2_with (at_builtin; refine wpList_append_own _ rfl _ _ 70 rfl w.heap.size 83 i0 _ 8 40 Try.underlying70 hi hz0 hz1 hz2 rfl (by decide) _ _ _ rfl HO.out a m cap (actsOf m q xs vs) rfl (actsOf_length _ _ _ _) HN.out H1.out ?d3 ?d4 ?d5 ?_)
        case d3 => unfold maxLen; omega
        case d4 => omega
        case d5 => have := B1.out.size; simp; omega
        intro v' w2 hown2 hgr _
        obtain ⟨A', g', cp', rfl, hcp, hr⟩ := Rows.of_own (by simpa only [Nat.zero_add, List.nil_append] using hown2)
        have b2 : Hid (Below w.heap.size w w2) := (B1.out.alloc B1.out.size _).trans ((Flow.Chg.of_grown1 hgr).below (fun j _ e => by subst e; exact B1.out.size) (by have := B1.out.size; simp; omega))
        have HR := Flow.hide hr
        clear hown2 hgr hr HO HN H1
        go_wp2_with fail
        go_meet
        exact ⟨A', g', cp', rfl, hcp, HR.out, b2.out⟩
  case rest =>
    obtain ⟨A, g, cp, rfl, hmc, hr, hb⟩ := hcut
    have HB := Flow.hide hb
    have HGA : Hid (0 < m → A = some ⟨g, 0, none⟩ ∧ w.heap.size ≤ g) := fun h => ⟨(hr h).1, (hr h).2.1⟩
    have HR : Hid (0 < m → Rows wc g m q xs vs) := fun h => (hr h).2.2
    clear hr hb B1 b1 HA HM hi hz0 hz1 hz2 hnone hml hlc hl
    go_wp2_with fail
    go_loopw [5] (fun t5 wr => ∃ k : Nat, k ≤ m ∧ t5 = .int .i64 k ∧ (0 < m → Rows wr g m q (xk xs k) vs) ∧ Below w.heap.size w wr) (fun t5 _ => m - (intOf t5).toNat)
    case atStart => exact ⟨0, by omega, rfl, by rw [xk0]; exact HR.out, HB.out⟩
    case round =>
      obtain ⟨k, hk, rfl, hR0, hB0⟩ := hrel
      have HR1 := Flow.hide hR0
      have HB1 := Flow.hide hB0
      clear hR0 hB0 HR HB
      by_cases hlt : k < m
      · obtain ⟨rfl, hgw⟩ := HGA.out (by omega)
        have hr := HR1.out (by omega)
        obtain ⟨y0, y1, y2, y3, y4, y5, y6, y7⟩ := hr.at_ k hlt
        have hfz := hr.2.2
        have hgl := hr.1
        clear hr y0 y2 y3 y4 y5 y6 y7
        go_wp2_with fail
        go_roundw
        case rel => exact ⟨k + 1, by omega, by go_num, fun h => (HR1.out h).number hlt, HB1.out.setCell (p := ⟨g, k * 8 + 1, none⟩) hgw _⟩
        case measure => simp [intOf]; omega
      · obtain rfl : k = m := by omega
        have HR : Hid (0 < k → Rows wr g k q (W xs) vs) := fun h => (HR1.out h).congr (xkn xs k)
        clear HR1
        obtain ⟨wa, rfl⟩ : ∃ wa, wa = wr := ⟨_, rfl⟩
        obtain ⟨ca, hca⟩ : ∃ c, c = wa.heap.size := ⟨_, rfl⟩
        obtain ⟨cb, hcb⟩ : ∃ c, c = ca + 1 := ⟨_, rfl⟩
        obtain ⟨w3, hw3⟩ : ∃ w3, w3 = (wa.alloc (.cells #[.int .u32 0, .int .u8 0, .int .u8 0, .bool false, .string { data := #[] }, .bool false, .int .i64 0] 76)).alloc (.cells #[.int .u32 0, .int .u8 0, .int .u8 0, .bool false, .string { data := #[] }, .bool false, .int .i64 0] 76) := ⟨_, rfl⟩
        have KA3 : Hid (Flow.Blk w3 ca 76 (cc c0 0)) := by rw [hw3, hca]; exact (Flow.Blk.new _ _ _).alloc _
        have KB3 : Hid (Flow.Blk w3 cb 76 (cc c0 0)) := by
          have h := Flow.Blk.new (wa.alloc (.cells #[.int .u32 0, .int .u8 0, .int .u8 0, .bool false, .string { data := #[] }, .bool false, .int .i64 0] 76)) 76 #[.int .u32 0, .int .u8 0, .int .u8 0, .bool false, .string { data := #[] }, .bool false, .int .i64 0]
          rw [World.size_alloc, ← hca, ← hcb, ← hw3] at h
          exact h
        have b3 : Hid (Below w.heap.size w w3) := by rw [hw3]; exact (HB1.out.alloc HB1.out.size _).alloc (by simp; have := HB1.out.size; omega) _
        have R3 : Hid (0 < k → Rows w3 g k q (W xs) vs ∧ g < ca) := fun h => ⟨by rw [hw3]; exact (HR.out h).below ((Flow.below_alloc wa _).alloc (by simp) _), by rw [hca]; exact (HR.out h).1⟩
        have hwc : w.heap.size ≤ ca := by rw [hca]; exact HB1.out.size
        have hcab : ca ≠ cb := by omega
        have hcle : ca ≤ cb := by omega
        have hwcb : w.heap.size ≤ cb := by omega
        go_upto_region 10 with fail
        rw [← hw3, ← hca, ← hcb]
        have HW3 := Flow.hide hw3
        have HCA := Flow.hide hca
        have HCB := Flow.hide hcb
        clear hw3 hca hcb HR HB1 HW3 HCA HCB
        go_wp2_with fail
        go_loopw [9] (fun t9 wr => ∃ (j : Nat) (c : Wc) (s : Int), j ≤ k ∧ t9 = .int .i64 j ∧ At xs j c s ∧ (0 < k → Rows wr g k q (W xs) vs) ∧ Flow.Blk wr ca 76 (cc c s) ∧ Flow.Blk wr cb 76 (cc c0 0) ∧ Below w.heap.size w wr) (fun t9 _ => k - (intOf t9).toNat)
        case atStart => exact ⟨0, c0, 0, by omega, rfl, .inl ⟨rfl, rfl, rfl⟩, fun h => (R3.out h).1, KA3.out, KB3.out, b3.out⟩
        case round =>
          obtain ⟨j, c, s, hj, rfl, hat, hrw, hka, hkb, hbw⟩ := hrel
          have AT0 := Flow.hide hat
          have HR := Flow.hide hrw
          have KA := Flow.hide hka
          have KB := Flow.hide hkb
          have BW := Flow.hide hbw
          clear hat hrw hka hkb hbw KA3 KB3 b3
          by_cases hlt : j < k
          · obtain ⟨rfl, hgw⟩ := HGA.out (by omega)
            have hga := (R3.out (by omega)).2
            have hrows := HR.out (by omega)
            obtain ⟨y0, y1, y2, y3, y4, y5, y6, y7⟩ := hrows.at_ j hlt
            have hgl := hrows.1
            have hq := HQ.out j hlt
            clear hrows
            go_upto_region 13 with fail
            obtain ⟨CS, hCS⟩ : ∃ C : World → Prop, C = fun w' => Below wr.heap.size wr w' := ⟨_, rfl⟩
            obtain ⟨CW, hCW⟩ : ∃ C : World → Prop, C = fun _ => True := ⟨_, rfl⟩
            have hS : ∀ w', Below wr.heap.size wr w' → CS w' := by rw [hCS]; exact fun _ h => h
            have uS : ∀ w', CS w' → Below wr.heap.size wr w' := by rw [hCS]; exact fun _ h => h
            have hSW : ∀ w', CS w' → CW w' := by rw [hCW]; exact fun _ _ => True.intro
            have hW : ∀ w1 w2, CW w1 → Below w1.heap.size w1 w2 → CW w2 := by rw [hCW]; exact fun _ _ _ _ => True.intro
            have uW : ∀ w', CW w' := by rw [hCW]; exact fun _ => True.intro
            clear hCS hCW
            have rc : ∀ (p : Flow.Wd CS) (i : Nat), p.w.cell? ⟨ca, i, none⟩ = (#[.int .u32 c.n, .int .u8 c.b, .int .u8 c.l, .bool c.has, .string c.text, .bool c.rmw, .int .i64 s] : Array Value)[i]? := fun p => (KA.out.below (uS _ p.ok)).cell
            have r0 : ∀ p : Flow.Wd CS, p.w.cell? ⟨g, j * 8, none⟩ = some (.int .u8 (q j)) := fun p => ((uS _ p.ok).cell (p := ⟨g, j * 8, none⟩) hgl).trans y0
            have r1 : ∀ p : Flow.Wd CS, p.w.cell? ⟨g, j * 8 + 1, none⟩ = some (.int .u32 (W xs j).n) := fun p => ((uS _ p.ok).cell (p := ⟨g, j * 8 + 1, none⟩) hgl).trans y1
            have r2 : ∀ p : Flow.Wd CS, p.w.cell? ⟨g, j * 8 + 2, none⟩ = some (.int .u8 (W xs j).b) := fun p => ((uS _ p.ok).cell (p := ⟨g, j * 8 + 2, none⟩) hgl).trans y2
            have r3 : ∀ p : Flow.Wd CS, p.w.cell? ⟨g, j * 8 + 3, none⟩ = some (.int .u8 (W xs j).l) := fun p => ((uS _ p.ok).cell (p := ⟨g, j * 8 + 3, none⟩) hgl).trans y3
            have r4 : ∀ p : Flow.Wd CS, p.w.cell? ⟨g, j * 8 + 4, none⟩ = some (.bool (W xs j).has) := fun p => ((uS _ p.ok).cell (p := ⟨g, j * 8 + 4, none⟩) hgl).trans y4
            have r5 : ∀ p : Flow.Wd CS, p.w.cell? ⟨g, j * 8 + 5, none⟩ = some (.bool (W xs j).rmw) := fun p => ((uS _ p.ok).cell (p := ⟨g, j * 8 + 5, none⟩) hgl).trans y5
            have r6 : ∀ p : Flow.Wd CS, p.w.cell? ⟨g, j * 8 + 6, none⟩ = some (.string (W xs j).text) := fun p => ((uS _ p.ok).cell (p := ⟨g, j * 8 + 6, none⟩) hgl).trans y6
            have r7 : ∀ p : Flow.Wd CS, p.w.cell? ⟨g, j * 8 + 7, none⟩ = some (.bool (vs j)) := fun p => ((uS _ p.ok).cell (p := ⟨g, j * 8 + 7, none⟩) hgl).trans y7
            have ne1 : Nonempty (Flow.Wd CS) := ⟨⟨wr, hS _ (Below.refl _ _)⟩⟩
            have ne2 : Nonempty (Flow.Wd CW) := ⟨⟨wr, uW _⟩⟩
            clear y0 y1 y2 y3 y4 y5 y6 y7
            refine Flow.wp_region_chain 7 CS CW [0, 1, 2, 3, 4, 5, 6] [7] (by kernel_rfl) (by kernel_rfl) (.inr ⟨rfl, by decide⟩) hS hSW hW ?_
            dsimp only [Flow.pickIdx, List.getElem?_cons_zero, List.getElem?_cons_succ]
            iterate 7 (
                (refine Flow.wpS_strong (by kernel_rfl) (fun K' hK' => ?_)
                 go_simp
                 first
                   | (refine hK' _ ?_; clear hK' K')
                   | (apply Exists.intro
                      refine ⟨fun p => ?_, hK' _ ?_⟩
                      (first | with_reducible exact (put_any c s (q j) (W xs j) (vs j) p.w hq))
                      clear hK' K')))
            refine Flow.wpS_nil ?_
            dsimp only [Flow.pickOps, List.getElem?_cons_zero, List.getElem?_cons_succ]
            clear rc r0 r1 r2 r3 r4 r5 r6 r7
            intro w5 hb5
            have k5 := KA.out.below hb5
            have q5 := k5.cell
            have f5 := k5.frozen
            have l5 := k5.lt
            refine Flow.wpT_on rfl ?_
            go_simp
            refine ⟨uW _, fun w6 hb6 => Flow.wpT_nil ?_⟩
            obtain ⟨w7, hw7⟩ : ∃ w7, w7 = (((((((w5.setCell ⟨ca, 0, none⟩ (.int .u32 (putW (q j) c s (W xs j)).n)).setCell ⟨ca, 1, none⟩ (.int .u8 (putW (q j) c s (W xs j)).b)).setCell ⟨ca, 2, none⟩ (.int .u8 (putW (q j) c s (W xs j)).l)).setCell ⟨ca, 3, none⟩ (.bool (putW (q j) c s (W xs j)).has)).setCell ⟨ca, 4, none⟩ (.string (putW (q j) c s (W xs j)).text)).setCell ⟨ca, 5, none⟩ (.bool (putW (q j) c s (W xs j)).rmw)).setCell ⟨ca, 6, none⟩ (.int .i64 (putS (q j) (vs j) c s (W xs j)))) := ⟨_, rfl⟩
            rw [← hw7] at hb6
            obtain ⟨k7, c7⟩ := Flow.store7 (b0 := .int .u32 (putW (q j) c s (W xs j)).n) (b1 := .int .u8 (putW (q j) c s (W xs j)).b) (b2 := .int .u8 (putW (q j) c s (W xs j)).l) (b3 := .bool (putW (q j) c s (W xs j)).has) (b4 := .string (putW (q j) c s (W xs j)).text) (b5 := .bool (putW (q j) c s (W xs j)).rmw) (b6 := .int .i64 (putS (q j) (vs j) c s (W xs j))) k5
            rw [← hw7] at k7 c7
            have hz7 : w7.heap.size = w5.heap.size := by rw [hw7]; simp
            rw [← hz7] at hb6
            have c6 : Hid (Flow.Chg (· = ca) wr w6) := ((Flow.Chg.of_below hb5).mono (fun _ _ e => e.elim) |>.trans c7 (fun _ _ e => e)).trans (Flow.Chg.of_below hb6) (fun _ _ e => e.elim)
            have k6 := Flow.hide (k7.below hb6)
            clear hz7 hw7 k7 c7 q5 f5 l5 k5 hb5 hb6 w7 w5 hS uS hSW hW uW ne1 ne2 CS CW

            have H6 : Hid (0 < k → Rows w6 g k q (W xs) vs) := fun h => (HR.out h).chg c6.out (by have := (R3.out h).2; omega)
            have B6 : Hid (Below w.heap.size w w6) := BW.out.trans (c6.out.below (fun j _ e => by omega) BW.out.size)
            have KB6 := Flow.hide (KB.out.chg c6.out (fun e => hcab e.symm))
            have A6 := AT0.out.put (q j) (vs j) j
            rw [show max j (j + 1) = j + 1 by omega] at A6
            have AT6 := Flow.hide A6
            clear A6 AT0 HR BW KB KA c6
            go_wp2_with fail
            go_roundw
            case rel => exact ⟨j + 1, _, _, by omega, by go_num, AT6.out, H6.out, k6.out, KB6.out, B6.out⟩
            case measure => simp [intOf]; omega
          · obtain rfl : j = k := by omega
            go_upto_block 4 with fail
            go_cut [10] (fun s10 wx => ∃ (n : Nat) (d : Wc) (r : Int), n ≤ j ∧ At xs n d r ∧ (0 < j → Rows wx g j q (W xs) vs) ∧ Flow.Blk wx ca 76 (cc c s) ∧ Flow.Blk wx cb 76 (cc d r) ∧ Below w.heap.size w wx)
            case first =>
              go_wp2_with fail
              go_loopw [10] (fun t10 wr => ∃ (i n : Nat) (d : Wc) (r : Int), i ≤ tl ∧ i ≤ 40 ∧ t10 = .int .i64 i ∧ n ≤ j ∧ At xs n d r ∧ (0 < j → Rows wr g j q (W xs) vs) ∧ Flow.Blk wr ca 76 (cc c s) ∧ Flow.Blk wr cb 76 (cc d r) ∧ Below w.heap.size w wr) (fun t10 _ => tl - (intOf t10).toNat)
              case atStart => exact ⟨0, 0, c0, 0, by omega, by omega, rfl, by omega, .inl ⟨rfl, rfl, rfl⟩, HR.out, KA.out, KB.out, BW.out⟩
              case round =>
                clear AT0 HR KA KB BW
                obtain ⟨i, n, d, r, hi, hi40, rfl, hnj, hat, hrw, hka, hkb, hbw⟩ := hrel
                have AT0 := Flow.hide hat
                have HR := Flow.hide hrw
                have KA := Flow.hide hka
                have KB := Flow.hide hkb
                have BW := Flow.hide hbw
                clear hat hrw hka hkb hbw
                by_cases hgo : i < tl ∧ 0 < j ∧ i < 40
                · obtain ⟨hit, hj0, hi4⟩ := hgo
                  obtain ⟨rfl, hgw⟩ := HGA.out hj0
                  obtain ⟨tb, tof, rfl, htb, htc⟩ := HT.out (by omega)
                  obtain ⟨z0, z1, z2⟩ := htc i hit
                  obtain ⟨T, hT⟩ := Int.eq_ofNat_of_zero_le z1
                  rw [hT] at z0 z2
                  have z3 : wr.cell? ⟨tb, tof + i, none⟩ = some (.int .u8 (T : Int)) := (BW.out.cell (p := ⟨tb, tof + i, none⟩) htb).trans z0
                  have htw : tb < wr.heap.size := Nat.lt_of_lt_of_le htb BW.out.size
                  clear z0 z1 hT htc
                  obtain ⟨R, hRR⟩ : ∃ R, R = T % j := ⟨_, rfl⟩
                  have hRl : R < j := by rw [hRR]; exact Nat.mod_lt _ hj0
                  have hRl' : (R : Int) < (j : Int) := by omega
                  have hrem : (T : Int).tmod (j : Int) = (R : Int) := by rw [hRR, Int.ofNat_tmod]
                  have hj0' : ¬ j = 0 := by omega
                  have hwT : IntKind.i64.wrap (T : Int) = (T : Int) := IntWalk.i64_in _ (by omega)
                  have HRR := Flow.hide hRR
                  clear hRR
                  have hrows := HR.out hj0
                  obtain ⟨y0, y1, y2, y3, y4, y5, y6, y7⟩ := hrows.at_ R hRl
                  have hgl := hrows.1
                  have hq := HQ.out R hRl
                  clear hrows
                  go_upto_region 17 with fail
                  obtain ⟨CS, hCS⟩ : ∃ C : World → Prop, C = fun w' => Below wr.heap.size wr w' := ⟨_, rfl⟩
                  obtain ⟨CW, hCW⟩ : ∃ C : World → Prop, C = fun _ => True := ⟨_, rfl⟩
                  have hS : ∀ w', Below wr.heap.size wr w' → CS w' := by rw [hCS]; exact fun _ h => h
                  have uS : ∀ w', CS w' → Below wr.heap.size wr w' := by rw [hCS]; exact fun _ h => h
                  have hSW : ∀ w', CS w' → CW w' := by rw [hCW]; exact fun _ _ => True.intro
                  have hW : ∀ w1 w2, CW w1 → Below w1.heap.size w1 w2 → CW w2 := by rw [hCW]; exact fun _ _ _ _ => True.intro
                  have uW : ∀ w', CW w' := by rw [hCW]; exact fun _ => True.intro
                  clear hCS hCW
                  have rc : ∀ (p : Flow.Wd CS) (i : Nat), p.w.cell? ⟨cb, i, none⟩ = (#[.int .u32 d.n, .int .u8 d.b, .int .u8 d.l, .bool d.has, .string d.text, .bool d.rmw, .int .i64 r] : Array Value)[i]? := fun p => (KB.out.below (uS _ p.ok)).cell
                  have r0 : ∀ p : Flow.Wd CS, p.w.cell? ⟨g, R * 8, none⟩ = some (.int .u8 (q R)) := fun p => ((uS _ p.ok).cell (p := ⟨g, R * 8, none⟩) hgl).trans y0
                  have r1 : ∀ p : Flow.Wd CS, p.w.cell? ⟨g, R * 8 + 1, none⟩ = some (.int .u32 (W xs R).n) := fun p => ((uS _ p.ok).cell (p := ⟨g, R * 8 + 1, none⟩) hgl).trans y1
                  have r2 : ∀ p : Flow.Wd CS, p.w.cell? ⟨g, R * 8 + 2, none⟩ = some (.int .u8 (W xs R).b) := fun p => ((uS _ p.ok).cell (p := ⟨g, R * 8 + 2, none⟩) hgl).trans y2
                  have r3 : ∀ p : Flow.Wd CS, p.w.cell? ⟨g, R * 8 + 3, none⟩ = some (.int .u8 (W xs R).l) := fun p => ((uS _ p.ok).cell (p := ⟨g, R * 8 + 3, none⟩) hgl).trans y3
                  have r4 : ∀ p : Flow.Wd CS, p.w.cell? ⟨g, R * 8 + 4, none⟩ = some (.bool (W xs R).has) := fun p => ((uS _ p.ok).cell (p := ⟨g, R * 8 + 4, none⟩) hgl).trans y4
                  have r5 : ∀ p : Flow.Wd CS, p.w.cell? ⟨g, R * 8 + 5, none⟩ = some (.bool (W xs R).rmw) := fun p => ((uS _ p.ok).cell (p := ⟨g, R * 8 + 5, none⟩) hgl).trans y5
                  have r6 : ∀ p : Flow.Wd CS, p.w.cell? ⟨g, R * 8 + 6, none⟩ = some (.string (W xs R).text) := fun p => ((uS _ p.ok).cell (p := ⟨g, R * 8 + 6, none⟩) hgl).trans y6
                  have r7 : ∀ p : Flow.Wd CS, p.w.cell? ⟨g, R * 8 + 7, none⟩ = some (.bool (vs R)) := fun p => ((uS _ p.ok).cell (p := ⟨g, R * 8 + 7, none⟩) hgl).trans y7
                  have rt : ∀ p : Flow.Wd CS, p.w.cell? ⟨tb, tof + i, none⟩ = some (.int .u8 (T : Int)) := fun p => ((uS _ p.ok).cell (p := ⟨tb, tof + i, none⟩) htw).trans z3
                  clear z3
                  have ne1 : Nonempty (Flow.Wd CS) := ⟨⟨wr, hS _ (Below.refl _ _)⟩⟩
                  have ne2 : Nonempty (Flow.Wd CW) := ⟨⟨wr, uW _⟩⟩
                  clear y0 y1 y2 y3 y4 y5 y6 y7
                  refine Flow.wp_region_chain 14 CS CW [0, 1, 2, 3, 4, 5, 6, 7, 8, 9, 10, 11, 12, 13] [14] (by kernel_rfl) (by kernel_rfl) (.inr ⟨rfl, by decide⟩) hS hSW hW ?_
                  dsimp only [Flow.pickIdx, List.getElem?_cons_zero, List.getElem?_cons_succ]
                  iterate 14 (
                      (refine Flow.wpS_strong (by kernel_rfl) (fun K' hK' => ?_)
                       go_simp
                       first
                         | (refine hK' _ ?_; clear hK' K')
                         | (apply Exists.intro
                            refine ⟨fun p => ?_, hK' _ ?_⟩
                            (first | with_reducible exact (put_any d r (q R) (W xs R) (vs R) p.w hq))
                            clear hK' K')))
                  refine Flow.wpS_nil ?_
                  dsimp only [Flow.pickOps, List.getElem?_cons_zero, List.getElem?_cons_succ]
                  clear rc r0 r1 r2 r3 r4 r5 r6 r7 rt
                  intro w5 hb5
                  have k5 := KB.out.below hb5
                  have q5 := k5.cell
                  have f5 := k5.frozen
                  have l5 := k5.lt
                  refine Flow.wpT_on rfl ?_
                  go_simp
                  refine ⟨uW _, fun w6 hb6 => Flow.wpT_nil ?_⟩
                  obtain ⟨w7, hw7⟩ : ∃ w7, w7 = (((((((w5.setCell ⟨cb, 0, none⟩ (.int .u32 (putW (q R) d r (W xs R)).n)).setCell ⟨cb, 1, none⟩ (.int .u8 (putW (q R) d r (W xs R)).b)).setCell ⟨cb, 2, none⟩ (.int .u8 (putW (q R) d r (W xs R)).l)).setCell ⟨cb, 3, none⟩ (.bool (putW (q R) d r (W xs R)).has)).setCell ⟨cb, 4, none⟩ (.string (putW (q R) d r (W xs R)).text)).setCell ⟨cb, 5, none⟩ (.bool (putW (q R) d r (W xs R)).rmw)).setCell ⟨cb, 6, none⟩ (.int .i64 (putS (q R) (vs R) d r (W xs R)))) := ⟨_, rfl⟩
                  rw [← hw7] at hb6
                  obtain ⟨k7, c7⟩ := Flow.store7 (b0 := .int .u32 (putW (q R) d r (W xs R)).n) (b1 := .int .u8 (putW (q R) d r (W xs R)).b) (b2 := .int .u8 (putW (q R) d r (W xs R)).l) (b3 := .bool (putW (q R) d r (W xs R)).has) (b4 := .string (putW (q R) d r (W xs R)).text) (b5 := .bool (putW (q R) d r (W xs R)).rmw) (b6 := .int .i64 (putS (q R) (vs R) d r (W xs R))) k5
                  rw [← hw7] at k7 c7
                  have hz7 : w7.heap.size = w5.heap.size := by rw [hw7]; simp
                  rw [← hz7] at hb6
                  have c6 : Hid (Flow.Chg (· = cb) wr w6) := ((Flow.Chg.of_below hb5).mono (fun _ _ e => e.elim) |>.trans c7 (fun _ _ e => e)).trans (Flow.Chg.of_below hb6) (fun _ _ e => e.elim)
                  have k6 := Flow.hide (k7.below hb6)
                  clear hz7 hw7 k7 c7 q5 f5 l5 k5 hb5 hb6 w7 w5 hS uS hSW hW uW ne1 ne2 CS CW

                  have H6 : Hid (0 < j → Rows w6 g j q (W xs) vs) := fun h => (HR.out h).chg c6.out (by have := (R3.out h).2; omega)
                  have B6 : Hid (Below w.heap.size w w6) := BW.out.trans (c6.out.below (fun j _ e => by omega) BW.out.size)
                  have KA6 := Flow.hide (KA.out.chg c6.out hcab)
                  have AT6 := Flow.hide (AT0.out.put (q R) (vs R) R)
                  have hmx : max n (R + 1) ≤ j := by omega
                  clear AT0 HR BW KB KA c6 HRR hrem hwT hj0'
                  go_wp2_with fail
                  go_roundw
                  case rel => exact ⟨i + 1, _, _, _, by omega, by omega, by go_num, hmx, AT6.out, H6.out, KA6.out, k6.out, B6.out⟩
                  case measure => simp [intOf]; omega
                · by_cases hit : i < tl
                  · by_cases hj0 : 0 < j
                    · have hi4 : ¬ i < 40 := fun h => hgo ⟨hit, hj0, h⟩
                      clear hgo
                      go_wp2_with fail
                      go_meet
                      exact ⟨n, d, r, hnj, AT0.out, HR.out, KA.out, KB.out, BW.out⟩
                    · clear hgo
                      go_wp2_with fail
                      go_meet
                      exact ⟨n, d, r, hnj, AT0.out, HR.out, KA.out, KB.out, BW.out⟩
                  · clear hgo
                    go_wp2_with fail
                    go_meet
                    exact ⟨n, d, r, hnj, AT0.out, HR.out, KA.out, KB.out, BW.out⟩
            case rest =>
              obtain ⟨n, d, r, hnj, hat, hrw, hka, hkb, hbw⟩ := hcut
              have ATA := AT0
              clear HR KA KB BW AT0 HT
              have AT0 := Flow.hide hat
              have HR := Flow.hide hrw
              have KA := Flow.hide hka
              have KB := Flow.hide hkb
              have BW := Flow.hide hbw
              clear hat hrw hka hkb hbw
              go_wp2_with fail
              go_loopw [11] (fun t11 wr => ∃ (i n : Nat) (d : Wc) (r : Int), i ≤ j ∧ t11 = .int .i64 ((i : Int) - 1) ∧ n ≤ j ∧ (i < j → n = j) ∧ At xs n d r ∧ (0 < j → Rows wr g j q (W xs) vs) ∧ Flow.Blk wr ca 76 (cc c s) ∧ Flow.Blk wr cb 76 (cc d r) ∧ Below w.heap.size w wr) (fun t11 _ => (intOf t11 + 1).toNat)
              case atStart => exact ⟨j, n, d, r, by omega, rfl, hnj, by omega, AT0.out, HR.out, KA.out, KB.out, BW.out⟩
              case round =>
                clear AT0 HR KA KB BW
                obtain ⟨i, n, d, r, hij, rfl, hnj, hnj2, hat, hrw, hka, hkb, hbw⟩ := hrel
                have AT0 := Flow.hide hat
                have HR := Flow.hide hrw
                have KA := Flow.hide hka
                have KB := Flow.hide hkb
                have BW := Flow.hide hbw
                have HN2 := Flow.hide hnj2
                clear hat hrw hka hkb hbw hnj2
                cases i with
                | succ R =>
                  have e1 : ((R + 1 : Nat) : Int) - 1 = (R : Int) := by omega
                  rw [e1]
                  clear e1
                  have hj0 : 0 < j := by omega
                  obtain ⟨rfl, hgw⟩ := HGA.out hj0
                  have hRl : R < j := by omega
                  have hrows := HR.out hj0
                  obtain ⟨y0, y1, y2, y3, y4, y5, y6, y7⟩ := hrows.at_ R hRl
                  have hgl := hrows.1
                  have hq := HQ.out R hRl
                  clear hrows
                  go_upto_region 21 with fail
                  obtain ⟨CS, hCS⟩ : ∃ C : World → Prop, C = fun w' => Below wr.heap.size wr w' := ⟨_, rfl⟩
                  obtain ⟨CW, hCW⟩ : ∃ C : World → Prop, C = fun _ => True := ⟨_, rfl⟩
                  have hS : ∀ w', Below wr.heap.size wr w' → CS w' := by rw [hCS]; exact fun _ h => h
                  have uS : ∀ w', CS w' → Below wr.heap.size wr w' := by rw [hCS]; exact fun _ h => h
                  have hSW : ∀ w', CS w' → CW w' := by rw [hCW]; exact fun _ _ => True.intro
                  have hW : ∀ w1 w2, CW w1 → Below w1.heap.size w1 w2 → CW w2 := by rw [hCW]; exact fun _ _ _ _ => True.intro
                  have uW : ∀ w', CW w' := by rw [hCW]; exact fun _ => True.intro
                  clear hCS hCW
                  have rc : ∀ (p : Flow.Wd CS) (i : Nat), p.w.cell? ⟨cb, i, none⟩ = (#[.int .u32 d.n, .int .u8 d.b, .int .u8 d.l, .bool d.has, .string d.text, .bool d.rmw, .int .i64 r] : Array Value)[i]? := fun p => (KB.out.below (uS _ p.ok)).cell
                  have r0 : ∀ p : Flow.Wd CS, p.w.cell? ⟨g, R * 8, none⟩ = some (.int .u8 (q R)) := fun p => ((uS _ p.ok).cell (p := ⟨g, R * 8, none⟩) hgl).trans y0
                  have r1 : ∀ p : Flow.Wd CS, p.w.cell? ⟨g, R * 8 + 1, none⟩ = some (.int .u32 (W xs R).n) := fun p => ((uS _ p.ok).cell (p := ⟨g, R * 8 + 1, none⟩) hgl).trans y1
                  have r2 : ∀ p : Flow.Wd CS, p.w.cell? ⟨g, R * 8 + 2, none⟩ = some (.int .u8 (W xs R).b) := fun p => ((uS _ p.ok).cell (p := ⟨g, R * 8 + 2, none⟩) hgl).trans y2
                  have r3 : ∀ p : Flow.Wd CS, p.w.cell? ⟨g, R * 8 + 3, none⟩ = some (.int .u8 (W xs R).l) := fun p => ((uS _ p.ok).cell (p := ⟨g, R * 8 + 3, none⟩) hgl).trans y3
                  have r4 : ∀ p : Flow.Wd CS, p.w.cell? ⟨g, R * 8 + 4, none⟩ = some (.bool (W xs R).has) := fun p => ((uS _ p.ok).cell (p := ⟨g, R * 8 + 4, none⟩) hgl).trans y4
                  have r5 : ∀ p : Flow.Wd CS, p.w.cell? ⟨g, R * 8 + 5, none⟩ = some (.bool (W xs R).rmw) := fun p => ((uS _ p.ok).cell (p := ⟨g, R * 8 + 5, none⟩) hgl).trans y5
                  have r6 : ∀ p : Flow.Wd CS, p.w.cell? ⟨g, R * 8 + 6, none⟩ = some (.string (W xs R).text) := fun p => ((uS _ p.ok).cell (p := ⟨g, R * 8 + 6, none⟩) hgl).trans y6
                  have r7 : ∀ p : Flow.Wd CS, p.w.cell? ⟨g, R * 8 + 7, none⟩ = some (.bool (vs R)) := fun p => ((uS _ p.ok).cell (p := ⟨g, R * 8 + 7, none⟩) hgl).trans y7
                  have ne1 : Nonempty (Flow.Wd CS) := ⟨⟨wr, hS _ (Below.refl _ _)⟩⟩
                  have ne2 : Nonempty (Flow.Wd CW) := ⟨⟨wr, uW _⟩⟩
                  clear y0 y1 y2 y3 y4 y5 y6 y7
                  refine Flow.wp_region_chain 7 CS CW [0, 1, 2, 3, 4, 5, 6] [7] (by kernel_rfl) (by kernel_rfl) (.inr ⟨rfl, by decide⟩) hS hSW hW ?_
                  dsimp only [Flow.pickIdx, List.getElem?_cons_zero, List.getElem?_cons_succ]
                  iterate 7 (
                      (refine Flow.wpS_strong (by kernel_rfl) (fun K' hK' => ?_)
                       go_simp
                       first
                         | (refine hK' _ ?_; clear hK' K')
                         | (apply Exists.intro
                            refine ⟨fun p => ?_, hK' _ ?_⟩
                            (first | with_reducible exact (put_any d r (q R) (W xs R) (vs R) p.w hq))
                            clear hK' K')))
                  refine Flow.wpS_nil ?_
                  dsimp only [Flow.pickOps, List.getElem?_cons_zero, List.getElem?_cons_succ]
                  clear rc r0 r1 r2 r3 r4 r5 r6 r7
                  intro w5 hb5
                  have k5 := KB.out.below hb5
                  have q5 := k5.cell
                  have f5 := k5.frozen
                  have l5 := k5.lt
                  refine Flow.wpT_on rfl ?_
                  go_simp
                  refine ⟨uW _, fun w6 hb6 => Flow.wpT_nil ?_⟩
                  obtain ⟨w7, hw7⟩ : ∃ w7, w7 = (((((((w5.setCell ⟨cb, 0, none⟩ (.int .u32 (putW (q R) d r (W xs R)).n)).setCell ⟨cb, 1, none⟩ (.int .u8 (putW (q R) d r (W xs R)).b)).setCell ⟨cb, 2, none⟩ (.int .u8 (putW (q R) d r (W xs R)).l)).setCell ⟨cb, 3, none⟩ (.bool (putW (q R) d r (W xs R)).has)).setCell ⟨cb, 4, none⟩ (.string (putW (q R) d r (W xs R)).text)).setCell ⟨cb, 5, none⟩ (.bool (putW (q R) d r (W xs R)).rmw)).setCell ⟨cb, 6, none⟩ (.int .i64 (putS (q R) (vs R) d r (W xs R)))) := ⟨_, rfl⟩
                  rw [← hw7] at hb6
                  obtain ⟨k7, c7⟩ := Flow.store7 (b0 := .int .u32 (putW (q R) d r (W xs R)).n) (b1 := .int .u8 (putW (q R) d r (W xs R)).b) (b2 := .int .u8 (putW (q R) d r (W xs R)).l) (b3 := .bool (putW (q R) d r (W xs R)).has) (b4 := .string (putW (q R) d r (W xs R)).text) (b5 := .bool (putW (q R) d r (W xs R)).rmw) (b6 := .int .i64 (putS (q R) (vs R) d r (W xs R))) k5
                  rw [← hw7] at k7 c7
                  have hz7 : w7.heap.size = w5.heap.size := by rw [hw7]; simp
                  rw [← hz7] at hb6
                  have c6 : Hid (Flow.Chg (· = cb) wr w6) := ((Flow.Chg.of_below hb5).mono (fun _ _ e => e.elim) |>.trans c7 (fun _ _ e => e)).trans (Flow.Chg.of_below hb6) (fun _ _ e => e.elim)
                  have k6 := Flow.hide (k7.below hb6)
                  clear hz7 hw7 k7 c7 q5 f5 l5 k5 hb5 hb6 w7 w5 hS uS hSW hW uW ne1 ne2 CS CW

                  have H6 : Hid (0 < j → Rows w6 g j q (W xs) vs) := fun h => (HR.out h).chg c6.out (by have := (R3.out h).2; omega)
                  have B6 : Hid (Below w.heap.size w w6) := BW.out.trans (c6.out.below (fun j _ e => by omega) BW.out.size)
                  have KA6 := Flow.hide (KA.out.chg c6.out hcab)
                  have A6 := AT0.out.put (q R) (vs R) R
                  rw [show max n (R + 1) = j by (rcases Nat.lt_or_ge (R + 1) j with h | h; (have := HN2.out h; omega); omega)] at A6
                  have AT6 := Flow.hide A6
                  clear A6 AT0 HR BW KB KA c6 HN2
                  go_wp2_with fail
                  go_roundw
                  case rel => exact ⟨R, j, _, _, by omega, by go_num, by omega, fun _ => rfl, AT6.out, H6.out, KA6.out, k6.out, B6.out⟩
                  case measure => simp [intOf] <;> omega
                | zero =>
                  rw [show ((0 : Nat) : Int) - 1 = -1 from rfl]
                  have hAj : At xs j d r := by
                    by_cases h : 0 < j
                    · rw [← HN2.out h]; exact AT0.out
                    · rw [show j = n by omega]; exact AT0.out
                  obtain rfl : c = d := ATA.out.word hAj
                  have q1 := KA.out.cell
                  have q2 := KB.out.cell
                  have n74 : ∀ w : World, (binOp .eql 74 (.agg #[.int .u32 c.n, .int .u8 c.b, .int .u8 c.l, .bool c.has, .string c.text, .bool c.rmw]) (.agg #[.int .u32 c.n, .int .u8 c.b, .int .u8 c.l, .bool c.has, .string c.text, .bool c.rmw])).run Try.prog w = .ok (.bool true) w := fun w => eql74 c c w rfl
                  have hnum : 0 < j → c.n = j := fun h => ATA.out.num h
                  have HNUM := Flow.hide hnum
                  clear AT0 HR KA KB hnum hAj ATA h74 HN2
                  by_cases h0 : j = 0
                  · subst h0
                    clear HNUM
                    go_wp2_with fail
                    go_ret
                    exact ⟨rfl, BW.out⟩
                  · have e1 : (c.n == (j : Int)) = true := by simp; exact HNUM.out (by omega)
                    have e2 : 0 ≤ c.n := by rw [HNUM.out (by omega)]; omega
                    have e3 : c.n ≤ 12 := by rw [HNUM.out (by omega)]; omega
                    have e4 : ((j : Int) == 0) = false := by simp; omega
                    clear HNUM
                    go_wp2_with fail
                    go_ret
                    exact ⟨rfl, BW.out⟩

theorem own : ownKnob Try.prog.godebug = none := by kernel_rfl
theorem laidOut : laidOutB Try.prog = true := by kernel_rfl

set_option maxRecDepth 100000 in
theorem lifted (os : Os) (started : os.Started) (H : Type) (enc : TypeId × Value → H) :
    ReturnsInHanded {} Try.checked os 10 .any (Rows.cellMergesSpec.pre6 enc Try.prog Try.f10 Rows.cellMergesRow.domain false) (Rows.cellMergesSpec.post enc Try.prog Try.f10 false true false false) := by
  refine returnsInHanded_of_change (C := Try.checked) own started (by kernel_rfl) Try.func10
    (ChangeSpec.witness6 (enc := enc) (C := Try.checked) false ⟨#[], #[.slice none 0 0, .slice none 0 0], []⟩ 8 (by kernel_rfl) (by kernel_rfl) (by kernel_rfl) (by kernel_rfl)) ?_
  intro W base args ds gs before hval0 hW hcnd _
  have hval : ∀ (j : Nat) t v, Try.f10.params[j]? = some t → args[j]? = some v → Value.okWide Try.prog W .any base t v := hval0
  have hW' := hW
  obtain ⟨p, q, hA0, hV, rfl, hfz, hnd⟩ := hW
  have hA : DataW.TrodAll enc Try.prog W 0 (fun _ => true) true Try.f10.params.toList args.toList ds p := hA0
  rw [Try.params10] at hA hval
  obtain ⟨v0, v1, d0, d1, p0, p1, hargs, rfl, rfl, h0, h1⟩ := trodAll_two hA
  obtain ⟨rfl, rfl⟩ := trodVars_none hV
  subst hargs
  obtain ⟨A0, n0, cp0, rfl, hl0, hlc0, hr0⟩ := Open.open_rows_arg 30 (ss := [.int .u8, .int .u32, .int .u8, .int .u8, .bool, .bool, .str, .bool]) Try.underlying70 (by kernel_rfl) (by decide) (by kernel_rfl) (hval 0 70 v0 rfl rfl) h0
  have hn0 : A0 = none → n0 = 0 ∧ cp0 = 0 := fun e => by subst e; exact Open.open_none Try.underlying70 h0
  obtain ⟨q0, x0, v0, ha0⟩ := acts_of hr0
  obtain ⟨A1, n1, cp1, rfl, hl1, _, hr1⟩ := Open.open_rows_arg 30 (ss := [.int .u8]) Try.underlying58 (by kernel_rfl) (by decide) (by kernel_rfl) (hval 1 58 v1 rfl rfl) h1
  obtain ⟨ts1, ht1⟩ := bytes_of hr1
  clear hA0 hval0
  refine (walk A0 n0 cp0 q0 x0 v0 A1 n1 cp1 ts1 W hl0 hlc0 ha0 hn0 hl1 ht1).mono fun e W' ⟨he, hb⟩ => ?_
  subst he
  exact ⟨_, rfl, Open.law_post laidOut (by kernel_rfl) (by kernel_rfl) Try.underlying4 rfl rfl hW' hb⟩

theorem over : Rows.cellMergesRow.holds Try.pinned (OpenSpec.ofChange Rows.cellMergesSpec) :=
  OpenClaim.holds_of_wide 10 Try.f10 rfl rfl rfl rfl rfl rfl rfl ⟨rfl, rfl, rfl, rfl, rfl⟩ rfl rfl rfl rfl rfl (by kernel_rfl) Try.func10 (by kernel_rfl)
    (of_decide_eq_true (by kernel_rfl)) (by unfold Func.isWrapper; first | (rw [if_pos (by decide +kernel)]; kernel_rfl) | (rw [if_neg (by decide +kernel)]; exact ⟨rfl, rfl⟩))
    (fun os started H enc _ => lifted os started H enc)

theorem proved : Rows.CellMergesSaid := over
#print axioms proved
end Go.Proofs.Ythkphapmnlndbab.CMerges
