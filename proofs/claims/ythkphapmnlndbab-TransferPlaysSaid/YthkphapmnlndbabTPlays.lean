/- TransferPlays: for every start and every list of acts the law returns true and leaves its arguments as they were. No condition. -/
import Derived.Test.YthkphapmnlndbabRows
import Derived.Test.YthkphapmnlndbabTSpeaks
import Derived.Test.YthkphapmnlndbabGen
import Derived.Test.YthkphapmnlndbabOpen
import Derived.StillTailTactics
namespace Go.Proofs.Ythkphapmnlndbab.TPlays
open Go.ChangeShapes Go.WideShapes Go.ChangeAt Go.RowKit
set_option maxHeartbeats 4000000
set_option linter.unusedSimpArgs false
attribute [local irreducible] Flow.wpSeg Flow.wpF Flow.wpG Flow.wpS

theorem needs_nil (A : Option Addr) (n cap : Nat) (w : World) : Calls Try.prog 28 #[.pointer none, .slice A n cap] w fun e w' => e = .returned (.slice none 0 0) ∧ w = w' := by
  go_enter Try.func28, Try.ntmps28
  go_wp2_with fail
  go_ret
  exact ⟨rfl, rfl⟩
/-- 256 bools. -/
def arr (H : Nat → Bool) : Array Value := Array.ofFn (n := 256) fun i => .bool (H i.val)
theorem arr_get (H : Nat → Bool) {k : Nat} (hk : k < 256) : (arr H)[k]? = some (.bool (H k)) := by simp [arr, hk]
theorem arr_size (H : Nat → Bool) : (arr H).size = 256 := by simp [arr]
theorem arr_set (H H' : Nat → Bool) {k : Nat} (b : Bool) (hk : k < 256) (he : ∀ j, j < 256 → H' j = if j = k then b else H j) : (arr H).setIfInBounds k (.bool b) = arr H' := by
  apply Array.ext_getElem?
  intro i
  by_cases hi : i < 256
  · rw [arr_get H' hi, he i hi]
    by_cases hik : k = i
    · subst hik
      rw [if_pos rfl, Array.getElem?_setIfInBounds_self_of_lt (by rw [arr_size]; exact hk)]
    · rw [if_neg (fun e => hik e.symm), Array.getElem?_setIfInBounds_ne hik, arr_get H hi]
  · rw [Array.getElem?_eq_none (by simp [arr_size]; omega), Array.getElem?_eq_none (by simp [arr_size]; omega)]
theorem zero57 : Try.zeroCells57 = arr fun _ => false := by kernel_rfl

/-- An act: its kind, its key, its nodes. -/
structure TAct where
  q : Int
  key : Nat
  A : Option Addr
  n : Nat
  c : Nat
  nd : Nat → Int
def Acts (w : World) (A : Option Addr) (n : Nat) (l : Nat → TAct) : Prop :=
  0 < n → ∃ g off, A = some ⟨g, off, none⟩ ∧ g < w.heap.size ∧ ∀ i, i < n → w.cell? ⟨g, off + i * 3, none⟩ = some (.int .u8 (l i).q) ∧ w.cell? ⟨g, off + i * 3 + 1, none⟩ = some (.int .u8 (l i).key) ∧ w.cell? ⟨g, off + i * 3 + 2, none⟩ = some (.slice (l i).A (l i).n (l i).c) ∧
    (0 ≤ (l i).q ∧ (l i).q ≤ 255) ∧ (l i).key ≤ 255 ∧ (l i).n ≤ (l i).c ∧ (l i).n ≤ maxLen ∧
    (0 < (l i).n → ∃ b off, (l i).A = some ⟨b, off, none⟩ ∧ b < w.heap.size ∧ ∀ j, j < (l i).n → w.cell? ⟨b, off + j, none⟩ = some (.int .u8 ((l i).nd j)))
theorem keys_at (h : Nat → Bool) (j : Nat) (hj : h j = false) : ∀ n, j < n → (keys h n)[(keys h j).length]? = some j
  | 0, hn => by omega
  | n + 1, hn => by
    by_cases hjn : j = n
    · subst hjn
      show (if h j then keys h j else keys h j ++ [j])[(keys h j).length]? = some j
      rw [hj]; simp
    · have ih := keys_at h j hj n (by omega)
      have hlt := (List.getElem?_eq_some_iff.1 ih).1
      show (if h n then keys h n else keys h n ++ [n])[(keys h j).length]? = some j
      split
      · exact ih
      · rw [List.getElem?_append_left hlt]; exact ih
theorem keys_len (h : Nat → Bool) (j : Nat) : (keys h (j + 1)).length = (keys h j).length + if h j then 0 else 1 := by
  show (if h j then keys h j else keys h j ++ [j]).length = _
  split <;> simp
theorem needC_at (nd : Nat → Int) (c n : Nat) (l : List Nat) (i x : Nat) (hx : l[i]? = some x) :
    (needC nd c n l)[i * 2]? = some (.int .u8 (x : Int)) ∧ (needC nd c n l)[i * 2 + 1]? = some (.int .u8 (nd ((c + x) % n))) := by
  induction l generalizing i with
  | nil => simp at hx
  | cons y l ih =>
    match i, hx with
    | 0, hx => simp at hx; subst hx; simp [needC]
    | i + 1, hx =>
      have := ih i (by simpa using hx)
      rw [show (i + 1) * 2 = i * 2 + 1 + 1 by omega]
      simpa [needC] using this
theorem has_q {h : Nat → Bool} {c : Int} {g : Nat} {w : World} (hB : Flow.Blk w g 144 (tc h c)) (k : Nat) (p : Flow.Rg) :
    Calls Try.prog 29 #[tp g, .int .u8 k] (Flow.rg w p) fun e w' => e = .returned (.bool (hasOf h k)) ∧ Below (Flow.rg w p).heap.size (Flow.rg w p) w' :=
  (has_any h c g k _ (hB.below (Flow.rg_below w p))).mono fun _ _ ⟨h1, h2⟩ => ⟨h1, h2 ▸ Below.refl _ _⟩
theorem _root_.Go.Proofs.Ythkphapmnlndbab.Flow.Chg.onto {S : Nat → Prop} {B : Nat} {w w1 w2 : World} (h : Below B w w1) (hc : Flow.Chg S w1 w2) (hs : ∀ j, S j → B ≤ j) (hB : B ≤ w1.heap.size) : Below B w w2 :=
  h.trans (hc.below (fun j _ hj => hs j hj) hB)
theorem neq64 (a b : Int) (w : World) : (binOp .neq 64 (.agg #[.int .u8 a, .int .u8 b]) (.agg #[.int .u8 a, .int .u8 b])).run Try.prog w = .ok (.bool false) w := by go_simp
theorem bne_self (b : Bool) : (b != b) = false := by cases b <;> rfl
theorem acts_of {H : Type} {enc : TypeId × Value → H} {base : Nat} {spare : Nat → Bool} {held : Bool} {w : World} {A : Option Addr} {n : Nat} (h : 0 < n → ∃ g off, A = some ⟨g, off, none⟩ ∧ g < w.heap.size ∧
    ∀ i, i < n → ∀ (j : Nat) (s : Open.Shp), ([.int .u8, .int .u8, .ref 58] : List Open.Shp)[j]? = some s → ∃ u, w.cell? ⟨g, off + (i * ([.int .u8, .int .u8, .ref 58] : List Open.Shp).length + j), none⟩ = some u ∧ Open.CellOk enc Try.prog w base spare held s u) :
    ∃ l, Acts w A n l := by
  rcases Nat.eq_zero_or_pos n with h0 | h0
  · exact ⟨fun _ => ⟨0, 0, none, 0, 0, fun _ => 0⟩, fun hn => by omega⟩
  · obtain ⟨g, off, rfl, hg, hc⟩ := h h0
    have hx : ∀ i, i < n → ∃ x : TAct, w.cell? ⟨g, off + i * 3, none⟩ = some (.int .u8 x.q) ∧ w.cell? ⟨g, off + i * 3 + 1, none⟩ = some (.int .u8 x.key) ∧ w.cell? ⟨g, off + i * 3 + 2, none⟩ = some (.slice x.A x.n x.c) ∧
        (0 ≤ x.q ∧ x.q ≤ 255) ∧ x.key ≤ 255 ∧ x.n ≤ x.c ∧ x.n ≤ maxLen ∧ (0 < x.n → ∃ b off, x.A = some ⟨b, off, none⟩ ∧ b < w.heap.size ∧ ∀ j, j < x.n → w.cell? ⟨b, off + j, none⟩ = some (.int .u8 (x.nd j))) := by
      intro i hi
      obtain ⟨u0, e0, a, rfl, w0⟩ := hc i hi 0 _ rfl
      obtain ⟨u1, e1, b, rfl, w1⟩ := hc i hi 1 _ rfl
      obtain ⟨u2, e2, f2, x2, t2⟩ := hc i hi 2 _ rfl
      obtain ⟨A2, m2, c2, rfl, q1, q2, q3⟩ := Open.open_rows (ss := [.int .u8]) 30 Try.underlying58 (by kernel_rfl) (by decide) (by kernel_rfl) t2
      have hb := bounds_u8 w1
      obtain ⟨nb, rfl⟩ : ∃ k : Nat, b = k := ⟨b.toNat, by omega⟩
      rcases Nat.eq_zero_or_pos m2 with hm | hm
      · exact ⟨⟨a, nb, A2, m2, c2, fun _ => 0⟩, e0, e1, e2, bounds_u8 w0, by show nb ≤ 255; omega, q2, q1, fun hn => by have : 0 < m2 := hn; omega⟩
      · obtain ⟨g2, off2, rfl, hg2, hc2⟩ := q3 hm
        have hy : ∀ j, j < m2 → ∃ z : Int, w.cell? ⟨g2, off2 + j, none⟩ = some (.int .u8 z) := by
          intro j hj
          obtain ⟨u, e, z, rfl, _⟩ := hc2 j hj 0 _ rfl
          exact ⟨z, by simpa using e⟩
        obtain ⟨nd, hnd⟩ := Deep.choose_lt hy
        exact ⟨⟨a, nb, some ⟨g2, off2, none⟩, m2, c2, nd⟩, e0, e1, e2, bounds_u8 w0, by show nb ≤ 255; omega, q2, q1, fun _ => ⟨g2, off2, rfl, hg2, hnd⟩⟩
    have : Inhabited TAct := ⟨⟨0, 0, none, 0, 0, fun _ => 0⟩⟩
    obtain ⟨f, hf⟩ := Deep.choose_lt hx
    exact ⟨f, fun _ => ⟨g, off, rfl, hg, fun i hi => hf i hi⟩⟩
set_option maxRecDepth 100000 in
theorem walk (whole : Bool) (AA : Option Addr) (len cap : Nat) (l : Nat → TAct) (w : World) (hl : len ≤ maxLen) (hacts : Acts w AA len l) :
    Calls Try.prog 6 #[.bool whole, .slice AA len cap] w fun e w' => e = .returned (.bool true) ∧ Below w.heap.size w w' := by
  unfold maxLen at hl
  have HA := Flow.hide hacts
  clear hacts
  go_enter Try.func6, Try.ntmps6
  go_wp2_with fail
  refine (speaks19 _).mono ?_
  rintro e w1 ⟨rfl, b1⟩
  go_wp2_with fail
  refine (new_any whole _).mono ?_
  rintro e w2 ⟨rfl, hB, hb⟩
  have b2 : Below w.heap.size w w2 := b1.trans (hb.mono b1.size)
  obtain ⟨g, hg⟩ : ∃ g, g = w1.heap.size := ⟨_, rfl⟩
  rw [← hg] at hB ⊢
  have hwg : w.heap.size ≤ g := by rw [hg]; exact b1.size
  have HB := Flow.hide hB
  have B2 := Flow.hide b2
  clear hg hb hB b1 b2
  go_wp2_with fail
  obtain ⟨a, ha⟩ : ∃ a, a = w2.heap.size := ⟨_, rfl⟩
  obtain ⟨w3, hw3⟩ : ∃ w3, w3 = w2.alloc (.cells Try.zeroCells57 57) := ⟨_, rfl⟩
  have hga : g < a := by rw [ha]; exact HB.out.lt
  have A3 : Flow.Blk w3 a 57 (arr fun _ => false) := by rw [hw3, ha, zero57]; exact Flow.Blk.new _ _ _
  have B3 : Below w.heap.size w w3 := by rw [hw3]; exact B2.out.alloc B2.out.size _
  have G3 : Flow.Blk w3 g 144 (tc (fun _ => whole) 0) := by rw [hw3]; exact HB.out.alloc _
  rw [← hw3, ← ha]
  have HA3 := Flow.hide A3
  have HB3 := Flow.hide B3
  have HG3 := Flow.hide G3
  clear A3 B3 G3 hw3 ha HB B2
  go_loopw [7] (fun i wr => ∃ k : Nat, k ≤ 6 ∧ i = .int .i64 k ∧ Flow.Blk wr a 57 (arr fun j => whole && decide (j < k)) ∧ w3.grownBy wr (some a)) (fun i _ => 6 - (intOf i).toNat)
  case atStart => exact ⟨0, by omega, rfl, by rw [show (fun j : Nat => whole && decide (j < 0)) = fun _ => false from by funext j; simp]; exact HA3.out, World.grownBy.refl _ _⟩
  case round =>
    obtain ⟨k, hk, rfl, hA, hg⟩ := hrel
    by_cases hlt : k < 6
    · have hcell := (hA.cell k).trans (arr_get _ (by omega))
      have hfr := hA.frozen k
      have HA1 := Flow.hide hA
      have Hg := Flow.hide hg
      clear hA hg
      go_wp2_with fail
      go_roundw
      case rel =>
        refine ⟨k + 1, by omega, by go_num, ?_, Hg.out.more (Flow.Chg.setAt _ _ _ _).grown1 (fun j e => .inl (Option.some.inj e).symm)⟩
        have := HA1.out.set k (.bool whole)
        rwa [arr_set _ (fun j => whole && decide (j < k + 1)) _ (by omega) (by
          intro j hj
          by_cases h1 : j = k
          · subst h1; simp
          · rw [if_neg h1]; congr 1; exact decide_eq_decide.2 (by omega))] at this
      case measure => simp [intOf]; omega
    · obtain rfl : k = 6 := by omega
      have HA1 := Flow.hide hA
      have Hg := Flow.hide hg
      clear hA hg
      go_wp2_with fail
      rw [show ((6 : Nat) : Int) = 6 from rfl]
      have hout : ∀ j, 6 ≤ j → (whole && decide (j < 6)) = false := fun j hj => by rw [decide_eq_false (by omega), Bool.and_false]
      have hG : Flow.Blk wr g 144 (tc (fun j => whole && decide (j < 6)) ((0 : Nat) : Int)) := by
        rw [tc_congr _ (h := fun _ => whole) (fun j hj => by simp [hj])]
        exact HG3.out.chg (Flow.Chg.of_grown1 Hg.out) (by omega)
      have hBW : Below w.heap.size w wr := (HB3.out).grown Hg.out (HB3.out.size) (fun j e => by cases e; omega)
      have HG := Flow.hide hG
      have HBW := Flow.hide hBW
      have HO := Flow.hide hout
      clear hG hBW hout Hg HG3 HB3 HA3
      obtain ⟨h0, hh0⟩ : ∃ h : Nat → Bool, h = fun j => whole && decide (j < 6) := ⟨_, rfl⟩
      rw [← hh0] at HA1 HG
      have HO : Hid (∀ j, 6 ≤ j → h0 j = false) := by rw [hh0]; exact HO.out
      clear hh0
      go_loopw [8, 9] (fun t8 t9 wr => ∃ (k c : Nat) (h : Nat → Bool), k ≤ len ∧ k ≤ 40 ∧ c ≤ k ∧ t9 = .int .i64 k ∧ t8 = .int .i64 c ∧ (∀ j, 6 ≤ j → h j = false) ∧ Flow.Blk wr g 144 (tc h c) ∧ Flow.Blk wr a 57 (arr h) ∧ Below w.heap.size w wr) (fun _ t9 _ => len - (intOf t9).toNat)
      case atStart => exact ⟨0, 0, h0, by omega, by omega, by omega, rfl, rfl, HO.out, HG.out, HA1.out, HBW.out⟩
      case round =>
        obtain ⟨k, c, h, hk, hk40, hc, rfl, rfl, O0, G0, A0, B0⟩ := hrel
        clear HO HG HA1 HBW
        have HO := Flow.hide O0
        have HG := Flow.hide G0
        have HAr := Flow.hide A0
        have HBW := Flow.hide B0
        clear O0 G0 A0 B0
        by_cases hlt : k < len ∧ k < 40
        · obtain ⟨hlt, hlt40⟩ := hlt
          obtain ⟨ab, aoff, rfl, hab, hcells⟩ := HA.out (by omega)
          obtain ⟨x0, x1, x2, xq, xk, xn, xm, xnd⟩ := hcells k hlt
          rw [← HBW.out.cell (p := ⟨ab, _, none⟩) hab] at x0 x1 x2
          have xnd' : 0 < (l k).n → ∃ b off, (l k).A = some ⟨b, off, none⟩ ∧ b < w.heap.size ∧ ∀ j, j < (l k).n → wr.cell? ⟨b, off + j, none⟩ = some (.int .u8 ((l k).nd j)) := fun hn => by
            obtain ⟨b, off, e, hb, hcc⟩ := xnd hn
            exact ⟨b, off, e, hb, fun j hj => by rw [HBW.out.cell (p := ⟨b, _, none⟩) hb]; exact hcc j hj⟩
          generalize (l k).q = Q at *
          generalize (l k).key = KY at *
          generalize (l k).A = NA at *
          generalize (l k).n = NN at *
          generalize (l k).c = NC at *
          generalize (l k).nd = ND at *
          have Hnd := Flow.hide xnd'
          clear hcells xnd xnd'
          by_cases hq2 : Q % 4 = 2
          · have q1 : (Q % 4 == 2) = true := by simp [hq2]
            clear hq2
            by_cases hn9 : NN ≤ 9
            · have b1 : (NN : Int) ≤ 9 := by omega
              have b2 : ¬ (9 : Int) < NN := by omega
              by_cases hn0 : NN = 0
              · subst hn0
                go_wp2_with fail
                (with_reducible refine (needs_any h c g NA 0 NC ND _ (HG.out.alloc _) ?nodes0 (by omega) (by omega)).mono ?_)
                case nodes0 =>
                  exact .inl rfl
                rintro e w4 ⟨v, rfl, hown, hG4, hg4⟩
                have hc4 : Flow.Chg (· = g) wr w4 := ((Flow.Chg.of_below (Flow.below_alloc wr _)).mono (fun _ _ e => e.elim)).trans (Flow.Chg.of_grown1 hg4) (fun _ _ e => e)
                obtain ⟨VA, vcap, rfl, hvc, _⟩ := Flow.ownsRow_form hown
                have HG4 := Flow.hide hG4
                have HA4 := Flow.hide (HAr.out.chg hc4 (by omega))
                have HB4 : Hid (Below w.heap.size w w4) := Flow.Chg.onto HBW.out hc4 (fun j e => by omega) HBW.out.size
                have hsz : w.heap.size ≤ wr.heap.size := HBW.out.size
                have hsz4 : wr.heap.size + 1 ≤ w4.heap.size := by have := hg4.size; simp at this; exact this
                have Hg4 := Flow.hide hc4
                rw [if_pos rfl] at hown ⊢
                have HO4 := Flow.hide hown
                generalize wr.heap.size = xb at *
                clear hown hG4 hg4 hc4 hvc x0 x1 x2 q1 HG HAr HBW
                go_wp2_with fail
                go_loopw [13, 14] (fun t13 t14 wq => t14 = .int .i64 0 ∧ t13 = .int .i64 0 ∧ wq = w4) (fun _ _ _ => 0)
                case atStart => exact ⟨rfl, rfl, rfl⟩
                case round =>
                  obtain ⟨rfl, rfl, rfl⟩ := hrel
                  have HG5 := HG4
                  have HA5 := HA4
                  have HB5 := HB4
                  clear HG4 HA4 HB4
                  obtain ⟨h1, hh1⟩ : ∃ h1, h1 = h := ⟨_, rfl⟩
                  rw [← hh1] at HG5 HA5
                  have HO5 : Hid (∀ j, 6 ≤ j → h1 j = false) := by rw [hh1]; exact HO.out
                  clear hh1
                  go_wp2_with fail
                  go_loop [15, 16] (fun t15 t16 => ∃ j : Nat, j ≤ 6 ∧ t16 = .int .i64 j ∧ t15 = .bool (allOf h1 j)) (fun _ t16 => 6 - (intOf t16).toNat)
                  case atStart => exact ⟨0, by omega, rfl, rfl⟩
                  case round =>
                    obtain ⟨j, hj, rfl, rfl⟩ := hrel
                    by_cases hjl : j < 6
                    · have hj1 := (HA5.out.cell j).trans (arr_get h1 (by omega))
                      rcases hv : allOf h1 j with _ | _
                      · have Hv := Flow.hide hv
                        clear hv
                        go_wp2_with fail
                        go_round
                        case rel => exact ⟨j + 1, by omega, by go_num, by show Value.bool false = .bool (allOf h1 j && h1 j); rw [Hv.out, Bool.false_and]⟩
                        case measure => simp [intOf]; omega
                      · have Hv := Flow.hide hv
                        clear hv
                        go_wp2_with fail
                        go_round
                        case rel => exact ⟨j + 1, by omega, by go_num, by show Value.bool (h1 j) = .bool (allOf h1 j && h1 j); rw [Hv.out, Bool.true_and]⟩
                        case measure => simp [intOf]; omega
                    · obtain rfl : j = 6 := by omega
                      have hne : (allOf h1 6 != allOf h1 6) = false := bne_self _
                      go_wp2_with fail
                      (with_reducible refine (complete_any h1 _ g _ HG5.out).mono ?_)
                      rintro e w6 ⟨rfl, rfl⟩
                      go_wp2_with fail
                      go_roundw
                      case rel => exact ⟨k + 1, c + 1, h1, by omega, by omega, by omega, by go_num, by first | rfl | go_num, HO5.out, HG5.out, HA5.out, HB5.out⟩
                      case measure => simp [intOf]; omega
              · have hpos : 0 < NN := by omega
                go_wp2_with fail
                (with_reducible refine (needs_any h c g NA NN NC ND _ (HG.out.alloc _) ?nodesNN (by omega) (by omega)).mono ?_)
                case nodesNN =>
                  obtain ⟨b, off, e, hb, hcc⟩ := Hnd.out (by omega)
                  refine .inr ⟨b, off, e, by omega, ?_, fun i hi => ?_⟩
                  · have := HBW.out.size; simp; omega
                  · rw [(Flow.below_alloc wr _).cell (p := ⟨b, _, none⟩) (by have := HBW.out.size; show b < wr.heap.size; omega)]
                    exact hcc i (by omega)
                rintro e w4 ⟨v, rfl, hown, hG4, hg4⟩
                have hc4 : Flow.Chg (· = g) wr w4 := ((Flow.Chg.of_below (Flow.below_alloc wr _)).mono (fun _ _ e => e.elim)).trans (Flow.Chg.of_grown1 hg4) (fun _ _ e => e)
                obtain ⟨VA, vcap, rfl, hvc, _⟩ := Flow.ownsRow_form hown
                have HG4 := Flow.hide hG4
                have HA4 := Flow.hide (HAr.out.chg hc4 (by omega))
                have HB4 : Hid (Below w.heap.size w w4) := Flow.Chg.onto HBW.out hc4 (fun j e => by omega) HBW.out.size
                have hsz : w.heap.size ≤ wr.heap.size := HBW.out.size
                have hsz4 : wr.heap.size + 1 ≤ w4.heap.size := by have := hg4.size; simp at this; exact this
                have Hg4 := Flow.hide hc4
                rw [if_neg (by omega)] at hown ⊢
                have HO4 := Flow.hide hown
                have hll := keys_length h 6
                have Hnd4 : Hid (∃ b off, NA = some ⟨b, off, none⟩ ∧ b < w.heap.size ∧ ∀ j, j < NN → w4.cell? ⟨b, off + j, none⟩ = some (.int .u8 (ND j))) := by
                  obtain ⟨b, off, e, hb, hcc⟩ := Hnd.out (by omega)
                  refine ⟨b, off, e, hb, fun j hj => ?_⟩
                  have := hcc j (by omega)
                  rw [← this]
                  exact World.cell?_of_block (w := wr) (w' := w4) (a := ⟨b, _, none⟩) (Hg4.out.block b (by omega) (by omega))
                generalize wr.heap.size = xb at *
                clear hown hG4 hg4 hc4 hvc x0 x1 x2 q1 HG HAr HBW Hg4 Hnd
                obtain ⟨L, hL⟩ : ∃ L, L = keys h 6 := ⟨_, rfl⟩
                rw [← hL] at HO4 hll ⊢
                have HL := Flow.hide hL
                clear hL
                go_wp2_with fail
                go_loopw [13, 14] (fun t13 t14 wr => ∃ j : Nat, j ≤ 6 ∧ t14 = .int .i64 j ∧ t13 = .int .i64 (keys h j).length ∧ Below w4.heap.size w4 wr) (fun _ t14 _ => 6 - (intOf t14).toNat)
                case atStart => exact ⟨0, by omega, rfl, rfl, Below.refl _ _⟩
                case round =>
                  obtain ⟨j, hj, rfl, rfl, hbj⟩ := hrel
                  have Hbj := Flow.hide hbj
                  clear hbj
                  have hkl := keys_length h j
                  by_cases hjl : j < 6
                  · have hc0 := ((HA4.out.below Hbj.out).cell j).trans (arr_get h (by omega))
                    have Hlen := Flow.hide (keys_len h j)
                    rcases hv : h j with _ | _
                    · have Hx : Hid (L[(keys h j).length]? = some j) := by rw [HL.out]; exact keys_at h j hv 6 hjl
                      have hnl : (keys h j).length < L.length := (List.getElem?_eq_some_iff.1 Hx.out).1
                      obtain ⟨nb, ncap, hA, nb1, nb2, nb3, ncell, _⟩ := Flow.ownsRow_at HO4.out (by omega)
                      cases hA
                      obtain ⟨b, off, rfl, hb, hcc⟩ := Hnd4.out
                      have n0 := ncell ((keys h j).length * 2) (by omega)
                      have n1 := ncell ((keys h j).length * 2 + 1) (by omega)
                      rw [(needC_at _ _ _ _ _ _ Hx.out).1] at n0
                      rw [(needC_at _ _ _ _ _ _ Hx.out).2] at n1
                      have hml : (c + j) % NN < NN := Nat.mod_lt _ (by omega)
                      have hn2 := hcc ((c + j) % NN) hml
                      have hrem : ((c : Int) + j).tmod ((NN : Nat) : Int) = (((c + j) % NN : Nat) : Int) := by rw [← Int.natCast_add]; exact (Int.ofNat_tmod (c + j) NN).symm
                      obtain ⟨r, hr⟩ : ∃ r, r = (c + j) % NN := ⟨_, rfl⟩
                      rw [← hr] at n1 hn2 hrem hml
                      obtain ⟨KJ, hKJ⟩ : ∃ n, n = (keys h j).length := ⟨_, rfl⟩
                      rw [← hKJ] at n0 n1 hnl hkl Hlen ⊢
                      have HKJ := Flow.hide hKJ
                      have Hv := Flow.hide hv
                      rw [hv] at hc0
                      have r0 : ∀ p, (Flow.rg wr p).cell? ⟨nb, KJ * 2, none⟩ = some (.int .u8 (j : Int)) := fun p => by rw [(Flow.rg_below wr p).cell (p := ⟨nb, _, none⟩) (by have := Hbj.out.size; show nb < _; omega), Hbj.out.cell (p := ⟨nb, _, none⟩) nb2]; exact n0
                      have r1 : ∀ p, (Flow.rg wr p).cell? ⟨nb, KJ * 2 + 1, none⟩ = some (.int .u8 (ND r)) := fun p => by rw [(Flow.rg_below wr p).cell (p := ⟨nb, _, none⟩) (by have := Hbj.out.size; show nb < _; omega), Hbj.out.cell (p := ⟨nb, _, none⟩) nb2]; exact n1
                      have r2 : ∀ p, (Flow.rg wr p).cell? ⟨b, off + r, none⟩ = some (.int .u8 (ND r)) := fun p => by rw [(Flow.rg_below wr p).cell (p := ⟨b, _, none⟩) (by have := Hbj.out.size; show b < _; omega), Hbj.out.cell (p := ⟨b, _, none⟩) (by show b < _; omega)]; exact hn2
                      clear n0 n1 hn2 ncell hcc hr hKJ hv
                      have s1 : IntKind.i64.wrap ((c : Int) + j) = (c : Int) + j := IntWalk.i64_in _ (by omega)
                      have s2 : IntKind.u8.wrap (j : Int) = j := IntWalk.u8_in _ (by omega)
                      have s3 : (j : Int) % 256 = j := by omega
                      have s4 : IntKind.i64.wrap (r : Int) = r := IntWalk.i64_in _ (by omega)
                      have s5 : ¬ (L.length : Int) ≤ KJ := by omega
                      have s6 : ¬ L.length ≤ KJ := by omega
                      have s7 := neq64 (j : Int) (ND r)
                      have s8 : KJ < L.length := by omega
                      go_wp2_with fail
                      refine Flow.wp_region_all (by kernel_rfl) (by kernel_rfl) ?_
                      repeat (first
                        | (refine Flow.wpSeg_step (fun K' hK' => ?_)
                           go_simp
                           first
                             | (refine hK' _ ?_; clear hK' K')
                             | (apply Exists.intro
                                refine ⟨fun p => ?_, hK' _ ?_⟩
                                (first | fail)
                                clear hK' K')))
                      refine Flow.wpSeg_nil ?_
                      intro w5 hb5
                      have Hb5 := Flow.hide (Hbj.out.trans (hb5.mono Hbj.out.size))
                      clear hb5 r0 r1 r2 s1 s2 s3 s4 s5 s6 s7 hrem hc0
                      go_wp2_with fail
                      go_roundw
                      case rel => exact ⟨j + 1, by omega, by go_num, by rw [Hlen.out, Hv.out]; go_num, Hb5.out⟩
                      case measure => simp [intOf]; omega
                    · have Hv := Flow.hide hv
                      rw [hv] at hc0
                      clear hv
                      go_wp2_with fail
                      go_roundw
                      case rel => exact ⟨j + 1, by omega, by go_num, by rw [Hlen.out, Hv.out]; rfl, Hbj.out⟩
                      case measure => simp [intOf]; omega
                  · obtain rfl : j = 6 := by omega
                    rw [← HL.out]
                    have HG5 := Flow.hide (HG4.out.below Hbj.out)
                    have HA5 := Flow.hide (HA4.out.below Hbj.out)
                    have HB5 : Hid (Below w.heap.size w wr) := HB4.out.trans (Hbj.out.mono HB4.out.size)
                    clear HG4 HA4 HB4
                    obtain ⟨h1, hh1⟩ : ∃ h1, h1 = h := ⟨_, rfl⟩
                    rw [← hh1] at HG5 HA5
                    have HO5 : Hid (∀ j, 6 ≤ j → h1 j = false) := by rw [hh1]; exact HO.out
                    clear hh1
                    go_wp2_with fail
                    go_loop [15, 16] (fun t15 t16 => ∃ j : Nat, j ≤ 6 ∧ t16 = .int .i64 j ∧ t15 = .bool (allOf h1 j)) (fun _ t16 => 6 - (intOf t16).toNat)
                    case atStart => exact ⟨0, by omega, rfl, rfl⟩
                    case round =>
                      obtain ⟨j, hj, rfl, rfl⟩ := hrel
                      by_cases hjl : j < 6
                      · have hj1 := (HA5.out.cell j).trans (arr_get h1 (by omega))
                        rcases hv : allOf h1 j with _ | _
                        · have Hv := Flow.hide hv
                          clear hv
                          go_wp2_with fail
                          go_round
                          case rel => exact ⟨j + 1, by omega, by go_num, by show Value.bool false = .bool (allOf h1 j && h1 j); rw [Hv.out, Bool.false_and]⟩
                          case measure => simp [intOf]; omega
                        · have Hv := Flow.hide hv
                          clear hv
                          go_wp2_with fail
                          go_round
                          case rel => exact ⟨j + 1, by omega, by go_num, by show Value.bool (h1 j) = .bool (allOf h1 j && h1 j); rw [Hv.out, Bool.true_and]⟩
                          case measure => simp [intOf]; omega
                      · obtain rfl : j = 6 := by omega
                        have hne : (allOf h1 6 != allOf h1 6) = false := bne_self _
                        go_wp2_with fail
                        (with_reducible refine (complete_any h1 _ g _ HG5.out).mono ?_)
                        rintro e w6 ⟨rfl, rfl⟩
                        go_wp2_with fail
                        go_roundw
                        case rel => exact ⟨k + 1, c + 1, h1, by omega, by omega, by omega, by go_num, by first | rfl | go_num, HO5.out, HG5.out, HA5.out, HB5.out⟩
                        case measure => simp [intOf]; omega
            · have b1 : ¬ (NN : Int) ≤ 9 := by omega
              have b2 : (9 : Int) < NN := by omega
              have hpos : 0 < 9 := by omega
              go_wp2_with fail
              (with_reducible refine (needs_any h c g NA 9 NC ND _ (HG.out.alloc _) ?nodes9 (by omega) (by omega)).mono ?_)
              case nodes9 =>
                obtain ⟨b, off, e, hb, hcc⟩ := Hnd.out (by omega)
                refine .inr ⟨b, off, e, by omega, ?_, fun i hi => ?_⟩
                · have := HBW.out.size; simp; omega
                · rw [(Flow.below_alloc wr _).cell (p := ⟨b, _, none⟩) (by have := HBW.out.size; show b < wr.heap.size; omega)]
                  exact hcc i (by omega)
              rintro e w4 ⟨v, rfl, hown, hG4, hg4⟩
              have hc4 : Flow.Chg (· = g) wr w4 := ((Flow.Chg.of_below (Flow.below_alloc wr _)).mono (fun _ _ e => e.elim)).trans (Flow.Chg.of_grown1 hg4) (fun _ _ e => e)
              obtain ⟨VA, vcap, rfl, hvc, _⟩ := Flow.ownsRow_form hown
              have HG4 := Flow.hide hG4
              have HA4 := Flow.hide (HAr.out.chg hc4 (by omega))
              have HB4 : Hid (Below w.heap.size w w4) := Flow.Chg.onto HBW.out hc4 (fun j e => by omega) HBW.out.size
              have hsz : w.heap.size ≤ wr.heap.size := HBW.out.size
              have hsz4 : wr.heap.size + 1 ≤ w4.heap.size := by have := hg4.size; simp at this; exact this
              have Hg4 := Flow.hide hc4
              rw [if_neg (by omega)] at hown ⊢
              have HO4 := Flow.hide hown
              have hll := keys_length h 6
              have Hnd4 : Hid (∃ b off, NA = some ⟨b, off, none⟩ ∧ b < w.heap.size ∧ ∀ j, j < 9 → w4.cell? ⟨b, off + j, none⟩ = some (.int .u8 (ND j))) := by
                obtain ⟨b, off, e, hb, hcc⟩ := Hnd.out (by omega)
                refine ⟨b, off, e, hb, fun j hj => ?_⟩
                have := hcc j (by omega)
                rw [← this]
                exact World.cell?_of_block (w := wr) (w' := w4) (a := ⟨b, _, none⟩) (Hg4.out.block b (by omega) (by omega))
              generalize wr.heap.size = xb at *
              clear hown hG4 hg4 hc4 hvc x0 x1 x2 q1 HG HAr HBW Hg4 Hnd
              obtain ⟨L, hL⟩ : ∃ L, L = keys h 6 := ⟨_, rfl⟩
              rw [← hL] at HO4 hll ⊢
              have HL := Flow.hide hL
              clear hL
              go_wp2_with fail
              go_loopw [13, 14] (fun t13 t14 wr => ∃ j : Nat, j ≤ 6 ∧ t14 = .int .i64 j ∧ t13 = .int .i64 (keys h j).length ∧ Below w4.heap.size w4 wr) (fun _ t14 _ => 6 - (intOf t14).toNat)
              case atStart => exact ⟨0, by omega, rfl, rfl, Below.refl _ _⟩
              case round =>
                obtain ⟨j, hj, rfl, rfl, hbj⟩ := hrel
                have Hbj := Flow.hide hbj
                clear hbj
                have hkl := keys_length h j
                by_cases hjl : j < 6
                · have hc0 := ((HA4.out.below Hbj.out).cell j).trans (arr_get h (by omega))
                  have Hlen := Flow.hide (keys_len h j)
                  rcases hv : h j with _ | _
                  · have Hx : Hid (L[(keys h j).length]? = some j) := by rw [HL.out]; exact keys_at h j hv 6 hjl
                    have hnl : (keys h j).length < L.length := (List.getElem?_eq_some_iff.1 Hx.out).1
                    obtain ⟨nb, ncap, hA, nb1, nb2, nb3, ncell, _⟩ := Flow.ownsRow_at HO4.out (by omega)
                    cases hA
                    obtain ⟨b, off, rfl, hb, hcc⟩ := Hnd4.out
                    have n0 := ncell ((keys h j).length * 2) (by omega)
                    have n1 := ncell ((keys h j).length * 2 + 1) (by omega)
                    rw [(needC_at _ _ _ _ _ _ Hx.out).1] at n0
                    rw [(needC_at _ _ _ _ _ _ Hx.out).2] at n1
                    have hml : (c + j) % 9 < 9 := Nat.mod_lt _ (by omega)
                    have hn2 := hcc ((c + j) % 9) hml
                    have hrem : ((c : Int) + j).tmod ((9 : Nat) : Int) = (((c + j) % 9 : Nat) : Int) := by rw [← Int.natCast_add]; exact (Int.ofNat_tmod (c + j) 9).symm
                    obtain ⟨r, hr⟩ : ∃ r, r = (c + j) % 9 := ⟨_, rfl⟩
                    rw [← hr] at n1 hn2 hrem hml
                    rw [show ((9 : Nat) : Int) = 9 from rfl] at hrem
                    have i9 : (r : Int) < 9 := by omega
                    obtain ⟨KJ, hKJ⟩ : ∃ n, n = (keys h j).length := ⟨_, rfl⟩
                    rw [← hKJ] at n0 n1 hnl hkl Hlen ⊢
                    have HKJ := Flow.hide hKJ
                    have Hv := Flow.hide hv
                    rw [hv] at hc0
                    have r0 : ∀ p, (Flow.rg wr p).cell? ⟨nb, KJ * 2, none⟩ = some (.int .u8 (j : Int)) := fun p => by rw [(Flow.rg_below wr p).cell (p := ⟨nb, _, none⟩) (by have := Hbj.out.size; show nb < _; omega), Hbj.out.cell (p := ⟨nb, _, none⟩) nb2]; exact n0
                    have r1 : ∀ p, (Flow.rg wr p).cell? ⟨nb, KJ * 2 + 1, none⟩ = some (.int .u8 (ND r)) := fun p => by rw [(Flow.rg_below wr p).cell (p := ⟨nb, _, none⟩) (by have := Hbj.out.size; show nb < _; omega), Hbj.out.cell (p := ⟨nb, _, none⟩) nb2]; exact n1
                    have r2 : ∀ p, (Flow.rg wr p).cell? ⟨b, off + r, none⟩ = some (.int .u8 (ND r)) := fun p => by rw [(Flow.rg_below wr p).cell (p := ⟨b, _, none⟩) (by have := Hbj.out.size; show b < _; omega), Hbj.out.cell (p := ⟨b, _, none⟩) (by show b < _; omega)]; exact hn2
                    clear n0 n1 hn2 ncell hcc hr hKJ hv
                    have s1 : IntKind.i64.wrap ((c : Int) + j) = (c : Int) + j := IntWalk.i64_in _ (by omega)
                    have s2 : IntKind.u8.wrap (j : Int) = j := IntWalk.u8_in _ (by omega)
                    have s3 : (j : Int) % 256 = j := by omega
                    have s4 : IntKind.i64.wrap (r : Int) = r := IntWalk.i64_in _ (by omega)
                    have s5 : ¬ (L.length : Int) ≤ KJ := by omega
                    have s6 : ¬ L.length ≤ KJ := by omega
                    have s7 := neq64 (j : Int) (ND r)
                    have s8 : KJ < L.length := by omega
                    go_wp2_with fail
                    refine Flow.wp_region_all (by kernel_rfl) (by kernel_rfl) ?_
                    repeat (first
                      | (refine Flow.wpSeg_step (fun K' hK' => ?_)
                         go_simp
                         first
                           | (refine hK' _ ?_; clear hK' K')
                           | (apply Exists.intro
                              refine ⟨fun p => ?_, hK' _ ?_⟩
                              (first | fail)
                              clear hK' K')))
                    refine Flow.wpSeg_nil ?_
                    intro w5 hb5
                    have Hb5 := Flow.hide (Hbj.out.trans (hb5.mono Hbj.out.size))
                    clear hb5 r0 r1 r2 s1 s2 s3 s4 s5 s6 s7 hrem hc0
                    go_wp2_with fail
                    go_roundw
                    case rel => exact ⟨j + 1, by omega, by go_num, by rw [Hlen.out, Hv.out]; go_num, Hb5.out⟩
                    case measure => simp [intOf]; omega
                  · have Hv := Flow.hide hv
                    rw [hv] at hc0
                    clear hv
                    go_wp2_with fail
                    go_roundw
                    case rel => exact ⟨j + 1, by omega, by go_num, by rw [Hlen.out, Hv.out]; rfl, Hbj.out⟩
                    case measure => simp [intOf]; omega
                · obtain rfl : j = 6 := by omega
                  rw [← HL.out]
                  have HG5 := Flow.hide (HG4.out.below Hbj.out)
                  have HA5 := Flow.hide (HA4.out.below Hbj.out)
                  have HB5 : Hid (Below w.heap.size w wr) := HB4.out.trans (Hbj.out.mono HB4.out.size)
                  clear HG4 HA4 HB4
                  obtain ⟨h1, hh1⟩ : ∃ h1, h1 = h := ⟨_, rfl⟩
                  rw [← hh1] at HG5 HA5
                  have HO5 : Hid (∀ j, 6 ≤ j → h1 j = false) := by rw [hh1]; exact HO.out
                  clear hh1
                  go_wp2_with fail
                  go_loop [15, 16] (fun t15 t16 => ∃ j : Nat, j ≤ 6 ∧ t16 = .int .i64 j ∧ t15 = .bool (allOf h1 j)) (fun _ t16 => 6 - (intOf t16).toNat)
                  case atStart => exact ⟨0, by omega, rfl, rfl⟩
                  case round =>
                    obtain ⟨j, hj, rfl, rfl⟩ := hrel
                    by_cases hjl : j < 6
                    · have hj1 := (HA5.out.cell j).trans (arr_get h1 (by omega))
                      rcases hv : allOf h1 j with _ | _
                      · have Hv := Flow.hide hv
                        clear hv
                        go_wp2_with fail
                        go_round
                        case rel => exact ⟨j + 1, by omega, by go_num, by show Value.bool false = .bool (allOf h1 j && h1 j); rw [Hv.out, Bool.false_and]⟩
                        case measure => simp [intOf]; omega
                      · have Hv := Flow.hide hv
                        clear hv
                        go_wp2_with fail
                        go_round
                        case rel => exact ⟨j + 1, by omega, by go_num, by show Value.bool (h1 j) = .bool (allOf h1 j && h1 j); rw [Hv.out, Bool.true_and]⟩
                        case measure => simp [intOf]; omega
                    · obtain rfl : j = 6 := by omega
                      have hne : (allOf h1 6 != allOf h1 6) = false := bne_self _
                      go_wp2_with fail
                      (with_reducible refine (complete_any h1 _ g _ HG5.out).mono ?_)
                      rintro e w6 ⟨rfl, rfl⟩
                      go_wp2_with fail
                      go_roundw
                      case rel => exact ⟨k + 1, c + 1, h1, by omega, by omega, by omega, by go_num, by first | rfl | go_num, HO5.out, HG5.out, HA5.out, HB5.out⟩
                      case measure => simp [intOf]; omega
          · have q1 : (Q % 4 == 2) = false := by simp [hq2]
            clear hq2
            by_cases hq3 : Q % 4 = 3
            · have q2 : (Q % 4 == 3) = true := by simp [hq3]
              clear hq3
              have hhas : hasOf h KY = h KY := by
                unfold hasOf
                by_cases h6 : KY < 6
                · simp [h6]
                · rw [HO.out KY (by omega), Bool.and_false]
              go_wp2_with fail
              obtain ⟨wx, hwx⟩ : ∃ wx, wx = wr.alloc (.cells #[.int .u8 Q, .int .u8 KY, .slice NA NN NC] 60) := ⟨_, rfl⟩
              have Kx : Flow.Blk wx wr.heap.size 60 #[.int .u8 Q, .int .u8 KY, .slice NA NN NC] := by rw [hwx]; exact Flow.Blk.new _ _ _
              have HGx : Hid (Flow.Blk wx g 144 (tc h c)) := by rw [hwx]; exact HG.out.alloc _
              have HAx : Hid (Flow.Blk wx a 57 (arr h)) := by rw [hwx]; exact HAr.out.alloc _
              have HBx : Hid (Below w.heap.size w wx) := by rw [hwx]; exact HBW.out.alloc HBW.out.size _
              rw [← hwx]
              generalize wr.heap.size = xb at *
              clear hwx
              have rx := Kx.rg
              have ra : ∀ (p : Flow.Rg), (Flow.rg wx p).cell? ⟨a, KY, none⟩ = some (.bool (h KY)) := fun p => ((HAx.out.rg p) KY).trans (arr_get h (by omega))
              have hne : (h KY != h KY) = false := bne_self _
              have i1 : KY < 256 := by omega
              have i2 : (KY : Int) < 256 := by omega
              refine Flow.wp_region_all (by kernel_rfl) (by kernel_rfl) ?_
              repeat (first
                | (refine Flow.wpSeg_step (fun K' hK' => ?_)
                   go_simp
                   first
                     | (refine hK' _ ?_; clear hK' K')
                     | (apply Exists.intro
                        refine ⟨fun p => ?_, hK' _ ?_⟩
                        (first | with_reducible exact (has_q HGx.out KY p))
                        clear hK' K')))
              refine Flow.wpSeg_nil ?_
              intro w4 hb4
              have HG5 := Flow.hide (HGx.out.below hb4)
              have HA5 := Flow.hide (HAx.out.below hb4)
              have HB5 : Hid (Below w.heap.size w w4) := HBx.out.trans (hb4.mono HBx.out.size)
              clear hb4 HGx HAx HBx Kx rx ra hne hhas x0 x1 x2 q1 q2 HG HAr HBW i1 i2
              obtain ⟨h1, hh1⟩ : ∃ h1, h1 = h := ⟨_, rfl⟩
              rw [← hh1] at HG5 HA5
              have HO5 : Hid (∀ j, 6 ≤ j → h1 j = false) := by rw [hh1]; exact HO.out
              clear hh1
              go_wp2_with fail
              go_loop [15, 16] (fun t15 t16 => ∃ j : Nat, j ≤ 6 ∧ t16 = .int .i64 j ∧ t15 = .bool (allOf h1 j)) (fun _ t16 => 6 - (intOf t16).toNat)
              case atStart => exact ⟨0, by omega, rfl, rfl⟩
              case round =>
                obtain ⟨j, hj, rfl, rfl⟩ := hrel
                by_cases hjl : j < 6
                · have hj1 := (HA5.out.cell j).trans (arr_get h1 (by omega))
                  rcases hv : allOf h1 j with _ | _
                  · have Hv := Flow.hide hv
                    clear hv
                    go_wp2_with fail
                    go_round
                    case rel => exact ⟨j + 1, by omega, by go_num, by show Value.bool false = .bool (allOf h1 j && h1 j); rw [Hv.out, Bool.false_and]⟩
                    case measure => simp [intOf]; omega
                  · have Hv := Flow.hide hv
                    clear hv
                    go_wp2_with fail
                    go_round
                    case rel => exact ⟨j + 1, by omega, by go_num, by show Value.bool (h1 j) = .bool (allOf h1 j && h1 j); rw [Hv.out, Bool.true_and]⟩
                    case measure => simp [intOf]; omega
                · obtain rfl : j = 6 := by omega
                  have hne : (allOf h1 6 != allOf h1 6) = false := bne_self _
                  go_wp2_with fail
                  (with_reducible refine (complete_any h1 _ g _ HG5.out).mono ?_)
                  rintro e w6 ⟨rfl, rfl⟩
                  go_wp2_with fail
                  go_roundw
                  case rel => exact ⟨k + 1, c, h1, by omega, by omega, by omega, by go_num, by first | rfl | go_num, HO5.out, HG5.out, HA5.out, HB5.out⟩
                  case measure => simp [intOf]; omega
            · have q2 : (Q % 4 == 3) = false := by simp [hq3]
              clear hq3
              go_wp2_with fail
              (with_reducible refine (got_any h c g KY _ (HG.out.alloc _)).mono ?_)
              rintro e w4 ⟨rfl, hG4, hg4⟩
              have hc4 : Flow.Chg (· = g) wr w4 := ((Flow.Chg.of_below (Flow.below_alloc wr _)).mono (fun _ _ e => e.elim)).trans (Flow.Chg.of_grown1 hg4) (fun _ _ e => e)
              have Kx : Flow.Blk w4 wr.heap.size 60 #[.int .u8 Q, .int .u8 KY, .slice NA NN NC] := (Flow.Blk.new wr 60 _).chg (Flow.Chg.of_grown1 hg4) (by have := HG.out.lt; omega)
              have HG4 := Flow.hide hG4
              have HA4 := Flow.hide (HAr.out.chg hc4 (by omega))
              have HB4 : Hid (Below w.heap.size w w4) := Flow.Chg.onto HBW.out hc4 (fun j e => by omega) HBW.out.size
              generalize wr.heap.size = xb at *
              clear hG4 hg4 hc4 x0 x1 x2 q1 q2 HG HAr HBW
              have cx := Kx.cell
              have ca := (HA4.out.cell KY).trans (arr_get h (by omega))
              have fa := HA4.out.frozen KY
              have i1 : KY < 256 := by omega
              have i2 : (KY : Int) < 256 := by omega
              obtain ⟨h1, hh1⟩ : ∃ h1 : Nat → Bool, h1 = fun j => h j || (decide (j = KY) && decide (KY < 6)) := ⟨_, rfl⟩
              have HO5 : Hid (∀ j, 6 ≤ j → h1 j = false) := fun j hj => by
                rw [hh1]
                show (h j || (decide (j = KY) && decide (KY < 6))) = false
                rw [HO.out j hj, Bool.false_or]
                by_cases hjk : j = KY
                · rw [decide_eq_false (show ¬ KY < 6 by omega), Bool.and_false]
                · rw [decide_eq_false hjk, Bool.false_and]
              have hG1 : Flow.Blk w4 g 144 (tc h1 c) := by
                rw [tc_congr _ (h := got h KY) (fun j hj => by
                  rw [hh1]
                  show (h j || (decide (j = KY) && decide (KY < 6))) = (h j || decide (j = KY))
                  by_cases hjk : j = KY
                  · rw [decide_eq_true (show KY < 6 by omega), Bool.and_true]
                  · rw [decide_eq_false hjk, Bool.false_and])]
                exact HG4.out
              have HG6 := Flow.hide hG1
              have HH := Flow.hide hh1
              clear hG1 hh1 HG4
              rcases hv : h KY with _ | _
              · rw [hv] at ca
                have Hv := Flow.hide hv
                clear hv
                go_wp2_with fail
                go_still_tail 12, (by kernel_rfl)
                go_wp2_with fail
                obtain ⟨w5, hw5⟩ : ∃ w5, w5 = (w4.setCell { block := a, off := KY } (Value.bool (decide ((KY : Int) < 6)))).drew := ⟨_, rfl⟩
                rw [← hw5]
                have hc5 : Flow.Chg (· = a) w4 w5 := by rw [hw5]; exact (Flow.Chg.setAt _ _ _ _).drew
                have HG5 := Flow.hide (HG6.out.chg hc5 (by omega))
                have HB5 : Hid (Below w.heap.size w w5) := Flow.Chg.onto HB4.out hc5 (fun j e => by omega) HB4.out.size
                have HA5 : Hid (Flow.Blk w5 a 57 (arr h1)) := by
                  rw [hw5]
                  have := HA4.out.set KY (.bool (decide ((KY : Int) < 6)))
                  rw [arr_set h h1 _ (by omega) (fun j hj => by
                    rw [HH.out]
                    show (h j || (decide (j = KY) && decide (KY < 6))) = _
                    by_cases hjk : j = KY
                    · rw [hjk, Hv.out, if_pos rfl, decide_eq_true rfl, Bool.true_and]
                      first | rfl | (rw [Bool.false_or]; exact decide_eq_decide.2 (by omega))
                    · rw [if_neg hjk, decide_eq_false hjk, Bool.false_and, Bool.or_false])] at this
                  exact this
                clear hw5 hc5 HA4 HB4 HG6 ca fa cx Kx i1 i2
                go_loop [15, 16] (fun t15 t16 => ∃ j : Nat, j ≤ 6 ∧ t16 = .int .i64 j ∧ t15 = .bool (allOf h1 j)) (fun _ t16 => 6 - (intOf t16).toNat)
                case atStart => exact ⟨0, by omega, rfl, rfl⟩
                case round =>
                  obtain ⟨j, hj, rfl, rfl⟩ := hrel
                  by_cases hjl : j < 6
                  · have hj1 := (HA5.out.cell j).trans (arr_get h1 (by omega))
                    rcases hv : allOf h1 j with _ | _
                    · have Hv := Flow.hide hv
                      clear hv
                      go_wp2_with fail
                      go_round
                      case rel => exact ⟨j + 1, by omega, by go_num, by show Value.bool false = .bool (allOf h1 j && h1 j); rw [Hv.out, Bool.false_and]⟩
                      case measure => simp [intOf]; omega
                    · have Hv := Flow.hide hv
                      clear hv
                      go_wp2_with fail
                      go_round
                      case rel => exact ⟨j + 1, by omega, by go_num, by show Value.bool (h1 j) = .bool (allOf h1 j && h1 j); rw [Hv.out, Bool.true_and]⟩
                      case measure => simp [intOf]; omega
                  · obtain rfl : j = 6 := by omega
                    have hne : (allOf h1 6 != allOf h1 6) = false := bne_self _
                    go_wp2_with fail
                    (with_reducible refine (complete_any h1 _ g _ HG5.out).mono ?_)
                    rintro e w6 ⟨rfl, rfl⟩
                    go_wp2_with fail
                    go_roundw
                    case rel => exact ⟨k + 1, c, h1, by omega, by omega, by omega, by go_num, by first | rfl | go_num, HO5.out, HG5.out, HA5.out, HB5.out⟩
                    case measure => simp [intOf]; omega
              · rw [hv] at ca
                have Hv := Flow.hide hv
                clear hv
                go_wp2_with fail
                go_still_tail 12, (by kernel_rfl)
                go_wp2_with fail
                obtain ⟨w5, hw5⟩ : ∃ w5, w5 = (w4.setCell { block := a, off := KY } (Value.bool (true))).drew := ⟨_, rfl⟩
                rw [← hw5]
                have hc5 : Flow.Chg (· = a) w4 w5 := by rw [hw5]; exact (Flow.Chg.setAt _ _ _ _).drew
                have HG5 := Flow.hide (HG6.out.chg hc5 (by omega))
                have HB5 : Hid (Below w.heap.size w w5) := Flow.Chg.onto HB4.out hc5 (fun j e => by omega) HB4.out.size
                have HA5 : Hid (Flow.Blk w5 a 57 (arr h1)) := by
                  rw [hw5]
                  have := HA4.out.set KY (.bool (true))
                  rw [arr_set h h1 _ (by omega) (fun j hj => by
                    rw [HH.out]
                    show (h j || (decide (j = KY) && decide (KY < 6))) = _
                    by_cases hjk : j = KY
                    · rw [hjk, Hv.out, if_pos rfl, decide_eq_true rfl, Bool.true_and]
                      first | rfl | (rw [Bool.false_or]; exact decide_eq_decide.2 (by omega))
                    · rw [if_neg hjk, decide_eq_false hjk, Bool.false_and, Bool.or_false])] at this
                  exact this
                clear hw5 hc5 HA4 HB4 HG6 ca fa cx Kx i1 i2
                go_loop [15, 16] (fun t15 t16 => ∃ j : Nat, j ≤ 6 ∧ t16 = .int .i64 j ∧ t15 = .bool (allOf h1 j)) (fun _ t16 => 6 - (intOf t16).toNat)
                case atStart => exact ⟨0, by omega, rfl, rfl⟩
                case round =>
                  obtain ⟨j, hj, rfl, rfl⟩ := hrel
                  by_cases hjl : j < 6
                  · have hj1 := (HA5.out.cell j).trans (arr_get h1 (by omega))
                    rcases hv : allOf h1 j with _ | _
                    · have Hv := Flow.hide hv
                      clear hv
                      go_wp2_with fail
                      go_round
                      case rel => exact ⟨j + 1, by omega, by go_num, by show Value.bool false = .bool (allOf h1 j && h1 j); rw [Hv.out, Bool.false_and]⟩
                      case measure => simp [intOf]; omega
                    · have Hv := Flow.hide hv
                      clear hv
                      go_wp2_with fail
                      go_round
                      case rel => exact ⟨j + 1, by omega, by go_num, by show Value.bool (h1 j) = .bool (allOf h1 j && h1 j); rw [Hv.out, Bool.true_and]⟩
                      case measure => simp [intOf]; omega
                  · obtain rfl : j = 6 := by omega
                    have hne : (allOf h1 6 != allOf h1 6) = false := bne_self _
                    go_wp2_with fail
                    (with_reducible refine (complete_any h1 _ g _ HG5.out).mono ?_)
                    rintro e w6 ⟨rfl, rfl⟩
                    go_wp2_with fail
                    go_roundw
                    case rel => exact ⟨k + 1, c, h1, by omega, by omega, by omega, by go_num, by first | rfl | go_num, HO5.out, HG5.out, HA5.out, HB5.out⟩
                    case measure => simp [intOf]; omega
        · by_cases hlen : k < len
          · obtain rfl : k = 40 := by omega
            go_wp2_with fail
            refine (got_nil 1 _).mono ?_
            rintro e w5 ⟨rfl, rfl⟩
            go_wp2_with fail
            refine (has_nil 1 _).mono ?_
            rintro e w5 ⟨rfl, rfl⟩
            go_wp2_with fail
            (with_reducible refine (complete_nil _).mono ?_)
            rintro e w5 ⟨rfl, rfl⟩
            go_wp2_with fail
            (with_reducible refine (needs_nil _ _ _ _).mono ?_)
            rintro e w5 ⟨rfl, rfl⟩
            go_wp2_with fail
            go_ret
            exact ⟨rfl, HBW.out.alloc HBW.out.size _⟩
          · skip
            go_wp2_with fail
            refine (got_nil 1 _).mono ?_
            rintro e w5 ⟨rfl, rfl⟩
            go_wp2_with fail
            refine (has_nil 1 _).mono ?_
            rintro e w5 ⟨rfl, rfl⟩
            go_wp2_with fail
            (with_reducible refine (complete_nil _).mono ?_)
            rintro e w5 ⟨rfl, rfl⟩
            go_wp2_with fail
            (with_reducible refine (needs_nil _ _ _ _).mono ?_)
            rintro e w5 ⟨rfl, rfl⟩
            go_wp2_with fail
            go_ret
            exact ⟨rfl, HBW.out.alloc HBW.out.size _⟩

theorem own : ownKnob Try.prog.godebug = none := by kernel_rfl
theorem laidOut : laidOutB Try.prog = true := by kernel_rfl

set_option maxRecDepth 100000 in
theorem lifted (os : Os) (started : os.Started) (H : Type) (enc : TypeId × Value → H) :
    ReturnsInHanded {} Try.checked os 6 .any (Rows.transferPlaysSpec.pre6 enc Try.prog Try.f6 Rows.transferPlaysRow.domain false) (Rows.transferPlaysSpec.post enc Try.prog Try.f6 false true false false) := by
  refine returnsInHanded_of_change (C := Try.checked) own started (by kernel_rfl) Try.func6
    (ChangeSpec.witness6 (enc := enc) (C := Try.checked) false ⟨#[], #[.bool false, .slice none 0 0], []⟩ 8 (by kernel_rfl) (by kernel_rfl) (by kernel_rfl) (by kernel_rfl)) ?_
  intro W base args ds gs before hval0 hW hcnd _
  have hval : ∀ (j : Nat) t v, Try.f6.params[j]? = some t → args[j]? = some v → Value.okWide Try.prog W .any base t v := hval0
  have hW' := hW
  obtain ⟨p, q, hA0, hV, rfl, hfz, hnd⟩ := hW
  have hA : DataW.TrodAll enc Try.prog W 0 (fun _ => true) true Try.f6.params.toList args.toList ds p := hA0
  rw [Try.params6] at hA hval
  obtain ⟨v0, v1, d0, d1, p0, p1, hargs, rfl, rfl, h0, h1⟩ := trodAll_two hA
  obtain ⟨rfl, rfl⟩ := trodVars_none hV
  subst hargs
  obtain ⟨x0, rfl, rfl, rfl⟩ := open_bool Try.underlying4 (hval 0 4 v0 rfl rfl) h0
  obtain ⟨A1, n1, c1, rfl, hl1, _, hr1⟩ := Open.open_rows_arg 30 (ss := [.int .u8, .int .u8, .ref 58]) Try.underlying54 (by kernel_rfl) (by decide) (by kernel_rfl) (hval 1 54 v1 rfl rfl) h1
  obtain ⟨l1, ha1⟩ := acts_of hr1
  clear hA0 hval0
  refine (walk x0 A1 n1 c1 l1 W hl1 ha1).mono fun e W' ⟨he, hb⟩ => ?_
  subst he
  exact ⟨_, rfl, Open.law_post laidOut (by kernel_rfl) (by kernel_rfl) Try.underlying4 rfl rfl hW' hb⟩

theorem over : Rows.transferPlaysRow.holds Try.pinned (OpenSpec.ofChange Rows.transferPlaysSpec) :=
  OpenClaim.holds_of_wide 6 Try.f6 rfl rfl rfl rfl rfl rfl rfl ⟨rfl, rfl, rfl, rfl, rfl⟩ rfl rfl rfl rfl rfl (by kernel_rfl) Try.func6 (by kernel_rfl)
    (of_decide_eq_true (by kernel_rfl)) (by unfold Func.isWrapper; first | (rw [if_pos (by decide +kernel)]; kernel_rfl) | (rw [if_neg (by decide +kernel)]; exact ⟨rfl, rfl⟩))
    (fun os started H enc _ => lifted os started H enc)

theorem proved : Rows.TransferPlaysSaid := over
#print axioms proved
end Go.Proofs.Ythkphapmnlndbab.TPlays
