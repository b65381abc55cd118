/- LeasePaced: for every hold, wait and row of acts the law returns true. -/
import Derived.Test.YthkphapmnlndbaaRows
import Derived.Test.YthkphapmnlndbaaLPaced1
import Derived.Test.YthkphapmnlndbaaMapI
import Derived.Test.YthkphapmnlndbaaOpen2
import Derived.Deep.DeepCutAuto
import Derived.Deep.CutBlock
namespace Go.Proofs.Ythkphapmnlndbaa.LPaced
open Go.ChangeShapes Go.WideShapes Go.ChangeAt Go.RowKit
set_option linter.unusedSimpArgs false
set_option maxHeartbeats 4000000
attribute [local irreducible] Flow.wpSeg Flow.wpF Flow.wpG Flow.wpS Flow.wpT Flow.wpK
abbrev MA (w : World) (b k : Nat) (f : Int → Int) : Prop := Flow.MapIs Try.prog w b 24 3 .u32 .i64 k f
theorem z3 (u : World) : (zeroValue 3).run Try.prog u = .ok (.int .i64 0) u := by kernel_rfl
theorem lookA {w : World} {b k : Nat} {f : Int → Int} (h : MA w b k f) (c : Int) (hc : 0 ≤ c ∧ c ≤ 4294967295) : (Instr.lookup 60 (.map (some b)) (.int .u32 c) false).run Try.prog w = .ok (.int .i64 (f c)) w :=
  h.look Try.underlying24 Try.underlying3 Try.underlying60 (z3 _) (WalkArith.wf_u32 (by omega))
theorem map_ne {w : World} {a b k : Nat} {f : Int → Int} {t : TypeId} {cs : Array Value} (h : Flow.Blk w a t cs) (m : MA w b k f) : a ≠ b := by
  obtain ⟨D, ⟨es, clock, h1, _⟩, _⟩ := m
  intro e
  subst e
  unfold Flow.Blk at h
  rw [h1] at h
  cases h
theorem map_nofoot {w : World} {b k : Nat} {f : Int → Int} (m : MA w b k f) : ¬ Foot w b := by
  rintro ⟨cs, t, h, _⟩
  exact map_ne h m rfl
/-- What lies in memory. -/
structure Mem (w : World) (h bs mA N : Nat) (s : Hs) (st : PSt) (A : Int → Int) : Prop where
  hs : IsH w h s
  pc : IsPace w bs bs N st
  ma : ∃ k, k ≤ N ∧ MA w mA k A
section
variable {w w' : World} {h bs mA N : Nat} {s s' : Hs} {st st' : PSt} {A A' : Int → Int}
theorem Mem.below (m : Mem w h bs mA N s st A) (hb : Below w.heap.size w w') : Mem w' h bs mA N s st A := ⟨m.hs.below hb, m.pc.below hb, let ⟨k, a, b⟩ := m.ma; ⟨k, a, b.below hb⟩⟩
theorem Mem.more (m : Mem w h bs mA N s st A) : Mem w h bs mA (N + 1) s st A := ⟨m.hs, m.pc.mono (Nat.le_succ _), let ⟨k, a, b⟩ := m.ma; ⟨k, Nat.le_succ_of_le a, b⟩⟩
theorem Mem.h_foot (m : Mem w h bs mA N s st A) : ¬ Foot w h := Foot.not m.hs.1 (by decide)
theorem Mem.a_foot (m : Mem w h bs mA N s st A) : ¬ Foot w mA := let ⟨_, _, b⟩ := m.ma; map_nofoot b
theorem Mem.a_ne (m : Mem w h bs mA N s st A) {a : Nat} {t : TypeId} {cs : Array Value} (k : Flow.Blk w a t cs) : a ≠ mA := let ⟨_, _, b⟩ := m.ma; map_ne k b
theorem Mem.pace (m : Mem w h bs mA N s st A) (hc : Flow.Chg (Foot w) w w') (hp : IsPace w' bs bs (N + 1) st') : Mem w' h bs mA (N + 1) s st' A :=
  ⟨m.hs.chg hc m.h_foot (fun r e => Foot.not (m.hs.2 r e).2 (by decide)), hp, let ⟨k, a, b⟩ := m.ma; ⟨k, Nat.le_succ_of_le a, b.chg hc m.a_foot⟩⟩
theorem Mem.lease (m : Mem w h bs mA N s st A) (hc : Flow.Chg (· = h) w w') (hh : IsH w' h s') : Mem w' h bs mA N s' st A :=
  ⟨hh, m.pc.chg hc (fun j hj e => by subst e; exact m.h_foot hj), let ⟨k, a, b⟩ := m.ma; ⟨k, a, b.chg hc (fun e => m.a_ne m.hs.1 e.symm)⟩⟩
theorem Mem.map (m : Mem w h bs mA N s st A) (hc : Flow.Chg (· = mA) w w') (hm : ∃ k, k ≤ N ∧ MA w' mA k A') : Mem w' h bs mA N s st A' :=
  ⟨m.hs.chg hc (m.a_ne m.hs.1) (fun r e => m.a_ne (m.hs.2 r e).2), m.pc.chg hc (fun j hj e => by subst e; exact m.a_foot hj), hm⟩
theorem Mem.ask (m : Mem w h bs mA N s st A) (hh : IsH w' h s') (hc : Flow.Chg (· = h) w w') {w2 : World} (hp : IsPace w2 bs bs (N + 1) st') (hc2 : Flow.Chg (Foot w') w' w2) : IsH w2 h s' ∧ IsPace w2 bs bs (N + 1) st' ∧ ∃ k, k ≤ N ∧ MA w2 mA k A := by
  have m1 := m.lease hc hh
  exact ⟨m1.hs.chg hc2 m1.h_foot (fun r e => Foot.not (m1.hs.2 r e).2 (by decide)), hp, let ⟨k, a, b⟩ := m1.ma; ⟨k, a, b.chg hc2 m1.a_foot⟩⟩
end
theorem ask_is (h : Nat) (s : Hs) (w : World) (H : IsH w h s) (hb : Bnd s) (b : Bool) (hd : due s 1 = b) (hb0 : b = false) : Calls Try.prog 37 #[.pointer (some ⟨h, 0, none⟩), .int .u32 1] w fun e w' => e = .returned (.bool false) ∧ Below w.heap.size w w' :=
  ask_no h s 1 w H hb (hd.trans hb0)
/-- The acts that came in. -/
def Acts (w : World) (A : Option Addr) (n : Nat) (x : Nat → Int × Int × Int) : Prop :=
  0 < n → ∃ g off, A = some ⟨g, off, none⟩ ∧ g < w.heap.size ∧ ∀ i, i < n → w.cell? ⟨g, off + i * 3, none⟩ = some (.int .u8 (x i).1) ∧ w.cell? ⟨g, off + i * 3 + 1, none⟩ = some (.int .u32 (x i).2.1) ∧ w.cell? ⟨g, off + i * 3 + 2, none⟩ = some (.int .u32 (x i).2.2) ∧ (0 ≤ (x i).1 ∧ (x i).1 ≤ 255)
theorem acts_of {H : Type} {enc : TypeId × Value → H} {base : Nat} {spare : Nat → Bool} {held : Bool} {w : World} {A : Option Addr} {n : Nat} (h : 0 < n → ∃ g off, A = some ⟨g, off, none⟩ ∧ g < w.heap.size ∧
    ∀ i, i < n → ∀ (j : Nat) (s : Open.Shp), ([.int .u8, .int .u32, .int .u32] : List Open.Shp)[j]? = some s → ∃ u, w.cell? ⟨g, off + (i * ([.int .u8, .int .u32, .int .u32] : List Open.Shp).length + j), none⟩ = some u ∧ Open.CellOk enc Try.prog w base spare held s u) :
    ∃ x, Acts w A n x := by
  rcases Nat.eq_zero_or_pos n with h0 | h0
  · exact ⟨fun _ => (0, 0, 0), fun hn => by omega⟩
  · obtain ⟨g, off, rfl, hg, hc⟩ := h h0
    have hx : ∀ i, i < n → ∃ y : Int × Int × Int, w.cell? ⟨g, off + i * 3, none⟩ = some (.int .u8 y.1) ∧ w.cell? ⟨g, off + i * 3 + 1, none⟩ = some (.int .u32 y.2.1) ∧ w.cell? ⟨g, off + i * 3 + 2, none⟩ = some (.int .u32 y.2.2) ∧ (0 ≤ y.1 ∧ y.1 ≤ 255) := by
      intro i hi
      obtain ⟨u0, e0, a0, rfl, w0⟩ := hc i hi 0 _ rfl
      obtain ⟨u1, e1, a1, rfl, w1⟩ := hc i hi 1 _ rfl
      obtain ⟨u2, e2, a2, rfl, w2⟩ := hc i hi 2 _ rfl
      have e : ∀ j, off + (i * ([.int .u8, .int .u32, .int .u32] : List Open.Shp).length + j) = off + i * 3 + j := fun j => by simp; omega
      rw [e] at e0 e1 e2
      exact ⟨(a0, a1, a2), e0, e1, e2, bounds_u8 w0⟩
    obtain ⟨f, hf⟩ := Deep.choose_lt hx
    exact ⟨f, fun _ => ⟨g, off, rfl, hg, hf⟩⟩
set_option maxRecDepth 100000 in
theorem walk (x0 x1 : Int) (A : Option Addr) (len cap : Nat) (x : Nat → Int × Int × Int) (w : World) (h0 : 0 ≤ x0 ∧ x0 ≤ 255) (h1 : 0 ≤ x1 ∧ x1 ≤ 255) (hlen : len ≤ maxLen) (hx : Acts w A len x) :
    Calls Try.prog 11 #[.int .u8 x0, .int .u8 x1, .slice A len cap] w fun e w' => e = .returned (.bool true) ∧ Below w.heap.size w w' := by
  unfold maxLen at hlen
  have hmm := @run_makeMap Try.prog
  have HX := Flow.hide hx
  clear hx
  have hh := Flow.hide (show 1 ≤ 1 + x0 % 20 ∧ 1 + x0 % 20 ≤ 20 by omega)
  have hw := Flow.hide (show 1 ≤ 1 + x1 % 20 ∧ 1 + x1 % 20 ≤ 20 by omega)
  obtain ⟨h01, h02⟩ := h0
  obtain ⟨h11, h12⟩ := h1
  go_enter Try.func11, Try.ntmps11
  go_wp2_with fail
  (with_reducible refine (speaks21 _).mono ?_)
  rintro e w1 ⟨rfl, hb1⟩
  have B1 := Flow.hide hb1
  clear hb1
  go_upto_region 4 with fail
  revert hh hw
  generalize 1 + x0 % 20 = n
  generalize 1 + x1 % 20 = wt
  intro hh hw
  go_wp2_with fail
  (with_reducible refine (new_any n n _).mono ?_)
  rintro e w2 ⟨rfl, hw2⟩
  have hmx : max n 1 = n := by have := hh.out; omega
  have hmy : max n 0 = n := by have := hh.out; omega
  rw [hmx, hmy] at hw2
  have H2 : IsH w2 w1.heap.size ⟨n, n, 0, 0, none, 0, 0⟩ := by rw [hw2]; exact ⟨Flow.Blk.new _ _ _, fun _ e => by cases e⟩
  have B2 : Below w.heap.size w w2 := by rw [hw2]; exact B1.out.alloc B1.out.size _
  have hhb : Hid (w.heap.size ≤ w1.heap.size) := B1.out.size
  clear hw2 hmx hmy B1
  revert H2 hhb
  generalize w1.heap.size = h
  intro H2 hhb
  have B2' := Flow.hide B2
  have H2' := Flow.hide H2
  clear B2 H2
  go_wp2_with fail
  (with_reducible refine (pnew_is 1 1 1 n wt _ rfl (by decide) (by decide) (by have := hh.out; omega) (by have := hw.out; omega)).mono ?_)
  rintro e w3 ⟨rfl, hp3, hb3⟩
  have BB : Hid (w.heap.size ≤ w2.heap.size) := B2'.out.size
  have B3 := B2'.out.trans (hb3.mono B2'.out.size)
  have S3 : w2.heap.size ≤ w3.heap.size := hb3.size
  have H3 := H2'.out.below hb3
  clear hb3 H2' B2'
  revert hp3 BB S3
  generalize w2.heap.size = bs
  intro hp3 BB S3
  have M3 := Flow.hide (show Mem (w3.alloc (.map #[] 0)) h bs w3.heap.size 0 ⟨n, n, 0, 0, none, 0, 0⟩ ⟨1, 1, n, wt, [], false⟩ (fun _ => 0) from ⟨H3.below (Flow.below_alloc _ _), hp3.below (Flow.below_alloc _ _), ⟨0, Nat.le_refl _, Flow.MapIs.made _ _ _ _ _ _⟩⟩)
  have B4 := Flow.hide (B3.alloc B3.size (.map #[] 0))
  have S4 : Hid (bs ≤ (w3.alloc (.map #[] 0)).heap.size) := by rw [World.size_alloc]; exact Nat.le_succ_of_le S3
  have hbs3 : w.heap.size ≤ w3.heap.size := B3.size
  clear hp3 H3 B3 S3
  go_wp2_with fail
  clear hmm
  have hab : Hid (w.heap.size ≤ w3.heap.size) := hbs3
  revert M3 B4 S4 hab
  generalize w3.alloc (.map #[] 0) = w4
  generalize w3.heap.size = mA
  intro M3 B4 S4 hab
  have Q4 := Flow.hide (show QInv n wt 0 ⟨n, n, 0, 0, none, 0, 0⟩ ⟨1, 1, n, wt, [], false⟩ (fun _ => 0) 0 0 from ⟨rfl, rfl, by simp, by simp, (fun _ e => by cases e), by have := hh.out; simp only []; omega, (fun e => by cases e), fun _ => by simp, by simp, by simp, rfl, rfl, rfl, rfl, fun p hp => by cases hp⟩)
  go_loopw [12, 14, 15] (fun t12 t14 t15 wr => ∃ (i : Nat) (s : Hs) (st : PSt) (A : Int → Int) (T last : Int), i ≤ len ∧ i ≤ 80 ∧ t15 = .int .i64 i ∧ t12 = .int .i64 T ∧ t14 = .int .u32 last ∧ QInv n wt i s st A T last ∧ Mem wr h bs mA i s st A ∧ Below w.heap.size w wr ∧ bs ≤ wr.heap.size) (fun _ _ t15 _ => 80 - (intOf t15).toNat)
  case atStart => exact ⟨0, _, _, _, 0, 0, by omega, by omega, rfl, rfl, rfl, Q4.out, M3.out, B4.out, S4.out⟩
  case round =>
    clear Q4 M3 B4 S4
    obtain ⟨i, s, st, A, T, last, hil, hi80, rfl, rfl, rfl, hq, hm, hb, hbs⟩ := hrel
    have QI := Flow.hide hq
    have M := Flow.hide hm
    have HB := Flow.hide hb
    have HBS := Flow.hide hbs
    clear hq hm hb hbs
    by_cases hlt : i < len
    · have hltI : (i : Int) < (len : Int) := by omega
      by_cases hlt80 : i < 80
      · have hlt80I : (i : Int) < 80 := by omega
        obtain ⟨g, off, rfl, hg, hc⟩ := HX.out (by omega)
        obtain ⟨y1', y2', y3', hk⟩ := hc i hlt
        have y1 : wr.cell? ⟨g, off + i * 3, none⟩ = some (.int .u8 (x i).1) := (HB.out.cell (p := ⟨g, off + i * 3, none⟩) hg).trans y1'
        have y2 : wr.cell? ⟨g, off + i * 3 + 1, none⟩ = some (.int .u32 (x i).2.1) := (HB.out.cell (p := ⟨g, off + i * 3 + 1, none⟩) hg).trans y2'
        have y3 : wr.cell? ⟨g, off + i * 3 + 2, none⟩ = some (.int .u32 (x i).2.2) := (HB.out.cell (p := ⟨g, off + i * 3 + 2, none⟩) hg).trans y3'
        revert hk y1 y2 y3
        clear hc y1' y2' y3'
        generalize (x i).1 = wh
        generalize (x i).2.1 = ep
        generalize (x i).2.2 = rq
        intro hk y1 y2 y3
        obtain ⟨hk1, hk2⟩ := hk
        go_upto_region 13 with fail
        obtain ⟨KX, hh5, _⟩ := Flow.laid1 (w := wr) (w1 := wr.alloc (.cells #[.int .u8 wh, .int .u32 ep, .int .u32 rq] 63)) (Below.refl _ _)
        have M5 := Flow.hide (M.out.below hh5)
        have B5 := Flow.hide (HB.out.trans (hh5.mono HB.out.size))
        have S5 : Hid (bs ≤ (wr.alloc (.cells #[.int .u8 wh, .int .u32 ep, .int .u32 rq] 63)).heap.size) := Nat.le_trans HBS.out hh5.size
        revert KX M5 B5 S5
        clear hh5 y1 y2 y3 M HB HBS
        generalize wr.alloc (.cells #[.int .u8 wh, .int .u32 ep, .int .u32 rq] 63) = w5
        generalize wr.heap.size = xb
        intro KX M5 B5 S5
        have cx := KX.cell
        have KX5 := Flow.hide KX
        clear KX
        go_upto_block 2 with fail
        obtain ⟨m6, hm6⟩ : ∃ m, wh % 6 = m := ⟨_, rfl⟩
        have hmb : m6 = 0 ∨ m6 = 1 ∨ m6 = 2 ∨ m6 = 3 ∨ m6 = 4 ∨ m6 = 5 := by omega
        rw [hm6]
        clear hm6
        have bnd := Flow.hide (QI.out.bnd hh.out (by omega))
        go_cut [12, 14] (fun t12 t14 wx => ∃ (s' : Hs) (st' : PSt) (A' : Int → Int) (T' last' : Int), t12 = .int .i64 T' ∧ t14 = .int .u32 last' ∧ QInv n wt (i + 1) s' st' A' T' last' ∧ Mem wx h bs mA (i + 1) s' st' A' ∧ Below w.heap.size w wx ∧ bs ≤ wx.heap.size)
        case first =>
          rcases hmb with hm | hm | hm | hm | hm | hm
          · have b0 : (m6 == 0) = true := by rw [hm]; rfl
            clear hm
            go_wp2_with fail
            (with_reducible refine (pnode_any bs bs i st 1 _ M5.out.pc (by omega) S5.out).mono ?_)
            rintro e w6 ⟨rfl, hp6, hb6, hc6⟩
            have M6 := Flow.hide (M5.out.pace hc6 hp6)
            have B6 := Flow.hide (B5.out.trans (hb6.mono BB.out))
            have S6 : Hid (bs ≤ w6.heap.size) := Nat.le_trans S5.out hb6.size
            clear hp6 hb6 hc6 cx
            go_wp2_with fail
            (with_reducible refine (tick_any h s _ M6.out.hs bnd.out).mono ?_)
            rintro e w7 ⟨rfl, hh7, hc7⟩
            have M7 := Flow.hide (M6.out.lease hc7 hh7)
            have B7 := Flow.hide (B6.out.trans (hc7.below (B := w.heap.size) (fun j _ e => by subst e; exact hhb.out) B6.out.size))
            have S7 : Hid (bs ≤ w7.heap.size) := Nat.le_trans S6.out hc7.size
            clear hh7 hc7
            go_wp2_with fail
            go_meet
            exact ⟨_, _, A, T, last, rfl, rfl, QI.out.node, M7.out, B7.out, S7.out⟩
          · have b0 : (m6 == 0) = false := by rw [hm]; rfl
            have b1 : (m6 == 1) = true := by rw [hm]; rfl
            clear hm
            go_wp2_with fail
            (with_reducible refine (pnode_any bs bs i st 1 _ M5.out.pc (by omega) S5.out).mono ?_)
            rintro e w6 ⟨rfl, hp6, hb6, hc6⟩
            have M6 := Flow.hide (M5.out.pace hc6 hp6)
            have B6 := Flow.hide (B5.out.trans (hb6.mono BB.out))
            have S6 : Hid (bs ≤ w6.heap.size) := Nat.le_trans S5.out hb6.size
            clear hp6 hb6 hc6 cx
            go_wp2_with fail
            (with_reducible refine (tick_any h s _ M6.out.hs bnd.out).mono ?_)
            rintro e w7 ⟨rfl, hh7, hc7⟩
            have M7 := Flow.hide (M6.out.lease hc7 hh7)
            have B7 := Flow.hide (B6.out.trans (hc7.below (B := w.heap.size) (fun j _ e => by subst e; exact hhb.out) B6.out.size))
            have S7 : Hid (bs ≤ w7.heap.size) := Nat.le_trans S6.out hc7.size
            clear hh7 hc7
            go_wp2_with fail
            go_meet
            exact ⟨_, _, A, T, last, rfl, rfl, QI.out.node, M7.out, B7.out, S7.out⟩
          · have b0 : (m6 == 0) = false := by rw [hm]; rfl
            have b1 : (m6 == 1) = false := by rw [hm]; rfl
            have b2 : (m6 == 2) = true := by rw [hm]; rfl
            clear hm
            have hT1 : 0 ≤ T := QI.out.t.1
            have hT2 : T ≤ 100 := by have := QI.out.t; omega
            go_wp2_with fail
            (with_reducible refine (pmaster_yes bs bs i st 1 0 _ rfl M5.out.pc (by omega) S5.out (by have := QI.out.m; omega)).mono ?_)
            rintro e w6 ⟨rfl, hp6, hb6, hc6⟩
            have M6 := Flow.hide (M5.out.pace hc6 hp6)
            have B6 := Flow.hide (B5.out.trans (hb6.mono BB.out))
            have S6 : Hid (bs ≤ w6.heap.size) := Nat.le_trans S5.out hb6.size
            clear hp6 hb6 hc6 cx
            go_wp2_with fail
            go_meet
            exact ⟨s, _, A, (T + 1), last, rfl, rfl, QI.out.master, M6.out, B6.out, S6.out⟩
          · have b0 : (m6 == 0) = false := by rw [hm]; rfl
            have b1 : (m6 == 1) = false := by rw [hm]; rfl
            have b2 : (m6 == 2) = false := by rw [hm]; rfl
            have b3 : (m6 == 3) = true := by rw [hm]; rfl
            clear hm
            rcases hd : due s 1 with _ | _
            · have HDU := Flow.hide hd
              clear hd
              go_wp2_with fail
              (with_reducible refine (ask_no h s 1 _ M5.out.hs bnd.out HDU.out).mono ?_)
              rintro e w6 ⟨rfl, hb6⟩
              have M6 := Flow.hide (M5.out.below hb6)
              have B6 := Flow.hide (B5.out.trans (hb6.mono B5.out.size))
              have S6 : Hid (bs ≤ w6.heap.size) := Nat.le_trans S5.out hb6.size
              clear hb6 cx
              go_wp2_with fail
              go_meet
              exact ⟨s, st, A, T, last, rfl, rfl, QI.out.more, M6.out.more, B6.out, S6.out⟩
            · have HDU := Flow.hide hd
              clear hd
              go_wp2_with fail
              (with_reducible refine (ask_yes h s 1 _ M5.out.hs bnd.out HDU.out).mono ?_)
              rintro e w6 ⟨rfl, ⟨rb, hh6, _⟩, hc6⟩
              have M6 := Flow.hide (M5.out.lease hc6 hh6)
              have B6 := Flow.hide (B5.out.trans (hc6.below (B := w.heap.size) (fun j _ e => by subst e; exact hhb.out) B5.out.size))
              have S6 : Hid (bs ≤ w6.heap.size) := Nat.le_trans S5.out hc6.size
              clear cx
              have HH6 := Flow.hide hh6
              have HC6 := Flow.hide hc6
              clear hh6 hc6
              go_wp2_with fail
              (with_reducible refine (pask_yes bs bs i st 1 _ M6.out.pc (by omega) S6.out (by have := QI.out.n1; omega)).mono ?_)
              rintro e w7 ⟨rfl, hp7, hb7, hc7⟩
              have M7 := Flow.hide (M5.out.ask HH6.out HC6.out hp7 hc7)
              have B7 := Flow.hide (B6.out.trans (hb7.mono BB.out))
              have S7 : Hid (bs ≤ w7.heap.size) := Nat.le_trans S6.out hb7.size
              clear hp7 hb7 hc7 M6 B6 S6
              have hmd := QI.out.made
              have hTT := QI.out.t
              obtain ⟨ih7, ip7, kk, hkk, ma7⟩ := M7.out
              obtain ⟨w8, hup, hm8, hc8⟩ := ma7.update (t := 60) Try.underlying24 Try.underlying3 Try.underlying60 (by unfold maxLen; omega) (c := s.made + 1) (v := T) (WalkArith.wf_u32 (by omega)) (WalkArith.wf_i64 (by omega))
              have M8 := Flow.hide (show Mem w8 h bs mA (i + 1) _ _ _ from ⟨ih7.chg hc8 (map_ne ih7.1 ma7) (fun r e => map_ne (ih7.2 r e).2 ma7), ip7.chg hc8 (fun j hj e => by subst e; exact map_nofoot ma7 hj), ⟨kk + 1, by omega, hm8⟩⟩)
              have B8 := Flow.hide (B7.out.trans (hc8.below (B := w.heap.size) (fun j _ e => by subst e; exact hab.out) B7.out.size))
              have S8 : Hid (bs ≤ w8.heap.size) := Nat.le_trans S7.out hc8.size
              have IH7 := Flow.hide ih7
              have hro : Hid (reqOf { s with made := s.made + 1, req := some ⟨rb, s.made + 1, 1, s.now⟩ } = s.made + 1) := rfl
              clear ih7 ip7 ma7 hm8 hc8 M7 B7 S7
              go_wp2_with fail
              (with_reducible refine (request_any h _ _ IH7.out).mono ?_)
              rintro e w9 ⟨rfl, rfl⟩
              rw [hro.out]
              go_wp2_with fail
              go_meet
              exact ⟨_, _, _, T, last, rfl, rfl, (QI.out.ask rb hw.out.1), M8.out, B8.out, S8.out⟩
          · have b0 : (m6 == 0) = false := by rw [hm]; rfl
            have b1 : (m6 == 1) = false := by rw [hm]; rfl
            have b2 : (m6 == 2) = false := by rw [hm]; rfl
            have b3 : (m6 == 3) = false := by rw [hm]; rfl
            have b4 : (m6 == 4) = true := by rw [hm]; rfl
            clear hm
            rcases hr : s.req with _ | r
            · have hro : Hid (reqOf s = 0) := by show reqOf s = 0; unfold reqOf; rw [hr]
              have hgr : Hid (grants s 1 0 = false) := by show grants s 1 0 = false; unfold grants; rw [hr]
              clear hr
              go_wp2_with fail
              (with_reducible refine (request_any h s _ M5.out.hs).mono ?_)
              rintro e w6 ⟨rfl, rfl⟩
              rw [hro.out]
              rcases hbt : (bits .and .u32 rq 1 == 0) with _ | _
              · go_wp2_with fail
                go_meet
                exact ⟨s, st, A, T, last, rfl, rfl, QI.out.more, M5.out.more, B5.out, S5.out⟩
              · go_wp2_with fail
                (with_reducible refine (grant_no h s 1 0 _ M5.out.hs hgr.out).mono ?_)
                rintro e w6 ⟨rfl, rfl⟩
                go_wp2_with fail
                go_meet
                exact ⟨s, st, A, T, last, rfl, rfl, QI.out.more, M5.out.more, B5.out, S5.out⟩
            · have hro : Hid (reqOf s = r.num) := by show reqOf s = r.num; unfold reqOf; rw [hr]
              have HRR := Flow.hide hr
              have hep := Flow.hide (QI.out.req r hr).2.2.2.2.1
              clear hr
              go_wp2_with fail
              (with_reducible refine (request_any h s _ M5.out.hs).mono ?_)
              rintro e w6 ⟨rfl, rfl⟩
              rw [hro.out]
              rcases hbt : (bits .and .u32 rq 1 == 0) with _ | _
              · go_wp2_with fail
                go_meet
                exact ⟨s, st, A, T, last, rfl, rfl, QI.out.more, M5.out.more, B5.out, S5.out⟩
              · go_wp2_with fail
                (with_reducible refine (grant_yes h s r 1 r.num _ M5.out.hs bnd.out HRR.out rfl hep.out).mono ?_)
                rintro e w6 ⟨rfl, hh6, hc6⟩
                have M6 := Flow.hide (M5.out.lease hc6 hh6)
                have B6 := Flow.hide (B5.out.trans (hc6.below (B := w.heap.size) (fun j _ e => by subst e; exact hhb.out) B5.out.size))
                have S6 : Hid (bs ≤ w6.heap.size) := Nat.le_trans S5.out hc6.size
                clear hh6 hc6 cx
                go_wp2_with fail
                go_meet
                exact ⟨_, st, A, T, r.num, rfl, rfl, (QI.out.grant r HRR.out hh.out.1), M6.out.more, B6.out, S6.out⟩
          · have b0 : (m6 == 0) = false := by rw [hm]; rfl
            have b1 : (m6 == 1) = false := by rw [hm]; rfl
            have b2 : (m6 == 2) = false := by rw [hm]; rfl
            have b3 : (m6 == 3) = false := by rw [hm]; rfl
            have b4 : (m6 == 4) = false := by rw [hm]; rfl
            clear hm
            go_wp2_with fail
            go_meet
            exact ⟨s, st, A, T, last, rfl, rfl, QI.out.more, M5.out.more, B5.out, S5.out⟩
        case rest =>
          obtain ⟨s', st', A', T', last', rfl, rfl, hq', hm', hb', hs'⟩ := hcut
          have QI' := Flow.hide hq'
          have M' := Flow.hide hm'
          have HB' := Flow.hide hb'
          have HS' := Flow.hide hs'
          clear hq' hm' hb' hs' QI M5 B5 S5 cx KX5 bnd
          have hok := QI'.out.check
          have bnd' := Flow.hide (QI'.out.bnd hh.out (by omega))
          obtain ⟨fb, hfb⟩ : ∃ fb, st'.fair = fb := ⟨_, rfl⟩
          rw [hfb] at hok
          have HFB := Flow.hide hfb
          obtain ⟨ob, hob⟩ : ∃ ob, holdsOf s' 1 = ob := ⟨_, rfl⟩
          rw [hob] at hok
          have HOB := Flow.hide hob
          clear hfb hob
          have hT := QI'.out.t
          have hA := QI'.out.a last'
          have hL := QI'.out.last
          obtain ⟨hT1, hT2⟩ := hT
          obtain ⟨hA1, hA2⟩ := hA
          obtain ⟨hL1, hL2⟩ := hL
          go_wp2_with fail
          (with_reducible refine (pfair_is _ _ _ _ fb _ M'.out.pc HFB.out).mono ?_)
          rintro e w7 ⟨rfl, rfl⟩
          rcases fb with _ | _
          · go_wp2_with fail
            go_roundw
            case rel => exact ⟨i + 1, s', st', A', T', last', by omega, by omega, by go_num, rfl, rfl, QI'.out, M'.out, HB'.out, HS'.out⟩
            case measure => simp [intOf]; omega
          · go_wp2_with fail
            (with_reducible refine (holds_any h s' 1 _ M'.out.hs bnd'.out).mono ?_)
            rintro e w8 ⟨rfl, hb8⟩
            rw [HOB.out]
            have M8 := Flow.hide (M'.out.below hb8)
            have B8 := Flow.hide (HB'.out.trans (hb8.mono HB'.out.size))
            have S8 : Hid (bs ≤ w8.heap.size) := Nat.le_trans HS'.out hb8.size
            clear hb8
            obtain ⟨kk, _, hma⟩ := M8.out.ma
            have la := lookA hma last' (by omega)
            clear hma
            rcases ob with _ | _
            · go_wp2_with fail
              go_roundw
              case rel => exact ⟨i + 1, s', st', A', T', last', by omega, by omega, by go_num, rfl, rfl, QI'.out, M8.out, B8.out, S8.out⟩
              case measure => simp [intOf]; omega
            · have hlt' : ¬ wt ≤ T' - A' last' := by
                rcases hok with h | h | h
                · cases h
                · cases h
                · omega
              go_wp2_with fail
              go_roundw
              case rel => exact ⟨i + 1, s', st', A', T', last', by omega, by omega, by go_num, rfl, rfl, QI'.out, M8.out, B8.out, S8.out⟩
              case measure => simp [intOf]; omega
      · obtain rfl : i = 80 := by omega
        go_wp2_with fail
        go_ret
        exact ⟨rfl, HB.out⟩
    · obtain rfl : i = len := by omega
      go_wp2_with fail
      go_ret
      exact ⟨rfl, HB.out⟩
theorem own : ownKnob Try.prog.godebug = none := by kernel_rfl
theorem laidOut : laidOutB Try.prog = true := by kernel_rfl

set_option maxRecDepth 100000 in
theorem lifted (os : Os) (started : os.Started) (H : Type) (enc : TypeId × Value → H) :
    ReturnsInHanded {} Try.checked os 11 .any (Rows.leasePacedSpec.pre6 enc Try.prog Try.f11 Rows.leasePacedRow.domain false) (Rows.leasePacedSpec.post enc Try.prog Try.f11 false true false false) := by
  refine returnsInHanded_of_change (C := Try.checked) own started (by kernel_rfl) Try.func11
    (ChangeSpec.witness6 (enc := enc) (C := Try.checked) false ⟨#[], #[.int .u8 0, .int .u8 0, .slice none 0 0], []⟩ 8 (by kernel_rfl) (by kernel_rfl) (by kernel_rfl) (by kernel_rfl)) ?_
  intro W base args ds gs before hval0 hW hcnd _
  have hval : ∀ (j : Nat) t v, Try.f11.params[j]? = some t → args[j]? = some v → Value.okWide Try.prog W .any base t v := hval0
  have hW' := hW
  obtain ⟨p, q, hA0, hV, rfl, hfz, hnd⟩ := hW
  have hA : DataW.TrodAll enc Try.prog W 0 (fun _ => true) true Try.f11.params.toList args.toList ds p := hA0
  rw [Try.params11] at hA hval
  obtain ⟨v0, v1, v2, d0, d1, d2, p0, p1, p2, hargs, rfl, rfl, h0, h1, h2⟩ := trodAll_three hA
  obtain ⟨rfl, rfl⟩ := trodVars_none hV
  subst hargs
  obtain ⟨x0, rfl, rfl, rfl, wx0⟩ := open_int Try.underlying5 (hval 0 5 v0 rfl rfl) h0
  obtain ⟨x1, rfl, rfl, rfl, wx1⟩ := open_int Try.underlying5 (hval 1 5 v1 rfl rfl) h1
  obtain ⟨A2, n2, cp2, rfl, hl2, _, hr2⟩ := Open.open_rows_arg 30 (ss := [.int .u8, .int .u32, .int .u32]) Try.underlying57 (by kernel_rfl) (by decide) (by kernel_rfl) (hval 2 57 v2 rfl rfl) h2
  obtain ⟨x2, hx2⟩ := acts_of hr2
  clear hA0 hval0
  refine (walk x0 x1 A2 n2 cp2 x2 W (bounds_u8 wx0) (bounds_u8 wx1) hl2 hx2).mono fun e W' ⟨he, hb⟩ => ?_
  subst he
  exact ⟨_, rfl, Open.law_post laidOut (by kernel_rfl) (by kernel_rfl) Try.underlying4 rfl rfl hW' hb⟩

theorem over : Rows.leasePacedRow.holds Try.pinned (OpenSpec.ofChange Rows.leasePacedSpec) :=
  OpenClaim.holds_of_wide 11 Try.f11 rfl rfl rfl rfl rfl rfl rfl ⟨rfl, rfl, rfl, rfl, rfl⟩ rfl rfl rfl rfl rfl (by kernel_rfl) Try.func11 (by kernel_rfl)
    (of_decide_eq_true (by kernel_rfl)) (by unfold Func.isWrapper; first | (rw [if_pos (by decide +kernel)]; kernel_rfl) | (rw [if_neg (by decide +kernel)]; exact ⟨rfl, rfl⟩))
    (fun os started H enc _ => lifted os started H enc)

theorem proved : Rows.LeasePacedSaid := over
#print axioms proved
end Go.Proofs.Ythkphapmnlndbaa.LPaced
