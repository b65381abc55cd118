/- BagPlays: for every room and row of acts the law returns true. -/
import Derived.Test.YthkphapmnlndbaaRows
import Derived.Test.YthkphapmnlndbaaBag4
import Derived.Test.YthkphapmnlndbaaOpen2
import Derived.Deep.DeepCutAuto
import Derived.Deep.CutBlock
namespace Go.Proofs.Ythkphapmnlndbaa.BPlays
open Go.ChangeShapes Go.WideShapes Go.ChangeAt Go.RowKit Go.ChangeMaps CrcPlain
set_option linter.unusedSimpArgs false
set_option maxHeartbeats 4000000
attribute [local irreducible] Flow.wpSeg Flow.wpF Flow.wpG Flow.wpS Flow.wpT Flow.wpK
/-- The acts that came in: what, place, where, to whom, text, bits. -/
def Acts (w : World) (A : Option Addr) (n : Nat) (x : Nat → Int × Int × Int × Int × ByteArray × Nat) : Prop :=
  0 < n → ∃ g off, A = some ⟨g, off, none⟩ ∧ g < w.heap.size ∧ ∀ i, i < n → w.cell? ⟨g, off + i * 6, none⟩ = some (.int .i64 (x i).1) ∧ w.cell? ⟨g, off + i * 6 + 1, none⟩ = some (.int .i64 (x i).2.1) ∧ w.cell? ⟨g, off + i * 6 + 2, none⟩ = some (.int .i64 (x i).2.2.1) ∧
    w.cell? ⟨g, off + i * 6 + 3, none⟩ = some (.int .u8 (x i).2.2.2.1) ∧ w.cell? ⟨g, off + i * 6 + 4, none⟩ = some (.string (x i).2.2.2.2.1) ∧ w.cell? ⟨g, off + i * 6 + 5, none⟩ = some (.int .u32 ((x i).2.2.2.2.2 : Int)) ∧
    (-9223372036854775808 ≤ (x i).2.2.1 ∧ (x i).2.2.1 ≤ 9223372036854775807) ∧ (x i).2.2.2.2.2 < 4294967296 ∧ (x i).2.2.2.2.1.size ≤ maxLen ∧ (0 ≤ (x i).2.2.2.1 ∧ (x i).2.2.2.1 ≤ 255)
theorem acts_of {H : Type} {enc : TypeId × Value → H} {base : Nat} {spare : Nat → Bool} {held : Bool} {w : World} {A : Option Addr} {n : Nat} (h : 0 < n → ∃ g off, A = some ⟨g, off, none⟩ ∧ g < w.heap.size ∧
    ∀ i, i < n → ∀ (j : Nat) (s : Open.Shp), ([.int .i64, .int .i64, .int .i64, .int .u8, .str, .int .u32] : List Open.Shp)[j]? = some s → ∃ u, w.cell? ⟨g, off + (i * ([.int .i64, .int .i64, .int .i64, .int .u8, .str, .int .u32] : List Open.Shp).length + j), none⟩ = some u ∧ Open.CellOk enc Try.prog w base spare held s u) :
    ∃ x, Acts w A n x := by
  rcases Nat.eq_zero_or_pos n with h0 | h0
  · exact ⟨fun _ => (0, 0, 0, 0, ⟨#[]⟩, 0), fun hn => by omega⟩
  · obtain ⟨g, off, rfl, hg, hc⟩ := h h0
    have hx : ∀ i, i < n → ∃ y : Int × Int × Int × Int × ByteArray × Nat, w.cell? ⟨g, off + i * 6, none⟩ = some (.int .i64 y.1) ∧ w.cell? ⟨g, off + i * 6 + 1, none⟩ = some (.int .i64 y.2.1) ∧ w.cell? ⟨g, off + i * 6 + 2, none⟩ = some (.int .i64 y.2.2.1) ∧
        w.cell? ⟨g, off + i * 6 + 3, none⟩ = some (.int .u8 y.2.2.2.1) ∧ w.cell? ⟨g, off + i * 6 + 4, none⟩ = some (.string y.2.2.2.2.1) ∧ w.cell? ⟨g, off + i * 6 + 5, none⟩ = some (.int .u32 (y.2.2.2.2.2 : Int)) ∧
        (-9223372036854775808 ≤ y.2.2.1 ∧ y.2.2.1 ≤ 9223372036854775807) ∧ y.2.2.2.2.2 < 4294967296 ∧ y.2.2.2.2.1.size ≤ maxLen ∧ (0 ≤ y.2.2.2.1 ∧ y.2.2.2.1 ≤ 255) := by
      intro i hi
      obtain ⟨u0, e0, a0, rfl, w0⟩ := hc i hi 0 _ rfl
      obtain ⟨u1, e1, a1, rfl, w1⟩ := hc i hi 1 _ rfl
      obtain ⟨u2, e2, a2, rfl, w2⟩ := hc i hi 2 _ rfl
      obtain ⟨u3, e3, a3, rfl, w3⟩ := hc i hi 3 _ rfl
      obtain ⟨u4, e4, a4, rfl, w4⟩ := hc i hi 4 _ rfl
      obtain ⟨u5, e5, a5, rfl, w5⟩ := hc i hi 5 _ rfl
      have e : ∀ j, off + (i * ([.int .i64, .int .i64, .int .i64, .int .u8, .str, .int .u32] : List Open.Shp).length + j) = off + i * 6 + j := fun j => by simp; omega
      rw [e] at e0 e1 e2 e3 e4 e5
      have b5 := bounds_u32 w5
      obtain ⟨b, hb⟩ := Int.eq_ofNat_of_zero_le b5.1
      subst hb
      exact ⟨(a0, a1, a2, a3, a4, b), e0, e1, e2, e3, e4, e5, bounds_i64 w2, by simp only []; omega, w4, bounds_u8 w3⟩
    obtain ⟨f, hf⟩ := Deep.choose_lt hx
    exact ⟨f, fun _ => ⟨g, off, rfl, hg, hf⟩⟩
theorem rfirst_below (v : Value) (n B : Nat) (l : List Th) (tt r : Int) (w : World) (hrow : w.ownsRow B 45 3 v n (xsT l)) (hl : l.length = n) (hn : n ≤ 1000) (hr : firstT l tt r) :
    Calls Try.prog 31 #[v, .int .u8 tt] w fun e w' => e = .returned (.int .i64 r) ∧ Below w.heap.size w w' :=
  (rfirst_any v n B l tt r w hrow hl hn hr).mono fun _ _ ⟨he, hw⟩ => ⟨he, hw ▸ Below.refl _ _⟩
theorem firstT_ex (l : List Th) (tt : Int) : ∃ r, firstT l tt r := by
  rcases fstT_or l tt with ⟨i, h⟩ | h
  · exact ⟨i, .inl ⟨i, rfl, h⟩⟩
  · exact ⟨-1, .inr ⟨rfl, h⟩⟩
/-- What lies in memory: the bag, and the document's row. -/
structure Mem (w0 w : World) (bs : Nat) (R : Int) (l : List Th) (v : Value) : Prop where
  bag : IsBag w bs bs R l
  row : w.ownsRow w0.heap.size 45 3 v l.length (xsT l)
  b : Below w0.heap.size w0 w
  s : bs ≤ w.heap.size
  len : (l.length : Int) ≤ R
  r200 : R ≤ 200
  txt : ∀ c ∈ l, c.text.size ≤ 20
theorem Mem.n200 {w0 w : World} {bs : Nat} {R : Int} {l : List Th} {v : Value} (m : Mem w0 w bs R l v) : l.length ≤ 200 := by have := m.len; have := m.r200; omega
theorem Mem.below {w0 w w' : World} {bs : Nat} {R : Int} {l : List Th} {v : Value} (m : Mem w0 w bs R l v) (hb : Below w.heap.size w w') : Mem w0 w' bs R l v :=
  ⟨m.bag.below hb, Flow.ownsRow_chg m.row (Flow.Chg.of_below hb) (fun _ _ e => e), m.b.trans (hb.mono m.b.size), Nat.le_trans m.s hb.size, m.len, m.r200, m.txt⟩
set_option maxRecDepth 100000 in
theorem walk (room : Int) (A : Option Addr) (len cap : Nat) (x : Nat → Int × Int × Int × Int × ByteArray × Nat) (w : World) (hlen : len ≤ maxLen) (hx : Acts w A len x) :
    Calls Try.prog 7 #[.int .i64 room, .slice A len cap] w fun e w' => e = .returned (.bool true) ∧ Below w.heap.size w w' := by
  unfold maxLen at hlen
  have HX := Flow.hide hx
  clear hx
  obtain ⟨R, hR⟩ : ∃ R, min (max room 0) 200 = R := ⟨_, rfl⟩
  have HRR := Flow.hide hR
  have hR0 := Flow.hide (show 0 ≤ R ∧ R ≤ 200 by omega)
  clear hR
  go_enter Try.func7, Try.ntmps7
  go_wp2_with fail
  (with_reducible refine (speaks07 _).mono ?_)
  rintro e w1 ⟨rfl, hb1⟩
  have B1 := Flow.hide hb1
  clear hb1
  go_wp2_with fail
  (with_reducible refine (bnew_any room R _ HRR.out).mono ?_)
  rintro e w2 ⟨rfl, hq2, hb2⟩
  have BB : Hid (w.heap.size ≤ w1.heap.size) := B1.out.size
  have M2 := Flow.hide (show Mem w w2 w1.heap.size R [] (.slice none 0 0) from ⟨hq2, World.ownsRow_nil _ _ _ _, B1.out.trans (hb2.mono B1.out.size), hb2.size, hR0.out.1, hR0.out.2, fun c hc => (by cases hc)⟩)
  clear hq2 hb2 B1
  revert BB M2
  generalize w1.heap.size = bs
  intro BB M2
  go_upto_region 4 with fail
  go_cut [6] (fun t6 wx => t6 = .int .i64 R ∧ w2 = wx)
  case first => as_aux_lemma =>
    have hcase : room < 0 ∨ (0 ≤ room ∧ 200 < room) ∨ (0 ≤ room ∧ room ≤ 200) := by omega
    rcases hcase with h | ⟨h, h'⟩ | ⟨h, h'⟩
    · have hr := Flow.hide (show R = 0 by have := HRR.out; omega)
      go_wp2_with fail
      go_meet
      exact ⟨by rw [hr.out], rfl⟩
    · have hr := Flow.hide (show R = 200 by have := HRR.out; omega)
      go_wp2_with fail
      go_meet
      exact ⟨by rw [hr.out], rfl⟩
    · have hr := Flow.hide (show R = room by have := HRR.out; omega)
      go_wp2_with fail
      go_meet
      exact ⟨by rw [hr.out], rfl⟩
  case rest => as_aux_lemma =>
    obtain ⟨rfl, rfl⟩ := hcut
    go_wp2_with fail
    go_loopw [7, 8] (fun t7 t8 wr => ∃ (i : Nat) (l : List Th), i ≤ len ∧ i ≤ 60 ∧ t8 = .int .i64 i ∧ Mem w wr bs R l t7) (fun _ t8 _ => 60 - (intOf t8).toNat)
    case atStart => exact ⟨0, [], by omega, by omega, rfl, M2.out⟩
    case round => as_aux_lemma =>
      clear M2
      obtain ⟨i, l, hil, hi60, rfl, hm⟩ := hrel
      obtain ⟨A7, cap7, hv7, _⟩ := Flow.ownsRow_form hm.row
      subst hv7
      have M := Flow.hide hm
      clear hm
      by_cases hlt : i < len
      · have hltI : (i : Int) < (len : Int) := by omega
        by_cases hlt60 : i < 60
        · have hlt60I : (i : Int) < 60 := by omega
          obtain ⟨g, off, rfl, hg, hc⟩ := HX.out (by omega)
          obtain ⟨y0', y1', y2', y3', y4', y5', hka, hkb, hkc, hkd⟩ := hc i hlt
          have tr : ∀ (o : Nat) (u : Value), w.cell? ⟨g, o, none⟩ = some u → wr.cell? ⟨g, o, none⟩ = some u := fun o u h => (M.out.b.cell (p := ⟨g, o, none⟩) hg).trans h
          have y0 := tr _ _ y0'
          have y1 := tr _ _ y1'
          have y2 := tr _ _ y2'
          have y3 := tr _ _ y3'
          have y4 := tr _ _ y4'
          have y5 := tr _ _ y5'
          revert hka hkb hkc hkd y0 y1 y2 y3 y4 y5
          clear hc y0' y1' y2' y3' y4' y5' tr
          generalize (x i).1 = wh
          generalize (x i).2.1 = ix
          generalize (x i).2.2.1 = at_
          generalize (x i).2.2.2.1 = rc
          generalize (x i).2.2.2.2.1 = tx
          generalize (x i).2.2.2.2.2 = bt
          intro hka hkb hkc hkd y0 y1 y2 y3 y4 y5
          have HKA := Flow.hide hka
          have HKB := Flow.hide hkb
          unfold maxLen at hkc
          clear hka hkb hkd
          go_upto_region 10 with fail
          obtain ⟨KX, hh5, _⟩ := Flow.laid1 (w := wr) (w1 := wr.alloc (.cells #[.int .i64 wh, .int .i64 ix, .int .i64 at_, .int .u8 rc, .string tx, .int .u32 (bt : Int)] 41)) (Below.refl _ _)
          have M5 := Flow.hide (M.out.below hh5)
          revert KX M5
          clear hh5 y0 y1 y2 y3 y4 y5 M
          generalize wr.alloc (.cells #[.int .i64 wh, .int .i64 ix, .int .i64 at_, .int .u8 rc, .string tx, .int .u32 (bt : Int)] 41) = w5
          generalize wr.heap.size = xb
          intro KX M5
          have cx := KX.cell
          go_cut [10] (fun t10 wx => (∃ ts : ByteArray, t10 = .string ts ∧ ts.size ≤ 20) ∧ w5 = wx)
          case first => as_aux_lemma =>
            by_cases h : 20 < tx.size
            · have hI : (20 : Int) < (tx.size : Int) := by omega
              go_wp2_with fail
              go_meet
              exact ⟨⟨_, rfl, by rw [ByteArray.size_extract]; omega⟩, rfl⟩
            · have hI : ¬ (20 : Int) < (tx.size : Int) := by omega
              go_wp2_with fail
              go_meet
              exact ⟨⟨_, rfl, by omega⟩, rfl⟩
          case rest => as_aux_lemma =>
            obtain ⟨⟨ts, rfl, hts⟩, rfl⟩ := hcut
            have HTS := Flow.hide hts
            clear hts hkc
            go_upto_region 11 with fail
            go_cut [11] (fun t11 wx => t11 = .bool (decide (0 ≤ ix ∧ ix < (l.length : Int))) ∧ w5 = wx)
            case first => as_aux_lemma =>
              by_cases h0 : 0 ≤ ix
              · by_cases h1 : ix < (l.length : Int)
                · have hd := Flow.hide (decide_eq_true (show 0 ≤ ix ∧ ix < (l.length : Int) from ⟨h0, h1⟩))
                  go_wp2_with fail
                  go_meet
                  exact ⟨by rw [hd.out], rfl⟩
                · have hd := Flow.hide (decide_eq_false (show ¬ (0 ≤ ix ∧ ix < (l.length : Int)) from fun e => h1 e.2))
                  go_wp2_with fail
                  go_meet
                  exact ⟨by rw [hd.out], rfl⟩
              · have hd := Flow.hide (decide_eq_false (show ¬ (0 ≤ ix ∧ ix < (l.length : Int)) from fun e => h0 e.1))
                go_wp2_with fail
                go_meet
                exact ⟨by rw [hd.out], rfl⟩
            case rest => as_aux_lemma =>
              obtain ⟨rfl, rfl⟩ := hcut
              obtain ⟨th, hth⟩ : ∃ b, b = decide (0 ≤ ix ∧ ix < (l.length : Int)) := ⟨_, rfl⟩
              rw [← hth]
              have HTH := Flow.hide hth
              clear hth
              have htm : -5 ≤ wh.tmod 6 ∧ wh.tmod 6 ≤ 5 := by
                have := Int.tmod_lt_of_pos wh (show (0:Int) < 6 by decide)
                have := Int.lt_tmod_of_pos wh (show (0:Int) < 6 by decide)
                omega
              obtain ⟨r, hr⟩ : ∃ r, wh.tmod 6 = r := ⟨_, rfl⟩
              rw [hr] at htm
              obtain ⟨hr1, hr2⟩ := htm
              go_upto_block 2 with fail
              obtain ⟨m, hm⟩ : ∃ m, (r + 6) % 6 = m := ⟨_, rfl⟩
              have hmb : m = 2 ∨ m = 3 ∨ m = 4 ∨ m = 5 ∨ (m = 0 ∨ m = 1) := by omega
              rw [hm]
              clear hm hr
              have hth := HTH.out
              have KX5 := Flow.hide KX
              clear KX HTH
              go_cut [7, 12, 13] (fun t7 t12 t13 wx => ∃ (l' : List Th) (b : Bool), t12 = .bool b ∧ t13 = .bool b ∧ Mem w wx bs R l' t7)
              case first =>
                rcases hmb with hm | hm | hm | hm | hm
                · as_aux_lemma =>
                    have b2 : (m == 2) = true := by rw [hm]; rfl
                    clear hm
                    rcases th with _ | _
                    · have hno := Flow.hide (show ¬ (0 ≤ ix ∧ ix < (l.length : Int)) from of_decide_eq_false hth.symm)
                      clear hth
                      go_wp2_with fail
                      (with_reducible refine (btake_no bs bs R l ix _ M5.out.bag hno.out).mono ?_)
                      rintro e w7 ⟨rfl, rfl⟩
                      go_wp2_with fail
                      go_meet
                      exact ⟨l, false, rfl, rfl, M5.out⟩
                    · obtain ⟨h0, h1⟩ := of_decide_eq_true hth.symm
                      obtain ⟨k, rfl⟩ : ∃ k : Nat, ix = k := ⟨ix.toNat, by omega⟩
                      have hkl : k < l.length := by omega
                      obtain ⟨c, hc⟩ : ∃ c, l[k]? = some c := ⟨_, List.getElem?_eq_getElem hkl⟩
                      have HC := Flow.hide hc
                      have HMEM := Flow.hide (List.mem_of_getElem? hc)
                      have HKL := Flow.hide hkl
                      have hkI : (k : Int) < (l.length : Int) := by omega
                      obtain ⟨gm, capm, e, _, hgm, _, _, _, _⟩ := RowT.at_ M5.out.row rfl hc
                      simp only [Value.slice.injEq] at e
                      obtain ⟨rfl, _, rfl⟩ := e
                      clear hth h0 h1 hkl hc
                      go_wp2_with fail
                      (with_reducible refine (btake_yes bs bs R l k c _ M5.out.bag HC.out (by have := M5.out.n200; omega) M5.out.s).mono ?_)
                      rintro e w7 ⟨rfl, hq7, hb7, hc7⟩
                      have ROW7 := Flow.hide (Flow.ownsRow_chg M5.out.row hc7 (Ft.not_row M5.out.row (by decide)))
                      have KX7 := Flow.hide (KX5.out.chg hc7 (Ft.not KX5.out (by decide)))
                      have Q7 := Flow.hide hq7
                      have B7 := Flow.hide (M5.out.b.trans (hb7.mono BB.out))
                      have S7 : Hid (bs ≤ w7.heap.size) := Nat.le_trans M5.out.s hb7.size
                      clear hq7 hb7 hc7 cx
                      have cx := KX7.out.cell
                      obtain ⟨g2, cap2, e2, _, hg2, _, z0, z1, z2⟩ := RowT.at_ ROW7.out rfl HC.out
                      simp only [Value.slice.injEq, Option.some.injEq, Addr.mk.injEq] at e2
                      obtain ⟨⟨rfl, _, _⟩, _, rfl⟩ := e2
                      have e1 : (c.text.toList == c.text.toList) = true := beq_self_eq_true _
                      have e2 : (c.text.toList != c.text.toList) = false := by simp
                      go_wp2_with fail
                      (with_reducible refine (rtake_any _ l.length w.heap.size k l _ ROW7.out rfl (by have := M5.out.n200; omega) HKL.out).mono ?_)
                      rintro e w8 ⟨⟨v8, rfl, ho8⟩, hb8⟩
                      have M8 := Flow.hide (show Mem w w8 bs R (l.eraseIdx k) v8 from ⟨Q7.out.below hb8, Flow.ownsRow_base ho8 B7.out.size, B7.out.trans (hb8.mono B7.out.size), Nat.le_trans S7.out hb8.size, by have := M5.out.len; have := List.length_eraseIdx_le l k; omega, M5.out.r200, fun d hd => M5.out.txt d (List.mem_of_mem_eraseIdx hd)⟩)
                      clear ho8 hb8 z0 z1 z2
                      go_wp2_with fail
                      go_meet
                      exact ⟨_, true, rfl, rfl, M8.out⟩
                · as_aux_lemma =>
                    have b2 : (m == 2) = false := by rw [hm]; rfl
                    have b3 : (m == 3) = true := by rw [hm]; rfl
                    clear hm
                    rcases th with _ | _
                    · have hno := Flow.hide (show ¬ (0 ≤ ix ∧ ix < (l.length : Int)) from of_decide_eq_false hth.symm)
                      clear hth
                      go_wp2_with fail
                      (with_reducible refine (bagain_no bs bs R l ix _ M5.out.bag hno.out).mono ?_)
                      rintro e w7 ⟨rfl, rfl⟩
                      go_wp2_with fail
                      go_meet
                      exact ⟨l, false, rfl, rfl, M5.out⟩
                    · obtain ⟨h0, h1⟩ := of_decide_eq_true hth.symm
                      obtain ⟨k, rfl⟩ : ∃ k : Nat, ix = k := ⟨ix.toNat, by omega⟩
                      have hkl : k < l.length := by omega
                      obtain ⟨c, hc⟩ : ∃ c, l[k]? = some c := ⟨_, List.getElem?_eq_getElem hkl⟩
                      have HC := Flow.hide hc
                      have HMEM := Flow.hide (List.mem_of_getElem? hc)
                      have HKL := Flow.hide hkl
                      have hkI : (k : Int) < (l.length : Int) := by omega
                      obtain ⟨gm, capm, e, _, hgm, _, _, _, _⟩ := RowT.at_ M5.out.row rfl hc
                      simp only [Value.slice.injEq] at e
                      obtain ⟨rfl, _, rfl⟩ := e
                      clear hth h0 h1 hkl hc
                      by_cases hf : (l.length : Int) < R
                      · have HF := Flow.hide hf
                        go_wp2_with fail
                        (with_reducible refine (bagain_yes bs bs R l k c _ M5.out.bag HC.out HF.out (by have := M5.out.n200; omega) M5.out.s).mono ?_)
                        rintro e w7 ⟨rfl, hq7, hb7, hc7⟩
                        have ROW7 := Flow.hide (Flow.ownsRow_chg M5.out.row hc7 (Ft.not_row M5.out.row (by decide)))
                        have KX7 := Flow.hide (KX5.out.chg hc7 (Ft.not KX5.out (by decide)))
                        have Q7 := Flow.hide hq7
                        have B7 := Flow.hide (M5.out.b.trans (hb7.mono BB.out))
                        have S7 : Hid (bs ≤ w7.heap.size) := Nat.le_trans M5.out.s hb7.size
                        clear hq7 hb7 hc7 cx
                        have cx := KX7.out.cell
                        obtain ⟨g2, cap2, e2, _, hg2, _, z0, z1, z2⟩ := RowT.at_ ROW7.out rfl HC.out
                        simp only [Value.slice.injEq, Option.some.injEq, Addr.mk.injEq] at e2
                        obtain ⟨⟨rfl, _, _⟩, _, rfl⟩ := e2
                        obtain ⟨K8, hh8, _⟩ := Flow.laid1 (w := w7) (w1 := w7.alloc (.cells #[.int .u8 c.to, .string c.text, .bool c.sp] 45)) (Below.refl _ _)
                        obtain ⟨v9, w9, hr9, ho9, hb9, hc9⟩ := append_thing (cp := 1) (Flow.ownsRow_chg ROW7.out (Flow.Chg.of_below hh8) (fun _ _ e => e)) c _ K8 (by have := M5.out.n200; omega) (Nat.le_trans B7.out.size hh8.size)
                        obtain ⟨A9, cap9, hv9, _⟩ := Flow.ownsRow_form ho9
                        subst hv9
                        have HR9 := Flow.hide hr9
                        have M9 := Flow.hide (show Mem w w9 bs R (l ++ [c]) _ from ⟨(Q7.out.below hh8).chg hc9 (fun j hj e => Ft.not_row (Flow.ownsRow_chg ROW7.out (Flow.Chg.of_below hh8) (fun _ _ e => e)) (by decide) j e.symm hj), by rw [List.length_append]; exact ho9, (B7.out.trans (hh8.mono B7.out.size)).trans hb9, Nat.le_trans S7.out (Nat.le_trans hh8.size hc9.size), by have := HF.out; rw [List.length_append]; show ((l.length + 1 : Nat) : Int) ≤ R; omega, M5.out.r200, fun d hd => by
                          rcases List.mem_append.1 hd with hd | hd
                          · exact M5.out.txt d hd
                          · simp only [List.mem_cons, List.not_mem_nil, or_false] at hd
                            subst hd
                            exact (M5.out.txt _ HMEM.out)⟩)
                        clear K8 hh8 hr9 ho9 hb9 hc9
                        go_wp2_with (at_builtin; refine Flow.wpList_append_run _ _ 39 rfl rfl rfl rfl HR9.out ?_)
                        go_meet
                        exact ⟨_, true, rfl, rfl, M9.out⟩
                      · have HF := Flow.hide (show R ≤ (l.length : Int) by omega)
                        have hf' : R ≤ (l.length : Int) := by omega
                        go_wp2_with fail
                        (with_reducible refine (bagain_full bs bs R l k c _ M5.out.bag HC.out (by have := HF.out; omega)).mono ?_)
                        rintro e w7 ⟨rfl, hb7⟩
                        have M7 := Flow.hide (M5.out.below hb7)
                        clear hb7 cx
                        go_wp2_with fail
                        go_meet
                        exact ⟨l, false, rfl, by rw [decide_eq_false (by have := HF.out; omega)], M7.out⟩
                · as_aux_lemma =>
                    have b2 : (m == 2) = false := by rw [hm]; rfl
                    have b3 : (m == 3) = false := by rw [hm]; rfl
                    have b4 : (m == 4) = true := by rw [hm]; rfl
                    clear hm
                    rcases th with _ | _
                    · have hno := Flow.hide (show ¬ (0 ≤ ix ∧ ix < (l.length : Int)) from of_decide_eq_false hth.symm)
                      clear hth
                      go_wp2_with fail
                      (with_reducible refine (bspoil_no bs bs R l ix at_ bt _ M5.out.bag hno.out).mono ?_)
                      rintro e w7 ⟨rfl, rfl⟩
                      go_wp2_with fail
                      (with_reducible refine (rspoil_no _ l.length w.heap.size l ix at_ bt _ M5.out.row hno.out).mono ?_)
                      rintro e w7 ⟨rfl, rfl⟩
                      go_wp2_with fail
                      go_meet
                      exact ⟨l, false, rfl, rfl, M5.out⟩
                    · obtain ⟨h0, h1⟩ := of_decide_eq_true hth.symm
                      obtain ⟨k, rfl⟩ : ∃ k : Nat, ix = k := ⟨ix.toNat, by omega⟩
                      have hkl : k < l.length := by omega
                      obtain ⟨c, hc⟩ : ∃ c, l[k]? = some c := ⟨_, List.getElem?_eq_getElem hkl⟩
                      have HC := Flow.hide hc
                      have HMEM := Flow.hide (List.mem_of_getElem? hc)
                      have HKL := Flow.hide hkl
                      have hkI : (k : Int) < (l.length : Int) := by omega
                      obtain ⟨gm, capm, e, _, hgm, _, _, _, _⟩ := RowT.at_ M5.out.row rfl hc
                      simp only [Value.slice.injEq] at e
                      obtain ⟨rfl, _, rfl⟩ := e
                      clear hth h0 h1 hkl hc
                      rcases hsp : c.sp with _ | _
                      · have HSP := Flow.hide hsp
                        clear hsp
                        go_wp2_with fail
                        (with_reducible refine (bspoil_yes bs bs R l k c at_ bt _ M5.out.bag HC.out HSP.out (by have := M5.out.txt c HMEM.out; omega) HKA.out HKB.out M5.out.s).mono ?_)
                        rintro e w7 ⟨rfl, ht7, hq7, hb7, hc7⟩
                        have HT7 := Flow.hide ht7
                        clear ht7
                        have ROW7 := Flow.hide (Flow.ownsRow_chg M5.out.row hc7 (Ft.not_row M5.out.row (by decide)))
                        have KX7 := Flow.hide (KX5.out.chg hc7 (Ft.not KX5.out (by decide)))
                        have Q7 := Flow.hide hq7
                        have B7 := Flow.hide (M5.out.b.trans (hb7.mono BB.out))
                        have S7 : Hid (bs ≤ w7.heap.size) := Nat.le_trans M5.out.s hb7.size
                        clear hq7 hb7 hc7 cx
                        have cx := KX7.out.cell
                        go_wp2_with fail
                        (with_reducible refine (rspoil_yes _ l.length w.heap.size k l c at_ bt _ ROW7.out rfl (by have := M5.out.n200; omega) HC.out HSP.out (by have := M5.out.txt c HMEM.out; omega) HKA.out HKB.out).mono ?_)
                        rintro e w8 ⟨⟨v8, rfl, ho8⟩, hb8⟩
                        have M8 := Flow.hide (show Mem w w8 bs R (l.set k (c.turn at_ bt)) v8 from ⟨Q7.out.below hb8, by rw [List.length_set]; exact Flow.ownsRow_base ho8 B7.out.size, B7.out.trans (hb8.mono B7.out.size), Nat.le_trans S7.out hb8.size, by have := M5.out.len; rw [List.length_set]; omega, M5.out.r200, fun d hd => by
                          rcases List.mem_or_eq_of_mem_set hd with hd | rfl
                          · exact M5.out.txt d hd
                          · have h1 := HT7.out.len
                            have h2 := M5.out.txt c HMEM.out
                            rw [bs_length, bs_length] at h1
                            show (turnTo c.text at_ bt).size ≤ 20
                            omega⟩)
                        clear ho8 hb8
                        go_wp2_with fail
                        go_meet
                        exact ⟨_, true, rfl, rfl, M8.out⟩
                      · have HSP := Flow.hide hsp
                        clear hsp
                        go_wp2_with fail
                        (with_reducible refine (bspoil_spoilt bs bs R l k c at_ bt _ M5.out.bag HC.out HSP.out).mono ?_)
                        rintro e w7 ⟨rfl, rfl⟩
                        go_wp2_with fail
                        (with_reducible refine (rspoil_spoilt _ l.length w.heap.size k l c at_ bt _ M5.out.row rfl HC.out HSP.out).mono ?_)
                        rintro e w7 ⟨rfl, rfl⟩
                        go_wp2_with fail
                        go_meet
                        exact ⟨l, false, rfl, rfl, M5.out⟩
                · as_aux_lemma =>
                    have b2 : (m == 2) = false := by rw [hm]; rfl
                    have b3 : (m == 3) = false := by rw [hm]; rfl
                    have b4 : (m == 4) = false := by rw [hm]; rfl
                    have b5 : (m == 5) = true := by rw [hm]; rfl
                    clear hm hth
                    obtain ⟨rr, hrr⟩ := firstT_ex l rc
                    have HRRR := Flow.hide hrr
                    clear hrr
                    have rx := KX5.out.rg
                    go_upto_region 32 with fail
                    refine Flow.wp_region_all (by kernel_rfl) (by kernel_rfl) ?_
                    repeat (first
                      | (refine Flow.wpSeg_step (fun K' hK' => ?_)
                         go_simp
                         first
                           | (refine hK' _ ?_; clear hK' K')
                           | (apply Exists.intro
                              refine ⟨fun p => ?_, hK' _ ?_⟩
                              (first | with_reducible exact (bfirst_any bs bs R l rc rr _ (M5.out.bag.below (Flow.rg_below _ _)) (by have := M5.out.n200; omega) HRRR.out) | with_reducible exact (rfirst_below _ l.length w.heap.size l rc rr _ (Flow.ownsRow_chg M5.out.row (Flow.Chg.of_below (Flow.rg_below _ _)) (fun _ _ e => e)) rfl (by have := M5.out.n200; omega) HRRR.out))
                              clear hK' K')))
                    refine Flow.wpSeg_nil ?_
                    intro w7 hb7
                    have M7 := Flow.hide (M5.out.below hb7)
                    clear hb7 rx cx
                    go_wp2_with fail
                    go_meet
                    exact ⟨l, true, rfl, rfl, M7.out⟩
                · as_aux_lemma =>
                    have b2 : (m == 2) = false := by rcases hm with hm | hm <;> (rw [hm]; rfl)
                    have b3 : (m == 3) = false := by rcases hm with hm | hm <;> (rw [hm]; rfl)
                    have b4 : (m == 4) = false := by rcases hm with hm | hm <;> (rw [hm]; rfl)
                    have b5 : (m == 5) = false := by rcases hm with hm | hm <;> (rw [hm]; rfl)
                    clear hm hth
                    by_cases hf : (l.length : Int) < R
                    · have HF := Flow.hide hf
                      go_wp2_with fail
                      (with_reducible refine (bput_yes bs bs R l rc ts _ M5.out.bag HF.out (by have := M5.out.n200; omega) M5.out.s).mono ?_)
                      rintro e w7 ⟨rfl, hq7, hb7, hc7⟩
                      have ROW7 := Flow.hide (Flow.ownsRow_chg M5.out.row hc7 (Ft.not_row M5.out.row (by decide)))
                      have KX7 := Flow.hide (KX5.out.chg hc7 (Ft.not KX5.out (by decide)))
                      have Q7 := Flow.hide hq7
                      have B7 := Flow.hide (M5.out.b.trans (hb7.mono BB.out))
                      have S7 : Hid (bs ≤ w7.heap.size) := Nat.le_trans M5.out.s hb7.size
                      clear hq7 hb7 hc7 cx
                      have cx := KX7.out.cell
                      obtain ⟨K8, hh8, _⟩ := Flow.laid1 (w := w7) (w1 := w7.alloc (.cells #[.int .u8 (⟨rc, ts, false⟩ : Th).to, .string (⟨rc, ts, false⟩ : Th).text, .bool (⟨rc, ts, false⟩ : Th).sp] 45)) (Below.refl _ _)
                      obtain ⟨v9, w9, hr9, ho9, hb9, hc9⟩ := append_thing (cp := 1) (Flow.ownsRow_chg ROW7.out (Flow.Chg.of_below hh8) (fun _ _ e => e)) (⟨rc, ts, false⟩ : Th) _ K8 (by have := M5.out.n200; omega) (Nat.le_trans B7.out.size hh8.size)
                      obtain ⟨A9, cap9, hv9, _⟩ := Flow.ownsRow_form ho9
                      subst hv9
                      have HR9 := Flow.hide hr9
                      have M9 := Flow.hide (show Mem w w9 bs R (l ++ [(⟨rc, ts, false⟩ : Th)]) _ from ⟨(Q7.out.below hh8).chg hc9 (fun j hj e => Ft.not_row (Flow.ownsRow_chg ROW7.out (Flow.Chg.of_below hh8) (fun _ _ e => e)) (by decide) j e.symm hj), by rw [List.length_append]; exact ho9, (B7.out.trans (hh8.mono B7.out.size)).trans hb9, Nat.le_trans S7.out (Nat.le_trans hh8.size hc9.size), by have := HF.out; rw [List.length_append]; show ((l.length + 1 : Nat) : Int) ≤ R; omega, M5.out.r200, fun d hd => by
                        rcases List.mem_append.1 hd with hd | hd
                        · exact M5.out.txt d hd
                        · simp only [List.mem_cons, List.not_mem_nil, or_false] at hd
                          subst hd
                          exact HTS.out⟩)
                      clear K8 hh8 hr9 ho9 hb9 hc9
                      go_wp2_with (at_builtin; refine Flow.wpList_append_run _ _ 39 rfl rfl rfl rfl HR9.out ?_)
                      go_meet
                      exact ⟨_, true, rfl, rfl, M9.out⟩
                    · have HF := Flow.hide (show R ≤ (l.length : Int) by omega)
                      have hf' : R ≤ (l.length : Int) := by omega
                      go_wp2_with fail
                      (with_reducible refine (bput_no bs bs R l rc ts _ M5.out.bag (by have := HF.out; omega)).mono ?_)
                      rintro e w7 ⟨rfl, hb7⟩
                      have M7 := Flow.hide (M5.out.below hb7)
                      clear hb7 cx
                      go_wp2_with fail
                      go_meet
                      exact ⟨l, false, rfl, by rw [decide_eq_false (by have := HF.out; omega)], M7.out⟩
              case rest => as_aux_lemma =>
                obtain ⟨l', b, rfl, rfl, hm'⟩ := hcut
                obtain ⟨A9, cap9, hv9, _⟩ := Flow.ownsRow_form hm'.row
                subst hv9
                have M9 := Flow.hide hm'
                have e1 : (b != b) = false := by cases b <;> rfl
                have e2 : ((l'.length : Int) != (l'.length : Int)) = false := by simp
                have hn9 := Flow.hide hm'.n200
                clear M5 cx KX5 hm' hth hmb
                go_wp2_with fail
                (with_reducible refine (blen_any bs bs R l' _ M9.out.bag).mono ?_)
                rintro e w10 ⟨rfl, rfl⟩
                clear e1
                go_wp2_with fail
                clear e2
                go_loopw [17] (fun t17 wr => ∃ k : Nat, k ≤ l'.length + 2 ∧ t17 = .int .i64 ((k : Int) - 1) ∧ Mem w wr bs R l' (.slice A9 l'.length cap9)) (fun t17 _ => 300 - (intOf t17 + 1).toNat)
                case atStart => exact ⟨0, by omega, rfl, M9.out⟩
                case round =>
                  clear M9
                  obtain ⟨k, hk2, rfl, hm⟩ := hrel
                  have M := Flow.hide hm
                  clear hm
                  have hk300 : (k : Int) ≤ 300 := by have := hn9.out; omega
                  have hl300 : (l'.length : Int) ≤ 300 := by have := hn9.out; omega
                  by_cases hk0 : k = 0
                  · have hkI : (k : Int) - 1 ≤ (l'.length : Int) := by omega
                    have hkN : ¬ (0 : Int) ≤ (k : Int) - 1 := by omega
                    have hno := Flow.hide (show ¬ (0 ≤ (k : Int) - 1 ∧ (k : Int) - 1 < (l'.length : Int)) by omega)
                    have hk1 : (k : Int) < 1 := by omega
                    clear hk0
                    go_wp2_with fail
                    (with_reducible refine (bat_no bs bs R l' ((k : Int) - 1) _ M.out.bag hno.out).mono ?_)
                    rintro e w10 ⟨rfl, rfl⟩
                    go_wp2_with fail
                    go_roundw
                    case rel => exact ⟨k + 1, by omega, by go_num, M.out⟩
                    case measure => simp [intOf]; omega
                  · by_cases hkl : k ≤ l'.length
                    · obtain ⟨j, rfl⟩ : ∃ j, k = j + 1 := ⟨k - 1, by omega⟩
                      have hjl : j < l'.length := by omega
                      have hjI : (j : Int) < (l'.length : Int) := by omega
                      have hjL : (j : Int) ≤ (l'.length : Int) := by omega
                      have hj300 : (j : Int) ≤ 300 := by omega
                      obtain ⟨c, hc⟩ : ∃ c, l'[j]? = some c := ⟨_, List.getElem?_eq_getElem hjl⟩
                      have HC := Flow.hide hc
                      have hcast : ((j + 1 : Nat) : Int) - 1 = (j : Int) := by omega
                      rw [hcast]
                      have e1 : (c.text.toList == c.text.toList) = true := beq_self_eq_true _
                      have e2 : (c.text.toList != c.text.toList) = false := by simp
                      clear hk0 hkl hk2 hk300 hc
                      go_wp2_with fail
                      (with_reducible refine (bat_yes bs bs R l' j c _ M.out.bag HC.out).mono ?_)
                      rintro e w10 ⟨rfl, hb10⟩
                      have M10 := Flow.hide (M.out.below hb10)
                      obtain ⟨g2, cap2, ee, _, hg2, _, z0, z1, z2⟩ := RowT.at_ M10.out.row rfl HC.out
                      simp only [Value.slice.injEq] at ee
                      obtain ⟨rfl, _, rfl⟩ := ee
                      clear hb10 M
                      go_wp2_with fail
                      go_roundw
                      case rel => exact ⟨j + 1 + 1, by omega, by go_num, M10.out⟩
                      case measure => have := hn9.out; simp [intOf]; omega
                    · by_cases hke : k = l'.length + 1
                      · have hkI : (k : Int) - 1 ≤ (l'.length : Int) := by omega
                        have hkP : (0 : Int) ≤ (k : Int) - 1 := by omega
                        have hkP' : (1 : Int) ≤ (k : Int) := by omega
                        have hkN : ¬ (k : Int) - 1 < (l'.length : Int) := by omega
                        have hno := Flow.hide (show ¬ (0 ≤ (k : Int) - 1 ∧ (k : Int) - 1 < (l'.length : Int)) by omega)
                        clear hk0 hkl
                        have HKE := Flow.hide hke
                        clear hke
                        go_wp2_with fail
                        (with_reducible refine (bat_no bs bs R l' ((k : Int) - 1) _ M.out.bag hno.out).mono ?_)
                        rintro e w10 ⟨rfl, rfl⟩
                        go_wp2_with fail
                        go_roundw
                        case rel => exact ⟨k + 1, by have := HKE.out; omega, by go_num, M.out⟩
                        case measure => have := HKE.out; have := hn9.out; simp [intOf]; omega
                      · have hkI : ¬ (k : Int) - 1 ≤ (l'.length : Int) := by omega
                        clear hk0 hkl hke
                        go_wp2_with fail
                        go_roundw
                        case rel => exact ⟨i + 1, l', by omega, by omega, by go_num, M.out⟩
                        case measure => simp [intOf]; omega
        · obtain rfl : i = 60 := by omega
          as_aux_lemma =>
            have B9 := Flow.hide M.out.b
            clear M
            go_wp2_with fail
            (with_reducible refine (bat_nil _).mono ?_)
            rintro e w3 ⟨rfl, rfl⟩
            go_wp2_with fail
            (with_reducible refine (btake_nil _).mono ?_)
            rintro e w3 ⟨rfl, rfl⟩
            go_wp2_with fail
            (with_reducible refine (bput_nil 1 ⟨#[]⟩ _).mono ?_)
            rintro e w3 ⟨rfl, hb3⟩
            have B3 := Flow.hide (B9.out.trans (hb3.mono B9.out.size))
            clear hb3 B9
            go_wp2_with fail
            (with_reducible refine (blen_nil _).mono ?_)
            rintro e w4 ⟨rfl, rfl⟩
            go_wp2_with fail
            (with_reducible refine (bagain_nil _).mono ?_)
            rintro e w4 ⟨rfl, rfl⟩
            go_wp2_with fail
            (with_reducible refine (bspoil_nil 0 1 _).mono ?_)
            rintro e w4 ⟨rfl, rfl⟩
            go_wp2_with fail
            (with_reducible refine (bfirst_nil 1 _).mono ?_)
            rintro e w4 ⟨rfl, hb4⟩
            have B4 := Flow.hide (B3.out.trans (hb4.mono B3.out.size))
            clear hb4 B3
            go_wp2_with fail
            go_ret
            exact ⟨rfl, B4.out⟩
      · obtain rfl : i = len := by omega
        as_aux_lemma =>
          have B9 := Flow.hide M.out.b
          clear M
          go_wp2_with fail
          (with_reducible refine (bat_nil _).mono ?_)
          rintro e w3 ⟨rfl, rfl⟩
          go_wp2_with fail
          (with_reducible refine (btake_nil _).mono ?_)
          rintro e w3 ⟨rfl, rfl⟩
          go_wp2_with fail
          (with_reducible refine (bput_nil 1 ⟨#[]⟩ _).mono ?_)
          rintro e w3 ⟨rfl, hb3⟩
          have B3 := Flow.hide (B9.out.trans (hb3.mono B9.out.size))
          clear hb3 B9
          go_wp2_with fail
          (with_reducible refine (blen_nil _).mono ?_)
          rintro e w4 ⟨rfl, rfl⟩
          go_wp2_with fail
          (with_reducible refine (bagain_nil _).mono ?_)
          rintro e w4 ⟨rfl, rfl⟩
          go_wp2_with fail
          (with_reducible refine (bspoil_nil 0 1 _).mono ?_)
          rintro e w4 ⟨rfl, rfl⟩
          go_wp2_with fail
          (with_reducible refine (bfirst_nil 1 _).mono ?_)
          rintro e w4 ⟨rfl, hb4⟩
          have B4 := Flow.hide (B3.out.trans (hb4.mono B3.out.size))
          clear hb4 B3
          go_wp2_with fail
          go_ret
          exact ⟨rfl, B4.out⟩
theorem own : ownKnob Try.prog.godebug = none := by kernel_rfl
theorem laidOut : laidOutB Try.prog = true := by kernel_rfl

set_option maxRecDepth 100000 in
theorem lifted (os : Os) (started : os.Started) (H : Type) (enc : TypeId × Value → H) :
    ReturnsInHanded {} Try.checked os 7 .any (Rows.bagPlaysSpec.pre6 enc Try.prog Try.f7 Rows.bagPlaysRow.domain false) (Rows.bagPlaysSpec.post enc Try.prog Try.f7 false true false false) := by
  refine returnsInHanded_of_change (C := Try.checked) own started (by kernel_rfl) Try.func7
    (ChangeSpec.witness6 (enc := enc) (C := Try.checked) false ⟨#[], #[.int .i64 0, .slice none 0 0], []⟩ 8 (by kernel_rfl) (by kernel_rfl) (by kernel_rfl) (by kernel_rfl)) ?_
  intro W base args ds gs before hval0 hW hcnd _
  have hval : ∀ (j : Nat) t v, Try.f7.params[j]? = some t → args[j]? = some v → Value.okWide Try.prog W .any base t v := hval0
  have hW' := hW
  obtain ⟨p, q, hA0, hV, rfl, hfz, hnd⟩ := hW
  have hA : DataW.TrodAll enc Try.prog W 0 (fun _ => true) true Try.f7.params.toList args.toList ds p := hA0
  rw [Try.params7] at hA hval
  obtain ⟨v0, v1, d0, d1, p0, p1, hargs, rfl, rfl, h0, h1⟩ := trodAll_two hA
  obtain ⟨rfl, rfl⟩ := trodVars_none hV
  subst hargs
  obtain ⟨x0, rfl, rfl, rfl, wx0⟩ := open_int Try.underlying3 (hval 0 3 v0 rfl rfl) h0
  obtain ⟨A1, n1, cp1, rfl, hl1, _, hr1⟩ := Open.open_rows_arg 30 (ss := [.int .i64, .int .i64, .int .i64, .int .u8, .str, .int .u32]) Try.underlying36 (by kernel_rfl) (by decide) (by kernel_rfl) (hval 1 36 v1 rfl rfl) h1
  obtain ⟨x1, hx1⟩ := acts_of hr1
  clear hA0 hval0
  refine (walk x0 A1 n1 cp1 x1 W hl1 hx1).mono fun e W' ⟨he, hb⟩ => ?_
  subst he
  exact ⟨_, rfl, Open.law_post laidOut (by kernel_rfl) (by kernel_rfl) Try.underlying4 rfl rfl hW' hb⟩

theorem over : Rows.bagPlaysRow.holds Try.pinned (OpenSpec.ofChange Rows.bagPlaysSpec) :=
  OpenClaim.holds_of_wide 7 Try.f7 rfl rfl rfl rfl rfl rfl rfl ⟨rfl, rfl, rfl, rfl, rfl⟩ rfl rfl rfl rfl rfl (by kernel_rfl) Try.func7 (by kernel_rfl)
    (of_decide_eq_true (by kernel_rfl)) (by unfold Func.isWrapper; first | (rw [if_pos (by decide +kernel)]; kernel_rfl) | (rw [if_neg (by decide +kernel)]; exact ⟨rfl, rfl⟩))
    (fun os started H enc _ => lifted os started H enc)

theorem proved : Rows.BagPlaysSaid := over
#print axioms proved
end Go.Proofs.Ythkphapmnlndbaa.BPlays
