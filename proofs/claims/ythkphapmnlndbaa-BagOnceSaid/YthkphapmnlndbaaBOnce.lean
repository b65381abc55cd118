/- BagOnce: for every text and row of acts the law returns true. -/
import Derived.Test.YthkphapmnlndbaaRows
import Derived.Test.YthkphapmnlndbaaBag4
import Derived.Test.YthkphapmnlndbaaCrcSpeaks
import Derived.Test.YthkphapmnlndbaaOpen2
import Derived.Deep.DeepCutAuto
import Derived.Deep.CutBlock
import Derived.Deep.LoopGhost
namespace Go.Proofs.Ythkphapmnlndbaa.BOnce
open Go.ChangeShapes Go.WideShapes Go.ChangeAt Go.RowKit Go.ChangeMaps CrcPlain
set_option linter.unusedSimpArgs false
set_option maxHeartbeats 4000000
attribute [local irreducible] Flow.wpSeg Flow.wpF Flow.wpG Flow.wpS Flow.wpT Flow.wpK
/-- The acts that came in: what, place, where, bits. -/
def Acts (w : World) (A : Option Addr) (n : Nat) (x : Nat → Int × Int × Int × Int × ByteArray × Nat) : Prop :=
  0 < n → ∃ g off, A = some ⟨g, off, none⟩ ∧ g < w.heap.size ∧ ∀ i, i < n → w.cell? ⟨g, off + i * 6, none⟩ = some (.int .i64 (x i).1) ∧ w.cell? ⟨g, off + i * 6 + 1, none⟩ = some (.int .i64 (x i).2.1) ∧ w.cell? ⟨g, off + i * 6 + 2, none⟩ = some (.int .i64 (x i).2.2.1) ∧
    w.cell? ⟨g, off + i * 6 + 3, none⟩ = some (.int .u8 (x i).2.2.2.1) ∧ w.cell? ⟨g, off + i * 6 + 4, none⟩ = some (.string (x i).2.2.2.2.1) ∧ w.cell? ⟨g, off + i * 6 + 5, none⟩ = some (.int .u32 ((x i).2.2.2.2.2 : Int)) ∧
    (-9223372036854775808 ≤ (x i).2.2.1 ∧ (x i).2.2.1 ≤ 9223372036854775807) ∧ (x i).2.2.2.2.2 < 4294967296 ∧ (x i).2.2.2.2.1.size ≤ maxLen ∧ (0 ≤ (x i).2.2.2.1 ∧ (x i).2.2.2.1 ≤ 255)
theorem acts_of {H : Type} {enc : TypeId × Value → H} {base : Nat} {spare : Nat → Bool} {held : Bool} {w : World} {A : Option Addr} {n : Nat} (h : 0 < n → ∃ g off, A = some ⟨g, off, none⟩ ∧ g < w.heap.size ∧
    ∀ i, i < n → ∀ (j : Nat) (s : Open.Shp), ([.int .i64, .int .i64, .int .i64, .int .u8, .str, .int .u32] : List Open.Shp)[j]? = some s → ∃ u, w.cell? ⟨g, off + (i * ([.int .i64, .int .i64, .int .i64, .int .u8, .str, .int .u32] : List Open.Shp).length + j), none⟩ = some u ∧ Open.CellOk enc Try.prog w base spare held s u) :
    ∃ x, Acts w A n x := by
  rcases Nat.eq_zero_or_pos n with h0 | h0
  · exact ⟨fun _ => (0, 0, 0, 0, ⟨#[]⟩, 0), fun hn => by omega⟩
  · obtain ⟨g, off, rfl, hg, hc⟩ := h h0
    have hx : ∀ i, i < n → ∃ y : Int × Int × Int × Int × ByteArray × Nat, w.cell? ⟨g, off + i * 6, none⟩ = some (.int .i64 y.1) ∧ w.cell? ⟨g, off + i * 6 + 1, none⟩ = some (.int .i64 y.2.1) ∧ w.cell? ⟨g, off + i * 6 + 2, none⟩ = some (.int .i64 y.2.2.1) ∧
        w.cell? ⟨g, off + i * 6 + 3, none⟩ = some (.int .u8 y.2.2.2.1) ∧ w.cell? ⟨g, off + i * 6 + 4, none⟩ = some (.string y.2.2.2.2.1) ∧ w.cell? ⟨g, off + i * 6 + 5, none⟩ = some (.int .u32 (y.2.2.2.2.2 : Int)) ∧
        (-9223372036854775808 ≤ y.2.2.1 ∧ y.2.2.1 ≤ 9223372036854775807) ∧ y.2.2.2.2.2 < 4294967296 ∧ y.2.2.2.2.1.size ≤ maxLen ∧ (0 ≤ y.2.2.2.1 ∧ y.2.2.2.1 ≤ 255) := by
      intro i hi
      obtain ⟨u0, e0, a0, rfl, w0⟩ := hc i hi 0 _ rfl
      obtain ⟨u1, e1, a1, rfl, w1⟩ := hc i hi 1 _ rfl
      obtain ⟨u2, e2, a2, rfl, w2⟩ := hc i hi 2 _ rfl
      obtain ⟨u3, e3, a3, rfl, w3⟩ := hc i hi 3 _ rfl
      obtain ⟨u4, e4, a4, rfl, w4⟩ := hc i hi 4 _ rfl
      obtain ⟨u5, e5, a5, rfl, w5⟩ := hc i hi 5 _ rfl
      have e : ∀ j, off + (i * ([.int .i64, .int .i64, .int .i64, .int .u8, .str, .int .u32] : List Open.Shp).length + j) = off + i * 6 + j := fun j => by simp; omega
      rw [e] at e0 e1 e2 e3 e4 e5
      have b5 := bounds_u32 w5
      obtain ⟨b, hb⟩ := Int.eq_ofNat_of_zero_le b5.1
      subst hb
      exact ⟨(a0, a1, a2, a3, a4, b), e0, e1, e2, e3, e4, e5, bounds_i64 w2, by simp only []; omega, w4, bounds_u8 w3⟩
    obtain ⟨f, hf⟩ := Deep.choose_lt hx
    exact ⟨f, fun _ => ⟨g, off, rfl, hg, hf⟩⟩
/-- What is on its way: the sealed text, or that text turned once. -/
def OInv (x : ByteArray) (l : List Th) : Prop := ∀ c ∈ l, (c.sp = false → c.text = x) ∧ (c.sp = true → ∃ at_ b, Turned (msk x.size at_ b) (bs x) (bs c.text))
theorem OInv.size {x : ByteArray} {l : List Th} (h : OInv x l) {c : Th} (hc : c ∈ l) : c.text.size = x.size := by
  obtain ⟨h1, h2⟩ := h c hc
  rcases hs : c.sp with _ | _
  · rw [h1 hs]
  · obtain ⟨a, b, ht⟩ := h2 hs
    rw [← bs_length, ← bs_length, ht.len]
theorem OInv.again {x : ByteArray} {l : List Th} (h : OInv x l) {c : Th} (hc : c ∈ l) : OInv x (l ++ [c]) := fun d hd => by
  rcases List.mem_append.1 hd with hd | hd
  · exact h d hd
  · simp only [List.mem_cons, List.not_mem_nil, or_false] at hd
    subst hd
    exact h d hc
theorem OInv.erase {x : ByteArray} {l : List Th} (h : OInv x l) (i : Nat) : OInv x (l.eraseIdx i) := fun d hd => h d (List.mem_of_mem_eraseIdx hd)
theorem OInv.spoil {x : ByteArray} {l : List Th} (h : OInv x l) {i : Nat} {c : Th} (hc : l[i]? = some c) (hs : c.sp = false) {at_ : Int} {b : Nat} (ht : Turned (msk c.text.size at_ b) (bs c.text) (bs (turnTo c.text at_ b))) : OInv x (l.set i (c.turn at_ b)) := fun d hd => by
  rcases List.mem_or_eq_of_mem_set hd with hd | rfl
  · exact h d hd
  · have e := (h c (List.mem_of_getElem? hc)).1 hs
    exact ⟨fun e => (by cases e), fun _ => ⟨at_, b, by rw [← e]; exact ht⟩⟩
set_option maxRecDepth 100000 in
theorem walk (s : ByteArray) (A : Option Addr) (len cap : Nat) (x : Nat → Int × Int × Int × Int × ByteArray × Nat) (w : World) (hs : s.size ≤ maxLen) (hlen : len ≤ maxLen) (hx : Acts w A len x) :
    Calls Try.prog 8 #[.string s, .slice A len cap] w fun e w' => e = .returned (.bool true) ∧ Below w.heap.size w w' := by
  unfold maxLen at hlen hs
  have HX := Flow.hide hx
  clear hx
  go_enter Try.func8, Try.ntmps8
  go_upto_region 3 with ((with_reducible refine (speaks07 _).mono ?_); rintro e w1 ⟨rfl, hb1⟩)
  have B1 := Flow.hide hb1
  clear hb1
  go_cut [0] (fun s0 wx => ∃ t : ByteArray, s0 = .string t ∧ t.size ≤ 60 ∧ Below w.heap.size w wx)
  case first =>
    by_cases h : 60 < s.size
    · go_wp2_with fail
      go_meet
      exact ⟨_, rfl, by rw [ByteArray.size_extract]; omega, B1.out⟩
    · go_wp2_with fail
      go_meet
      exact ⟨_, rfl, by omega, B1.out⟩
  case rest =>
    obtain ⟨t, rfl, ht, hb0⟩ := hcut
    have B0 := Flow.hide hb0
    clear hb0 B1
    obtain ⟨xs, hxs⟩ : ∃ xs, xs = txt (sealed (bs t)) := ⟨_, rfl⟩
    have hbx : bs xs = sealed (bs t) := by rw [hxs]; exact bs_txt (sealed_lt (bs_lt _))
    have hxz := (sealed_is hbx).2.2
    have HXS := Flow.hide hxs
    have HBX := Flow.hide hbx
    have HXZ := Flow.hide (show xs.size ≤ 100 by rw [hxz]; omega)
    clear hxs hbx hxz
    go_wp2_with fail
    (with_reducible refine (bnew_any 50 50 _ (by decide)).mono ?_)
    rintro e w2 ⟨rfl, hq2, hb2⟩
    have BB : Hid (w.heap.size ≤ wc.heap.size) := B0.out.size
    have Q2 := Flow.hide hq2
    have B2 := Flow.hide (B0.out.trans (hb2.mono B0.out.size))
    have S2 : Hid (wc.heap.size ≤ w2.heap.size) := hb2.size
    clear hq2 hb2 B0
    revert Q2 BB S2
    generalize wc.heap.size = bs0
    intro BB Q2 S2
    go_wp2_with fail
    (with_reducible refine (seal_any t _ (by omega)).mono ?_)
    rintro e w3 ⟨rfl, hb3⟩
    rw [← HXS.out]
    have Q3 := Flow.hide (Q2.out.below hb3)
    have B3 := Flow.hide (B2.out.trans (hb3.mono B2.out.size))
    have S3 : Hid (bs0 ≤ w3.heap.size) := Nat.le_trans S2.out hb3.size
    clear hb3 Q2 B2 S2
    go_wp2_with fail
    (with_reducible refine (bput_yes bs0 bs0 50 [] 1 xs _ Q3.out (by decide) (by decide) S3.out).mono ?_)
    rintro e w4 ⟨rfl, hq4, hb4, _⟩
    have Q4 : Hid (IsBag w4 bs0 bs0 50 [⟨1, xs, false⟩]) := hq4
    have B4 := Flow.hide (B3.out.trans (hb4.mono BB.out))
    have S4 : Hid (bs0 ≤ w4.heap.size) := Nat.le_trans S3.out hb4.size
    have O4 : Hid (OInv xs [⟨1, xs, false⟩]) := fun c hc => by
      simp only [List.mem_cons, List.not_mem_nil, or_false] at hc
      subst hc
      exact ⟨fun _ => rfl, fun e => (by cases e)⟩
    clear hq4 hb4 Q3 B3 S3
    go_wp2_with fail
    go_loopw [6] (fun t6 wr => ∃ (i : Nat) (l : List Th), i ≤ len ∧ i ≤ 40 ∧ t6 = .int .i64 i ∧ OInv xs l ∧ 1 ≤ l.length ∧ l.length ≤ 50 ∧ IsBag wr bs0 bs0 50 l ∧ Below w.heap.size w wr ∧ bs0 ≤ wr.heap.size) (fun t6 _ => 40 - (intOf t6).toNat)
    case atStart => exact ⟨0, _, by omega, by omega, rfl, O4.out, by simp, by simp, Q4.out, B4.out, S4.out⟩
    case round =>
      clear O4 Q4 B4 S4
      obtain ⟨i, l, hil, hi40, rfl, ho, hl1, hl50, hq, hb, hbs⟩ := hrel
      have O := Flow.hide ho
      have Q := Flow.hide hq
      have HB := Flow.hide hb
      have HBS := Flow.hide hbs
      clear ho hq hb hbs
      by_cases hlt : i < len
      · have hltI : (i : Int) < (len : Int) := by omega
        by_cases hlt40 : i < 40
        · have hlt40I : (i : Int) < 40 := by omega
          obtain ⟨g, off, rfl, hg, hc⟩ := HX.out (by omega)
          obtain ⟨y0', y1', y2', y3', y4', y5', hka, hkb, hkc, hkd⟩ := hc i hlt
          have tr : ∀ (o : Nat) (u : Value), w.cell? ⟨g, o, none⟩ = some u → wr.cell? ⟨g, o, none⟩ = some u := fun o u h => (HB.out.cell (p := ⟨g, o, none⟩) hg).trans h
          have y0 := tr _ _ y0'
          have y1 := tr _ _ y1'
          have y2 := tr _ _ y2'
          have y3 := tr _ _ y3'
          have y4 := tr _ _ y4'
          have y5 := tr _ _ y5'
          revert hka hkb hkc hkd y0 y1 y2 y3 y4 y5
          clear hc y0' y1' y2' y3' y4' y5' tr
          generalize (x i).1 = wh
          generalize (x i).2.1 = ix
          generalize (x i).2.2.1 = at_
          generalize (x i).2.2.2.1 = rc
          generalize (x i).2.2.2.2.1 = tx
          generalize (x i).2.2.2.2.2 = bt
          intro hka hkb hkc hkd y0 y1 y2 y3 y4 y5
          have HKA := Flow.hide hka
          have HKB := Flow.hide hkb
          clear hka hkb hkc hkd
          go_upto_region 12 with fail
          obtain ⟨KX, hh5, _⟩ := Flow.laid1 (w := wr) (w1 := wr.alloc (.cells #[.int .i64 wh, .int .i64 ix, .int .i64 at_, .int .u8 rc, .string tx, .int .u32 (bt : Int)] 41)) (Below.refl _ _)
          have Q5 := Flow.hide (Q.out.below hh5)
          have B5 := Flow.hide (HB.out.trans (hh5.mono HB.out.size))
          have S5 : Hid (bs0 ≤ (wr.alloc (.cells #[.int .i64 wh, .int .i64 ix, .int .i64 at_, .int .u8 rc, .string tx, .int .u32 (bt : Int)] 41)).heap.size) := Nat.le_trans HBS.out hh5.size
          revert KX Q5 B5 S5
          clear hh5 y0 y1 y2 y3 y4 y5 Q HB HBS
          generalize wr.alloc (.cells #[.int .i64 wh, .int .i64 ix, .int .i64 at_, .int .u8 rc, .string tx, .int .u32 (bt : Int)] 41) = w5
          generalize wr.heap.size = xb
          intro KX Q5 B5 S5
          have cx := KX.cell
          clear KX
          obtain ⟨n, hn⟩ : ∃ n, n = l.length := ⟨_, rfl⟩
          have HN := Flow.hide hn
          have hn1 : 1 ≤ n := by omega
          have hn5 : n ≤ 50 := by omega
          have hn1I : (0 : Int) < (n : Int) := by omega
          have hn5I : (n : Int) ≤ 50 := by omega
          have hn0 : ((n : Int) == 0) = false := by simp; omega
          clear hn hl1 hl50
          go_wp2_with fail
          (with_reducible refine (blen_any bs0 bs0 50 l _ Q5.out).mono ?_)
          rintro e w6 ⟨rfl, rfl⟩
          rw [← HN.out]
          have htm : -(n : Int) < ix.tmod n ∧ ix.tmod n < n := ⟨by have := Int.lt_tmod_of_pos ix hn1I; omega, Int.tmod_lt_of_pos ix hn1I⟩
          obtain ⟨r, hr⟩ : ∃ r, ix.tmod n = r := ⟨_, rfl⟩
          rw [hr] at htm
          obtain ⟨hr1, hr2⟩ := htm
          have hr3 : -50 ≤ r := by omega
          have hr4 : r ≤ 50 := by omega
          obtain ⟨k, hk, hkn⟩ : ∃ k : Nat, (r + n) % n = (k : Int) ∧ k < n := by
            have h1 := Int.emod_nonneg (r + n) (show (n : Int) ≠ 0 by omega)
            have h2 := Int.emod_lt_of_pos (r + n) hn1I
            exact ⟨((r + n) % n).toNat, by omega, by omega⟩
          have hrn : 0 ≤ r + (n : Int) := by omega
          go_upto_region 15 with fail
          rw [hk]
          clear hk hr hr1 hr2 hr3 hr4 hrn hn0
          have htm3 : -2 ≤ wh.tmod 3 ∧ wh.tmod 3 ≤ 2 := by
            have := Int.tmod_lt_of_pos wh (show (0:Int) < 3 by decide)
            have := Int.lt_tmod_of_pos wh (show (0:Int) < 3 by decide)
            omega
          obtain ⟨r3, hr3⟩ : ∃ r, wh.tmod 3 = r := ⟨_, rfl⟩
          rw [hr3] at htm3
          obtain ⟨hr31, hr32⟩ := htm3
          go_upto_block 2 with fail
          obtain ⟨m, hm⟩ : ∃ m, (r3 + 3) % 3 = m := ⟨_, rfl⟩
          have hmb : m = 0 ∨ m = 1 ∨ m = 2 := by omega
          rw [hm]
          clear hm hr3
          obtain ⟨c, hc⟩ : ∃ c, l[k]? = some c := ⟨_, List.getElem?_eq_getElem (by rw [← HN.out]; exact hkn)⟩
          have HC := Flow.hide hc
          have HMEM := Flow.hide (List.mem_of_getElem? hc)
          clear hc
          have hl1 := Flow.hide (show 1 ≤ l.length by rw [← HN.out]; exact hn1)
          have hl50 := Flow.hide (show l.length ≤ 50 by rw [← HN.out]; exact hn5)
          rcases hmb with hm | hm | hm
          · have b0 : (m == 0) = true := by rw [hm]; rfl
            clear hm
            by_cases hfull : (l.length : Int) < 50
            · have HF := Flow.hide hfull
              clear hfull
              go_wp2_with fail
              (with_reducible refine (bagain_yes bs0 bs0 50 l k c _ Q5.out HC.out HF.out (by have := hl50.out; omega) S5.out).mono ?_)
              rintro e w7 ⟨rfl, hq7, hb7, _⟩
              have Q7 := Flow.hide hq7
              have B7 := Flow.hide (B5.out.trans (hb7.mono BB.out))
              have S7 : Hid (bs0 ≤ w7.heap.size) := Nat.le_trans S5.out hb7.size
              clear hq7 hb7 cx
              go_wp2_with fail
              go_roundw
              case rel => exact ⟨i + 1, l ++ [c], by omega, by omega, by go_num, O.out.again HMEM.out, by simp, by have := HF.out; simp; omega, Q7.out, B7.out, S7.out⟩
              case measure => simp [intOf]; omega
            · have HF := Flow.hide (show 50 ≤ l.length by omega)
              clear hfull
              go_wp2_with fail
              (with_reducible refine (bagain_full bs0 bs0 50 l k c _ Q5.out HC.out (by have := HF.out; omega)).mono ?_)
              rintro e w7 ⟨rfl, hb7⟩
              have Q7 := Flow.hide (Q5.out.below hb7)
              have B7 := Flow.hide (B5.out.trans (hb7.mono B5.out.size))
              have S7 : Hid (bs0 ≤ w7.heap.size) := Nat.le_trans S5.out hb7.size
              clear hb7 cx
              go_wp2_with fail
              go_roundw
              case rel => exact ⟨i + 1, l, by omega, by omega, by go_num, O.out, hl1.out, hl50.out, Q7.out, B7.out, S7.out⟩
              case measure => simp [intOf]; omega
          · have b0 : (m == 0) = false := by rw [hm]; rfl
            have b1 : (m == 1) = true := by rw [hm]; rfl
            clear hm
            rcases hsp : c.sp with _ | _
            · have HSP := Flow.hide hsp
              clear hsp
              go_wp2_with fail
              (with_reducible refine (bspoil_yes bs0 bs0 50 l k c at_ bt _ Q5.out HC.out HSP.out (by rw [O.out.size HMEM.out]; have := HXZ.out; omega) HKA.out HKB.out S5.out).mono ?_)
              rintro e w7 ⟨rfl, ht7, hq7, hb7, _⟩
              have O7 := Flow.hide (O.out.spoil HC.out HSP.out ht7)
              have Q7 := Flow.hide hq7
              have B7 := Flow.hide (B5.out.trans (hb7.mono BB.out))
              have S7 : Hid (bs0 ≤ w7.heap.size) := Nat.le_trans S5.out hb7.size
              clear hq7 hb7 ht7 cx
              go_wp2_with fail
              go_roundw
              case rel => exact ⟨i + 1, _, by omega, by omega, by go_num, O7.out, by rw [List.length_set]; exact hl1.out, by rw [List.length_set]; exact hl50.out, Q7.out, B7.out, S7.out⟩
              case measure => simp [intOf]; omega
            · have HSP := Flow.hide hsp
              clear hsp
              go_wp2_with fail
              (with_reducible refine (bspoil_spoilt bs0 bs0 50 l k c at_ bt _ Q5.out HC.out HSP.out).mono ?_)
              rintro e w7 ⟨rfl, rfl⟩
              go_wp2_with fail
              go_roundw
              case rel => exact ⟨i + 1, l, by omega, by omega, by go_num, O.out, hl1.out, hl50.out, Q5.out, B5.out, S5.out⟩
              case measure => simp [intOf]; omega
          · have b0 : (m == 0) = false := by rw [hm]; rfl
            have b1 : (m == 1) = false := by rw [hm]; rfl
            clear hm
            go_wp2_with fail
            (with_reducible refine (blen_any bs0 bs0 50 l _ Q5.out).mono ?_)
            rintro e w7 ⟨rfl, rfl⟩
            rw [← HN.out]
            by_cases h1 : 1 < n
            · have h1I : (1 : Int) < (n : Int) := by omega
              go_wp2_with fail
              (with_reducible refine (btake_yes bs0 bs0 50 l k c _ Q5.out HC.out (by have := hl50.out; omega) S5.out).mono ?_)
              rintro e w7 ⟨rfl, hq7, hb7, _⟩
              have Q7 := Flow.hide hq7
              have B7 := Flow.hide (B5.out.trans (hb7.mono BB.out))
              have S7 : Hid (bs0 ≤ w7.heap.size) := Nat.le_trans S5.out hb7.size
              clear hq7 hb7 cx
              go_wp2_with fail
              go_roundw
              case rel => exact ⟨i + 1, _, by omega, by omega, by go_num, O.out.erase k, by rw [List.length_eraseIdx_of_lt (by rw [← HN.out]; exact hkn), ← HN.out]; omega, Nat.le_trans (List.length_eraseIdx_le _ _) hl50.out, Q7.out, B7.out, S7.out⟩
              case measure => simp [intOf]; omega
            · have h1I : ¬ (1 : Int) < (n : Int) := by omega
              go_wp2_with fail
              go_roundw
              case rel => exact ⟨i + 1, l, by omega, by omega, by go_num, O.out, hl1.out, hl50.out, Q5.out, B5.out, S5.out⟩
              case measure => simp [intOf]; omega
        · obtain rfl : i = 40 := by omega
          clear hl1
          have HL50 := Flow.hide hl50
          clear hl50
          go_wp2_with fail
          go_loopg [10] (l.length) (fun gk t10 wd => ∃ (u : Value) (l' : List Th), t10 = u ∧ l'.length = gk ∧ gk ≤ 50 ∧ OInv xs l' ∧ IsBag wd bs0 bs0 50 l' ∧ Below w.heap.size w wd ∧ bs0 ≤ wd.heap.size)
          case atStart => exact ⟨_, l, rfl, rfl, HL50.out, O.out, Q.out, HB.out, HBS.out⟩
          case round =>
            clear O Q HB HBS HL50
            obtain ⟨u10, l', rfl, hk, hk50, ho, hq, hb, hbs⟩ := hrel
            have HK := Flow.hide hk
            have Q := Flow.hide hq
            have HB := Flow.hide hb
            have HBS := Flow.hide hbs
            have O := Flow.hide ho
            clear hk hq hb hbs ho
            rcases l' with _ | ⟨c, l'⟩
            · go_wp2_with fail
              (with_reducible refine (blen_any bs0 bs0 50 [] _ Q.out).mono ?_)
              rintro e w7 ⟨rfl, rfl⟩
              go_wp2_with fail
              go_ret
              exact ⟨rfl, HB.out⟩
            · have hk1 := Flow.hide (show (c :: l').length = l'.length + 1 from rfl)
              have hkI : (0 : Int) < ((c :: l').length : Int) := by simp
              have hl50 := Flow.hide (show (c :: l').length ≤ 50 by rw [HK.out]; exact hk50)
              have HMEM := Flow.hide (show c ∈ c :: l' by simp)
              go_wp2_with fail
              (with_reducible refine (blen_any bs0 bs0 50 (c :: l') _ Q.out).mono ?_)
              rintro e w7 ⟨rfl, rfl⟩
              go_wp2_with fail
              (with_reducible refine (btake_is bs0 bs0 50 (c :: l') 0 0 c _ rfl Q.out rfl (by have := hl50.out; omega) HBS.out).mono ?_)
              rintro e w8 ⟨rfl, hq8, hb8, _⟩
              have Q8 : Hid (IsBag w8 bs0 bs0 50 l') := hq8
              have B8 := Flow.hide (HB.out.trans (hb8.mono BB.out))
              have S8 : Hid (bs0 ≤ w8.heap.size) := Nat.le_trans HBS.out hb8.size
              have hsame : c.text = xs ∨ ∃ at_ b, Turned (msk xs.size at_ b) (bs xs) (bs c.text) := by
                obtain ⟨h1, h2⟩ := O.out c HMEM.out
                rcases hs : c.sp with _ | _
                · exact .inl (h1 hs)
                · exact .inr (h2 hs)
              have O8 := Flow.hide (show OInv xs l' from fun d hd => O.out d (by simp [hd]))
              have HS8 := Flow.hide hsame
              clear hq8 hb8 Q HB HBS O hsame
              by_cases hct : c.text = xs
              · have hb' : bs c.text = sealed (bs t) := by rw [hct]; exact HBX.out
                have HB' := Flow.hide hb'
                clear hb' hct
                have e1 : (t.toList == t.toList) = true := beq_self_eq_true _
                have e2 : (t.toList != t.toList) = false := by simp
                go_wp2_with fail
                (with_reducible refine (open_sealed t c.text _ HB'.out (by omega)).mono ?_)
                rintro e w9 ⟨rfl, hb9⟩
                have Q9 := Flow.hide (Q8.out.below hb9)
                have B9 := Flow.hide (B8.out.trans (hb9.mono B8.out.size))
                have S9 : Hid (bs0 ≤ w9.heap.size) := Nat.le_trans S8.out hb9.size
                clear hb9
                go_wp2_with fail
                go_roundg l'.length
                case measure => have := HK.out; rw [← this]; exact Nat.lt_succ_self _
                case rel => exact ⟨_, l', rfl, rfl, by have := hl50.out; simp at this; omega, O8.out, Q9.out, B9.out, S9.out⟩
              · have hct' := Flow.hide hct
                have htt : ∃ at_ b, Turned (msk xs.size at_ b) (bs xs) (bs c.text) := HS8.out.resolve_left hct
                obtain ⟨at_, b, htt⟩ := htt
                have HTT := Flow.hide htt
                clear htt hct
                go_wp2_with fail
                (with_reducible refine (open_turned t xs c.text at_ b _ HBX.out (by omega) HTT.out (fun e => absurd e.symm hct'.out)).mono ?_)
                rintro e w9 ⟨rfl, hb9⟩
                have Q9 := Flow.hide (Q8.out.below hb9)
                have B9 := Flow.hide (B8.out.trans (hb9.mono B8.out.size))
                have S9 : Hid (bs0 ≤ w9.heap.size) := Nat.le_trans S8.out hb9.size
                clear hb9
                go_wp2_with fail
                go_roundg l'.length
                case measure => have := HK.out; rw [← this]; exact Nat.lt_succ_self _
                case rel => exact ⟨_, l', rfl, rfl, by have := hl50.out; simp at this; omega, O8.out, Q9.out, B9.out, S9.out⟩
      · obtain rfl : i = len := by omega
        clear hl1
        have HL50 := Flow.hide hl50
        clear hl50
        go_wp2_with fail
        go_loopg [10] (l.length) (fun gk t10 wd => ∃ (u : Value) (l' : List Th), t10 = u ∧ l'.length = gk ∧ gk ≤ 50 ∧ OInv xs l' ∧ IsBag wd bs0 bs0 50 l' ∧ Below w.heap.size w wd ∧ bs0 ≤ wd.heap.size)
        case atStart => exact ⟨_, l, rfl, rfl, HL50.out, O.out, Q.out, HB.out, HBS.out⟩
        case round =>
          clear O Q HB HBS HL50
          obtain ⟨u10, l', rfl, hk, hk50, ho, hq, hb, hbs⟩ := hrel
          have HK := Flow.hide hk
          have Q := Flow.hide hq
          have HB := Flow.hide hb
          have HBS := Flow.hide hbs
          have O := Flow.hide ho
          clear hk hq hb hbs ho
          rcases l' with _ | ⟨c, l'⟩
          · go_wp2_with fail
            (with_reducible refine (blen_any bs0 bs0 50 [] _ Q.out).mono ?_)
            rintro e w7 ⟨rfl, rfl⟩
            go_wp2_with fail
            go_ret
            exact ⟨rfl, HB.out⟩
          · have hk1 := Flow.hide (show (c :: l').length = l'.length + 1 from rfl)
            have hkI : (0 : Int) < ((c :: l').length : Int) := by simp
            have hl50 := Flow.hide (show (c :: l').length ≤ 50 by rw [HK.out]; exact hk50)
            have HMEM := Flow.hide (show c ∈ c :: l' by simp)
            go_wp2_with fail
            (with_reducible refine (blen_any bs0 bs0 50 (c :: l') _ Q.out).mono ?_)
            rintro e w7 ⟨rfl, rfl⟩
            go_wp2_with fail
            (with_reducible refine (btake_is bs0 bs0 50 (c :: l') 0 0 c _ rfl Q.out rfl (by have := hl50.out; omega) HBS.out).mono ?_)
            rintro e w8 ⟨rfl, hq8, hb8, _⟩
            have Q8 : Hid (IsBag w8 bs0 bs0 50 l') := hq8
            have B8 := Flow.hide (HB.out.trans (hb8.mono BB.out))
            have S8 : Hid (bs0 ≤ w8.heap.size) := Nat.le_trans HBS.out hb8.size
            have hsame : c.text = xs ∨ ∃ at_ b, Turned (msk xs.size at_ b) (bs xs) (bs c.text) := by
              obtain ⟨h1, h2⟩ := O.out c HMEM.out
              rcases hs : c.sp with _ | _
              · exact .inl (h1 hs)
              · exact .inr (h2 hs)
            have O8 := Flow.hide (show OInv xs l' from fun d hd => O.out d (by simp [hd]))
            have HS8 := Flow.hide hsame
            clear hq8 hb8 Q HB HBS O hsame
            by_cases hct : c.text = xs
            · have hb' : bs c.text = sealed (bs t) := by rw [hct]; exact HBX.out
              have HB' := Flow.hide hb'
              clear hb' hct
              have e1 : (t.toList == t.toList) = true := beq_self_eq_true _
              have e2 : (t.toList != t.toList) = false := by simp
              go_wp2_with fail
              (with_reducible refine (open_sealed t c.text _ HB'.out (by omega)).mono ?_)
              rintro e w9 ⟨rfl, hb9⟩
              have Q9 := Flow.hide (Q8.out.below hb9)
              have B9 := Flow.hide (B8.out.trans (hb9.mono B8.out.size))
              have S9 : Hid (bs0 ≤ w9.heap.size) := Nat.le_trans S8.out hb9.size
              clear hb9
              go_wp2_with fail
              go_roundg l'.length
              case measure => have := HK.out; rw [← this]; exact Nat.lt_succ_self _
              case rel => exact ⟨_, l', rfl, rfl, by have := hl50.out; simp at this; omega, O8.out, Q9.out, B9.out, S9.out⟩
            · have hct' := Flow.hide hct
              have htt : ∃ at_ b, Turned (msk xs.size at_ b) (bs xs) (bs c.text) := HS8.out.resolve_left hct
              obtain ⟨at_, b, htt⟩ := htt
              have HTT := Flow.hide htt
              clear htt hct
              go_wp2_with fail
              (with_reducible refine (open_turned t xs c.text at_ b _ HBX.out (by omega) HTT.out (fun e => absurd e.symm hct'.out)).mono ?_)
              rintro e w9 ⟨rfl, hb9⟩
              have Q9 := Flow.hide (Q8.out.below hb9)
              have B9 := Flow.hide (B8.out.trans (hb9.mono B8.out.size))
              have S9 : Hid (bs0 ≤ w9.heap.size) := Nat.le_trans S8.out hb9.size
              clear hb9
              go_wp2_with fail
              go_roundg l'.length
              case measure => have := HK.out; rw [← this]; exact Nat.lt_succ_self _
              case rel => exact ⟨_, l', rfl, rfl, by have := hl50.out; simp at this; omega, O8.out, Q9.out, B9.out, S9.out⟩
theorem own : ownKnob Try.prog.godebug = none := by kernel_rfl
theorem laidOut : laidOutB Try.prog = true := by kernel_rfl

set_option maxRecDepth 100000 in
theorem lifted (os : Os) (started : os.Started) (H : Type) (enc : TypeId × Value → H) :
    ReturnsInHanded {} Try.checked os 8 .any (Rows.bagOnceSpec.pre6 enc Try.prog Try.f8 Rows.bagOnceRow.domain false) (Rows.bagOnceSpec.post enc Try.prog Try.f8 false true false false) := by
  refine returnsInHanded_of_change (C := Try.checked) own started (by kernel_rfl) Try.func8
    (ChangeSpec.witness6 (enc := enc) (C := Try.checked) false ⟨#[], #[.string ⟨#[]⟩, .slice none 0 0], []⟩ 8 (by kernel_rfl) (by kernel_rfl) (by kernel_rfl) (by kernel_rfl)) ?_
  intro W base args ds gs before hval0 hW hcnd _
  have hval : ∀ (j : Nat) t v, Try.f8.params[j]? = some t → args[j]? = some v → Value.okWide Try.prog W .any base t v := hval0
  have hW' := hW
  obtain ⟨p, q, hA0, hV, rfl, hfz, hnd⟩ := hW
  have hA : DataW.TrodAll enc Try.prog W 0 (fun _ => true) true Try.f8.params.toList args.toList ds p := hA0
  rw [Try.params8] at hA hval
  obtain ⟨v0, v1, d0, d1, p0, p1, hargs, rfl, rfl, h0, h1⟩ := trodAll_two hA
  obtain ⟨rfl, rfl⟩ := trodVars_none hV
  subst hargs
  obtain ⟨s0, rfl, rfl, rfl, hls0⟩ := open_string Try.underlying9 (hval 0 9 v0 rfl rfl) h0
  obtain ⟨A1, n1, cp1, rfl, hl1, _, hr1⟩ := Open.open_rows_arg 30 (ss := [.int .i64, .int .i64, .int .i64, .int .u8, .str, .int .u32]) Try.underlying36 (by kernel_rfl) (by decide) (by kernel_rfl) (hval 1 36 v1 rfl rfl) h1
  obtain ⟨x1, hx1⟩ := acts_of hr1
  clear hA0 hval0
  refine (walk s0 A1 n1 cp1 x1 W hls0 hl1 hx1).mono fun e W' ⟨he, hb⟩ => ?_
  subst he
  exact ⟨_, rfl, Open.law_post laidOut (by kernel_rfl) (by kernel_rfl) Try.underlying4 rfl rfl hW' hb⟩

theorem over : Rows.bagOnceRow.holds Try.pinned (OpenSpec.ofChange Rows.bagOnceSpec) :=
  OpenClaim.holds_of_wide 8 Try.f8 rfl rfl rfl rfl rfl rfl rfl ⟨rfl, rfl, rfl, rfl, rfl⟩ rfl rfl rfl rfl rfl (by kernel_rfl) Try.func8 (by kernel_rfl)
    (of_decide_eq_true (by kernel_rfl)) (by unfold Func.isWrapper; first | (rw [if_pos (by decide +kernel)]; kernel_rfl) | (rw [if_neg (by decide +kernel)]; exact ⟨rfl, rfl⟩))
    (fun os started H enc _ => lifted os started H enc)

theorem proved : Rows.BagOnceSaid := over
#print axioms proved
end Go.Proofs.Ythkphapmnlndbaa.BOnce
