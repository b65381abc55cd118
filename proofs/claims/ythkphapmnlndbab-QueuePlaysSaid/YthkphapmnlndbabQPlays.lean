/- QueuePlays: for every row of acts the law returns true. -/
import Derived.Test.YthkphapmnlndbabRows
import Derived.Test.YthkphapmnlndbabQSpeaks
import Derived.Test.YthkphapmnlndbabOwn3
import Derived.Test.YthkphapmnlndbabOpen2
import Derived.Test.YthkphapmnlndbabChain
import Derived.Deep.DeepCutAuto
import Derived.Deep.CutBlock
namespace Go.Proofs.Ythkphapmnlndbab.QPlays
open Go.ChangeShapes Go.WideShapes Go.ChangeAt Go.RowKit
set_option linter.unusedSimpArgs false
set_option maxHeartbeats 8000000
attribute [local irreducible] Flow.wpSeg Flow.wpF Flow.wpG Flow.wpS Flow.wpT
/-- The acts that came in. -/
def Acts (w : World) (A : Option Addr) (n : Nat) (x : Nat → Int × Int × Int) : Prop :=
  0 < n → ∃ g off, A = some ⟨g, off, none⟩ ∧ g < w.heap.size ∧ ∀ i, i < n → w.cell? ⟨g, off + i * 3, none⟩ = some (.int .u8 (x i).1) ∧ w.cell? ⟨g, off + i * 3 + 1, none⟩ = some (.int .u32 (x i).2.1) ∧ w.cell? ⟨g, off + i * 3 + 2, none⟩ = some (.int .i64 (x i).2.2) ∧
    (0 ≤ (x i).1 ∧ (x i).1 ≤ 255) ∧ (0 ≤ (x i).2.1 ∧ (x i).2.1 ≤ 4294967295)
theorem acts_of {H : Type} {enc : TypeId × Value → H} {base : Nat} {spare : Nat → Bool} {held : Bool} {w : World} {A : Option Addr} {n : Nat} (h : 0 < n → ∃ g off, A = some ⟨g, off, none⟩ ∧ g < w.heap.size ∧
    ∀ i, i < n → ∀ (j : Nat) (s : Open.Shp), ([.int .u8, .int .u32, .int .i64] : List Open.Shp)[j]? = some s → ∃ u, w.cell? ⟨g, off + (i * ([.int .u8, .int .u32, .int .i64] : List Open.Shp).length + j), none⟩ = some u ∧ Open.CellOk enc Try.prog w base spare held s u) :
    ∃ x, Acts w A n x := by
  rcases Nat.eq_zero_or_pos n with h0 | h0
  · exact ⟨fun _ => (0, 0, 0), fun hn => by omega⟩
  · obtain ⟨g, off, rfl, hg, hc⟩ := h h0
    have hx : ∀ i, i < n → ∃ y : Int × Int × Int, w.cell? ⟨g, off + i * 3, none⟩ = some (.int .u8 y.1) ∧ w.cell? ⟨g, off + i * 3 + 1, none⟩ = some (.int .u32 y.2.1) ∧ w.cell? ⟨g, off + i * 3 + 2, none⟩ = some (.int .i64 y.2.2) ∧ (0 ≤ y.1 ∧ y.1 ≤ 255) ∧ (0 ≤ y.2.1 ∧ y.2.1 ≤ 4294967295) := by
      intro i hi
      obtain ⟨u0, e0, a0, rfl, w0⟩ := hc i hi 0 _ rfl
      obtain ⟨u1, e1, a1, rfl, w1⟩ := hc i hi 1 _ rfl
      obtain ⟨u2, e2, a2, rfl, w2⟩ := hc i hi 2 _ rfl
      have e : ∀ j, off + (i * ([.int .u8, .int .u32, .int .i64] : List Open.Shp).length + j) = off + i * 3 + j := fun j => by simp; omega
      rw [e] at e0 e1 e2
      exact ⟨(a0, a1, a2), e0, e1, e2, bounds_u8 w0, bounds_u32 w1⟩
    obtain ⟨f, hf⟩ := Deep.choose_lt hx
    exact ⟨f, fun _ => ⟨g, off, rfl, hg, hf⟩⟩
/-- What the search has found among the calls from jx on. -/
def Srch (l : List Cl) (key : Int) (jx : Nat) (r : Int) : Prop :=
  (r = -1 ∧ ∀ j c, jx ≤ j → l[j]? = some c → c.key ≠ key) ∨ ∃ i : Nat, r = i ∧ jx ≤ i ∧ (∃ c, l[i]? = some c ∧ c.key = key) ∧ ∀ j c, jx ≤ j → j < i → l[j]? = some c → c.key ≠ key
theorem srch_none (l : List Cl) (key : Int) : Srch l key l.length (-1) := .inl ⟨rfl, fun j c h hc => by have := (List.getElem?_eq_some_iff.1 hc).1; omega⟩
theorem srch_hit {l : List Cl} {key : Int} {jx : Nat} {c : Cl} (hc : l[jx]? = some c) (hk : c.key = key) : Srch l key jx jx := .inr ⟨jx, rfl, Nat.le_refl _, ⟨c, hc, hk⟩, fun j d h1 h2 _ => by omega⟩
theorem srch_miss {l : List Cl} {key r : Int} {jx : Nat} {c : Cl} (h : Srch l key (jx + 1) r) (hc : l[jx]? = some c) (hk : c.key ≠ key) : Srch l key jx r := by
  have step : ∀ j d, jx ≤ j → ¬ jx + 1 ≤ j → l[j]? = some d → d.key ≠ key := fun j d h1 h2 hd => by
    obtain rfl : j = jx := by omega
    rw [hc] at hd
    cases hd
    exact hk
  rcases h with ⟨h1, h2⟩ | ⟨i, h1, h2, h3, h4⟩
  · exact .inl ⟨h1, fun j d hj hd => if h : jx + 1 ≤ j then h2 j d h hd else step j d hj h hd⟩
  · exact .inr ⟨i, h1, by omega, h3, fun j d hj hji hd => if h : jx + 1 ≤ j then h4 j d h hji hd else step j d hj h hd⟩
theorem srch_end {l : List Cl} {key r : Int} (h : Srch l key 0 r) : (r = -1 ∧ Non l key) ∨ ∃ i c, r = (i : Nat) ∧ Fst l key i ∧ l[i]? = some c ∧ c.key = key := by
  rcases h with ⟨h1, h2⟩ | ⟨i, h1, _, ⟨c, hc, hk⟩, h4⟩
  · refine .inl ⟨h1, fun c hc => ?_⟩
    obtain ⟨j, hj⟩ := List.mem_iff_getElem?.1 hc
    exact h2 j c (Nat.zero_le _) hj
  · exact .inr ⟨i, c, h1, ⟨⟨c, hc, hk⟩, fun j d hj hd => h4 j d (Nat.zero_le _) hj hd⟩, hc, hk⟩
/-- A block of another type is no block of the queue. -/
theorem not_on {w : World} {B g b : Nat} {a : Option Nat} {l : List Cl} {t : TypeId} {cs : Array Value} (hq : IsQA w B g a l) (hk : Flow.Blk w b t cs) (h1 : t ≠ 156) (h2 : t ≠ 125) : ¬ (b = g ∨ some b = a) := by
  obtain ⟨v, hv, hr, _, ha⟩ := hq
  rintro (e | e)
  · subst e
    unfold Flow.Blk at hk hv
    rw [hk] at hv
    simp only [Option.some.injEq, Obj.cells.injEq] at hv
    exact h1 hv.2.1
  · obtain ⟨cur, e1⟩ := own_on hr b (e.trans ha.symm)
    unfold Flow.Blk at hk
    rw [hk] at e1
    simp only [Option.some.injEq, Obj.cells.injEq] at e1
    exact h2 e1.2.1
theorem not_g {w : World} {B B' g n : Nat} {a : Option Nat} {l : List Cl} {v : Value} {x : List Value} (hq : IsQA w B g a l) (hr : w.ownsRow B' 125 8 v n x) : ∀ j, v.ownBlock = some j → j ≠ g := by
  obtain ⟨u, hv, _⟩ := hq
  exact q_ne hr hv
theorem push_mka (g B : Nat) (a : Option Nat) (l : List Cl) (n k m : Int) (w : World) (hm : (if n = 4294967295 then 0 else n + 1) = m) (hq : IsQA w B g a l) (hn : l.length < 8) (hB : B ≤ w.heap.size) :
    Calls Try.prog 51 #[.pointer (some ⟨g, 0, none⟩), .agg #[.int .u32 n, .int .u32 m, .int .i64 5, .int .i64 k, .string ⟨#[]⟩, .bool false, .string ⟨#[]⟩, .int .i64 n]] w fun e w' => e = .returned (.bool true) ∧ (∃ a', IsQA w' B g a' (l ++ [mkC n k]) ∧ (a' = a ∨ ∃ j, a' = some j ∧ w.heap.size ≤ j)) ∧ Below B w w' ∧ Flow.Chg (fun j => j = g ∨ some j = a) w w' := by
  rw [← hm]; exact push_a g B a l (mkC n k) w hq hn hB
theorem neq125 (c : Cl) (w : World) : (binOp .neq 125 (.agg #[.int .u32 c.n, .int .u32 c.m, .int .i64 c.kind, .int .i64 c.key, .string c.text, .bool c.has, .string c.old, .int .i64 c.num]) (.agg #[.int .u32 c.n, .int .u32 c.m, .int .i64 c.kind, .int .i64 c.key, .string c.text, .bool c.has, .string c.old, .int .i64 c.num])).run Try.prog w = .ok (.bool false) w := by
  go_simp
theorem Row.rg {w : World} {B n : Nat} {v : Value} {l : List Cl} (h : w.ownsRow B 125 8 v n (xsC l)) (hl : l.length = n) {k : Nat} {c : Cl} (hc : l[k]? = some c) :
    ∃ g cap, v = .slice (some ⟨g, 0, none⟩) n cap ∧ g < w.heap.size ∧ (∀ p, (Flow.rg w p).cell? ⟨g, k * 8, none⟩ = some (.int .u32 c.n)) ∧ (∀ p, (Flow.rg w p).cell? ⟨g, k * 8 + 1, none⟩ = some (.int .u32 c.m)) ∧ (∀ p, (Flow.rg w p).cell? ⟨g, k * 8 + 2, none⟩ = some (.int .i64 c.kind)) ∧ (∀ p, (Flow.rg w p).cell? ⟨g, k * 8 + 3, none⟩ = some (.int .i64 c.key)) ∧
      (∀ p, (Flow.rg w p).cell? ⟨g, k * 8 + 4, none⟩ = some (.string c.text)) ∧ (∀ p, (Flow.rg w p).cell? ⟨g, k * 8 + 5, none⟩ = some (.bool c.has)) ∧ (∀ p, (Flow.rg w p).cell? ⟨g, k * 8 + 6, none⟩ = some (.string c.old)) ∧ (∀ p, (Flow.rg w p).cell? ⟨g, k * 8 + 7, none⟩ = some (.int .i64 c.num)) := by
  obtain ⟨g, cap, hv, _, hg, _, y0, y1, y2, y3, y4, y5, y6, y7⟩ := Row.at_ h hl hc
  have k : ∀ (o : Nat) (u : Value), w.cell? ⟨g, o, none⟩ = some u → ∀ p, (Flow.rg w p).cell? ⟨g, o, none⟩ = some u := fun o u e p => ((Flow.rg_below w p).cell (p := ⟨g, o, none⟩) hg).trans e
  exact ⟨g, cap, hv, hg, k _ _ y0, k _ _ y1, k _ _ y2, k _ _ y3, k _ _ y4, k _ _ y5, k _ _ y6, k _ _ y7⟩
set_option maxRecDepth 100000 in
theorem walk (A : Option Addr) (len cap : Nat) (x : Nat → Int × Int × Int) (w : World) (hlen : len ≤ maxLen) (hx : Acts w A len x) :
    Calls Try.prog 13 #[.slice A len cap] w fun e w' => e = .returned (.bool true) ∧ Below w.heap.size w w' := by
  unfold maxLen at hlen
  have HX := Flow.hide hx
  clear hx
  go_enter Try.func13, Try.ntmps13
  go_wp2_with fail
  (with_reducible refine (speaks23 _).mono ?_)
  rintro e w1 ⟨rfl, hb1⟩
  have B1 := Flow.hide hb1
  clear hb1
  go_wp2_with fail
  (with_reducible refine (new_any w.heap.size w1 B1.out.size).mono ?_)
  rintro e w2 ⟨rfl, ⟨v2, qb2, qr2, qg2⟩, hb2⟩
  have Q2 : Hid (IsQA w2 w.heap.size w1.heap.size v2.ownBlock []) := ⟨v2, qb2, qr2, qg2, rfl⟩
  obtain ⟨qb, hqb⟩ : ∃ t, t = w1.heap.size := ⟨_, rfl⟩
  rw [← hqb] at Q2 ⊢
  have B2 := Flow.hide (B1.out.trans (hb2.mono B1.out.size))
  clear qb2 qr2 qg2 hb2 B1 hqb
  go_wp2_with fail
  go_loopw [4, 5] (fun t4 t5 wr => ∃ (i : Nat) (l : List Cl) (a : Option Nat), i ≤ len ∧ i ≤ 60 ∧ t5 = .int .i64 i ∧ wr.ownsRow w.heap.size 125 8 t4 l.length (xsC l) ∧ IsQA wr w.heap.size qb a l ∧ l.length ≤ 8 ∧ (∀ j, t4.ownBlock = some j → a ≠ some j) ∧ Below w.heap.size w wr) (fun _ t5 _ => 60 - (intOf t5).toNat)
  case atStart => exact ⟨0, [], _, by omega, by omega, rfl, World.ownsRow_nil _ _ _ _, Q2.out, by simp, fun j h => (by cases h), B2.out⟩
  case round =>
    obtain ⟨i, l, a, hil, hi60, rfl, hr, hq, hl8, hd, hb⟩ := hrel
    obtain ⟨A4, cp4, hv4, _⟩ := Flow.ownsRow_form hr
    subst hv4
    have HR := Flow.hide hr
    have HQ := Flow.hide hq
    have HD := Flow.hide hd
    have HB := Flow.hide hb
    have HL8 := Flow.hide hl8
    clear hr hq hd hb hl8 Q2 B2
    by_cases hlt : i < len
    · have hltI : (i : Int) < (len : Int) := by omega
      by_cases hlt60 : i < 60
      · have hlt60I : (i : Int) < 60 := by omega
        obtain ⟨g, off, rfl, hg, hc⟩ := HX.out (by omega)
        obtain ⟨x1, x2, x3, hk, hn⟩ := hc i hlt
        have y1 : wr.cell? ⟨g, off + i * 3, none⟩ = some (.int .u8 (x i).1) := (HB.out.cell (p := ⟨g, off + i * 3, none⟩) hg).trans x1
        have y2 : wr.cell? ⟨g, off + i * 3 + 1, none⟩ = some (.int .u32 (x i).2.1) := (HB.out.cell (p := ⟨g, off + i * 3 + 1, none⟩) hg).trans x2
        have y3 : wr.cell? ⟨g, off + i * 3 + 2, none⟩ = some (.int .i64 (x i).2.2) := (HB.out.cell (p := ⟨g, off + i * 3 + 2, none⟩) hg).trans x3
        revert hk hn y1 y2 y3
        clear hc x1 x2 x3
        generalize (x i).1 = kd
        generalize (x i).2.1 = nm
        generalize (x i).2.2 = key
        intro hk hn y1 y2 y3
        go_upto_region 9 with fail
        obtain ⟨K6, hh6, z6⟩ := Flow.laid1 (w := wr) (w1 := wr.alloc (.cells #[.int .u8 kd, .int .u32 nm, .int .i64 key] 135)) (Below.refl _ _)
        have HQ6 := Flow.hide (HQ.out.below hh6)
        have HR6 := Flow.hide (Flow.ownsRow_chg HR.out (Flow.Chg.of_below hh6) (fun _ _ e => e))
        have HB6 := Flow.hide (HB.out.trans (hh6.mono HB.out.size))
        revert K6 HQ6 HR6 HB6
        clear z6 hh6 HQ HR HB y1 y2 y3
        generalize wr.alloc (.cells #[.int .u8 kd, .int .u32 nm, .int .i64 key] 135) = w6
        generalize wr.heap.size = b6
        intro K6 HQ6 HR6 HB6
        clear wr
        have hwl : wrap64 ((l.length : Int) - 1) = (l.length : Int) - 1 := by have := HL8.out; unfold wrap64; omega
        go_wp2_with fail
        rw [hwl]
        clear hwl
        go_loopw [7, 8] (fun t7 t8 wr => ∃ (r : Int) (jx : Nat), jx ≤ l.length ∧ t8 = .int .i64 ((jx : Int) - 1) ∧ t7 = .int .i64 r ∧ Srch l key jx r ∧ Below w6.heap.size w6 wr) (fun _ t8 _ => (intOf t8 + 1).toNat)
        case atStart => exact ⟨-1, l.length, Nat.le_refl _, rfl, rfl, srch_none _ _, Below.refl _ _⟩
        case round =>
          obtain ⟨r, jx, hjl, rfl, rfl, hs, hb⟩ := hrel
          have HS := Flow.hide hs
          have hl8 := HL8.out
          by_cases hj0 : 0 < jx
          · obtain ⟨jy, rfl⟩ : ∃ jy, jx = jy + 1 := ⟨jx - 1, by omega⟩
            have hjyI : (0 : Int) ≤ (jy : Int) := by omega
            have hjyl : (jy : Int) < (l.length : Int) := by omega
            obtain ⟨c, hc⟩ : ∃ c, l[jy]? = some c := ⟨_, List.getElem?_eq_getElem (by omega)⟩
            have HC := Flow.hide hc
            have K := K6.below hb
            have r6 := K.rg
            obtain ⟨gb, cap', ev, hBg, hgb, _, y0, y1, y2, y3, y4, y5, y6, y7⟩ := Row.at_ (Flow.ownsRow_chg HR6.out (Flow.Chg.of_below hb) (fun _ _ e => e)) rfl hc
            simp only [Value.slice.injEq] at ev
            obtain ⟨rfl, _, rfl⟩ := ev
            have ry : ∀ p : Flow.Rg, (Flow.rg wr p).cell? ⟨gb, jy * 8 + 3, none⟩ = some (.int .i64 c.key) := fun p => ((Flow.rg_below wr p).cell (p := ⟨gb, jy * 8 + 3, none⟩) (by first | exact hgb | omega)).trans y3
            have HBW := Flow.hide hb
            clear hc hb hs y0 y1 y2 y3 y4 y5 y6 y7 K hBg
            push_cast
            go_upto_region 13 with fail
            by_cases hck : c.key = key
            · have hckb : (c.key == key) = true := by rw [hck]; exact beq_self_eq_true _
              clear hck
              refine Flow.wp_region_all (by kernel_rfl) (by kernel_rfl) ?_
              repeat (first
                | (refine Flow.wpSeg_step (fun K' hK' => ?_)
                   go_simp
                   first
                     | (refine hK' _ ?_; clear hK' K')
                     | (apply Exists.intro
                        refine ⟨fun p => ?_, hK' _ ?_⟩
                        (first | fail)
                        clear hK' K')))
              refine Flow.wpSeg_nil ?_
              intro w' hb'
              have HBW' := Flow.hide (HBW.out.trans (hb'.mono HBW.out.size))
              clear r6 ry HBW hb' hgb wr
              go_wp2_with fail
              go_roundw
              case rel => exact ⟨_, jy, by omega, by go_num, rfl, (srch_hit HC.out (by simpa using hckb)), HBW'.out⟩
              case measure => simp [intOf] <;> omega
            · have hckb : (c.key == key) = false := by simpa using hck
              clear hck
              refine Flow.wp_region_all (by kernel_rfl) (by kernel_rfl) ?_
              repeat (first
                | (refine Flow.wpSeg_step (fun K' hK' => ?_)
                   go_simp
                   first
                     | (refine hK' _ ?_; clear hK' K')
                     | (apply Exists.intro
                        refine ⟨fun p => ?_, hK' _ ?_⟩
                        (first | fail)
                        clear hK' K')))
              refine Flow.wpSeg_nil ?_
              intro w' hb'
              have HBW' := Flow.hide (HBW.out.trans (hb'.mono HBW.out.size))
              clear r6 ry HBW hb' hgb wr
              go_wp2_with fail
              go_roundw
              case rel => exact ⟨_, jy, by omega, by go_num, rfl, (srch_miss HS.out HC.out (by simpa using hckb)), HBW'.out⟩
              case measure => simp [intOf] <;> omega
          · have hs0 : Srch l key 0 r := by
              obtain rfl : jx = 0 := by omega
              exact hs
            have hjI : (jx : Int) - 1 < 0 := by omega
            have hjI' : ¬ (0 : Int) ≤ (jx : Int) - 1 := by omega
            clear hs HS hj0
            go_upto_region 15 with fail
            clear hjI hjI'
            have K := K6.below hb
            have HQ := Flow.hide (HQ6.out.below hb)
            have HR := Flow.hide (Flow.ownsRow_chg HR6.out (Flow.Chg.of_below hb) (fun _ _ e => e))
            have HB := Flow.hide (HB6.out.trans (hb.mono HB6.out.size))
            clear hb K6 HQ6 HR6 HB6
            have c6 := K.cell
            have hcase : kd % 6 = 3 ∨ kd % 6 = 4 ∨ kd % 6 = 5 ∨ (kd % 6 ≠ 3 ∧ kd % 6 ≠ 4 ∧ kd % 6 ≠ 5) := by omega
            have htm : kd.tmod 6 = kd % 6 := Int.tmod_eq_emod_of_nonneg hk.1
            go_upto_block 4 with fail
            go_cut [4] (fun s4 wx => ∃ (l' : List Cl) (a' : Option Nat), wx.ownsRow w.heap.size 125 8 s4 l'.length (xsC l') ∧ IsQA wx w.heap.size qb a' l' ∧ l'.length ≤ 8 ∧ (∀ j, s4.ownBlock = some j → a' ≠ some j) ∧ Below w.heap.size w wx)
            case first =>
              rcases hcase with hm | hm | hm | ⟨hm3, hm4, hm5⟩
              · have hb3 : (kd % 6 == 3) = true := by rw [hm]; rfl
                clear hm
                rcases srch_end hs0 with ⟨rfl, hnon⟩ | ⟨ix, c, rfl, hfst, hcx, hck⟩
                · have HNON := Flow.hide hnon
                  clear hnon hs0
                  go_upto_region 22 with fail
                  go_wp2_with fail
                  (with_reducible refine (first_no qb w.heap.size l key _ HQ.out.isQ (by omega) HNON.out).mono ?_)
                  rintro e w2 ⟨rfl, hb2⟩
                  have K2 := K.below hb2
                  have HQ2 := HQ.out.below hb2
                  have HR2 := Flow.ownsRow_chg HR.out (Flow.Chg.of_below hb2) (fun _ _ e => e)
                  have HB2 := HB.out.trans (hb2.mono HB.out.size)
                  clear hb2 HQ HR HB K c6
                  go_upto_region 23 with fail
                  obtain ⟨K9, hh, _⟩ := Flow.laid1 (w := w2) (w1 := w2.alloc (.cells #[.int .u32 0, .int .u32 0, .int .i64 0, .int .i64 0, .string ⟨#[]⟩, .bool false, .string ⟨#[]⟩, .int .i64 0] 125)) (Below.refl _ _)
                  have K3 := K2.below hh
                  have HQ3 := Flow.hide (HQ2.below hh)
                  have HR3 := Flow.hide (Flow.ownsRow_chg HR2 (Flow.Chg.of_below hh) (fun _ _ e => e))
                  have HB3 := Flow.hide (HB2.trans (hh.mono HB2.size))
                  have HA9 : Hid (∀ j, a = some j → j < w2.heap.size) := fun j hj => by
                    obtain ⟨u, _, hu, _, hua⟩ := HQ2
                    exact own_lt hu j (hua.trans hj)
                  have HM9 : Hid (∀ j, (Value.slice A4 l.length cp4).ownBlock = some j → j < w2.heap.size) := own_lt HR2
                  have HW9 : Hid (w.heap.size ≤ w2.heap.size) := HB2.size
                  revert K9 K3 HQ3 HR3 HB3 HA9 HM9 HW9
                  clear hh K2 HQ2 HR2 HB2
                  generalize w2.alloc (.cells #[.int .u32 0, .int .u32 0, .int .i64 0, .int .i64 0, .string ⟨#[]⟩, .bool false, .string ⟨#[]⟩, .int .i64 0] 125) = w3
                  generalize w2.heap.size = b9
                  intro K9 K3 HQ3 HR3 HB3 HA9 HM9 HW9
                  have c6 := K3.cell
                  go_wp2_with fail
                  (with_reducible refine (take_no qb w.heap.size l key _ HQ3.out.isQ (by omega) HNON.out).mono ?_)
                  rintro e w4 ⟨rfl, hb4⟩
                  have K94 := K9.below hb4
                  have K34 := K3.below hb4
                  have HQ4 := Flow.hide (HQ3.out.below hb4)
                  have HR4 := Flow.hide (Flow.ownsRow_chg HR3.out (Flow.Chg.of_below hb4) (fun _ _ e => e))
                  have HB4 := Flow.hide (HB3.out.trans (hb4.mono HB3.out.size))
                  have c9 := K94.cell
                  have f9 := K94.frozen
                  have l9 := K94.lt
                  clear hb4 K9 K3 HQ3 HR3 HB3 c6
                  go_upto_region 25 with fail
                  obtain ⟨w5, hw5⟩ : ∃ w5, w5 = ((((((((w4.setCell ⟨b9, 0, none⟩ (.int .u32 0)).setCell ⟨b9, 1, none⟩ (.int .u32 0)).setCell ⟨b9, 2, none⟩ (.int .i64 0)).setCell ⟨b9, 3, none⟩ (.int .i64 0)).setCell ⟨b9, 4, none⟩ (.string ⟨#[]⟩)).setCell ⟨b9, 5, none⟩ (.bool false)).setCell ⟨b9, 6, none⟩ (.string ⟨#[]⟩)).setCell ⟨b9, 7, none⟩ (.int .i64 0)) := ⟨_, rfl⟩
                  obtain ⟨K95, C5⟩ := Flow.store8 (b0 := .int .u32 0) (b1 := .int .u32 0) (b2 := .int .i64 0) (b3 := .int .i64 0) (b4 := .string ⟨#[]⟩) (b5 := .bool false) (b6 := .string ⟨#[]⟩) (b7 := .int .i64 0) K94
                  rw [← hw5] at K95 C5 ⊢
                  clear hw5
                  have hne : b6 ≠ b9 := fun e => by
                    subst e
                    unfold Flow.Blk at K34 K94
                    rw [K34] at K94
                    simp at K94
                  have K35 := K34.chg C5 hne
                  have HQ5 := Flow.hide (HQ4.out.chg C5 (fun e => by
                    obtain ⟨u, hu, _⟩ := HQ4.out
                    subst e
                    unfold Flow.Blk at hu K94
                    rw [hu] at K94
                    simp at K94) (fun j hj e => by have := HA9.out j hj; omega))
                  have HR5 := Flow.hide (Flow.ownsRow_chg HR4.out C5 (fun j hj e => by have := HM9.out j hj; omega))
                  have HB5 := Flow.hide (HB4.out.trans (C5.below (B := w.heap.size) (fun j _ e => by have := HW9.out; omega) HB4.out.size))
                  clear hne C5 K94 K34 HQ4 HR4 HB4 c9 f9 l9
                  have r9 := K95.rg
                  have hz := neq125 ⟨0, 0, 0, 0, ⟨#[]⟩, false, ⟨#[]⟩, 0⟩
                  refine Flow.wp_region_all (by kernel_rfl) (by kernel_rfl) ?_
                  repeat (first
                    | (refine Flow.wpSeg_step (fun K' hK' => ?_)
                       go_simp
                       first
                         | (refine hK' _ ?_; clear hK' K')
                         | (apply Exists.intro
                            refine ⟨fun p => ?_, hK' _ ?_⟩
                            (first | fail)
                            clear hK' K')))
                  refine Flow.wpSeg_nil ?_
                  intro w' hb'
                  have K4 := K35.below hb'
                  have HQ6 := Flow.hide (HQ5.out.below hb')
                  have HR6 := Flow.hide (Flow.ownsRow_chg HR5.out (Flow.Chg.of_below hb') (fun _ _ e => e))
                  have HB6 := Flow.hide (HB5.out.trans (hb'.mono HB5.out.size))
                  clear hb' HQ5 HR5 HB5 K35 r9 hz K95
                  have c6 := K4.cell
                  go_wp2_with fail
                  go_meet
                  exact ⟨l, a, HR6.out, HQ6.out, HL8.out, HD.out, HB6.out⟩
                · have HF := Flow.hide hfst
                  have HC := Flow.hide hcx
                  have hixI : (0 : Int) ≤ (ix : Int) := by omega
                  have hixl : (ix : Int) < (l.length : Int) := by have := (List.getElem?_eq_some_iff.1 hcx).1; omega
                  clear hfst hcx hck hs0
                  go_upto_region 22 with fail
                  go_wp2_with fail
                  (with_reducible refine (first_yes qb w.heap.size l key ix c _ HQ.out.isQ (by omega) HF.out HC.out).mono ?_)
                  rintro e w2 ⟨rfl, hb2⟩
                  have K2 := K.below hb2
                  have HQ2 := HQ.out.below hb2
                  have HR2 := Flow.ownsRow_chg HR.out (Flow.Chg.of_below hb2) (fun _ _ e => e)
                  have HB2 := HB.out.trans (hb2.mono HB.out.size)
                  clear hb2 HQ HR HB K c6
                  go_upto_region 23 with fail
                  obtain ⟨K9, hh, _⟩ := Flow.laid1 (w := w2) (w1 := w2.alloc (.cells #[.int .u32 c.n, .int .u32 c.m, .int .i64 c.kind, .int .i64 c.key, .string c.text, .bool c.has, .string c.old, .int .i64 c.num] 125)) (Below.refl _ _)
                  have K3 := K2.below hh
                  have HQ3 := Flow.hide (HQ2.below hh)
                  have HR3 := Flow.hide (Flow.ownsRow_chg HR2 (Flow.Chg.of_below hh) (fun _ _ e => e))
                  have HB3 := Flow.hide (HB2.trans (hh.mono HB2.size))
                  have HA9 : Hid (∀ j, a = some j → j < w2.heap.size) := fun j hj => by
                    obtain ⟨u, _, hu, _, hua⟩ := HQ2
                    exact own_lt hu j (hua.trans hj)
                  have HM9 : Hid (∀ j, (Value.slice A4 l.length cp4).ownBlock = some j → j < w2.heap.size) := own_lt HR2
                  have HW9 : Hid (w.heap.size ≤ w2.heap.size) := HB2.size
                  revert K9 K3 HQ3 HR3 HB3 HA9 HM9 HW9
                  clear hh K2 HQ2 HR2 HB2
                  generalize w2.alloc (.cells #[.int .u32 c.n, .int .u32 c.m, .int .i64 c.kind, .int .i64 c.key, .string c.text, .bool c.has, .string c.old, .int .i64 c.num] 125) = w3
                  generalize w2.heap.size = b9
                  intro K9 K3 HQ3 HR3 HB3 HA9 HM9 HW9
                  have c6 := K3.cell
                  go_wp2_with fail
                  (with_reducible refine (take_a qb w.heap.size a l key ix c _ HQ3.out (by omega) HF.out HC.out HB3.out.size).mono ?_)
                  rintro e w4 ⟨rfl, hq4, hb4, hc4⟩
                  have HQ4 := Flow.hide hq4
                  have K94 := K9.chg hc4 (fun e => by
                    rcases e with e | e
                    · obtain ⟨u, hu, _⟩ := HQ3.out
                      subst e
                      unfold Flow.Blk at hu K9
                      rw [hu] at K9
                      simp at K9
                    · have := HA9.out _ e.symm; omega)
                  have K34 := K3.chg hc4 (not_on HQ3.out K3 (by decide) (by decide))
                  have HR4 := Flow.hide (Flow.ownsRow_chg HR3.out hc4 (fun j hj e => by
                    rcases e with e | e
                    · exact not_g HQ3.out HR3.out j hj e
                    · exact HD.out j hj e.symm))
                  have HB4 := Flow.hide (HB3.out.trans hb4)
                  have c9 := K94.cell
                  have f9 := K94.frozen
                  have l9 := K94.lt
                  clear hq4 hc4 hb4 K9 K3 HQ3 HR3 HB3 c6
                  go_upto_region 25 with fail
                  obtain ⟨w5, hw5⟩ : ∃ w5, w5 = ((((((((w4.setCell ⟨b9, 0, none⟩ (.int .u32 c.n)).setCell ⟨b9, 1, none⟩ (.int .u32 c.m)).setCell ⟨b9, 2, none⟩ (.int .i64 c.kind)).setCell ⟨b9, 3, none⟩ (.int .i64 c.key)).setCell ⟨b9, 4, none⟩ (.string c.text)).setCell ⟨b9, 5, none⟩ (.bool c.has)).setCell ⟨b9, 6, none⟩ (.string c.old)).setCell ⟨b9, 7, none⟩ (.int .i64 c.num)) := ⟨_, rfl⟩
                  obtain ⟨K95, C5⟩ := Flow.store8 (b0 := .int .u32 c.n) (b1 := .int .u32 c.m) (b2 := .int .i64 c.kind) (b3 := .int .i64 c.key) (b4 := .string c.text) (b5 := .bool c.has) (b6 := .string c.old) (b7 := .int .i64 c.num) K94
                  rw [← hw5] at K95 C5 ⊢
                  clear hw5
                  have hne : b6 ≠ b9 := fun e => by
                    subst e
                    unfold Flow.Blk at K34 K94
                    rw [K34] at K94
                    simp at K94
                  have K35 := K34.chg C5 hne
                  have HQ5 := Flow.hide (HQ4.out.chg C5 (fun e => by
                    obtain ⟨u, hu, _⟩ := HQ4.out
                    subst e
                    unfold Flow.Blk at hu K94
                    rw [hu] at K94
                    simp at K94) (fun j hj e => by have := HA9.out j hj; omega))
                  have HR5 := Flow.hide (Flow.ownsRow_chg HR4.out C5 (fun j hj e => by have := HM9.out j hj; omega))
                  have HB5 := Flow.hide (HB4.out.trans (C5.below (B := w.heap.size) (fun j _ e => by have := HW9.out; omega) HB4.out.size))
                  clear hne C5 K94 K34 HQ4 HR4 HB4 c9 f9 l9
                  have r9 := K95.rg
                  obtain ⟨g1, cap1, e1, hg1, a0, a1, a2, a3, a4, a5, a6, a7⟩ := Row.rg HR5.out rfl HC.out
                  simp only [Value.slice.injEq] at e1
                  obtain ⟨rfl, _, rfl⟩ := e1
                  have hz := neq125 c
                  refine Flow.wp_region_all (by kernel_rfl) (by kernel_rfl) ?_
                  repeat (first
                    | (refine Flow.wpSeg_step (fun K' hK' => ?_)
                       go_simp
                       first
                         | (refine hK' _ ?_; clear hK' K')
                         | (apply Exists.intro
                            refine ⟨fun p => ?_, hK' _ ?_⟩
                            (first | fail)
                            clear hK' K')))
                  refine Flow.wpSeg_nil ?_
                  intro w' hb'
                  have K4 := K35.below hb'
                  have HQ6 := Flow.hide (HQ5.out.below hb')
                  have HR6 := Flow.hide (Flow.ownsRow_chg HR5.out (Flow.Chg.of_below hb') (fun _ _ e => e))
                  have HB6 := Flow.hide (HB5.out.trans (hb'.mono HB5.out.size))
                  clear hb' HQ5 HR5 HB5 K35 r9 hz K95 a0 a1 a2 a3 a4 a5 a6 a7 hg1
                  have c6 := K4.cell
                  go_upto_region 28 with fail
                  revert K4 HQ6 HR6 HB6 c6
                  generalize w' = wz
                  intro K4 HQ6 HR6 HB6 c6
                  clear w'
                  have hixL : ix < l.length := by omega
                  have hlo : (0 : Int) ≤ (ix : Int) + 1 := by omega
                  have hli : (ix : Int) + 1 ≤ (l.length : Int) := by omega
                  have htn : ((ix : Int) + 1).toNat = ix + 1 := by omega
                  have hwx : IntKind.i64.wrap ((ix : Int) + 1) = (ix : Int) + 1 := IntWalk.i64_in _ (by have := HL8.out; omega)
                  have HAZ : Hid (∀ j, a = some j → j < wz.heap.size) := fun j hj => by
                    obtain ⟨u, _, hu, _, hua⟩ := HQ6.out
                    exact own_lt hu j (hua.trans hj)
                  have HGZ : Hid (qb < wz.heap.size) := by
                    obtain ⟨u, hu, _⟩ := HQ6.out
                    exact hu.lt
                  by_cases hcpx : cp4 = ix + 1
                  · subst hcpx
                    have hixc : (ix : Int) ≤ (ix : Int) + 1 := by omega
                    have hlI : (l.length : Int) ≤ (ix : Int) + 1 := by omega
                    obtain ⟨CS, hCS⟩ : ∃ C : World → Prop, C = fun w' => Below (wz).heap.size (wz) w' := ⟨_, rfl⟩
                    obtain ⟨CW, hCW⟩ : ∃ C : World → Prop, C = fun _ => True := ⟨_, rfl⟩
                    have hS : ∀ w', Below (wz).heap.size (wz) w' → CS w' := by rw [hCS]; exact fun _ h => h
                    have uS : ∀ w', CS w' → Below (wz).heap.size (wz) w' := by rw [hCS]; exact fun _ h => h
                    have hSW : ∀ w', CS w' → CW w' := by rw [hCW]; exact fun _ _ => True.intro
                    have hW : ∀ w1 w2, CW w1 → Below w1.heap.size w1 w2 → CW w2 := by rw [hCW]; exact fun _ _ _ _ => True.intro
                    have uW : ∀ w', CW w' := by rw [hCW]; exact fun _ => True.intro
                    have ne1 : Nonempty (Flow.Wd CS) := ⟨⟨_, hS _ (Below.refl _ _)⟩⟩
                    have ne2 : Nonempty (Flow.Wd CW) := ⟨⟨wz, uW _⟩⟩
                    clear hCS hCW
                    refine Flow.wp_region_chain 1000 CW CW [1, 2, 3, 5, 6, 7, 8] [0, 4, 9, 10] (by kernel_rfl) (by kernel_rfl) (.inl rfl) (fun w' _ => uW w') (fun _ h => h) hW ?_
                    dsimp only [Flow.pickIdx, List.getElem?_cons_zero, List.getElem?_cons_succ]
                    iterate 7 (
                        (refine Flow.wpS_weak (by kernel_rfl) (fun K' hK' => ?_)
                         go_simp
                         first
                           | (refine hK' _ ?_; clear hK' K')
                           | (apply Exists.intro
                              refine ⟨fun p => ?_, hK' _ ?_⟩
                              (first | fail)
                              clear hK' K')))
                    refine Flow.wpS_nil ?_
                    dsimp only [Flow.pickOps, List.getElem?_cons_zero, List.getElem?_cons_succ]
                    intro w20 hb20
                    clear hwx
                    refine Flow.wpT_on rfl ?_
                    go_simp
                    refine ⟨uW _, fun w21 hb21 => ?_⟩
                    have B21 : Below wz.heap.size wz w21 := (hb20.trans (Flow.below_alloc w20 (.cells #[] 125) |>.mono hb20.size)).trans ((show Below (w20.alloc (.cells #[] 125)).heap.size _ _ by simpa using hb21).mono (by have := hb20.size; simp; omega))
                    have E21 := Flow.ownsRow_chg (own_empty w20 125 8) (Flow.Chg.of_below (by simpa using hb21)) (fun _ _ e => e)
                    have R21 := Flow.ownsRow_chg HR6.out (Flow.Chg.of_below B21) (fun _ _ e => e)
                    have S21 : w20.heap.size ≤ w21.heap.size := by have := hb21.size; simp at this; omega
                    obtain ⟨v22, w22, hr22, E22, C22⟩ := append_piece (c := (ix + 1)) (k := 0) (m := ix) (l1 := []) (l := l) E21 R21 rfl (by omega) (by omega) S21
                    simp only [Nat.zero_mul] at hr22
                    rw [Nat.zero_add] at E22
                    refine Flow.wpT_on rfl (Flow.nUpon_append _ _ 133 rfl rfl rfl hr22 ⟨uW _, fun w23 hb23 => ?_⟩)
                    simp only [Act.put, List.setIfInBounds_toArray, List.set_cons_succ, List.set_cons_zero]
                    have HAW : Hid (wz.heap.size ≤ w20.heap.size) := hb20.size
                    have N22 : ∀ j, some j = (Value.slice (some ⟨w20.heap.size, 0, none⟩) 0 0).ownBlock → wz.heap.size ≤ j := fun j e => by simp [Value.ownBlock] at e; have := HAW.out; omega
                    have C23 := (C22.trans (Flow.Chg.of_below hb23) (fun _ _ e => e.elim) : Flow.Chg (fun j => some j = (Value.slice (some ⟨w20.heap.size, 0, none⟩) 0 0).ownBlock) w21 w23)
                    have C23z := (((Flow.Chg.of_below B21).mono (T := fun j => wz.heap.size ≤ j) (fun _ _ e => e.elim)).trans C23 (fun j _ e => N22 j e))
                    have E23 := Flow.ownsRow_chg E22 (Flow.Chg.of_below hb23) (fun _ _ e => e)
                    have R23 := Flow.ownsRow_chg HR6.out C23z (fun j hj e => by have := own_lt HR6.out j hj; omega)
                    have S23 : w20.heap.size ≤ w23.heap.size := Nat.le_trans S21 C23.size
                    obtain ⟨A22, cp22, hv22, _⟩ := Flow.ownsRow_form E23
                    subst hv22
                    obtain ⟨v24, w24, hr24, E24, C24⟩ := append_piece (c := 0) (k := 0) (m := 0) (l := l) E23 R23 rfl (by omega) (by have := HL8.out; omega) S23
                    try simp only [Nat.zero_mul] at hr24
                    refine Flow.wpT_on rfl (Flow.nUpon_append _ _ 133 rfl rfl rfl hr24 ⟨uW _, fun w25 hb25 => ?_⟩)
                    simp only [Act.put, List.setIfInBounds_toArray, List.set_cons_succ, List.set_cons_zero]
                    refine Flow.wpT_on rfl ?_
                    go_simp
                    refine ⟨uW _, fun w26 hb26 => Flow.wpT_nil ?_⟩
                    have b26 := hb25.trans (hb26.mono hb25.size)
                    have hle : (l.eraseIdx ix).length = l.length - 1 := List.length_eraseIdx_of_lt hixL
                    have E26 := Flow.ownsRow_chg E24 (Flow.Chg.of_below b26) (fun _ _ e => e)
                    have hli' : ([] ++ (l.drop 0).take ix) ++ (l.drop 0).take 0 = l.eraseIdx ix := by
                      rw [List.nil_append, List.drop_zero, List.eraseIdx_eq_take_drop_succ]
                      congr 1
                      (rw [List.take_zero, List.drop_of_length_le (by omega)])
                    have hln : ix + 0 = (l.eraseIdx ix).length := by omega
                    rw [hli', hln] at E26
                    have O23 : ∀ j, some j = (Value.slice A22 ix cp22).ownBlock → wz.heap.size ≤ j := fun j e => by
                      have h := own_base_le E23 j e.symm
                      have := HAW.out
                      omega
                    have C26z : Flow.Chg (fun j => wz.heap.size ≤ j) wz w26 := (C23z.trans C24 (fun j _ e => O23 j e)).trans (Flow.Chg.of_below b26) (fun _ _ e => e.elim)
                    have HQ26 := Flow.hide (HQ6.out.chg C26z (by have := HGZ.out; omega) (fun j hj => by have := HAZ.out j hj; omega))
                    have HB26 := Flow.hide (HB6.out.trans (C26z.below (fun j _ e => Nat.le_trans HB6.out.size e) HB6.out.size))
                    have HD26 : Hid (∀ j, v24.ownBlock = some j → a ≠ some j) := fun j hj e => by
                      have h1 := own_base_le E26 j hj
                      have h2 := HAZ.out j e
                      have := HAW.out
                      omega
                    have HE26 := Flow.hide (own_base E26 (Nat.le_trans HB6.out.size HAW.out))
                    clear hr22 hr24 E21 E23 E24 E22 E26 O23 N22 C22 C23 C23z C24 C26z R21 R23 S21 S23 B21 hb20 hb21 hb23 hb25 hb26 b26 hli' hle hln K4 c6
                    go_wp2_with fail
                    go_meet
                    exact ⟨l.eraseIdx ix, a, HE26.out, HQ26.out, by have := List.length_eraseIdx_le l ix; omega, HD26.out, HB26.out⟩
                  · have hixc : (ix : Int) ≤ (cp4 : Int) := by omega
                    have hcpI : (ix : Int) + 1 ≤ (cp4 : Int) := by omega
                    have hlI : (l.length : Int) ≤ (cp4 : Int) := by omega
                    obtain ⟨CS, hCS⟩ : ∃ C : World → Prop, C = fun w' => Below (wz).heap.size (wz) w' := ⟨_, rfl⟩
                    obtain ⟨CW, hCW⟩ : ∃ C : World → Prop, C = fun _ => True := ⟨_, rfl⟩
                    have hS : ∀ w', Below (wz).heap.size (wz) w' → CS w' := by rw [hCS]; exact fun _ h => h
                    have uS : ∀ w', CS w' → Below (wz).heap.size (wz) w' := by rw [hCS]; exact fun _ h => h
                    have hSW : ∀ w', CS w' → CW w' := by rw [hCW]; exact fun _ _ => True.intro
                    have hW : ∀ w1 w2, CW w1 → Below w1.heap.size w1 w2 → CW w2 := by rw [hCW]; exact fun _ _ _ _ => True.intro
                    have uW : ∀ w', CW w' := by rw [hCW]; exact fun _ => True.intro
                    have ne1 : Nonempty (Flow.Wd CS) := ⟨⟨_, hS _ (Below.refl _ _)⟩⟩
                    have ne2 : Nonempty (Flow.Wd CW) := ⟨⟨wz, uW _⟩⟩
                    clear hCS hCW
                    refine Flow.wp_region_chain 1000 CW CW [1, 2, 3, 5, 6, 7, 8] [0, 4, 9, 10] (by kernel_rfl) (by kernel_rfl) (.inl rfl) (fun w' _ => uW w') (fun _ h => h) hW ?_
                    dsimp only [Flow.pickIdx, List.getElem?_cons_zero, List.getElem?_cons_succ]
                    iterate 7 (
                        (refine Flow.wpS_weak (by kernel_rfl) (fun K' hK' => ?_)
                         go_simp
                         first
                           | (refine hK' _ ?_; clear hK' K')
                           | (apply Exists.intro
                              refine ⟨fun p => ?_, hK' _ ?_⟩
                              (first | fail)
                              clear hK' K')))
                    refine Flow.wpS_nil ?_
                    dsimp only [Flow.pickOps, List.getElem?_cons_zero, List.getElem?_cons_succ]
                    intro w20 hb20
                    clear hwx
                    refine Flow.wpT_on rfl ?_
                    go_simp
                    refine ⟨uW _, fun w21 hb21 => ?_⟩
                    have B21 : Below wz.heap.size wz w21 := (hb20.trans (Flow.below_alloc w20 (.cells #[] 125) |>.mono hb20.size)).trans ((show Below (w20.alloc (.cells #[] 125)).heap.size _ _ by simpa using hb21).mono (by have := hb20.size; simp; omega))
                    have E21 := Flow.ownsRow_chg (own_empty w20 125 8) (Flow.Chg.of_below (by simpa using hb21)) (fun _ _ e => e)
                    have R21 := Flow.ownsRow_chg HR6.out (Flow.Chg.of_below B21) (fun _ _ e => e)
                    have S21 : w20.heap.size ≤ w21.heap.size := by have := hb21.size; simp at this; omega
                    obtain ⟨v22, w22, hr22, E22, C22⟩ := append_piece (c := cp4) (k := 0) (m := ix) (l1 := []) (l := l) E21 R21 rfl (by omega) (by omega) S21
                    simp only [Nat.zero_mul] at hr22
                    rw [Nat.zero_add] at E22
                    refine Flow.wpT_on rfl (Flow.nUpon_append _ _ 133 rfl rfl rfl hr22 ⟨uW _, fun w23 hb23 => ?_⟩)
                    simp only [Act.put, List.setIfInBounds_toArray, List.set_cons_succ, List.set_cons_zero]
                    have HAW : Hid (wz.heap.size ≤ w20.heap.size) := hb20.size
                    have N22 : ∀ j, some j = (Value.slice (some ⟨w20.heap.size, 0, none⟩) 0 0).ownBlock → wz.heap.size ≤ j := fun j e => by simp [Value.ownBlock] at e; have := HAW.out; omega
                    have C23 := (C22.trans (Flow.Chg.of_below hb23) (fun _ _ e => e.elim) : Flow.Chg (fun j => some j = (Value.slice (some ⟨w20.heap.size, 0, none⟩) 0 0).ownBlock) w21 w23)
                    have C23z := (((Flow.Chg.of_below B21).mono (T := fun j => wz.heap.size ≤ j) (fun _ _ e => e.elim)).trans C23 (fun j _ e => N22 j e))
                    have E23 := Flow.ownsRow_chg E22 (Flow.Chg.of_below hb23) (fun _ _ e => e)
                    have R23 := Flow.ownsRow_chg HR6.out C23z (fun j hj e => by have := own_lt HR6.out j hj; omega)
                    have S23 : w20.heap.size ≤ w23.heap.size := Nat.le_trans S21 C23.size
                    obtain ⟨A22, cp22, hv22, _⟩ := Flow.ownsRow_form E23
                    subst hv22
                    obtain ⟨v24, w24, hr24, E24, C24⟩ := append_piece (c := (cp4 - (ix + 1))) (k := (ix + 1)) (m := (l.length - (ix + 1))) (l := l) E23 R23 rfl (by omega) (by have := HL8.out; omega) S23
                    try simp only [Nat.zero_mul] at hr24
                    refine Flow.wpT_on rfl (Flow.nUpon_append _ _ 133 rfl rfl rfl hr24 ⟨uW _, fun w25 hb25 => ?_⟩)
                    simp only [Act.put, List.setIfInBounds_toArray, List.set_cons_succ, List.set_cons_zero]
                    refine Flow.wpT_on rfl ?_
                    go_simp
                    refine ⟨uW _, fun w26 hb26 => Flow.wpT_nil ?_⟩
                    have b26 := hb25.trans (hb26.mono hb25.size)
                    have hle : (l.eraseIdx ix).length = l.length - 1 := List.length_eraseIdx_of_lt hixL
                    have E26 := Flow.ownsRow_chg E24 (Flow.Chg.of_below b26) (fun _ _ e => e)
                    have hli' : ([] ++ (l.drop 0).take ix) ++ (l.drop (ix + 1)).take (l.length - (ix + 1)) = l.eraseIdx ix := by
                      rw [List.nil_append, List.drop_zero, List.eraseIdx_eq_take_drop_succ]
                      congr 1
                      (exact List.take_of_length_le (by rw [List.length_drop]; exact Nat.le_refl _))
                    have hln : ix + (l.length - (ix + 1)) = (l.eraseIdx ix).length := by omega
                    rw [hli', hln] at E26
                    have O23 : ∀ j, some j = (Value.slice A22 ix cp22).ownBlock → wz.heap.size ≤ j := fun j e => by
                      have h := own_base_le E23 j e.symm
                      have := HAW.out
                      omega
                    have C26z : Flow.Chg (fun j => wz.heap.size ≤ j) wz w26 := (C23z.trans C24 (fun j _ e => O23 j e)).trans (Flow.Chg.of_below b26) (fun _ _ e => e.elim)
                    have HQ26 := Flow.hide (HQ6.out.chg C26z (by have := HGZ.out; omega) (fun j hj => by have := HAZ.out j hj; omega))
                    have HB26 := Flow.hide (HB6.out.trans (C26z.below (fun j _ e => Nat.le_trans HB6.out.size e) HB6.out.size))
                    have HD26 : Hid (∀ j, v24.ownBlock = some j → a ≠ some j) := fun j hj e => by
                      have h1 := own_base_le E26 j hj
                      have h2 := HAZ.out j e
                      have := HAW.out
                      omega
                    have HE26 := Flow.hide (own_base E26 (Nat.le_trans HB6.out.size HAW.out))
                    clear hr22 hr24 E21 E23 E24 E22 E26 O23 N22 C22 C23 C23z C24 C26z R21 R23 S21 S23 B21 hb20 hb21 hb23 hb25 hb26 b26 hli' hle hln K4 c6
                    go_wp2_with fail
                    go_meet
                    exact ⟨l.eraseIdx ix, a, HE26.out, HQ26.out, by have := List.length_eraseIdx_le l ix; omega, HD26.out, HB26.out⟩
              · have hb3 : (kd % 6 == 3) = false := by rw [hm]; rfl
                have hb4 : (kd % 6 == 4) = true := by rw [hm]; rfl
                clear hm
                rcases srch_end hs0 with ⟨rfl, hnon⟩ | ⟨ix, c, rfl, hfst, hcx, hck⟩
                · have HNON := Flow.hide hnon
                  clear hnon hs0
                  go_upto_region 22 with fail
                  go_wp2_with fail
                  (with_reducible refine (first_no qb w.heap.size l key _ HQ.out.isQ (by omega) HNON.out).mono ?_)
                  rintro e w2 ⟨rfl, hb2⟩
                  have K2 := K.below hb2
                  have HQ2 := HQ.out.below hb2
                  have HR2 := Flow.ownsRow_chg HR.out (Flow.Chg.of_below hb2) (fun _ _ e => e)
                  have HB2 := HB.out.trans (hb2.mono HB.out.size)
                  clear hb2 HQ HR HB K c6
                  go_upto_region 23 with fail
                  obtain ⟨K9, hh, _⟩ := Flow.laid1 (w := w2) (w1 := w2.alloc (.cells #[.int .u32 0, .int .u32 0, .int .i64 0, .int .i64 0, .string ⟨#[]⟩, .bool false, .string ⟨#[]⟩, .int .i64 0] 125)) (Below.refl _ _)
                  have K3 := K2.below hh
                  have HQ3 := Flow.hide (HQ2.below hh)
                  have HR3 := Flow.hide (Flow.ownsRow_chg HR2 (Flow.Chg.of_below hh) (fun _ _ e => e))
                  have HB3 := Flow.hide (HB2.trans (hh.mono HB2.size))
                  have HA9 : Hid (∀ j, a = some j → j < w2.heap.size) := fun j hj => by
                    obtain ⟨u, _, hu, _, hua⟩ := HQ2
                    exact own_lt hu j (hua.trans hj)
                  have HM9 : Hid (∀ j, (Value.slice A4 l.length cp4).ownBlock = some j → j < w2.heap.size) := own_lt HR2
                  have HW9 : Hid (w.heap.size ≤ w2.heap.size) := HB2.size
                  revert K9 K3 HQ3 HR3 HB3 HA9 HM9 HW9
                  clear hh K2 HQ2 HR2 HB2
                  generalize w2.alloc (.cells #[.int .u32 0, .int .u32 0, .int .i64 0, .int .i64 0, .string ⟨#[]⟩, .bool false, .string ⟨#[]⟩, .int .i64 0] 125) = w3
                  generalize w2.heap.size = b9
                  intro K9 K3 HQ3 HR3 HB3 HA9 HM9 HW9
                  have c6 := K3.cell
                  go_upto_region 25 with fail
                  have r9 := K9.rg
                  have hz := neq125 ⟨0, 0, 0, 0, ⟨#[]⟩, false, ⟨#[]⟩, 0⟩
                  refine Flow.wp_region_all (by kernel_rfl) (by kernel_rfl) ?_
                  repeat (first
                    | (refine Flow.wpSeg_step (fun K' hK' => ?_)
                       go_simp
                       first
                         | (refine hK' _ ?_; clear hK' K')
                         | (apply Exists.intro
                            refine ⟨fun p => ?_, hK' _ ?_⟩
                            (first | fail)
                            clear hK' K')))
                  refine Flow.wpSeg_nil ?_
                  intro w' hb'
                  have K4 := K3.below hb'
                  have HQ4 := Flow.hide (HQ3.out.below hb')
                  have HR4 := Flow.hide (Flow.ownsRow_chg HR3.out (Flow.Chg.of_below hb') (fun _ _ e => e))
                  have HB4 := Flow.hide (HB3.out.trans (hb'.mono HB3.out.size))
                  clear hb' HQ3 HR3 HB3 K3 c6 r9 hz K9
                  have c6 := K4.cell
                  go_wp2_with fail
                  go_meet
                  exact ⟨l, a, HR4.out, HQ4.out, HL8.out, HD.out, HB4.out⟩
                · have HF := Flow.hide hfst
                  have HC := Flow.hide hcx
                  have hixI : (0 : Int) ≤ (ix : Int) := by omega
                  have hixl : (ix : Int) < (l.length : Int) := by have := (List.getElem?_eq_some_iff.1 hcx).1; omega
                  clear hfst hcx hck hs0
                  go_upto_region 22 with fail
                  go_wp2_with fail
                  (with_reducible refine (first_yes qb w.heap.size l key ix c _ HQ.out.isQ (by omega) HF.out HC.out).mono ?_)
                  rintro e w2 ⟨rfl, hb2⟩
                  have K2 := K.below hb2
                  have HQ2 := HQ.out.below hb2
                  have HR2 := Flow.ownsRow_chg HR.out (Flow.Chg.of_below hb2) (fun _ _ e => e)
                  have HB2 := HB.out.trans (hb2.mono HB.out.size)
                  clear hb2 HQ HR HB K c6
                  go_upto_region 23 with fail
                  obtain ⟨K9, hh, _⟩ := Flow.laid1 (w := w2) (w1 := w2.alloc (.cells #[.int .u32 c.n, .int .u32 c.m, .int .i64 c.kind, .int .i64 c.key, .string c.text, .bool c.has, .string c.old, .int .i64 c.num] 125)) (Below.refl _ _)
                  have K3 := K2.below hh
                  have HQ3 := Flow.hide (HQ2.below hh)
                  have HR3 := Flow.hide (Flow.ownsRow_chg HR2 (Flow.Chg.of_below hh) (fun _ _ e => e))
                  have HB3 := Flow.hide (HB2.trans (hh.mono HB2.size))
                  have HA9 : Hid (∀ j, a = some j → j < w2.heap.size) := fun j hj => by
                    obtain ⟨u, _, hu, _, hua⟩ := HQ2
                    exact own_lt hu j (hua.trans hj)
                  have HM9 : Hid (∀ j, (Value.slice A4 l.length cp4).ownBlock = some j → j < w2.heap.size) := own_lt HR2
                  have HW9 : Hid (w.heap.size ≤ w2.heap.size) := HB2.size
                  revert K9 K3 HQ3 HR3 HB3 HA9 HM9 HW9
                  clear hh K2 HQ2 HR2 HB2
                  generalize w2.alloc (.cells #[.int .u32 c.n, .int .u32 c.m, .int .i64 c.kind, .int .i64 c.key, .string c.text, .bool c.has, .string c.old, .int .i64 c.num] 125) = w3
                  generalize w2.heap.size = b9
                  intro K9 K3 HQ3 HR3 HB3 HA9 HM9 HW9
                  have c6 := K3.cell
                  go_upto_region 25 with fail
                  have r9 := K9.rg
                  obtain ⟨g1, cap1, e1, hg1, a0, a1, a2, a3, a4, a5, a6, a7⟩ := Row.rg HR3.out rfl HC.out
                  simp only [Value.slice.injEq] at e1
                  obtain ⟨rfl, _, rfl⟩ := e1
                  have hz := neq125 c
                  refine Flow.wp_region_all (by kernel_rfl) (by kernel_rfl) ?_
                  repeat (first
                    | (refine Flow.wpSeg_step (fun K' hK' => ?_)
                       go_simp
                       first
                         | (refine hK' _ ?_; clear hK' K')
                         | (apply Exists.intro
                            refine ⟨fun p => ?_, hK' _ ?_⟩
                            (first | fail)
                            clear hK' K')))
                  refine Flow.wpSeg_nil ?_
                  intro w' hb'
                  have K4 := K3.below hb'
                  have HQ4 := Flow.hide (HQ3.out.below hb')
                  have HR4 := Flow.hide (Flow.ownsRow_chg HR3.out (Flow.Chg.of_below hb') (fun _ _ e => e))
                  have HB4 := Flow.hide (HB3.out.trans (hb'.mono HB3.out.size))
                  clear hb' HQ3 HR3 HB3 K3 c6 r9 hz K9 a0 a1 a2 a3 a4 a5 a6 a7 hg1
                  have c6 := K4.cell
                  go_wp2_with fail
                  go_meet
                  exact ⟨l, a, HR4.out, HQ4.out, HL8.out, HD.out, HB4.out⟩
              · rw [hm] at htm
                by_cases h4 : nm % 4 = 0
                · have htn : nm.tmod 4 = 0 := by rw [Int.tmod_eq_emod_of_nonneg hn.1]; exact h4
                  go_upto_region 31 with fail
                  go_wp2_with fail
                  (with_reducible refine (drain_a qb w.heap.size a l _ HQ.out).mono ?_)
                  rintro e w3 ⟨⟨vd, rfl, hrd, hda⟩, hq3, hb3, hc3⟩
                  have HQ3 := Flow.hide hq3
                  have HB3 := Flow.hide (HB.out.trans hb3)
                  have HR3 := Flow.hide (Flow.ownsRow_chg HR.out hc3 (fun j hj e => not_g HQ.out HR.out j hj e))
                  obtain ⟨Ad, cpd, hvd, _⟩ := Flow.ownsRow_form hrd
                  subst hvd
                  have HRD := Flow.hide hrd
                  clear hrd hda hq3 hb3 hc3 HQ HB HR K c6 h4 htn htm hm hs0
                  go_wp2_with fail
                  go_loopw [12] (fun t12 wr => ∃ k : Nat, k ≤ l.length ∧ t12 = .int .i64 k ∧ Below w3.heap.size w3 wr) (fun t12 _ => l.length - (intOf t12).toNat)
                  case atStart => exact ⟨0, by omega, rfl, Below.refl _ _⟩
                  case round =>
                    obtain ⟨k, hk', rfl, hb⟩ := hrel
                    have HBW := Flow.hide hb
                    by_cases hkl : k < l.length
                    · have hklI : (k : Int) < (l.length : Int) := by omega
                      obtain ⟨c, hc⟩ : ∃ c, l[k]? = some c := ⟨_, List.getElem?_eq_getElem hkl⟩
                      obtain ⟨g1, cap1, e1, hg1, a0, a1, a2, a3, a4, a5, a6, a7⟩ := Row.rg (Flow.ownsRow_chg HR3.out (Flow.Chg.of_below hb) (fun _ _ e => e)) rfl hc
                      obtain ⟨g2, cap2, e2, hg2, d0, d1, d2, d3, d4, d5, d6, d7⟩ := Row.rg (Flow.ownsRow_chg HRD.out (Flow.Chg.of_below hb) (fun _ _ e => e)) rfl hc
                      simp only [Value.slice.injEq] at e1 e2
                      obtain ⟨rfl, _, rfl⟩ := e1
                      obtain ⟨rfl, _, rfl⟩ := e2
                      have hneq := neq125 c
                      clear hc hb
                      go_upto_region 37 with fail
                      refine Flow.wp_region_all (by kernel_rfl) (by kernel_rfl) ?_
                      repeat (first
                        | (refine Flow.wpSeg_step (fun K' hK' => ?_)
                           go_simp
                           first
                             | (refine hK' _ ?_; clear hK' K')
                             | (apply Exists.intro
                                refine ⟨fun p => ?_, hK' _ ?_⟩
                                (first | fail)
                                clear hK' K')))
                      refine Flow.wpSeg_nil ?_
                      intro w' hb'
                      have HBW' := Flow.hide (HBW.out.trans (hb'.mono HBW.out.size))
                      clear a0 a1 a2 a3 a4 a5 a6 a7 d0 d1 d2 d3 d4 d5 d6 d7 HBW hneq hb'
                      go_wp2_with fail
                      go_roundw
                      case rel => exact ⟨k + 1, by omega, by go_num, HBW'.out⟩
                      case measure => simp [intOf]; omega
                    · have HQ4 := Flow.hide (HQ3.out.below hb)
                      have HB4 := Flow.hide (HB3.out.trans (hb.mono HB3.out.size))
                      obtain rfl : k = l.length := by omega
                      clear hb HBW HRD HR3 HQ3 HB3
                      go_wp2_with fail
                      go_meet
                      exact ⟨[], none, World.ownsRow_nil _ _ _ _, HQ4.out, by simp, fun j h => (by cases h), HB4.out⟩
                · have htn : nm.tmod 4 = nm % 4 := Int.tmod_eq_emod_of_nonneg hn.1
                  have h4b : (nm % 4 == 0) = false := by simpa using h4
                  clear h4
                  go_wp2_with fail
                  go_meet
                  exact ⟨l, a, HR.out, HQ.out, HL8.out, HD.out, HB.out⟩
              · have hb3 : (kd % 6 == 3) = false := by simpa using hm3
                have hb4 : (kd % 6 == 4) = false := by simpa using hm4
                have hb5 : (kd % 6 == 5) = false := by simpa using hm5
                clear hm3 hm4 hm5
                obtain ⟨mm, hmm⟩ : ∃ m : Int, (if nm = 4294967295 then 0 else nm + 1) = m := ⟨_, rfl⟩
                have HMM := Flow.hide hmm
                clear hmm
                go_upto_region 16 with fail
                go_wp2_with fail
                (with_reducible refine (call_is nm key mm _ hn HMM.out).mono ?_)
                rintro e w2 ⟨rfl, hb2⟩
                have HQ2 := Flow.hide (HQ.out.below hb2)
                have HR2 := Flow.hide (Flow.ownsRow_chg HR.out (Flow.Chg.of_below hb2) (fun _ _ e => e))
                have HB2 := Flow.hide (HB.out.trans (hb2.mono HB.out.size))
                have K2 := K.below hb2
                clear hb2 HQ HR HB K c6
                by_cases h8 : l.length < 8
                · have h8I : (l.length : Int) < 8 := by omega
                  go_wp2_with fail
                  (with_reducible refine (push_mka qb w.heap.size a l nm key mm _ HMM.out HQ2.out h8 HB2.out.size).mono ?_)
                  rintro e w3 ⟨rfl, ⟨a3, hq3, ha3⟩, hb3, hc3⟩
                  have HQ3 := Flow.hide hq3
                  have K3 := K2.chg hc3 (not_on HQ2.out K2 (by decide) (by decide))
                  have HR3 := Flow.hide (Flow.ownsRow_chg HR2.out hc3 (fun j hj e => by
                    rcases e with e | e
                    · exact not_g HQ2.out HR2.out j hj e
                    · exact HD.out j hj e.symm))
                  have HD3 : Hid (∀ j, (Value.slice A4 l.length cp4).ownBlock = some j → a3 ≠ some j) := fun j hj e => by
                    rcases ha3 with h | ⟨k, h, hk⟩
                    · exact HD.out j hj (h ▸ e)
                    · rw [h] at e; cases e; exact absurd (own_lt HR2.out _ hj) (by omega)
                  have HB3 := Flow.hide (HB2.out.trans hb3)
                  have c3 := K3.cell
                  clear hq3 ha3 hb3 hc3 K2 HQ2 HR2 HB2 HD w2
                  go_upto_region 19 with fail
                  go_wp2_with fail
                  (with_reducible refine (call_is nm key mm _ hn HMM.out).mono ?_)
                  rintro e w4 ⟨rfl, hb4⟩
                  obtain ⟨K5, hh5, z5⟩ := Flow.laid1 (w := w4) (w1 := w4.alloc (.cells #[.int .u32 nm, .int .u32 mm, .int .i64 5, .int .i64 key, .string ⟨#[]⟩, .bool false, .string ⟨#[]⟩, .int .i64 nm] 125)) (Below.refl _ _)
                  have b35 := hb4.trans (hh5.mono hb4.size)
                  have hq5 := HQ3.out.below b35
                  have hr5 := Flow.ownsRow_chg HR3.out (Flow.Chg.of_below b35) (fun _ _ e => e)
                  have hb5' := HB3.out.trans (b35.mono HB3.out.size)
                  have hce : (mkC nm key).cells = [.int .u32 nm, .int .u32 mm, .int .i64 5, .int .i64 key, .string ⟨#[]⟩, .bool false, .string ⟨#[]⟩, .int .i64 nm] := by unfold Cl.cells mkC; simp only []; rw [HMM.out]
                  obtain ⟨v7, w7, hr7, ho7, hb7, hc7, hw7⟩ := Flow.append_row hr5 133 Try.underlying133 info125 rfl (by decide) [.int .u32 nm, .int .u32 mm, .int .i64 5, .int .i64 key, .string ⟨#[]⟩, .bool false, .string ⟨#[]⟩, .int .i64 nm] rfl ⟨w4.heap.size, 0, none⟩ 1 K5.news (fun u hu => xsC_one [mkC nm key] u (by rw [← hce] at hu; simpa [xsC] using hu)) (by omega) (by omega) hb5'.size
                  rw [← hce, ← xsC_snoc] at ho7
                  have hle : (l ++ [mkC nm key]).length = l.length + 1 := by simp
                  obtain ⟨A7, cp7, hv7, _⟩ := Flow.ownsRow_form ho7
                  subst hv7
                  have HQ7 := Flow.hide (hq5.chg hc7 (fun e => not_g hq5 hr5 _ e.symm rfl) (fun j hj e => HD3.out j e.symm hj))
                  have HO7 := Flow.hide ho7
                  have HB7 := Flow.hide (hb5'.trans hb7)
                  have HD7 : Hid (∀ j, (Value.slice A7 (l.length + 1) cp7).ownBlock = some j → a3 ≠ some j) := fun j hj e => by
                    rcases hw7 with h | ⟨k, h, hk⟩
                    · exact HD3.out j (h ▸ hj) e
                    · rw [h] at hj; cases hj
                      obtain ⟨u, _, hu, _, hua⟩ := hq5
                      exact absurd (own_lt hu _ (hua.trans e)) (by omega)
                  have HR7 := Flow.hide hr7
                  have HLE := Flow.hide hle
                  clear K5 hh5 z5 b35 hq5 hr5 hb5' hce hr7 ho7 hb7 hc7 hw7 hle hb4 HQ3 HR3 HD3 HB3
                  go_wp2_with (at_builtin; refine Flow.wpList_append_run _ _ 133 rfl rfl rfl rfl HR7.out ?_)
                  go_meet
                  exact ⟨l ++ [mkC nm key], a3, by rw [HLE.out]; exact HO7.out, HQ7.out, by rw [HLE.out]; exact h8, HD7.out, HB7.out⟩
                · have h8e : l.length = 8 := by omega
                  have h8I : ¬ (l.length : Int) < 8 := by omega
                  have H8E := Flow.hide h8e
                  clear h8e
                  go_wp2_with fail
                  (with_reducible refine (push_no qb w.heap.size l ⟨nm, mm, 5, key, ⟨#[]⟩, false, ⟨#[]⟩, nm⟩ _ HQ2.out.isQ H8E.out).mono ?_)
                  rintro e w3 ⟨rfl, hb3⟩
                  have HQ3 := Flow.hide (HQ2.out.below hb3)
                  have HR3 := Flow.hide (Flow.ownsRow_chg HR2.out (Flow.Chg.of_below hb3) (fun _ _ e => e))
                  have HB3 := Flow.hide (HB2.out.trans (hb3.mono HB2.out.size))
                  clear hb3 HQ2 HR2 HB2
                  go_wp2_with fail
                  go_meet
                  exact ⟨l, a, HR3.out, HQ3.out, HL8.out, HD.out, HB3.out⟩
            case rest =>
              obtain ⟨l', a', hr', hq', hl', hd', hb'⟩ := hcut
              obtain ⟨A5, cp5, hv5, _⟩ := Flow.ownsRow_form hr'
              subst hv5
              have HR' := Flow.hide hr'
              have HQ' := Flow.hide hq'
              have HL' := Flow.hide hl'
              have HD' := Flow.hide hd'
              have HB' := Flow.hide hb'
              clear hr' hq' hl' hd' hb' c6 K HQ HR HB hcase htm hs0
              go_wp2_with fail
              (with_reducible refine (room_any qb w.heap.size l' _ HQ'.out.isQ HL'.out).mono ?_)
              rintro e w4 ⟨rfl, rfl⟩
              have hl'' := HL'.out
              go_wp2_with fail
              go_roundw
              case rel => exact ⟨i + 1, l', a', by omega, by omega, by go_num, HR'.out, HQ'.out, HL'.out, HD'.out, HB'.out⟩
              case measure => simp [intOf]; omega
      · obtain rfl : i = 60 := by omega
        clear HR HQ HD HL8 HX
        go_upto_region 43 with fail
        go_wp2_with fail
        (with_reducible refine (first_nil 1 _).mono ?_)
        rintro e w3 ⟨rfl, hb3⟩
        have HB3 := Flow.hide (HB.out.trans (hb3.mono HB.out.size))
        clear hb3 HB
        go_upto_region 44 with fail
        have HB4 := Flow.hide (HB3.out.alloc HB3.out.size (.cells #[.int .u32 0, .int .u32 0, .int .i64 0, .int .i64 0, .string ⟨#[]⟩, .bool false, .string ⟨#[]⟩, .int .i64 0] 125))
        revert HB4
        clear HB3
        generalize w3.alloc (.cells #[.int .u32 0, .int .u32 0, .int .i64 0, .int .i64 0, .string ⟨#[]⟩, .bool false, .string ⟨#[]⟩, .int .i64 0] 125) = w4
        intro HB4
        go_wp2_with fail
        (with_reducible refine (take_nil 1 _).mono ?_)
        rintro e w5 ⟨rfl, hb5⟩
        have HB5 := Flow.hide (HB4.out.trans (hb5.mono HB4.out.size))
        clear hb5 HB4
        go_upto_region 45 with fail
        have HB6 := Flow.hide (HB5.out.alloc HB5.out.size (.cells #[.int .u32 0, .int .u32 0, .int .i64 0, .int .i64 0, .string ⟨#[]⟩, .bool false, .string ⟨#[]⟩, .int .i64 0] 125))
        revert HB6
        clear HB5
        generalize w5.alloc (.cells #[.int .u32 0, .int .u32 0, .int .i64 0, .int .i64 0, .string ⟨#[]⟩, .bool false, .string ⟨#[]⟩, .int .i64 0] 125) = w6
        intro HB6
        go_wp2_with fail
        (with_reducible refine (room_nil _).mono ?_)
        rintro e w7 ⟨rfl, rfl⟩
        go_wp2_with fail
        (with_reducible refine (call_is 1 1 2 _ (by decide) (by decide)).mono ?_)
        rintro e w8 ⟨rfl, hb8⟩
        have HB8 := Flow.hide (HB6.out.trans (hb8.mono HB6.out.size))
        clear hb8 HB6
        go_wp2_with fail
        (with_reducible refine (push_nil ⟨1, 2, 5, 1, ⟨#[]⟩, false, ⟨#[]⟩, 1⟩ _).mono ?_)
        rintro e w9 ⟨rfl, hb9⟩
        have HB9 := Flow.hide (HB8.out.trans (hb9.mono HB8.out.size))
        clear hb9 HB8
        go_wp2_with fail
        (with_reducible refine (drain_nil _).mono ?_)
        rintro e w10 ⟨rfl, rfl⟩
        go_wp2_with fail
        go_ret
        exact ⟨rfl, HB9.out⟩
    · obtain rfl : i = len := by omega
      clear HR HQ HD HL8 HX
      go_upto_region 43 with fail
      go_wp2_with fail
      (with_reducible refine (first_nil 1 _).mono ?_)
      rintro e w3 ⟨rfl, hb3⟩
      have HB3 := Flow.hide (HB.out.trans (hb3.mono HB.out.size))
      clear hb3 HB
      go_upto_region 44 with fail
      have HB4 := Flow.hide (HB3.out.alloc HB3.out.size (.cells #[.int .u32 0, .int .u32 0, .int .i64 0, .int .i64 0, .string ⟨#[]⟩, .bool false, .string ⟨#[]⟩, .int .i64 0] 125))
      revert HB4
      clear HB3
      generalize w3.alloc (.cells #[.int .u32 0, .int .u32 0, .int .i64 0, .int .i64 0, .string ⟨#[]⟩, .bool false, .string ⟨#[]⟩, .int .i64 0] 125) = w4
      intro HB4
      go_wp2_with fail
      (with_reducible refine (take_nil 1 _).mono ?_)
      rintro e w5 ⟨rfl, hb5⟩
      have HB5 := Flow.hide (HB4.out.trans (hb5.mono HB4.out.size))
      clear hb5 HB4
      go_upto_region 45 with fail
      have HB6 := Flow.hide (HB5.out.alloc HB5.out.size (.cells #[.int .u32 0, .int .u32 0, .int .i64 0, .int .i64 0, .string ⟨#[]⟩, .bool false, .string ⟨#[]⟩, .int .i64 0] 125))
      revert HB6
      clear HB5
      generalize w5.alloc (.cells #[.int .u32 0, .int .u32 0, .int .i64 0, .int .i64 0, .string ⟨#[]⟩, .bool false, .string ⟨#[]⟩, .int .i64 0] 125) = w6
      intro HB6
      go_wp2_with fail
      (with_reducible refine (room_nil _).mono ?_)
      rintro e w7 ⟨rfl, rfl⟩
      go_wp2_with fail
      (with_reducible refine (call_is 1 1 2 _ (by decide) (by decide)).mono ?_)
      rintro e w8 ⟨rfl, hb8⟩
      have HB8 := Flow.hide (HB6.out.trans (hb8.mono HB6.out.size))
      clear hb8 HB6
      go_wp2_with fail
      (with_reducible refine (push_nil ⟨1, 2, 5, 1, ⟨#[]⟩, false, ⟨#[]⟩, 1⟩ _).mono ?_)
      rintro e w9 ⟨rfl, hb9⟩
      have HB9 := Flow.hide (HB8.out.trans (hb9.mono HB8.out.size))
      clear hb9 HB8
      go_wp2_with fail
      (with_reducible refine (drain_nil _).mono ?_)
      rintro e w10 ⟨rfl, rfl⟩
      go_wp2_with fail
      go_ret
      exact ⟨rfl, HB9.out⟩
theorem own : ownKnob Try.prog.godebug = none := by kernel_rfl
theorem laidOut : laidOutB Try.prog = true := by kernel_rfl

set_option maxRecDepth 100000 in
theorem lifted (os : Os) (started : os.Started) (H : Type) (enc : TypeId × Value → H) :
    ReturnsInHanded {} Try.checked os 13 .any (Rows.queuePlaysSpec.pre6 enc Try.prog Try.f13 Rows.queuePlaysRow.domain false) (Rows.queuePlaysSpec.post enc Try.prog Try.f13 false true false false) := by
  refine returnsInHanded_of_change (C := Try.checked) own started (by kernel_rfl) Try.func13
    (ChangeSpec.witness6 (enc := enc) (C := Try.checked) false ⟨#[], #[.slice none 0 0], []⟩ 8 (by kernel_rfl) (by kernel_rfl) (by kernel_rfl) (by kernel_rfl)) ?_
  intro W base args ds gs before hval0 hW hcnd _
  have hval : ∀ (j : Nat) t v, Try.f13.params[j]? = some t → args[j]? = some v → Value.okWide Try.prog W .any base t v := hval0
  have hW' := hW
  obtain ⟨p, q, hA0, hV, rfl, hfz, hnd⟩ := hW
  have hA : DataW.TrodAll enc Try.prog W 0 (fun _ => true) true Try.f13.params.toList args.toList ds p := hA0
  rw [Try.params13] at hA hval
  obtain ⟨v0, d0, hargs, rfl, h0⟩ := trodAll_one hA
  obtain ⟨rfl, rfl⟩ := trodVars_none hV
  subst hargs
  obtain ⟨A0, n0, cp0, rfl, hl0, _, hr0⟩ := Open.open_rows_arg 30 (ss := [.int .u8, .int .u32, .int .i64]) Try.underlying132 (by kernel_rfl) (by decide) (by kernel_rfl) (hval 0 132 v0 rfl rfl) h0
  obtain ⟨x0, hx0⟩ := acts_of hr0
  clear hA0 hval0
  refine (walk A0 n0 cp0 x0 W hl0 hx0).mono fun e W' ⟨he, hb⟩ => ?_
  subst he
  exact ⟨_, rfl, Open.law_post laidOut (by kernel_rfl) (by kernel_rfl) Try.underlying4 rfl rfl hW' hb⟩

theorem over : Rows.queuePlaysRow.holds Try.pinned (OpenSpec.ofChange Rows.queuePlaysSpec) :=
  OpenClaim.holds_of_wide 13 Try.f13 rfl rfl rfl rfl rfl rfl rfl ⟨rfl, rfl, rfl, rfl, rfl⟩ rfl rfl rfl rfl rfl (by kernel_rfl) Try.func13 (by kernel_rfl)
    (of_decide_eq_true (by kernel_rfl)) (by unfold Func.isWrapper; first | (rw [if_pos (by decide +kernel)]; kernel_rfl) | (rw [if_neg (by decide +kernel)]; exact ⟨rfl, rfl⟩))
    (fun os started H enc _ => lifted os started H enc)

theorem proved : Rows.QueuePlaysSaid := over
#print axioms proved
end Go.Proofs.Ythkphapmnlndbab.QPlays
