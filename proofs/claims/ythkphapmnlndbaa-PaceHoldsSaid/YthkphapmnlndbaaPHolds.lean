/- PaceHolds: for every hold, wait and row of acts the law returns true. -/
import Derived.Test.YthkphapmnlndbaaRows
import Derived.Test.YthkphapmnlndbaaPSpeaks
import Derived.Test.YthkphapmnlndbaaOpen2
import Derived.Deep.DeepCutAuto
import Derived.Deep.CutBlock
namespace Go.Proofs.Ythkphapmnlndbaa.PHolds
open Go.ChangeShapes Go.WideShapes Go.ChangeAt Go.RowKit
set_option linter.unusedSimpArgs false
set_option maxHeartbeats 4000000
attribute [local irreducible] Flow.wpSeg Flow.wpF Flow.wpG Flow.wpS Flow.wpT Flow.wpK
/-- The acts that came in. -/
def Acts (w : World) (A : Option Addr) (n : Nat) (x : Nat → Int × Int) : Prop :=
  0 < n → ∃ g off, A = some ⟨g, off, none⟩ ∧ g < w.heap.size ∧ ∀ i, i < n → w.cell? ⟨g, off + i * 2, none⟩ = some (.int .i64 (x i).1) ∧ w.cell? ⟨g, off + i * 2 + 1, none⟩ = some (.int .i64 (x i).2) ∧
    (-9223372036854775808 ≤ (x i).2 ∧ (x i).2 ≤ 9223372036854775807)
theorem acts_of {H : Type} {enc : TypeId × Value → H} {base : Nat} {spare : Nat → Bool} {held : Bool} {w : World} {A : Option Addr} {n : Nat} (h : 0 < n → ∃ g off, A = some ⟨g, off, none⟩ ∧ g < w.heap.size ∧
    ∀ i, i < n → ∀ (j : Nat) (s : Open.Shp), ([.int .i64, .int .i64] : List Open.Shp)[j]? = some s → ∃ u, w.cell? ⟨g, off + (i * ([.int .i64, .int .i64] : List Open.Shp).length + j), none⟩ = some u ∧ Open.CellOk enc Try.prog w base spare held s u) :
    ∃ x, Acts w A n x := by
  rcases Nat.eq_zero_or_pos n with h0 | h0
  · exact ⟨fun _ => (0, 0), fun hn => by omega⟩
  · obtain ⟨g, off, rfl, hg, hc⟩ := h h0
    have hx : ∀ i, i < n → ∃ y : Int × Int, w.cell? ⟨g, off + i * 2, none⟩ = some (.int .i64 y.1) ∧ w.cell? ⟨g, off + i * 2 + 1, none⟩ = some (.int .i64 y.2) ∧ (-9223372036854775808 ≤ y.2 ∧ y.2 ≤ 9223372036854775807) := by
      intro i hi
      obtain ⟨u0, e0, a0, rfl, w0⟩ := hc i hi 0 _ rfl
      obtain ⟨u1, e1, a1, rfl, w1⟩ := hc i hi 1 _ rfl
      have e : ∀ j, off + (i * ([.int .i64, .int .i64] : List Open.Shp).length + j) = off + i * 2 + j := fun j => by simp; omega
      rw [e] at e0 e1
      exact ⟨(a0, a1), e0, e1, bounds_i64 w1⟩
    obtain ⟨f, hf⟩ := Deep.choose_lt hx
    exact ⟨f, fun _ => ⟨g, off, rfl, hg, hf⟩⟩
set_option maxRecDepth 100000 in
theorem walk (x0 x1 : Int) (A : Option Addr) (len cap : Nat) (x : Nat → Int × Int) (w : World) (h0 : 0 ≤ x0 ∧ x0 ≤ 255) (h1 : 0 ≤ x1 ∧ x1 ≤ 255) (hlen : len ≤ maxLen) (hx : Acts w A len x) :
    Calls Try.prog 13 #[.int .u8 x0, .int .u8 x1, .slice A len cap] w fun e w' => e = .returned (.bool true) ∧ Below w.heap.size w w' := by
  unfold maxLen at hlen
  have HX := Flow.hide hx
  clear hx
  have hh := Flow.hide (show 1 ≤ 1 + x0 % 20 ∧ 1 + x0 % 20 ≤ 20 by omega)
  have hw := Flow.hide (show 1 ≤ 1 + x1 % 20 ∧ 1 + x1 % 20 ≤ 20 by omega)
  obtain ⟨h01, h02⟩ := h0
  obtain ⟨h11, h12⟩ := h1
  go_enter Try.func13, Try.ntmps13
  go_wp2_with fail
  (with_reducible refine (speaks08 _).mono ?_)
  rintro e w1 ⟨rfl, hb1⟩
  have B1 := Flow.hide hb1
  clear hb1
  go_upto_region 4 with fail
  revert hh hw
  generalize 1 + x0 % 20 = hd
  generalize 1 + x1 % 20 = wt
  intro hh hw
  go_wp2_with fail
  (with_reducible refine (pnew_is 2 2 2 hd wt _ rfl (by decide) (by decide) (by have := hh.out; omega) (by have := hw.out; omega)).mono ?_)
  rintro e w2 ⟨rfl, hp2, hb2⟩
  have P2 := Flow.hide hp2
  have B2 := Flow.hide (B1.out.trans (hb2.mono B1.out.size))
  have BB : Hid (w.heap.size ≤ w1.heap.size) := B1.out.size
  have BS : Hid (w1.heap.size ≤ w2.heap.size) := hb2.size
  clear hp2 hb2 B1
  revert P2 BB BS
  generalize w1.heap.size = bs
  intro P2 BB BS
  go_wp2_with fail
  go_loopw [11, 12, 13, 14] (fun t11 t12 t13 t14 wr => ∃ (i N : Nat) (st : PSt) (asked : Bool) (node mst : Int), i ≤ len ∧ i ≤ 80 ∧ N = i ∧ t14 = .int .i64 i ∧ t11 = .bool asked ∧ t12 = .int .i64 node ∧ t13 = .int .i64 mst ∧ (0 ≤ node ∧ node ≤ i) ∧ (0 ≤ mst ∧ mst ≤ i) ∧ HInv hd wt st asked node mst ∧ IsPace wr bs bs N st ∧ Below w.heap.size w wr ∧ bs ≤ wr.heap.size) (fun _ _ _ t14 _ => 80 - (intOf t14).toNat)
  case atStart => exact ⟨0, 0, _, false, 0, 0, by omega, by omega, rfl, rfl, rfl, rfl, rfl, by omega, by omega, HInv.start hd wt, P2.out, B2.out, BS.out⟩
  case round =>
    obtain ⟨i, N, st, asked, node, mst, hil, hi80, hN, rfl, rfl, rfl, rfl, hnd, hms, hinv, hp, hb, hbs⟩ := hrel
    have HN := Flow.hide hN
    have HI := Flow.hide hinv
    have HP := Flow.hide hp
    have HB := Flow.hide hb
    have HBS := Flow.hide hbs
    clear hN hinv hp hb hbs P2 B2
    obtain ⟨hn1, hn2⟩ := hnd
    obtain ⟨hm1, hm2⟩ := hms
    by_cases hlt : i < len
    · have hltI : (i : Int) < (len : Int) := by omega
      by_cases hlt80 : i < 80
      · have hlt80I : (i : Int) < 80 := by omega
        obtain ⟨g, off, rfl, hg, hc⟩ := HX.out (by omega)
        obtain ⟨x1', x2', hk⟩ := hc i hlt
        have y1 : wr.cell? ⟨g, off + i * 2, none⟩ = some (.int .i64 (x i).1) := (HB.out.cell (p := ⟨g, off + i * 2, none⟩) hg).trans x1'
        have y2 : wr.cell? ⟨g, off + i * 2 + 1, none⟩ = some (.int .i64 (x i).2) := (HB.out.cell (p := ⟨g, off + i * 2 + 1, none⟩) hg).trans x2'
        revert hk y1 y2
        clear hc x1' x2'
        generalize (x i).1 = wh
        generalize (x i).2 = ix
        intro hk y1 y2
        have htm : -3 ≤ wh.tmod 4 ∧ wh.tmod 4 ≤ 3 := by
          have := Int.tmod_lt_of_pos wh (show (0:Int) < 4 by decide)
          have := Int.lt_tmod_of_pos wh (show (0:Int) < 4 by decide)
          omega
        obtain ⟨r, hr⟩ : ∃ r, wh.tmod 4 = r := ⟨_, rfl⟩
        rw [hr] at htm
        obtain ⟨hr1, hr2⟩ := htm
        go_upto_block 2 with fail
        obtain ⟨m, hm⟩ : ∃ m, (r + 4) % 4 = m := ⟨_, rfl⟩
        have hmb : m = 0 ∨ m = 1 ∨ m = 2 ∨ m = 3 := by omega
        rw [hm]
        clear hm hr
        go_cut [11, 12, 13] (fun t11 t12 t13 wx => ∃ (st' : PSt) (asked' : Bool) (node' mst' : Int), t11 = .bool asked' ∧ t12 = .int .i64 node' ∧ t13 = .int .i64 mst' ∧ (0 ≤ node' ∧ node' ≤ i + 1) ∧ (0 ≤ mst' ∧ mst' ≤ i + 1) ∧ HMid hd wt st' asked' node' mst' ∧ IsPace wx bs bs (i + 1) st' ∧ Below w.heap.size w wx ∧ bs ≤ wx.heap.size)
        case first =>
          have hP1 := Flow.hide (show IsPace wr bs bs (i + 1) st from HP.out.mono (by have := HN.out; omega))
          rcases hmb with hm | hm | hm | hm
          · have hb0 : (m == 0) = true := by rw [hm]; rfl
            clear hm
            go_wp2_with fail
            (with_reducible refine (pmaster_yes bs bs N st 1 0 _ rfl HP.out (by have := HN.out; omega) HBS.out (by have := HI.out.m; omega)).mono ?_)
            rintro e w3 ⟨rfl, hp3, hb3, hc3⟩
            have HP3 := Flow.hide hp3
            have HB3 := Flow.hide (HB.out.trans (hb3.mono BB.out))
            have HS3 : Hid (bs ≤ w3.heap.size) := Nat.le_trans HBS.out hb3.size
            clear hp3 hb3 hc3
            go_wp2_with fail
            go_meet
            exact ⟨_, asked, node, mst + 1, rfl, rfl, rfl, by omega, by omega, HI.out.master, HN.out ▸ HP3.out, HB3.out, HS3.out⟩
          · have hb0 : (m == 0) = false := by rw [hm]; rfl
            have hb1 : (m == 1) = true := by rw [hm]; rfl
            clear hm
            go_wp2_with fail
            (with_reducible refine (pnode_any bs bs N st 2 _ HP.out (by have := HN.out; omega) HBS.out).mono ?_)
            rintro e w3 ⟨rfl, hp3, hb3, hc3⟩
            have HP3 := Flow.hide hp3
            have HB3 := Flow.hide (HB.out.trans (hb3.mono BB.out))
            have HS3 : Hid (bs ≤ w3.heap.size) := Nat.le_trans HBS.out hb3.size
            clear hp3 hb3 hc3
            go_wp2_with fail
            go_meet
            exact ⟨_, asked, node + 1, mst, rfl, rfl, rfl, by omega, by omega, HI.out.node, HN.out ▸ HP3.out, HB3.out, HS3.out⟩
          · have hb0 : (m == 0) = false := by rw [hm]; rfl
            have hb1 : (m == 1) = false := by rw [hm]; rfl
            have hb2 : (m == 2) = true := by rw [hm]; rfl
            clear hm
            rcases asked with _ | _
            · go_wp2_with fail
              (with_reducible refine (pask_yes bs bs N st 2 _ HP.out (by have := HN.out; omega) HBS.out (by have := HI.out.n; omega)).mono ?_)
              rintro e w3 ⟨rfl, hp3, hb3, hc3⟩
              have HP3 := Flow.hide hp3
              have HB3 := Flow.hide (HB.out.trans (hb3.mono BB.out))
              have HS3 : Hid (bs ≤ w3.heap.size) := Nat.le_trans HBS.out hb3.size
              clear hp3 hb3 hc3
              go_wp2_with fail
              go_meet
              exact ⟨_, true, 0, 0, rfl, rfl, rfl, by omega, by omega, HI.out.ask0 hw.out.1, HN.out ▸ HP3.out, HB3.out, HS3.out⟩
            · go_wp2_with fail
              (with_reducible refine (pask_yes bs bs N st 2 _ HP.out (by have := HN.out; omega) HBS.out (by have := HI.out.n; omega)).mono ?_)
              rintro e w3 ⟨rfl, hp3, hb3, hc3⟩
              have HP3 := Flow.hide hp3
              have HB3 := Flow.hide (HB.out.trans (hb3.mono BB.out))
              have HS3 : Hid (bs ≤ w3.heap.size) := Nat.le_trans HBS.out hb3.size
              clear hp3 hb3 hc3
              go_wp2_with fail
              go_meet
              exact ⟨_, true, node, mst, rfl, rfl, rfl, by omega, by omega, HI.out.ask rfl, HN.out ▸ HP3.out, HB3.out, HS3.out⟩
          · have hb0 : (m == 0) = false := by rw [hm]; rfl
            have hb1 : (m == 1) = false := by rw [hm]; rfl
            have hb2 : (m == 2) = false := by rw [hm]; rfl
            clear hm
            go_wp2_with fail
            · (with_reducible refine (pstop_any bs bs N st 2 _ HP.out (by have := HN.out; omega) HBS.out).mono ?_)
              rintro e w3 ⟨rfl, hp3, hb3, hc3⟩
              have HP3 := Flow.hide hp3
              have HB3 := Flow.hide (HB.out.trans (hb3.mono BB.out))
              have HS3 : Hid (bs ≤ w3.heap.size) := Nat.le_trans HBS.out hb3.size
              clear hp3 hb3 hc3
              go_wp2_with fail
              go_meet
              exact ⟨_, false, node, mst, rfl, rfl, rfl, by omega, by omega, HI.out.stop, HN.out ▸ HP3.out, HB3.out, HS3.out⟩
            · go_meet
              exact ⟨st, asked, node, mst, rfl, rfl, rfl, by omega, by omega, HI.out.mid, hP1.out, HB.out, HBS.out⟩
        case rest =>
          obtain ⟨st', asked', node', mst', rfl, rfl, rfl, hn', hm', hmid, hp', hb', hs'⟩ := hcut
          have HM' := Flow.hide hmid
          have HP' := Flow.hide hp'
          have HB' := Flow.hide hb'
          have HS' := Flow.hide hs'
          obtain ⟨hn1', hn2'⟩ := hn'
          obtain ⟨hm1', hm2'⟩ := hm'
          clear hmid hp' hb' hs' HI HP HB HBS hmb
          have hok : st'.fair = false ∨ asked' = false ∨ mst' < wt := by
            rcases hf : st'.bh with _ | _
            · rcases asked' with _ | _
              · exact .inr (.inl rfl)
              · exact .inr (.inr (HM'.out.fair hf rfl).1)
            · exact .inl (by simp [PSt.fair, hf])
          obtain ⟨fb, hfb⟩ : ∃ fb, st'.fair = fb := ⟨_, rfl⟩
          rw [hfb] at hok
          have HFB := Flow.hide hfb
          clear hfb
          go_wp2_with fail
          (with_reducible refine (pfair_is _ _ _ _ fb _ HP'.out HFB.out).mono ?_)
          rintro e w3 ⟨rfl, rfl⟩
          by_cases hnh : node' < hd
          · have hnh' : ¬ hd ≤ node' := by omega
            rcases hok with rfl | rfl | hlt
            · go_wp2_with fail
              go_roundw
              case rel => exact ⟨i + 1, i + 1, st', _, node', mst', by omega, by omega, rfl, by go_num, rfl, rfl, rfl, by omega, by omega, HM'.out.lt hnh, HP'.out, HB'.out, HS'.out⟩
              case measure => simp [intOf]; omega
            · rcases fb with _ | _
              · go_wp2_with fail
                go_roundw
                case rel => exact ⟨i + 1, i + 1, st', _, node', mst', by omega, by omega, rfl, by go_num, rfl, rfl, rfl, by omega, by omega, HM'.out.lt hnh, HP'.out, HB'.out, HS'.out⟩
                case measure => simp [intOf]; omega
              · go_wp2_with fail
                go_roundw
                case rel => exact ⟨i + 1, i + 1, st', _, node', mst', by omega, by omega, rfl, by go_num, rfl, rfl, rfl, by omega, by omega, HM'.out.lt hnh, HP'.out, HB'.out, HS'.out⟩
                case measure => simp [intOf]; omega
            · have hlt' : ¬ wt ≤ mst' := by omega
              rcases fb with _ | _
              · go_wp2_with fail
                go_roundw
                case rel => exact ⟨i + 1, i + 1, st', _, node', mst', by omega, by omega, rfl, by go_num, rfl, rfl, rfl, by omega, by omega, HM'.out.lt hnh, HP'.out, HB'.out, HS'.out⟩
                case measure => simp [intOf]; omega
              · rcases asked' with _ | _
                · go_wp2_with fail
                  go_roundw
                  case rel => exact ⟨i + 1, i + 1, st', _, node', mst', by omega, by omega, rfl, by go_num, rfl, rfl, rfl, by omega, by omega, HM'.out.lt hnh, HP'.out, HB'.out, HS'.out⟩
                  case measure => simp [intOf]; omega
                · go_wp2_with fail
                  go_roundw
                  case rel => exact ⟨i + 1, i + 1, st', _, node', mst', by omega, by omega, rfl, by go_num, rfl, rfl, rfl, by omega, by omega, HM'.out.lt hnh, HP'.out, HB'.out, HS'.out⟩
                  case measure => simp [intOf]; omega
          · have hnh' : hd ≤ node' := by omega
            rcases hok with rfl | rfl | hlt
            · go_wp2_with fail
              go_roundw
              case rel => exact ⟨i + 1, i + 1, st', false, node', mst', by omega, by omega, rfl, by go_num, rfl, rfl, rfl, by omega, by omega, HM'.out.off, HP'.out, HB'.out, HS'.out⟩
              case measure => simp [intOf]; omega
            · rcases fb with _ | _
              · go_wp2_with fail
                go_roundw
                case rel => exact ⟨i + 1, i + 1, st', false, node', mst', by omega, by omega, rfl, by go_num, rfl, rfl, rfl, by omega, by omega, HM'.out.off, HP'.out, HB'.out, HS'.out⟩
                case measure => simp [intOf]; omega
              · go_wp2_with fail
                go_roundw
                case rel => exact ⟨i + 1, i + 1, st', false, node', mst', by omega, by omega, rfl, by go_num, rfl, rfl, rfl, by omega, by omega, HM'.out.off, HP'.out, HB'.out, HS'.out⟩
                case measure => simp [intOf]; omega
            · have hlt' : ¬ wt ≤ mst' := by omega
              rcases fb with _ | _
              · go_wp2_with fail
                go_roundw
                case rel => exact ⟨i + 1, i + 1, st', false, node', mst', by omega, by omega, rfl, by go_num, rfl, rfl, rfl, by omega, by omega, HM'.out.off, HP'.out, HB'.out, HS'.out⟩
                case measure => simp [intOf]; omega
              · rcases asked' with _ | _
                · go_wp2_with fail
                  go_roundw
                  case rel => exact ⟨i + 1, i + 1, st', false, node', mst', by omega, by omega, rfl, by go_num, rfl, rfl, rfl, by omega, by omega, HM'.out.off, HP'.out, HB'.out, HS'.out⟩
                  case measure => simp [intOf]; omega
                · go_wp2_with fail
                  go_roundw
                  case rel => exact ⟨i + 1, i + 1, st', false, node', mst', by omega, by omega, rfl, by go_num, rfl, rfl, rfl, by omega, by omega, HM'.out.off, HP'.out, HB'.out, HS'.out⟩
                  case measure => simp [intOf]; omega
      · obtain rfl : i = 80 := by omega
        go_wp2_with fail
        go_ret
        exact ⟨rfl, HB.out⟩
    · obtain rfl : i = len := by omega
      go_wp2_with fail
      go_ret
      exact ⟨rfl, HB.out⟩
theorem own : ownKnob Try.prog.godebug = none := by kernel_rfl
theorem laidOut : laidOutB Try.prog = true := by kernel_rfl

set_option maxRecDepth 100000 in
theorem lifted (os : Os) (started : os.Started) (H : Type) (enc : TypeId × Value → H) :
    ReturnsInHanded {} Try.checked os 13 .any (Rows.paceHoldsSpec.pre6 enc Try.prog Try.f13 Rows.paceHoldsRow.domain false) (Rows.paceHoldsSpec.post enc Try.prog Try.f13 false true false false) := by
  refine returnsInHanded_of_change (C := Try.checked) own started (by kernel_rfl) Try.func13
    (ChangeSpec.witness6 (enc := enc) (C := Try.checked) false ⟨#[], #[.int .u8 0, .int .u8 0, .slice none 0 0], []⟩ 8 (by kernel_rfl) (by kernel_rfl) (by kernel_rfl) (by kernel_rfl)) ?_
  intro W base args ds gs before hval0 hW hcnd _
  have hval : ∀ (j : Nat) t v, Try.f13.params[j]? = some t → args[j]? = some v → Value.okWide Try.prog W .any base t v := hval0
  have hW' := hW
  obtain ⟨p, q, hA0, hV, rfl, hfz, hnd⟩ := hW
  have hA : DataW.TrodAll enc Try.prog W 0 (fun _ => true) true Try.f13.params.toList args.toList ds p := hA0
  rw [Try.params13] at hA hval
  obtain ⟨v0, v1, v2, d0, d1, d2, p0, p1, p2, hargs, rfl, rfl, h0, h1, h2⟩ := trodAll_three hA
  obtain ⟨rfl, rfl⟩ := trodVars_none hV
  subst hargs
  obtain ⟨x0, rfl, rfl, rfl, wx0⟩ := open_int Try.underlying5 (hval 0 5 v0 rfl rfl) h0
  obtain ⟨x1, rfl, rfl, rfl, wx1⟩ := open_int Try.underlying5 (hval 1 5 v1 rfl rfl) h1
  obtain ⟨A2, n2, cp2, rfl, hl2, _, hr2⟩ := Open.open_rows_arg 30 (ss := [.int .i64, .int .i64]) Try.underlying82 (by kernel_rfl) (by decide) (by kernel_rfl) (hval 2 82 v2 rfl rfl) h2
  obtain ⟨x2, hx2⟩ := acts_of hr2
  clear hA0 hval0
  refine (walk x0 x1 A2 n2 cp2 x2 W (bounds_u8 wx0) (bounds_u8 wx1) hl2 hx2).mono fun e W' ⟨he, hb⟩ => ?_
  subst he
  exact ⟨_, rfl, Open.law_post laidOut (by kernel_rfl) (by kernel_rfl) Try.underlying4 rfl rfl hW' hb⟩

theorem over : Rows.paceHoldsRow.holds Try.pinned (OpenSpec.ofChange Rows.paceHoldsSpec) :=
  OpenClaim.holds_of_wide 13 Try.f13 rfl rfl rfl rfl rfl rfl rfl ⟨rfl, rfl, rfl, rfl, rfl⟩ rfl rfl rfl rfl rfl (by kernel_rfl) Try.func13 (by kernel_rfl)
    (of_decide_eq_true (by kernel_rfl)) (by unfold Func.isWrapper; first | (rw [if_pos (by decide +kernel)]; kernel_rfl) | (rw [if_neg (by decide +kernel)]; exact ⟨rfl, rfl⟩))
    (fun os started H enc _ => lifted os started H enc)

theorem proved : Rows.PaceHoldsSaid := over
#print axioms proved
end Go.Proofs.Ythkphapmnlndbaa.PHolds
