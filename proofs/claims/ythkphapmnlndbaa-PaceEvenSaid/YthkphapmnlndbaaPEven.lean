/- PaceEven: for every hold, longer and row of asks the law returns true. -/
import Derived.Test.YthkphapmnlndbaaRows
import Derived.Test.YthkphapmnlndbaaPSpeaks
import Derived.Test.YthkphapmnlndbaaOpen2
import Derived.Deep.DeepCutAuto
import Derived.Deep.CutBlock
namespace Go.Proofs.Ythkphapmnlndbaa.PEven
open Go.ChangeShapes Go.WideShapes Go.ChangeAt Go.RowKit
set_option linter.unusedSimpArgs false
set_option maxHeartbeats 4000000
attribute [local irreducible] Flow.wpSeg Flow.wpF Flow.wpG Flow.wpS Flow.wpT Flow.wpK
/-- The asks that came in. -/
def Asks (w : World) (A : Option Addr) (n : Nat) (x : Nat → Int) : Prop :=
  0 < n → ∃ g off, A = some ⟨g, off, none⟩ ∧ g < w.heap.size ∧ ∀ i, i < n → w.cell? ⟨g, off + i, none⟩ = some (.int .u16 (x i)) ∧ 0 ≤ x i ∧ x i ≤ 65535
theorem asks_of {H : Type} {enc : TypeId × Value → H} {base : Nat} {spare : Nat → Bool} {held : Bool} {w : World} {A : Option Addr} {n : Nat} (h : 0 < n → ∃ g off, A = some ⟨g, off, none⟩ ∧ g < w.heap.size ∧
    ∀ i, i < n → ∀ (j : Nat) (s : Open.Shp), ([.int .u16] : List Open.Shp)[j]? = some s → ∃ u, w.cell? ⟨g, off + (i * ([.int .u16] : List Open.Shp).length + j), none⟩ = some u ∧ Open.CellOk enc Try.prog w base spare held s u) :
    ∃ x, Asks w A n x := by
  rcases Nat.eq_zero_or_pos n with h0 | h0
  · exact ⟨fun _ => 0, fun hn => by omega⟩
  · obtain ⟨g, off, rfl, hg, hc⟩ := h h0
    have hx : ∀ i, i < n → ∃ y : Int, w.cell? ⟨g, off + i, none⟩ = some (.int .u16 y) ∧ 0 ≤ y ∧ y ≤ 65535 := by
      intro i hi
      obtain ⟨u0, e0, a0, rfl, w0⟩ := hc i hi 0 _ rfl
      have e : off + (i * ([.int .u16] : List Open.Shp).length + 0) = off + i := by simp
      rw [e] at e0
      exact ⟨a0, e0, bounds_u16 w0⟩
    obtain ⟨f, hf⟩ := Deep.choose_lt hx
    exact ⟨f, fun _ => ⟨g, off, rfl, hg, hf⟩⟩
set_option maxRecDepth 100000 in
theorem walk (x0 x1 : Int) (A : Option Addr) (len cap : Nat) (x : Nat → Int) (w : World) (h0 : 0 ≤ x0 ∧ x0 ≤ 255) (h1 : 0 ≤ x1 ∧ x1 ≤ 255) (hlen : len ≤ maxLen) (hx : Asks w A len x) :
    Calls Try.prog 14 #[.int .u8 x0, .int .u8 x1, .slice A len cap] w fun e w' => e = .returned (.bool true) ∧ Below w.heap.size w w' := by
  unfold maxLen at hlen
  have HX := Flow.hide hx
  clear hx
  have hh := Flow.hide (show 1 ≤ 1 + x0 % 40 ∧ 1 + x0 % 40 ≤ 40 by omega)
  have hw := Flow.hide (show 0 ≤ x1 % 40 ∧ x1 % 40 ≤ 39 by omega)
  obtain ⟨h01, h02⟩ := h0
  obtain ⟨h11, h12⟩ := h1
  go_enter Try.func14, Try.ntmps14
  go_wp2_with fail
  (with_reducible refine (speaks08 _).mono ?_)
  rintro e w1 ⟨rfl, hb1⟩
  have B1 := Flow.hide hb1
  clear hb1
  go_upto_region 4 with fail
  revert hh hw
  generalize 1 + x0 % 40 = hd
  intro hh hw
  obtain ⟨hd1, hd2⟩ := hh.out
  go_wp2_with fail
  revert hw
  generalize x1 % 40 = lg
  intro hw
  obtain ⟨wt, hwt⟩ : ∃ wt, hd + 1 + lg = wt := ⟨_, rfl⟩
  have hw' := Flow.hide (show hd < wt ∧ 1 ≤ wt ∧ wt ≤ 1000 by have := hw.out; omega)
  rw [hwt]
  clear hwt
  (with_reducible refine (pnew_is 3 3 4 hd wt _ rfl (by decide) (by decide) (by omega) hw'.out.2).mono ?_)
  rintro e w2 ⟨rfl, hp2, hb2⟩
  have P2 := Flow.hide hp2
  have B2 := Flow.hide (B1.out.trans (hb2.mono B1.out.size))
  have BB : Hid (w.heap.size ≤ w1.heap.size) := B1.out.size
  have BS : Hid (w1.heap.size ≤ w2.heap.size) := hb2.size
  clear hp2 hb2 B1
  revert P2 BB BS
  generalize w1.heap.size = bs
  intro P2 BB BS
  go_wp2_with fail
  go_loopw [10] (fun t10 wr => ∃ (i N : Nat) (st : PSt), i ≤ len ∧ i ≤ 120 ∧ N ≤ 20 * i ∧ t10 = .int .i64 i ∧ EInv hd wt st (kM 0) ∧ IsPace wr bs bs N st ∧ Below w.heap.size w wr ∧ bs ≤ wr.heap.size) (fun t10 _ => 120 - (intOf t10).toNat)
  case atStart => exact ⟨0, 0, _, by omega, by omega, by omega, rfl, ⟨rfl, rfl, rfl, rfl, rfl, fun p hp => (by cases hp)⟩, P2.out, B2.out, BS.out⟩
  case round =>
    obtain ⟨i, N, st, hil, hi120, hN, rfl, hinv, hp, hb, hbs⟩ := hrel
    have HN := Flow.hide hN
    have HI := Flow.hide hinv
    have HP := Flow.hide hp
    have HB := Flow.hide hb
    have HBS := Flow.hide hbs
    clear hN hinv hp hb hbs P2 B2
    by_cases hlt : i < len
    · have hltI : (i : Int) < (len : Int) := by omega
      by_cases hlt120 : i < 120
      · have hltI' : (i : Int) < 120 := by omega
        obtain ⟨g, off, rfl, hg, hc⟩ := HX.out (by omega)
        obtain ⟨x1', hk⟩ := hc i hlt
        revert hk x1'
        clear hc
        generalize x i = ask
        intro x1' hk
        have Y1 := Flow.hide x1'
        clear x1'
        go_wp2_with fail
        go_loopw [11] (fun t11 wr => ∃ (j N' : Nat) (st' : PSt), j ≤ 3 ∧ N' ≤ 20 * i + j ∧ t11 = .int .i64 ((j : Int) + 1) ∧ EInv hd wt st' (kM j) ∧ IsPace wr bs bs N' st' ∧ Below w.heap.size w wr ∧ bs ≤ wr.heap.size) (fun t11 _ => 4 - (intOf t11).toNat)
        case atStart => exact ⟨0, N, st, by omega, HN.out, rfl, HI.out, HP.out, HB.out, HBS.out⟩
        case round =>
          clear HN HI HP HB HBS
          obtain ⟨j, N', st', hj3, hN', rfl, hinv, hp, hb, hbs⟩ := hrel
          have HN := Flow.hide hN'
          have HI := Flow.hide hinv
          have HP := Flow.hide hp
          have HB := Flow.hide hb
          have HBS := Flow.hide hbs
          clear hN' hinv hp hb hbs
          by_cases hjj : j < 3
          · have hjI : (j : Int) + 1 ≤ 3 := by omega
            go_wp2_with fail
            (with_reducible refine (pmaster_yes bs bs N' st' _ j _ rfl HP.out (by have := HN.out; omega) HBS.out (by have := HI.out.m; omega)).mono ?_)
            rintro e w3 ⟨rfl, hp3, hb3, hc3⟩
            have HP3 := Flow.hide hp3
            have HB3 := Flow.hide (HB.out.trans (hb3.mono BB.out))
            have HS3 : Hid (bs ≤ w3.heap.size) := Nat.le_trans HBS.out hb3.size
            clear hp3 hb3 hc3
            go_wp2_with fail
            go_roundw
            case rel => exact ⟨j + 1, N' + 1, _, by omega, by have := HN.out; omega, by go_num, HI.out.master hjj hw'.out.1, HP3.out, HB3.out, HS3.out⟩
            case measure => simp [intOf]; omega
          · have hjI : ¬ (j : Int) + 1 ≤ 3 := by omega
            have hE : Hid (EInv hd wt st' (kN 0)) := HI.out.ext (fun q n hq h1 h4 => by simp only [kM, kN]; rw [if_pos (by omega), if_neg (by omega)])
            clear HI
            go_wp2_with fail
            go_loopw [12] (fun t12 wr => ∃ (k N' : Nat) (st' : PSt), k ≤ 4 ∧ N' ≤ 20 * i + 3 + 3 * k ∧ t12 = .int .i64 ((k : Int) + 1) ∧ EInv hd wt st' (kN k) ∧ IsPace wr bs bs N' st' ∧ Below w.heap.size w wr ∧ bs ≤ wr.heap.size) (fun t12 _ => 5 - (intOf t12).toNat)
            case atStart => exact ⟨0, N', st', by omega, by have := HN.out; omega, rfl, hE.out, HP.out, HB.out, HBS.out⟩
            case round =>
              clear HN hE HP HB HBS
              obtain ⟨k, N', st', hk4, hN', rfl, hinv, hp, hb, hbs⟩ := hrel
              have HN := Flow.hide hN'
              have HI := Flow.hide hinv
              have HP := Flow.hide hp
              have HB := Flow.hide hb
              have HBS := Flow.hide hbs
              clear hN' hinv hp hb hbs
              by_cases hkk : k < 4
              · have hkI : (k : Int) + 1 ≤ 4 := by omega
                go_wp2_with fail
                (with_reducible refine (pnode_any bs bs N' st' _ _ HP.out (by have := HN.out; omega) HBS.out).mono ?_)
                rintro e w3 ⟨rfl, hp3, hb3, hc3⟩
                have HI3 : Hid (EInv hd wt (st'.node ((k : Int) + 1)) (kN ((k : Int) + 1))) := by
                  have := HI.out
                  exact EInv.node (by rw [show (k : Int) + 1 - 1 = k by omega]; exact this)
                have HP3 := Flow.hide hp3
                have HB3 := Flow.hide (HB.out.trans (hb3.mono BB.out))
                have HS3 : Hid (bs ≤ w3.heap.size) := Nat.le_trans HBS.out hb3.size
                have y3 : w3.cell? ⟨g, off + i, none⟩ = some (.int .u16 ask) := (HB3.out.cell (p := ⟨g, off + i, none⟩) hg).trans Y1.out
                clear hp3 hb3 hc3 HP HB HBS HI
                go_wp2_with fail
                · (with_reducible refine (pask_yes bs bs (N' + 1) _ _ _ HP3.out (by have := HN.out; omega) HS3.out (by have := HI3.out.n; omega)).mono ?_)
                  rintro e w4 ⟨rfl, hp4, hb4, hc4⟩
                  have HI4 := Flow.hide (HI3.out.ask (by omega) hd1)
                  have HP4 := Flow.hide hp4
                  have HB4 := Flow.hide (HB3.out.trans (hb4.mono BB.out))
                  have HS4 : Hid (bs ≤ w4.heap.size) := Nat.le_trans HS3.out hb4.size
                  have y4 : w4.cell? ⟨g, off + i, none⟩ = some (.int .u16 ask) := (HB4.out.cell (p := ⟨g, off + i, none⟩) hg).trans Y1.out
                  clear hp4 hb4 hc4 HP3 HB3 HS3 HI3 y3
                  go_wp2_with fail
                  · (with_reducible refine (pstop_any bs bs (N' + 2) _ _ _ HP4.out (by have := HN.out; omega) HS4.out).mono ?_)
                    rintro e w5 ⟨rfl, hp5, hb5, hc5⟩
                    have HI5 := Flow.hide (HI4.out.stop ((k : Int) + 1))
                    have HP5 := Flow.hide hp5
                    have HB5 := Flow.hide (HB4.out.trans (hb5.mono BB.out))
                    have HS5 : Hid (bs ≤ w5.heap.size) := Nat.le_trans HS4.out hb5.size
                    clear hp5 hb5 hc5
                    go_wp2_with fail
                    go_roundw
                    case rel => exact ⟨k + 1, N' + 2 + 1, _, by omega, by have := HN.out; omega, by go_num, HI5.out, HP5.out, HB5.out, HS5.out⟩
                    case measure => simp [intOf]; omega
                  · go_roundw
                    case rel => exact ⟨k + 1, N' + 2, _, by omega, by have := HN.out; omega, by go_num, HI4.out, HP4.out, HB4.out, HS4.out⟩
                    case measure => simp [intOf]; omega
                · (with_reducible refine (pstop_any bs bs (N' + 1) _ _ _ HP3.out (by have := HN.out; omega) HS3.out).mono ?_)
                  rintro e w5 ⟨rfl, hp5, hb5, hc5⟩
                  have HI5 := Flow.hide (HI3.out.stop ((k : Int) + 1))
                  have HP5 := Flow.hide hp5
                  have HB5 := Flow.hide (HB3.out.trans (hb5.mono BB.out))
                  have HS5 : Hid (bs ≤ w5.heap.size) := Nat.le_trans HS3.out hb5.size
                  clear hp5 hb5 hc5
                  go_wp2_with fail
                  go_roundw
                  case rel => exact ⟨k + 1, N' + 1 + 1, _, by omega, by have := HN.out; omega, by go_num, HI5.out, HP5.out, HB5.out, HS5.out⟩
                  case measure => simp [intOf]; omega
                · go_roundw
                  case rel => exact ⟨k + 1, N' + 1, _, by omega, by have := HN.out; omega, by go_num, HI3.out, HP3.out, HB3.out, HS3.out⟩
                  case measure => simp [intOf]; omega
              · have hkI : ¬ (k : Int) + 1 ≤ 4 := by omega
                have hE : Hid (EInv hd wt st' (kM 0)) := HI.out.ext (fun q n hq h1 h4 => by simp only [kM, kN]; rw [if_pos (by omega), if_neg (by omega)])
                have hF : Hid (st'.fair = true) := by
                  show st'.fair = true
                  unfold PSt.fair
                  rw [HI.out.fair]
                  rfl
                go_wp2_with fail
                (with_reducible refine (pfair_is _ _ _ _ true _ HP.out hF.out).mono ?_)
                rintro e w4 ⟨rfl, rfl⟩
                go_wp2_with fail
                go_roundw
                case rel => exact ⟨i + 1, N', st', by omega, by omega, by have := HN.out; omega, by go_num, hE.out, HP.out, HB.out, HBS.out⟩
                case measure => simp [intOf]; omega
      · obtain rfl : i = 120 := by omega
        go_wp2_with fail
        go_ret
        exact ⟨rfl, HB.out⟩
    · obtain rfl : i = len := by omega
      go_wp2_with fail
      go_ret
      exact ⟨rfl, HB.out⟩
theorem own : ownKnob Try.prog.godebug = none := by kernel_rfl
theorem laidOut : laidOutB Try.prog = true := by kernel_rfl

set_option maxRecDepth 100000 in
theorem lifted (os : Os) (started : os.Started) (H : Type) (enc : TypeId × Value → H) :
    ReturnsInHanded {} Try.checked os 14 .any (Rows.paceEvenSpec.pre6 enc Try.prog Try.f14 Rows.paceEvenRow.domain false) (Rows.paceEvenSpec.post enc Try.prog Try.f14 false true false false) := by
  refine returnsInHanded_of_change (C := Try.checked) own started (by kernel_rfl) Try.func14
    (ChangeSpec.witness6 (enc := enc) (C := Try.checked) false ⟨#[], #[.int .u8 0, .int .u8 0, .slice none 0 0], []⟩ 8 (by kernel_rfl) (by kernel_rfl) (by kernel_rfl) (by kernel_rfl)) ?_
  intro W base args ds gs before hval0 hW hcnd _
  have hval : ∀ (j : Nat) t v, Try.f14.params[j]? = some t → args[j]? = some v → Value.okWide Try.prog W .any base t v := hval0
  have hW' := hW
  obtain ⟨p, q, hA0, hV, rfl, hfz, hnd⟩ := hW
  have hA : DataW.TrodAll enc Try.prog W 0 (fun _ => true) true Try.f14.params.toList args.toList ds p := hA0
  rw [Try.params14] at hA hval
  obtain ⟨v0, v1, v2, d0, d1, d2, p0, p1, p2, hargs, rfl, rfl, h0, h1, h2⟩ := trodAll_three hA
  obtain ⟨rfl, rfl⟩ := trodVars_none hV
  subst hargs
  obtain ⟨x0, rfl, rfl, rfl, wx0⟩ := open_int Try.underlying5 (hval 0 5 v0 rfl rfl) h0
  obtain ⟨x1, rfl, rfl, rfl, wx1⟩ := open_int Try.underlying5 (hval 1 5 v1 rfl rfl) h1
  obtain ⟨A2, n2, cp2, rfl, hl2, _, hr2⟩ := Open.open_rows_arg 30 (ss := [.int .u16]) Try.underlying90 (by kernel_rfl) (by decide) (by kernel_rfl) (hval 2 90 v2 rfl rfl) h2
  obtain ⟨x2, hx2⟩ := asks_of hr2
  clear hA0 hval0
  refine (walk x0 x1 A2 n2 cp2 x2 W (bounds_u8 wx0) (bounds_u8 wx1) hl2 hx2).mono fun e W' ⟨he, hb⟩ => ?_
  subst he
  exact ⟨_, rfl, Open.law_post laidOut (by kernel_rfl) (by kernel_rfl) Try.underlying4 rfl rfl hW' hb⟩

theorem over : Rows.paceEvenRow.holds Try.pinned (OpenSpec.ofChange Rows.paceEvenSpec) :=
  OpenClaim.holds_of_wide 14 Try.f14 rfl rfl rfl rfl rfl rfl rfl ⟨rfl, rfl, rfl, rfl, rfl⟩ rfl rfl rfl rfl rfl (by kernel_rfl) Try.func14 (by kernel_rfl)
    (of_decide_eq_true (by kernel_rfl)) (by unfold Func.isWrapper; first | (rw [if_pos (by decide +kernel)]; kernel_rfl) | (rw [if_neg (by decide +kernel)]; exact ⟨rfl, rfl⟩))
    (fun os started H enc _ => lifted os started H enc)

theorem proved : Rows.PaceEvenSaid := over
#print axioms proved
end Go.Proofs.Ythkphapmnlndbaa.PEven
