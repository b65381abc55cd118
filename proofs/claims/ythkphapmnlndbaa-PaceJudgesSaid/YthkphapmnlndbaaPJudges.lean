/- PaceJudges: for every configuration and row of acts the law returns true. -/
import Derived.Test.YthkphapmnlndbaaRows
import Derived.Test.YthkphapmnlndbaaPFair2
import Derived.Test.YthkphapmnlndbaaOpen2
import Derived.Deep.DeepCutAuto
import Derived.Deep.CutBlock
namespace Go.Proofs.Ythkphapmnlndbaa.PJudges
open Go.ChangeShapes Go.WideShapes Go.ChangeAt Go.RowKit
set_option linter.unusedSimpArgs false
set_option maxHeartbeats 4000000
attribute [local irreducible] Flow.wpSeg Flow.wpF Flow.wpG Flow.wpS Flow.wpT Flow.wpK
/-- The acts that came in. -/
def Acts (w : World) (A : Option Addr) (n : Nat) (x : Nat → Int × Int) : Prop :=
  0 < n → ∃ g off, A = some ⟨g, off, none⟩ ∧ g < w.heap.size ∧ ∀ i, i < n → w.cell? ⟨g, off + i * 2, none⟩ = some (.int .i64 (x i).1) ∧ w.cell? ⟨g, off + i * 2 + 1, none⟩ = some (.int .i64 (x i).2)
theorem acts_of {H : Type} {enc : TypeId × Value → H} {base : Nat} {spare : Nat → Bool} {held : Bool} {w : World} {A : Option Addr} {n : Nat} (h : 0 < n → ∃ g off, A = some ⟨g, off, none⟩ ∧ g < w.heap.size ∧
    ∀ i, i < n → ∀ (j : Nat) (s : Open.Shp), ([.int .i64, .int .i64] : List Open.Shp)[j]? = some s → ∃ u, w.cell? ⟨g, off + (i * ([.int .i64, .int .i64] : List Open.Shp).length + j), none⟩ = some u ∧ Open.CellOk enc Try.prog w base spare held s u) :
    ∃ x, Acts w A n x := by
  rcases Nat.eq_zero_or_pos n with h0 | h0
  · exact ⟨fun _ => (0, 0), fun hn => by omega⟩
  · obtain ⟨g, off, rfl, hg, hc⟩ := h h0
    have hx : ∀ i, i < n → ∃ y : Int × Int, w.cell? ⟨g, off + i * 2, none⟩ = some (.int .i64 y.1) ∧ w.cell? ⟨g, off + i * 2 + 1, none⟩ = some (.int .i64 y.2) := by
      intro i hi
      obtain ⟨u0, e0, a0, rfl, w0⟩ := hc i hi 0 _ rfl
      obtain ⟨u1, e1, a1, rfl, w1⟩ := hc i hi 1 _ rfl
      have e : ∀ j, off + (i * ([.int .i64, .int .i64] : List Open.Shp).length + j) = off + i * 2 + j := fun j => by simp; omega
      rw [e] at e0 e1
      exact ⟨(a0, a1), e0, e1⟩
    obtain ⟨f, hf⟩ := Deep.choose_lt hx
    exact ⟨f, fun _ => ⟨g, off, rfl, hg, hf⟩⟩
theorem info86 : (Try.prog.info? 86).map (fun i => (i.zero, i.size, i.bytes)) = some (some (.agg #[.int .i64 0, .int .i64 0]), 2, 16) := by kernel_rfl
theorem not_row {w : World} {B n sz : Nat} {e : TypeId} {v : Value} {x : List Value} (h : w.ownsRow B e sz v n x) (he : e ≠ 113 ∧ e ≠ 115 ∧ e ≠ 118 ∧ e ≠ 3) : ∀ g, v.ownBlock = some g → ¬ Foot w g := by
  intro g hg
  rcases h.2 with ⟨rfl, _⟩ | ⟨g1, c1, cur1, rfl, _, hg1, _⟩
  · cases hg
  · simp only [Value.ownBlock, Option.some.injEq] at hg
    subst hg
    exact Foot.not hg1 he
theorem pfair_below (g B N : Nat) (st : PSt) (b : Bool) (w : World) (h : IsPace w B g N st) (hb : st.fair = b) : Calls Try.prog 50 #[.pointer (some ⟨g, 0, none⟩)] w fun e w' => e = .returned (.bool b) ∧ Below w.heap.size w w' :=
  (pfair_is g B N st b w h hb).mono fun _ _ ⟨he, hw⟩ => ⟨he, hw ▸ Below.refl _ _⟩
theorem ref_is (m : Nat) (n hold wait : Int) (v : Value) (len B : Nat) (l : List (Int × Int)) (b : Bool) (w : World) (hm : 1 ≤ m ∧ m ≤ 5) (hn : n ≤ 8) (hh : hold ≤ 1000) (hr : w.ownsRow B 86 2 v len (xsA l)) (hl : l.length = len) (h60 : len ≤ 60) (hb : (!refBad m n hold wait l) = b) :
    Calls Try.prog 53 #[.int .i64 (m : Int), .int .i64 n, .int .i64 hold, .int .i64 wait, v] w fun e w' => e = .returned (.bool b) ∧ Below w.heap.size w w' := by
  subst hb; exact fair_ref m n hold wait v len B l w hm hn hh hr hl h60
theorem _root_.Go.Proofs.Ythkphapmnlndbaa.IsPace.head {w : World} {B g N : Nat} {st : PSt} (h : IsPace w B g N st) : (1 ≤ st.n ∧ st.n ≤ 8) ∧ (1 ≤ st.m ∧ st.m ≤ 5) := by
  obtain ⟨_, _, _, _, _, _, _, b⟩ := h
  exact ⟨b.n, b.m⟩
set_option maxRecDepth 100000 in
theorem walk (c0 c1 c2 c3 : Int) (A : Option Addr) (len cap : Nat) (x : Nat → Int × Int) (w : World) (hlen : len ≤ maxLen) (hx : Acts w A len x) :
    Calls Try.prog 12 #[.agg #[.int .i64 c0, .int .i64 c1, .int .i64 c2, .int .i64 c3], .slice A len cap] w fun e w' => e = .returned (.bool true) ∧ Below w.heap.size w w' := by
  unfold maxLen at hlen
  have HX := Flow.hide hx
  clear hx
  go_enter Try.func12, Try.ntmps12
  go_wp2_with fail
  (with_reducible refine (speaks08 _).mono ?_)
  rintro e w2 ⟨rfl, hb2⟩
  obtain ⟨KC, q2, _⟩ := Flow.laid1 hb2
  have B2 := Flow.hide q2
  have HCB : Hid (w.heap.size ≤ w.heap.size) := Nat.le_refl _
  revert KC HCB
  generalize hcb : w.heap.size = cb
  intro KC HCB
  rw [← hcb] at HCB
  have hcbw : Hid (w.heap.size ≤ cb) := by rw [← hcb]; exact HCB.out
  clear hcb hb2 q2 HCB
  have kc := KC.cell
  by_cases g1 : 1 ≤ c0
  · by_cases g2 : c0 ≤ 5
    · by_cases g3 : 1 ≤ c1
      · by_cases g4 : c1 ≤ 8
        · by_cases g5 : 1 ≤ c2
          · by_cases g6 : c2 ≤ 1000
            · by_cases g7 : 1 ≤ c3
              · by_cases g8 : c3 ≤ 1000
                · obtain ⟨m, rfl⟩ : ∃ m : Nat, c0 = m := ⟨c0.toNat, by omega⟩
                  have hm1 : 1 ≤ m := by omega
                  have hm5 : m ≤ 5 := by omega
                  go_wp2_with fail
                  (with_reducible refine (pnew_yes m c1 c2 c3 _ ⟨hm1, hm5⟩ ⟨g3, g4⟩ ⟨g5, g6⟩ ⟨g7, g8⟩).mono ?_)
                  rintro e w3 ⟨rfl, hp3, hb3⟩
                  have P3 := Flow.hide hp3
                  have BB : Hid (w.heap.size ≤ w2.heap.size) := B2.out.size
                  have B3 := Flow.hide (B2.out.trans (hb3.mono BB.out))
                  have S3 : Hid (w2.heap.size ≤ w3.heap.size) := hb3.size
                  have KC3 := KC.below hb3
                  clear hp3 hb3 kc KC
                  revert P3 BB S3
                  generalize w2.heap.size = bs
                  intro P3 BB S3
                  have kc := KC3.cell
                  go_wp2_with fail
                  go_loopw [8, 9] (fun t8 t9 wr => ∃ (i N : Nat) (acts : List (Int × Int)), i ≤ len ∧ i ≤ 60 ∧ N = i ∧ acts.length = i ∧ t9 = .int .i64 i ∧ (∀ x ∈ acts, x.1 = 1 ∨ x.1 = 2 ∨ x.1 = 3 ∨ x.1 = 4) ∧ wr.ownsRow w.heap.size 86 2 t8 i (xsA acts) ∧ IsPace wr bs bs N (acts.foldl stepA ⟨m, c1, c2, c3, [], false⟩) ∧ Flow.Blk wr cb 81 #[.int .i64 (m : Int), .int .i64 c1, .int .i64 c2, .int .i64 c3] ∧ Below w.heap.size w wr ∧ bs ≤ wr.heap.size) (fun _ t9 _ => 60 - (intOf t9).toNat)
                  case atStart => exact ⟨0, 0, [], by omega, by omega, rfl, rfl, rfl, fun x hx => (by cases hx), World.ownsRow_nil _ _ _ _, P3.out, KC3, B3.out, S3.out⟩
                  case round =>
                    clear kc KC3 P3 B3
                    obtain ⟨i, N, acts, hil, hi60, hN, hla, rfl, hki, hr, hp, hkc, hb, hbs⟩ := hrel
                    obtain ⟨A8, cap8, hv8, _⟩ := Flow.ownsRow_form hr
                    subst hv8
                    have HN := Flow.hide hN
                    have HLA := Flow.hide hla
                    have HKI := Flow.hide hki
                    have HR := Flow.hide hr
                    have HP := Flow.hide hp
                    have KCR := Flow.hide hkc
                    have HB := Flow.hide hb
                    have HBS := Flow.hide hbs
                    clear hN hla hki hr hp hkc hb hbs
                    by_cases hlt : i < len
                    · have hltI : (i : Int) < (len : Int) := by omega
                      by_cases hlt60 : i < 60
                      · have hlt60I : (i : Int) < 60 := by omega
                        obtain ⟨g, off, rfl, hg, hc⟩ := HX.out (by omega)
                        obtain ⟨x1, x2⟩ := hc i hlt
                        have hgr : g < wr.heap.size := Nat.lt_of_lt_of_le hg HB.out.size
                        have y1 : ∀ p, (Flow.rg wr p).cell? ⟨g, off + i * 2, none⟩ = some (.int .i64 (x i).1) := fun p => ((Flow.rg_below wr p).cell (p := ⟨g, off + i * 2, none⟩) hgr).trans ((HB.out.cell (p := ⟨g, off + i * 2, none⟩) hg).trans x1)
                        have y2 : ∀ p, (Flow.rg wr p).cell? ⟨g, off + i * 2 + 1, none⟩ = some (.int .i64 (x i).2) := fun p => ((Flow.rg_below wr p).cell (p := ⟨g, off + i * 2 + 1, none⟩) hgr).trans ((HB.out.cell (p := ⟨g, off + i * 2 + 1, none⟩) hg).trans x2)
                        revert y1 y2
                        clear hc x1 x2
                        generalize (x i).1 = wh
                        generalize (x i).2 = ix
                        intro y1 y2
                        have htm : -3 ≤ wh.tmod 4 ∧ wh.tmod 4 ≤ 3 := by
                          have := Int.tmod_lt_of_pos wh (show (0:Int) < 4 by decide)
                          have := Int.lt_tmod_of_pos wh (show (0:Int) < 4 by decide)
                          omega
                        obtain ⟨r, hr⟩ : ∃ r, wh.tmod 4 = r := ⟨_, rfl⟩
                        rw [hr] at htm
                        obtain ⟨k, hk⟩ : ∃ k, (r + 4).tmod 4 = k := ⟨_, rfl⟩
                        have hkb : 0 ≤ k ∧ k ≤ 3 := by rw [← hk, Int.tmod_eq_emod_of_nonneg (by omega)]; omega
                        have hw1 : IntKind.i64.wrap (r + 4) = r + 4 := IntWalk.i64_in _ (by omega)
                        obtain ⟨q, hq⟩ : ∃ q, q = 1 + k := ⟨_, rfl⟩
                        have hw2 : IntKind.i64.wrap (1 + k) = q := by rw [hq]; exact IntWalk.i64_in _ (by omega)
                        have hqb : q = 1 ∨ q = 2 ∨ q = 3 ∨ q = 4 := by omega
                        have HQB := Flow.hide hqb
                        clear hqb hq hkb htm
                        have HXN0 := Flow.hide (show ∀ j, (Value.slice A8 i cap8).ownBlock = some j → j < wr.heap.size from fun j hj => (HR.out.lt j hj).2)
                        go_upto_region 11 with fail
                        refine Flow.wp_region_flow (by kernel_rfl) 17 rfl ?_
                        refine Flow.wpF_seg [0, 1, 2, 3, 4, 5, 6, 7, 8, 9, 10, 11, 12, 13, 14] 2 rfl (by kernel_rfl) ?_
                        dsimp only [Flow.pickOps, List.getElem?_cons_zero, List.getElem?_cons_succ]
                        repeat (first
                          | (refine Flow.wpSeg_step (fun K' hK' => ?_)
                             go_simp
                             first
                               | (refine hK' _ ?_; clear hK' K')
                               | (apply Exists.intro
                                  refine ⟨fun p => ?_, hK' _ ?_⟩
                                  (first | fail)
                                  clear hK' K')))
                        refine Flow.wpSeg_nil ?_
                        refine Flow.wpF_declared [⟨15, 16, 10, 110, 86, #[.int .i64 0, .int .i64 0], #[.int .i64 q, .int .i64 ix]⟩] 0 (by kernel_rfl) ?hz ?hs ?_
                        case hz =>
                          intro p hp wz; simp only [List.mem_cons, List.not_mem_nil, or_false] at hp
                          subst hp
                          all_goals kernel_rfl
                        case hs =>
                          intro p hp; simp only [List.mem_cons, List.not_mem_nil, or_false] at hp
                          subst hp
                          all_goals exact ⟨rfl, by simp, by kernel_rfl, rfl, by simp [Value.oneCell']⟩
                        intro gf own hgf hnf hown
                        dsimp only [Flow.putG, if_true]
                        simp only [Act.put, List.setIfInBounds_toArray, List.set_cons_succ, List.set_cons_zero, if_true]
                        refine Flow.wpF_done (by kernel_rfl) ?_
                        intro w5 hC hO
                        have kx : Flow.Blk w5 (gf 15) 86 #[.int .i64 q, .int .i64 ix] := (hO _ (hown ⟨15, 16, 10, 110, 86, #[.int .i64 0, .int .i64 0], #[.int .i64 q, .int .i64 ix]⟩ (by simp))).2
                        have hb5 := hC.below
                        have HXN := Flow.hide (show ∀ j, (Value.slice A8 i cap8).ownBlock = some j → j ≠ gf 15 from fun j hj e => by
                          have h1 := HXN0.out j hj
                          have h2 : wr.heap.size ≤ gf 15 := hgf ⟨15, 16, 10, 110, 86, #[.int .i64 0, .int .i64 0], #[.int .i64 q, .int .i64 ix]⟩ (by simp)
                          omega)
                        have HR5 := Flow.ownsRow_chg HR.out (Flow.Chg.of_below hb5) (fun _ _ e => e)
                        have HP5 := HP.out.below hb5
                        have KC5 := KCR.out.below hb5
                        have HB5 := HB.out.trans (hb5.mono HB.out.size)
                        have HS5 := Nat.le_trans HBS.out hb5.size
                        clear hC hO hown hnf hgf hb5 y1 y2 hw1 hw2 hr hk HP HB HBS HR KCR
                        generalize gf 15 = xb at *
                        obtain ⟨K6, hh6, _⟩ := Flow.laid1 (w := w5) (w1 := w5.alloc (.cells #[.int .i64 q, .int .i64 ix] 86)) (Below.refl _ _)
                        obtain ⟨v7, w7, hr7, ho7, hb7, hc7, hw7⟩ := Flow.append_row (Flow.ownsRow_chg HR5 (Flow.Chg.of_below hh6) (fun _ _ e => e)) 83 Try.underlying83 info86 rfl (by decide) [.int .i64 q, .int .i64 ix] rfl ⟨w5.heap.size, 0, none⟩ 1 K6.news (fun u hu => by simp at hu; rcases hu with rfl | rfl <;> rfl) (by omega) (by omega) (Nat.le_trans HB5.size hh6.size)
                        have hrow6 := Flow.ownsRow_chg HR5 (Flow.Chg.of_below hh6) (fun _ _ e => e)
                        have hx7 : xsA acts ++ [.int .i64 q, .int .i64 ix] = xsA (acts ++ [(q, ix)]) := (xsA_snoc acts (q, ix)).symm
                        rw [hx7] at ho7
                        obtain ⟨A7, cp7, hv7, _⟩ := Flow.ownsRow_form ho7
                        subst hv7
                        have HR8 := Flow.hide ho7
                        have HP8 := Flow.hide ((HP5.below hh6).chg hc7 (fun j hj e => not_row hrow6 (by decide) j e.symm hj))
                        have KC8 := Flow.hide ((KC5.below hh6).chg hc7 (fun e => Flow.row_ne hrow6 (KC5.below hh6) (by decide) e.symm))
                        have kx6 := kx.below hh6
                        have hxn : ¬ some xb = (Value.slice A8 i cap8).ownBlock := fun e => by
                          rcases hrow6.2 with ⟨h, _⟩ | ⟨g1, c1', cur1, h, _, hg1, _⟩
                          · rw [h] at e; cases e
                          · rw [h] at e; simp only [Value.ownBlock, Option.some.injEq] at e
                            subst e
                            exact HXN.out xb (by rw [h]; rfl) rfl
                        have KX8 := kx6.chg hc7 hxn
                        have HB8 := Flow.hide ((HB5.trans (hh6.mono HB5.size)).trans hb7)
                        have HS8 : Hid (bs ≤ w7.heap.size) := Nat.le_trans HS5 (Nat.le_trans hh6.size hc7.size)
                        have HRN7 := Flow.hide hr7
                        have cx5 := kx.cell
                        have cx8 := KX8.cell
                        have HX8 := Flow.hide KX8
                        clear K6 hh6 hr7 ho7 hb7 hc7 hw7 hrow6 hx7 kx kx6 hxn HR5 HP5 KC5 HB5 HS5 KX8 HXN HXN0
                        go_upto_block 2 with (at_builtin; refine Flow.wpList_append_run _ _ 83 rfl rfl rfl rfl HRN7.out ?_)
                        clear cx5 HRN7
                        obtain ⟨st, hst⟩ : ∃ st, acts.foldl stepA ⟨m, c1, c2, c3, [], false⟩ = st := ⟨_, rfl⟩
                        have hst' : (acts ++ [(q, ix)]).foldl stepA ⟨m, c1, c2, c3, [], false⟩ = stepA st (q, ix) := by rw [List.foldl_append, hst]; rfl
                        rw [hst] at HP8
                        have HST := Flow.hide hst'
                        clear hst hst'
                        have hN1 : N < 100000 := by have := HN.out; omega
                        go_cut [121] (fun t121 wx => ∃ u, t121 = u ∧ IsPace wx bs bs (N + 1) (stepA st (q, ix)) ∧ Below w.heap.size w wx ∧ bs ≤ wx.heap.size ∧ wx.ownsRow w.heap.size 86 2 (.slice A7 (i + 1) cp7) (i + 1) (xsA (acts ++ [(q, ix)])) ∧ Flow.Blk wx cb 81 #[.int .i64 (m : Int), .int .i64 c1, .int .i64 c2, .int .i64 c3])
                        case first =>
                          have hqb := HQB.out
                          have hhd := Flow.hide (show (1 ≤ st.n ∧ st.n ≤ 8) ∧ (1 ≤ st.m ∧ st.m ≤ 5) from HP8.out.head)
                          rcases hqb with h | h | h | h
                          · have b1 : (q == 1) = true := by rw [h]; rfl
                            have hs : Hid (stepA st (q, ix) = if 1 ≤ ix ∧ ix ≤ (st.m : Int) then st.master (ix - 1).toNat else st) := by unfold stepA; exact if_pos h
                            clear h
                            by_cases hi : 1 ≤ ix ∧ ix ≤ (st.m : Int)
                            · have hs1 := Flow.hide (hs.out.trans (if_pos hi))
                              obtain ⟨hi1, hi2⟩ := hi
                              go_wp2_with fail
                              (with_reducible refine (pmaster_yes bs bs N st ix (ix - 1).toNat _ (by omega) HP8.out hN1 HS8.out (by omega)).mono ?_)
                              rintro e w9 ⟨rfl, hp9, hb9, hc9⟩
                              have HP9 := Flow.hide hp9
                              have HB9 := Flow.hide (HB8.out.trans (hb9.mono BB.out))
                              have HS9 : Hid (bs ≤ w9.heap.size) := Nat.le_trans HS8.out hb9.size
                              have HR9 := Flow.hide (Flow.ownsRow_chg HR8.out hc9 (not_row HR8.out (by decide)))
                              have KC9 := Flow.hide (KC8.out.chg hc9 (Foot.not KC8.out (by decide)))
                              clear hp9 hb9 hc9 cx8
                              go_wp2_with fail
                              go_meet
                              exact ⟨_, rfl, by rw [hs1.out]; exact HP9.out, HB9.out, HS9.out, HR9.out, KC9.out⟩
                            · have hs1 := Flow.hide (hs.out.trans (if_neg hi))
                              go_wp2_with fail
                              (with_reducible refine (pmaster_no bs bs N st ix _ HP8.out hi).mono ?_)
                              rintro e w9 ⟨rfl, rfl⟩
                              clear cx8
                              go_wp2_with fail
                              go_meet
                              exact ⟨_, rfl, by rw [hs1.out]; exact HP8.out.mono (by omega), HB8.out, HS8.out, HR8.out, KC8.out⟩
                          · have b1 : (q == 1) = false := by rw [h]; rfl
                            have b2 : (q == 2) = true := by rw [h]; rfl
                            have hs1 : Hid (stepA st (q, ix) = st.node ix) := by unfold stepA; rw [h]; rfl
                            clear h
                            go_wp2_with fail
                            (with_reducible refine (pnode_any bs bs N st ix _ HP8.out hN1 HS8.out).mono ?_)
                            rintro e w9 ⟨rfl, hp9, hb9, hc9⟩
                            have HP9 := Flow.hide hp9
                            have HB9 := Flow.hide (HB8.out.trans (hb9.mono BB.out))
                            have HS9 : Hid (bs ≤ w9.heap.size) := Nat.le_trans HS8.out hb9.size
                            have HR9 := Flow.hide (Flow.ownsRow_chg HR8.out hc9 (not_row HR8.out (by decide)))
                            have KC9 := Flow.hide (KC8.out.chg hc9 (Foot.not KC8.out (by decide)))
                            clear hp9 hb9 hc9 cx8
                            go_wp2_with fail
                            go_meet
                            exact ⟨_, rfl, by rw [hs1.out]; exact HP9.out, HB9.out, HS9.out, HR9.out, KC9.out⟩
                          · have b1 : (q == 1) = false := by rw [h]; rfl
                            have b2 : (q == 2) = false := by rw [h]; rfl
                            have b3 : (q == 3) = true := by rw [h]; rfl
                            have hs : Hid (stepA st (q, ix) = if 1 ≤ ix ∧ ix ≤ st.n then st.ask ix else st) := by unfold stepA; rw [h]; rfl
                            clear h
                            by_cases hi : 1 ≤ ix ∧ ix ≤ st.n
                            · have hs1 := Flow.hide (hs.out.trans (if_pos hi))
                              go_wp2_with fail
                              (with_reducible refine (pask_yes bs bs N st ix _ HP8.out hN1 HS8.out hi).mono ?_)
                              rintro e w9 ⟨rfl, hp9, hb9, hc9⟩
                              have HP9 := Flow.hide hp9
                              have HB9 := Flow.hide (HB8.out.trans (hb9.mono BB.out))
                              have HS9 : Hid (bs ≤ w9.heap.size) := Nat.le_trans HS8.out hb9.size
                              have HR9 := Flow.hide (Flow.ownsRow_chg HR8.out hc9 (not_row HR8.out (by decide)))
                              have KC9 := Flow.hide (KC8.out.chg hc9 (Foot.not KC8.out (by decide)))
                              clear hp9 hb9 hc9 cx8
                              go_wp2_with fail
                              go_meet
                              exact ⟨_, rfl, by rw [hs1.out]; exact HP9.out, HB9.out, HS9.out, HR9.out, KC9.out⟩
                            · have hs1 := Flow.hide (hs.out.trans (if_neg hi))
                              go_wp2_with fail
                              (with_reducible refine (pask_no bs bs N st ix _ HP8.out hi).mono ?_)
                              rintro e w9 ⟨rfl, rfl⟩
                              clear cx8
                              go_wp2_with fail
                              go_meet
                              exact ⟨_, rfl, by rw [hs1.out]; exact HP8.out.mono (by omega), HB8.out, HS8.out, HR8.out, KC8.out⟩
                          · have b1 : (q == 1) = false := by rw [h]; rfl
                            have b2 : (q == 2) = false := by rw [h]; rfl
                            have b3 : (q == 3) = false := by rw [h]; rfl
                            have hs1 : Hid (stepA st (q, ix) = st.stop ix) := by unfold stepA; rw [h]; rfl
                            clear h
                            go_wp2_with fail
                            (with_reducible refine (pstop_any bs bs N st ix _ HP8.out hN1 HS8.out).mono ?_)
                            rintro e w9 ⟨rfl, hp9, hb9, hc9⟩
                            have HP9 := Flow.hide hp9
                            have HB9 := Flow.hide (HB8.out.trans (hb9.mono BB.out))
                            have HS9 : Hid (bs ≤ w9.heap.size) := Nat.le_trans HS8.out hb9.size
                            have HR9 := Flow.hide (Flow.ownsRow_chg HR8.out hc9 (not_row HR8.out (by decide)))
                            have KC9 := Flow.hide (KC8.out.chg hc9 (Foot.not KC8.out (by decide)))
                            clear hp9 hb9 hc9 cx8
                            go_wp2_with fail
                            go_meet
                            exact ⟨_, rfl, by rw [hs1.out]; exact HP9.out, HB9.out, HS9.out, HR9.out, KC9.out⟩
                        case rest =>
                          obtain ⟨u121, rfl, hp9, hb9, hs9, hr9, hc9⟩ := hcut
                          have HP9 := Flow.hide hp9
                          have HB9 := Flow.hide hb9
                          have HS9 := Flow.hide hs9
                          have HR9 := Flow.hide hr9
                          have rc := hc9.rg
                          have KC9 := Flow.hide hc9
                          clear hp9 hb9 hs9 hr9 hc9 HP8 HB8 HS8 HR8 KC8 cx8 HX8
                          have hk9 : ∀ x ∈ acts ++ [(q, ix)], x.1 = 1 ∨ x.1 = 2 ∨ x.1 = 3 ∨ x.1 = 4 := fun x hx => by
                            rcases List.mem_append.1 hx with hx | hx
                            · exact HKI.out x hx
                            · simp only [List.mem_cons, List.not_mem_nil, or_false] at hx
                              subst hx
                              exact HQB.out
                          have hbh := run_fair (acts ++ [(q, ix)]) m c1 c2 c3 hk9 g5
                          have HK9 := Flow.hide hk9
                          have hl9 : (acts ++ [(q, ix)]).length = i + 1 := by rw [List.length_append, HLA.out]; rfl
                          obtain ⟨fb, hfb⟩ : ∃ fb, (!refBad m c1 c2 c3 (acts ++ [(q, ix)])) = fb := ⟨_, rfl⟩
                          rw [HST.out] at hbh
                          have hfa : (stepA st (q, ix)).fair = fb := by unfold PSt.fair; rw [hbh]; exact hfb
                          have HFA := Flow.hide hfa
                          have HFB := Flow.hide hfb
                          have HL9 := Flow.hide hl9
                          clear hk9 hbh hl9 hfb hfa
                          have e1 : (fb != fb) = false := by cases fb <;> rfl
                          go_upto_region 21 with fail
                          refine Flow.wp_region_all (by kernel_rfl) (by kernel_rfl) ?_
                          repeat (first
                            | (refine Flow.wpSeg_step (fun K' hK' => ?_)
                               go_simp
                               first
                                 | (refine hK' _ ?_; clear hK' K')
                                 | (apply Exists.intro
                                    refine ⟨fun p => ?_, hK' _ ?_⟩
                                    (first | with_reducible exact (pfair_below bs bs (N + 1) _ fb _ (HP9.out.below (Flow.rg_below _ _)) HFA.out) | with_reducible exact (ref_is m c1 c2 c3 _ (i + 1) w.heap.size _ fb _ ⟨hm1, hm5⟩ g4 g6 (Flow.ownsRow_chg HR9.out (Flow.Chg.of_below (Flow.rg_below _ _)) (fun _ _ e => e)) HL9.out (by omega) HFB.out))
                                    clear hK' K')))
                          refine Flow.wpSeg_nil ?_
                          intro wz hbz
                          have HPZ := Flow.hide (HP9.out.below hbz)
                          have HBZ := Flow.hide (HB9.out.trans (hbz.mono HB9.out.size))
                          have HSZ : Hid (bs ≤ wz.heap.size) := Nat.le_trans HS9.out hbz.size
                          have HRZ := Flow.hide (Flow.ownsRow_chg HR9.out (Flow.Chg.of_below hbz) (fun _ _ e => e))
                          have KCZ := Flow.hide (KC9.out.below hbz)
                          clear hbz HP9 HB9 HS9 HR9 KC9 rc
                          go_wp2_with fail
                          go_roundw
                          case rel => exact ⟨i + 1, N + 1, acts ++ [(q, ix)], by omega, by omega, by rw [HN.out], HL9.out, by go_num, HK9.out, HRZ.out, HST.out ▸ HPZ.out, KCZ.out, HBZ.out, HSZ.out⟩
                          case measure => simp [intOf]; omega
                      · obtain rfl : i = 60 := by omega
                        go_wp2_with fail
                        (with_reducible refine (pask_no bs bs N _ 99 _ HP.out (by have := HP.out.head.1; omega)).mono ?_)
                        rintro e w4 ⟨rfl, rfl⟩
                        go_wp2_with fail
                        go_ret
                        exact ⟨rfl, HB.out⟩
                    · obtain rfl : i = len := by omega
                      go_wp2_with fail
                      (with_reducible refine (pask_no bs bs N _ 99 _ HP.out (by have := HP.out.head.1; omega)).mono ?_)
                      rintro e w4 ⟨rfl, rfl⟩
                      go_wp2_with fail
                      go_ret
                      exact ⟨rfl, HB.out⟩
                · have HBAD := Flow.hide (show ¬ ((1 ≤ c0 ∧ c0 ≤ 5) ∧ (1 ≤ c1 ∧ c1 ≤ 8) ∧ (1 ≤ c2 ∧ c2 ≤ 1000) ∧ (1 ≤ c3 ∧ c3 ≤ 1000)) by omega)
                  go_wp2_with fail
                  (with_reducible refine (pnew_no c0 c1 c2 c3 _ HBAD.out).mono ?_)
                  rintro e w3 ⟨rfl, rfl⟩
                  go_wp2_with fail
                  (with_reducible refine (pfair_nil _).mono ?_)
                  rintro e w3 ⟨rfl, rfl⟩
                  go_wp2_with fail
                  go_loopw [9] (fun t9 wr => t9 = .int .i64 0 ∧ wr = w2) (fun _ _ => 0)
                  case atStart => exact ⟨rfl, rfl⟩
                  case round =>
                    obtain ⟨rfl, rfl⟩ := hrel
                    go_wp2_with fail
                    (with_reducible refine (pask_nil 99 _).mono ?_)
                    rintro e w3 ⟨rfl, rfl⟩
                    go_wp2_with fail
                    go_ret
                    exact ⟨rfl, B2.out⟩
              · have HBAD := Flow.hide (show ¬ ((1 ≤ c0 ∧ c0 ≤ 5) ∧ (1 ≤ c1 ∧ c1 ≤ 8) ∧ (1 ≤ c2 ∧ c2 ≤ 1000) ∧ (1 ≤ c3 ∧ c3 ≤ 1000)) by omega)
                go_wp2_with fail
                (with_reducible refine (pnew_no c0 c1 c2 c3 _ HBAD.out).mono ?_)
                rintro e w3 ⟨rfl, rfl⟩
                go_wp2_with fail
                (with_reducible refine (pfair_nil _).mono ?_)
                rintro e w3 ⟨rfl, rfl⟩
                go_wp2_with fail
                go_loopw [9] (fun t9 wr => t9 = .int .i64 0 ∧ wr = w2) (fun _ _ => 0)
                case atStart => exact ⟨rfl, rfl⟩
                case round =>
                  obtain ⟨rfl, rfl⟩ := hrel
                  go_wp2_with fail
                  (with_reducible refine (pask_nil 99 _).mono ?_)
                  rintro e w3 ⟨rfl, rfl⟩
                  go_wp2_with fail
                  go_ret
                  exact ⟨rfl, B2.out⟩
            · have HBAD := Flow.hide (show ¬ ((1 ≤ c0 ∧ c0 ≤ 5) ∧ (1 ≤ c1 ∧ c1 ≤ 8) ∧ (1 ≤ c2 ∧ c2 ≤ 1000) ∧ (1 ≤ c3 ∧ c3 ≤ 1000)) by omega)
              go_wp2_with fail
              (with_reducible refine (pnew_no c0 c1 c2 c3 _ HBAD.out).mono ?_)
              rintro e w3 ⟨rfl, rfl⟩
              go_wp2_with fail
              (with_reducible refine (pfair_nil _).mono ?_)
              rintro e w3 ⟨rfl, rfl⟩
              go_wp2_with fail
              go_loopw [9] (fun t9 wr => t9 = .int .i64 0 ∧ wr = w2) (fun _ _ => 0)
              case atStart => exact ⟨rfl, rfl⟩
              case round =>
                obtain ⟨rfl, rfl⟩ := hrel
                go_wp2_with fail
                (with_reducible refine (pask_nil 99 _).mono ?_)
                rintro e w3 ⟨rfl, rfl⟩
                go_wp2_with fail
                go_ret
                exact ⟨rfl, B2.out⟩
          · have HBAD := Flow.hide (show ¬ ((1 ≤ c0 ∧ c0 ≤ 5) ∧ (1 ≤ c1 ∧ c1 ≤ 8) ∧ (1 ≤ c2 ∧ c2 ≤ 1000) ∧ (1 ≤ c3 ∧ c3 ≤ 1000)) by omega)
            go_wp2_with fail
            (with_reducible refine (pnew_no c0 c1 c2 c3 _ HBAD.out).mono ?_)
            rintro e w3 ⟨rfl, rfl⟩
            go_wp2_with fail
            (with_reducible refine (pfair_nil _).mono ?_)
            rintro e w3 ⟨rfl, rfl⟩
            go_wp2_with fail
            go_loopw [9] (fun t9 wr => t9 = .int .i64 0 ∧ wr = w2) (fun _ _ => 0)
            case atStart => exact ⟨rfl, rfl⟩
            case round =>
              obtain ⟨rfl, rfl⟩ := hrel
              go_wp2_with fail
              (with_reducible refine (pask_nil 99 _).mono ?_)
              rintro e w3 ⟨rfl, rfl⟩
              go_wp2_with fail
              go_ret
              exact ⟨rfl, B2.out⟩
        · have HBAD := Flow.hide (show ¬ ((1 ≤ c0 ∧ c0 ≤ 5) ∧ (1 ≤ c1 ∧ c1 ≤ 8) ∧ (1 ≤ c2 ∧ c2 ≤ 1000) ∧ (1 ≤ c3 ∧ c3 ≤ 1000)) by omega)
          go_wp2_with fail
          (with_reducible refine (pnew_no c0 c1 c2 c3 _ HBAD.out).mono ?_)
          rintro e w3 ⟨rfl, rfl⟩
          go_wp2_with fail
          (with_reducible refine (pfair_nil _).mono ?_)
          rintro e w3 ⟨rfl, rfl⟩
          go_wp2_with fail
          go_loopw [9] (fun t9 wr => t9 = .int .i64 0 ∧ wr = w2) (fun _ _ => 0)
          case atStart => exact ⟨rfl, rfl⟩
          case round =>
            obtain ⟨rfl, rfl⟩ := hrel
            go_wp2_with fail
            (with_reducible refine (pask_nil 99 _).mono ?_)
            rintro e w3 ⟨rfl, rfl⟩
            go_wp2_with fail
            go_ret
            exact ⟨rfl, B2.out⟩
      · have HBAD := Flow.hide (show ¬ ((1 ≤ c0 ∧ c0 ≤ 5) ∧ (1 ≤ c1 ∧ c1 ≤ 8) ∧ (1 ≤ c2 ∧ c2 ≤ 1000) ∧ (1 ≤ c3 ∧ c3 ≤ 1000)) by omega)
        go_wp2_with fail
        (with_reducible refine (pnew_no c0 c1 c2 c3 _ HBAD.out).mono ?_)
        rintro e w3 ⟨rfl, rfl⟩
        go_wp2_with fail
        (with_reducible refine (pfair_nil _).mono ?_)
        rintro e w3 ⟨rfl, rfl⟩
        go_wp2_with fail
        go_loopw [9] (fun t9 wr => t9 = .int .i64 0 ∧ wr = w2) (fun _ _ => 0)
        case atStart => exact ⟨rfl, rfl⟩
        case round =>
          obtain ⟨rfl, rfl⟩ := hrel
          go_wp2_with fail
          (with_reducible refine (pask_nil 99 _).mono ?_)
          rintro e w3 ⟨rfl, rfl⟩
          go_wp2_with fail
          go_ret
          exact ⟨rfl, B2.out⟩
    · have HBAD := Flow.hide (show ¬ ((1 ≤ c0 ∧ c0 ≤ 5) ∧ (1 ≤ c1 ∧ c1 ≤ 8) ∧ (1 ≤ c2 ∧ c2 ≤ 1000) ∧ (1 ≤ c3 ∧ c3 ≤ 1000)) by omega)
      go_wp2_with fail
      (with_reducible refine (pnew_no c0 c1 c2 c3 _ HBAD.out).mono ?_)
      rintro e w3 ⟨rfl, rfl⟩
      go_wp2_with fail
      (with_reducible refine (pfair_nil _).mono ?_)
      rintro e w3 ⟨rfl, rfl⟩
      go_wp2_with fail
      go_loopw [9] (fun t9 wr => t9 = .int .i64 0 ∧ wr = w2) (fun _ _ => 0)
      case atStart => exact ⟨rfl, rfl⟩
      case round =>
        obtain ⟨rfl, rfl⟩ := hrel
        go_wp2_with fail
        (with_reducible refine (pask_nil 99 _).mono ?_)
        rintro e w3 ⟨rfl, rfl⟩
        go_wp2_with fail
        go_ret
        exact ⟨rfl, B2.out⟩
  · have HBAD := Flow.hide (show ¬ ((1 ≤ c0 ∧ c0 ≤ 5) ∧ (1 ≤ c1 ∧ c1 ≤ 8) ∧ (1 ≤ c2 ∧ c2 ≤ 1000) ∧ (1 ≤ c3 ∧ c3 ≤ 1000)) by omega)
    go_wp2_with fail
    (with_reducible refine (pnew_no c0 c1 c2 c3 _ HBAD.out).mono ?_)
    rintro e w3 ⟨rfl, rfl⟩
    go_wp2_with fail
    (with_reducible refine (pfair_nil _).mono ?_)
    rintro e w3 ⟨rfl, rfl⟩
    go_wp2_with fail
    go_loopw [9] (fun t9 wr => t9 = .int .i64 0 ∧ wr = w2) (fun _ _ => 0)
    case atStart => exact ⟨rfl, rfl⟩
    case round =>
      obtain ⟨rfl, rfl⟩ := hrel
      go_wp2_with fail
      (with_reducible refine (pask_nil 99 _).mono ?_)
      rintro e w3 ⟨rfl, rfl⟩
      go_wp2_with fail
      go_ret
      exact ⟨rfl, B2.out⟩
theorem own : ownKnob Try.prog.godebug = none := by kernel_rfl
theorem laidOut : laidOutB Try.prog = true := by kernel_rfl

set_option maxRecDepth 100000 in
theorem lifted (os : Os) (started : os.Started) (H : Type) (enc : TypeId × Value → H) :
    ReturnsInHanded {} Try.checked os 12 .any (Rows.paceJudgesSpec.pre6 enc Try.prog Try.f12 Rows.paceJudgesRow.domain false) (Rows.paceJudgesSpec.post enc Try.prog Try.f12 false true false false) := by
  refine returnsInHanded_of_change (C := Try.checked) own started (by kernel_rfl) Try.func12
    (ChangeSpec.witness6 (enc := enc) (C := Try.checked) false ⟨#[], #[.agg #[.int .i64 0, .int .i64 0, .int .i64 0, .int .i64 0], .slice none 0 0], []⟩ 8 (by kernel_rfl) (by kernel_rfl) (by kernel_rfl) (by kernel_rfl)) ?_
  intro W base args ds gs before hval0 hW hcnd _
  have hval : ∀ (j : Nat) t v, Try.f12.params[j]? = some t → args[j]? = some v → Value.okWide Try.prog W .any base t v := hval0
  have hW' := hW
  obtain ⟨p, q, hA0, hV, rfl, hfz, hnd⟩ := hW
  have hA : DataW.TrodAll enc Try.prog W 0 (fun _ => true) true Try.f12.params.toList args.toList ds p := hA0
  rw [Try.params12] at hA hval
  obtain ⟨v0, v1, d0, d1, p0, p1, hargs, rfl, rfl, h0, h1⟩ := trodAll_two hA
  obtain ⟨rfl, rfl⟩ := trodVars_none hV
  subst hargs
  obtain ⟨cs0, rfl, hl0, r0⟩ := Open.open_agg 30 (ss := [.int .i64, .int .i64, .int .i64, .int .i64]) (.inl ⟨_, Try.underlying81⟩) (by kernel_rfl) (by kernel_rfl) (hval 0 81 v0 rfl rfl) h0
  obtain ⟨c0, e00, w00⟩ := r0.int 0 rfl
  obtain ⟨c1, e01, w01⟩ := r0.int 1 rfl
  obtain ⟨c2, e02, w02⟩ := r0.int 2 rfl
  obtain ⟨c3, e03, w03⟩ := r0.int 3 rfl
  have c0 : cs0 = [.int .i64 c0, .int .i64 c1, .int .i64 c2, .int .i64 c3] := Open.list4 hl0 e00 e01 e02 e03
  subst c0
  obtain ⟨A1, n1, cp1, rfl, hl1, _, hr1⟩ := Open.open_rows_arg 30 (ss := [.int .i64, .int .i64]) Try.underlying82 (by kernel_rfl) (by decide) (by kernel_rfl) (hval 1 82 v1 rfl rfl) h1
  obtain ⟨x1, hx1⟩ := acts_of hr1
  clear hA0 hval0
  refine (walk c0 c1 c2 c3 A1 n1 cp1 x1 W hl1 hx1).mono fun e W' ⟨he, hb⟩ => ?_
  subst he
  exact ⟨_, rfl, Open.law_post laidOut (by kernel_rfl) (by kernel_rfl) Try.underlying4 rfl rfl hW' hb⟩

theorem over : Rows.paceJudgesRow.holds Try.pinned (OpenSpec.ofChange Rows.paceJudgesSpec) :=
  OpenClaim.holds_of_wide 12 Try.f12 rfl rfl rfl rfl rfl rfl rfl ⟨rfl, rfl, rfl, rfl, rfl⟩ rfl rfl rfl rfl rfl (by kernel_rfl) Try.func12 (by kernel_rfl)
    (of_decide_eq_true (by kernel_rfl)) (by unfold Func.isWrapper; first | (rw [if_pos (by decide +kernel)]; kernel_rfl) | (rw [if_neg (by decide +kernel)]; exact ⟨rfl, rfl⟩))
    (fun os started H enc _ => lifted os started H enc)

theorem proved : Rows.PaceJudgesSaid := over
#print axioms proved
end Go.Proofs.Ythkphapmnlndbaa.PJudges
