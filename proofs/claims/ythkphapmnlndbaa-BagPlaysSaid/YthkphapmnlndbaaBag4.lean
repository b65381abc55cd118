/- Package bag: the document's Spoil; the statements' first helper. -/
import Derived.Test.YthkphapmnlndbaaBag3
namespace Go.Proofs.Ythkphapmnlndbaa
open Go.RowKit CrcPlain
set_option maxHeartbeats 1600000
set_option linter.unusedSimpArgs false
attribute [local irreducible] Flow.wpSeg Flow.wpF Flow.wpG Flow.wpS Flow.wpT Flow.wpK
theorem rspoil_no (v : Value) (n B : Nat) (l : List Th) (i at_ b : Int) (w : World) (hrow : w.ownsRow B 45 3 v n (xsT l)) (hi : ¬ (0 ≤ i ∧ i < n)) :
    Calls Try.prog 29 #[v, .int .i64 i, .int .i64 at_, .int .u32 b] w fun e w' => e = .returned (.tuple #[v, .bool false]) ∧ w = w' := by
  obtain ⟨A, cap, hv, _⟩ := Flow.ownsRow_form hrow
  subst hv
  clear hrow
  by_cases h0 : i < 0
  · clear hi
    go_enter Try.func29, Try.ntmps29
    go_wp2_with fail
    go_ret2
    exact ⟨rfl, rfl⟩
  · have h0' : 0 ≤ i := by omega
    have h1 : (n : Int) ≤ i := by omega
    clear hi
    go_enter Try.func29, Try.ntmps29
    go_wp2_with fail
    go_ret2
    exact ⟨rfl, rfl⟩
theorem rspoil_spoilt (v : Value) (n B i : Nat) (l : List Th) (c : Th) (at_ b : Int) (w : World) (hrow : w.ownsRow B 45 3 v n (xsT l)) (hl : l.length = n) (hc : l[i]? = some c) (hsp : c.sp = true) :
    Calls Try.prog 29 #[v, .int .i64 (i : Int), .int .i64 at_, .int .u32 b] w fun e w' => e = .returned (.tuple #[v, .bool false]) ∧ w = w' := by
  obtain ⟨g, cap, hv, hBg, hg, hin, y0, y1, y2⟩ := RowT.at_ hrow hl hc
  subst hv
  rw [hsp] at y2
  have hiI : (i : Int) < (n : Int) := by omega
  clear hrow hl hc hsp
  go_enter Try.func29, Try.ntmps29
  go_wp2_with fail
  go_ret2
  exact ⟨rfl, rfl⟩
/-- All of one row put behind an empty one. -/
theorem append_things {w : World} {base B n g cp c : Nat} {v : Value} {l : List Th} (h : w.ownsRow base 45 3 v 0 []) (hs : w.ownsRow B 45 3 (.slice (some ⟨g, 0, none⟩) n cp) n (xsT l)) (hn : n ≤ 1000) (hb : base ≤ w.heap.size) :
    ∃ v' w', (Builtin.append_ #[39, 39] 39 #[v, .slice (some ⟨g, 0, none⟩) n c]).run Try.prog w = .ok v' w' ∧ w'.ownsRow base 45 3 v' n (xsT l) ∧ Flow.Chg (fun j => some j = v.ownBlock) w w' := by
  obtain ⟨i0, hi, hz0, hz1, hz2⟩ := info_parts info45
  have hcell := hs.cells (g := g) rfl
  obtain ⟨v', w', hr, ho, hg, _⟩ := run_append_own (P := Try.prog) w base 39 39 45 i0 _ 3 32 Try.underlying39 hi hz0 hz1 hz2 rfl (by decide) v 0 _ h ⟨g, 0, none⟩ n c (xsT l) hs.1 hcell (xsT_one _) (by unfold maxLen; omega) (by omega) hb
  exact ⟨v', w', hr, by simpa using ho, Flow.Chg.of_grown hg⟩
theorem own_empty45 (w : World) : (w.alloc (.cells #[] 45)).ownsRow w.heap.size 45 3 (.slice (some ⟨w.heap.size, 0, none⟩) 0 0) 0 [] :=
  ⟨by simp, .inr ⟨w.heap.size, 0, #[], rfl, Nat.le_refl _, Flow.Blk.new _ _ _, Nat.le_refl _, Nat.zero_le _, by simp, by simp⟩⟩
theorem xsT_put (l : List Th) (i : Nat) (c d : Th) (h : l[i]? = some c) : (((xsT l).set (i * 3) (.int .u8 d.to)).set (i * 3 + 1) (.string d.text)).set (i * 3 + 2) (.bool d.sp) = xsT (l.set i d) := by
  induction l generalizing i with
  | nil => cases h
  | cons x l ih =>
    match i, h with
    | 0, h => rfl
    | i + 1, h =>
      have e : xsT (x :: l) = .int .u8 x.to :: .string x.text :: .bool x.sp :: xsT l := rfl
      have e2 : xsT ((x :: l).set (i + 1) d) = .int .u8 x.to :: .string x.text :: .bool x.sp :: xsT (l.set i d) := rfl
      rw [e, e2, ← ih i (by simpa using h), show (i + 1) * 3 = i * 3 + 1 + 1 + 1 by omega]
      rw [show i * 3 + 1 + 1 + 1 + 1 = (i * 3 + 1) + 1 + 1 + 1 by omega, show i * 3 + 1 + 1 + 1 + 2 = (i * 3 + 2) + 1 + 1 + 1 by omega]
      simp only [List.set_cons_succ]
set_option maxRecDepth 20000 in
theorem rspoil_yes (v : Value) (n B i : Nat) (l : List Th) (c : Th) (at_ : Int) (b : Nat) (w : World) (hrow : w.ownsRow B 45 3 v n (xsT l)) (hl : l.length = n) (hn : n ≤ 1000) (hc : l[i]? = some c) (hsp : c.sp = false) (hz : c.text.size ≤ 1004) (ha : -9223372036854775808 ≤ at_ ∧ at_ ≤ 9223372036854775807) (hbb : b < 4294967296) :
    Calls Try.prog 29 #[v, .int .i64 (i : Int), .int .i64 at_, .int .u32 (b : Int)] w fun e w' => (∃ v', e = .returned (.tuple #[v', .bool true]) ∧ w'.ownsRow w.heap.size 45 3 v' n (xsT (l.set i (c.turn at_ b)))) ∧ Below w.heap.size w w' := by
  obtain ⟨g, cap, hv, hBg, hg, hin, y0, y1, y2⟩ := RowT.at_ hrow hl hc
  subst hv
  rw [hsp] at y2
  have HR := Flow.hide hrow
  have HL := Flow.hide hl
  have HC := Flow.hide hc
  have HA := Flow.hide ha
  have HBB := Flow.hide hbb
  have HZ := Flow.hide hz
  have hiI : (i : Int) < (n : Int) := by omega
  obtain ⟨w1, hw1⟩ : ∃ w1, w1 = w.alloc (.cells #[] 45) := ⟨_, rfl⟩
  have B1 : Below w.heap.size w w1 := by rw [hw1]; exact Flow.below_alloc _ _
  have E1 : w1.ownsRow w.heap.size 45 3 (.slice (some ⟨w.heap.size, 0, none⟩) 0 0) 0 [] := by rw [hw1]; exact own_empty45 w
  obtain ⟨v2, w2, hr2, ho2, hc2⟩ := append_things (c := cap) E1 (Flow.ownsRow_chg hrow (Flow.Chg.of_below B1) (fun _ _ e => e)) hn B1.size
  obtain ⟨g2, cap2, rfl, hBg2, hg2, _, hcell2, hfr2⟩ := Flow.ownsRow_at ho2 (by omega)
  have B2 := B1.trans (hc2.below (B := w.heap.size) (fun j _ e => by simp [Value.ownBlock] at e; omega) B1.size)
  obtain ⟨g3, cap3, e3, _, hg3, _, z0, z1, z2⟩ := RowT.at_ (Flow.ownsRow_chg hrow (Flow.Chg.of_below B2) (fun _ _ e => e)) hl hc
  simp only [Value.slice.injEq, Option.some.injEq, Addr.mk.injEq] at e3
  obtain ⟨⟨rfl, _, _⟩, _, rfl⟩ := e3
  have HR2 := Flow.hide hr2
  have HO2 := Flow.hide ho2
  have HB2 := Flow.hide B2
  rw [hw1] at HR2
  have HG2 := Flow.hide hBg2
  have hgg := Flow.hide (show g ≠ g2 by omega)
  clear hrow hl hc hsp ha hbb hz hw1 B1 E1 hr2 ho2 hc2 hcell2 hfr2 B2
  go_enter Try.func29, Try.ntmps29
  go_upto_region 4 with (at_builtin; refine Flow.wpList_append_run _ _ 39 rfl rfl rfl rfl HR2.out ?_)
  clear HR2 y0 y1 y2
  obtain ⟨CS, hCS⟩ : ∃ C : World → Prop, C = fun w' => Below w2.heap.size w2 w' := ⟨_, rfl⟩
  obtain ⟨CW, hCW⟩ : ∃ C : World → Prop, C = fun _ => True := ⟨_, rfl⟩
  have uS : ∀ w', CS w' → Below w2.heap.size w2 w' := by rw [hCS]; exact fun _ h => h
  have r0 : ∀ (p : Flow.Wd CS), p.w.cell? ⟨g, i * 3, none⟩ = some (.int .u8 c.to) := fun p => ((uS p.w p.ok).cell (p := ⟨g, i * 3, none⟩) hg3).trans z0
  have r1 : ∀ (p : Flow.Wd CS), p.w.cell? ⟨g, i * 3 + 1, none⟩ = some (.string c.text) := fun p => ((uS p.w p.ok).cell (p := ⟨g, i * 3 + 1, none⟩) hg3).trans z1
  have hS : ∀ w', Below w2.heap.size w2 w' → CS w' := by rw [hCS]; exact fun _ h => h
  have hSW : ∀ w', CS w' → CW w' := by rw [hCW]; exact fun _ _ => True.intro
  have hcS : ∀ w1 w2, CS w1 → Below w1.heap.size w1 w2 → CS w2 := by rw [hCS]; exact fun _ _ h k => h.trans (k.mono h.size)
  have hW : ∀ w1 w2, CW w1 → Below w1.heap.size w1 w2 → CW w2 := by rw [hCW]; exact fun _ _ _ _ => True.intro
  have uW : ∀ w', CW w' := by rw [hCW]; exact fun _ => True.intro
  have ne1 : Nonempty (Flow.Wd CS) := ⟨⟨_, hS _ (Below.refl _ _)⟩⟩
  have ne2 : Nonempty (Flow.Wd CW) := ⟨⟨w2, uW _⟩⟩
  clear hCS hCW
  refine Flow.wp_region_switch 17 CS CW [0, 1, 2, 3, 4, 5, 6, 7, 8, 9, 10, 11, 12, 13, 14, 15, 16] [17] (by kernel_rfl) (by kernel_rfl) hS hSW hcS hW ?_
  dsimp only [Flow.pickIdx, List.getElem?_cons_zero, List.getElem?_cons_succ]
  iterate 17 (
      (refine Flow.wpS_strong (by kernel_rfl) (fun K' hK' => ?_)
       go_simp
       first
         | (refine hK' _ ?_; clear hK' K')
         | (apply Exists.intro
            refine ⟨fun p => ?_, hK' _ ?_⟩
            (first | with_reducible exact (rturn_is c.text at_ b _ HZ.out HA.out HBB.out))
            clear hK' K')))
  refine Flow.wpS_nil ?_
  clear r0 r1
  intro w3 hb3
  have R3 := Flow.ownsRow_chg HO2.out (Flow.Chg.of_below hb3) (fun _ _ e => e)
  have B3 := HB2.out.trans (hb3.mono HB2.out.size)
  obtain ⟨g4, cap4, e4, _, hg4, _, q0, q1, q2⟩ := RowT.at_ R3 HL.out HC.out
  simp only [Value.slice.injEq, Option.some.injEq, Addr.mk.injEq] at e4
  obtain ⟨⟨rfl, _, _⟩, _, rfl⟩ := e4
  have f3 := R3.frozenAt
  refine Flow.wpK_at rfl rfl ?_
  go_simp
  refine ⟨uW _, fun w4 hb4 => Flow.wpK_nil ?_⟩
  obtain ⟨s1, t1⟩ := R3.stored (i * 3) (.int .u8 c.to)
  obtain ⟨s2, t2⟩ := s1.stored (i * 3 + 1) (.string (turnTo c.text at_ b))
  obtain ⟨s3, t3⟩ := s2.stored (i * 3 + 2) (.bool true)
  have C4 := ((Flow.Chg.of_grown1 t1).trans (Flow.Chg.of_grown1 t2) (fun _ _ e => e)).trans (Flow.Chg.of_grown1 t3) (fun _ _ e => e)
  have hx := xsT_put l i c (c.turn at_ b) HC.out
  simp only [Th.turn] at hx
  rw [hx] at s3
  obtain ⟨w5, hw5⟩ : ∃ w5, w5 = (((w3.setCell ⟨g2, i * 3, none⟩ (.int .u8 c.to)).setCell ⟨g2, i * 3 + 1, none⟩ (.string (turnTo c.text at_ b))).setCell ⟨g2, i * 3 + 2, none⟩ (.bool true)) := ⟨_, rfl⟩
  rw [← hw5] at s3 C4 hb4
  have z5 : w5.heap.size = w3.heap.size := by rw [hw5]; simp
  have hb4' : Below w5.heap.size w5 w4 := by rw [z5]; exact hb4
  have R4 := Flow.hide (Flow.ownsRow_chg s3 (Flow.Chg.of_below hb4') (fun _ _ e => e))
  have B4 := Flow.hide ((B3.trans (C4.below (B := w.heap.size) (fun j _ e => by rw [e]; exact HG2.out) B3.size)).trans (hb4'.mono (by rw [z5]; exact B3.size)))
  clear hb3 R3 B3 q0 q1 q2 f3 s1 t1 s2 t2 s3 t3 C4 hx hw5 z5 hb4 hb4' uS hS hSW hcS hW uW ne1 ne2 CS CW
  go_wp2_with fail
  go_ret2
  exact ⟨⟨_, rfl, R4.out⟩, B4.out⟩
theorem btake_is (g B : Nat) (room : Int) (l : List Th) (j : Int) (i : Nat) (c : Th) (w : World) (hj : j = i) (hq : IsBag w B g room l) (hc : l[i]? = some c) (h9 : l.length ≤ 1000) (hB : B ≤ w.heap.size) :
    Calls Try.prog 25 #[.pointer (some ⟨g, 0, none⟩), .int .i64 j] w fun e w' => e = .returned (.tuple #[.int .u8 c.to, .string c.text, .bool true]) ∧ IsBag w' B g room (l.eraseIdx i) ∧ Below B w w' ∧ Flow.Chg (BF w) w w' := by
  subst hj; exact btake_yes g B room l i c w hq hc h9 hB
theorem first0 : firstT [⟨2, ⟨#[98]⟩, false⟩] 2 0 := .inl ⟨0, rfl, ⟨_, rfl, rfl⟩, fun j c h => by omega⟩
theorem speaks07 (w : World) : Calls Try.prog 23 #[] w fun e w' => e = .returned (.bool true) ∧ Below w.heap.size w w' := by
  go_enter Try.func23, Try.ntmps23
  go_wp2_with fail
  (with_reducible refine (bnew_any 2 2 _ (by decide)).mono ?_)
  rintro e w1 ⟨rfl, h1, hb1⟩
  have H1 := Flow.hide h1
  have B1 := Flow.hide hb1
  clear h1 hb1
  go_wp2_with fail
  (with_reducible refine (bput_yes _ _ 2 [] 1 ⟨#[97]⟩ _ H1.out (by decide) (by decide) B1.out.size).mono ?_)
  rintro e w2 ⟨rfl, h2, hb2, _⟩
  have H2 := Flow.hide h2
  have B2 := Flow.hide (B1.out.trans hb2)
  clear h2 hb2 H1 B1
  go_wp2_with fail
  (with_reducible refine (bput_yes _ _ 2 _ 2 ⟨#[98]⟩ _ H2.out (by decide) (by decide) B2.out.size).mono ?_)
  rintro e w3 ⟨rfl, h3, hb3, _⟩
  have H3 := Flow.hide h3
  have B3 := Flow.hide (B2.out.trans hb3)
  clear h3 hb3 H2 B2
  go_wp2_with fail
  (with_reducible refine (bput_no _ _ 2 _ 3 ⟨#[99]⟩ _ H3.out (by decide)).mono ?_)
  rintro e w4 ⟨rfl, hb4⟩
  have H4 := Flow.hide (H3.out.below hb4)
  have B4 := Flow.hide (B3.out.trans (hb4.mono B3.out.size))
  clear hb4 H3 B3
  go_wp2_with fail
  (with_reducible refine (btake_is _ _ 2 _ 0 0 ⟨1, ⟨#[97]⟩, false⟩ _ rfl H4.out rfl (by decide) B4.out.size).mono ?_)
  rintro e w5 ⟨rfl, h5, hb5, _⟩
  have H5 : Hid (IsBag w5 w.heap.size w.heap.size 2 [⟨2, ⟨#[98]⟩, false⟩]) := h5
  have B5 := Flow.hide (B4.out.trans hb5)
  clear h5 hb5 H4 B4
  go_wp2_with fail
  (with_reducible refine (bfirst_any _ _ 2 _ 2 0 _ H5.out (by decide) first0).mono ?_)
  rintro e w6 ⟨rfl, hb6⟩
  have H6 := Flow.hide (H5.out.below hb6)
  have B6 := Flow.hide (B5.out.trans (hb6.mono B5.out.size))
  clear hb6 H5 B5
  go_wp2_with fail
  (with_reducible refine (blen_any _ _ 2 _ _ H6.out).mono ?_)
  rintro e w7 ⟨rfl, rfl⟩
  go_wp2_with fail
  go_ret
  exact ⟨rfl, B6.out⟩
end Go.Proofs.Ythkphapmnlndbaa
