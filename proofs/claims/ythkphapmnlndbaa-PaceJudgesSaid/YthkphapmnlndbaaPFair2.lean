/- talariaref08.Fair, walked. -/
import Derived.Test.YthkphapmnlndbaaPFair
namespace Go.Proofs.Ythkphapmnlndbaa
open Go.RowKit
set_option maxHeartbeats 4000000
set_option linter.unusedSimpArgs false
attribute [local irreducible] Flow.wpSeg Flow.wpF Flow.wpG Flow.wpS Flow.wpT Flow.wpK
def xsA (l : List (Int × Int)) : List Value := l.flatMap fun p => [.int .i64 p.1, .int .i64 p.2]
theorem xsA_length (l : List (Int × Int)) : (xsA l).length = l.length * 2 := by
  induction l with
  | nil => rfl
  | cons c l ih =>
    have : xsA (c :: l) = [Value.int .i64 c.1, Value.int .i64 c.2] ++ xsA l := rfl
    rw [this, List.length_append, ih]
    simp only [List.length_cons, List.length_nil]
    omega
theorem xsA_get (l : List (Int × Int)) (i : Nat) (c : Int × Int) (h : l[i]? = some c) : (xsA l)[i * 2]? = some (.int .i64 c.1) ∧ (xsA l)[i * 2 + 1]? = some (.int .i64 c.2) := by
  induction l generalizing i with
  | nil => cases h
  | cons d l ih =>
    have e : xsA (d :: l) = .int .i64 d.1 :: .int .i64 d.2 :: xsA l := rfl
    match i, h with
    | 0, h =>
      simp at h
      subst h
      rw [e]
      exact ⟨rfl, rfl⟩
    | i + 1, h =>
      rw [e, show (i + 1) * 2 = i * 2 + 1 + 1 by omega]
      simp only [List.getElem?_cons_succ]
      exact ih i (by simpa using h)
theorem xsA_snoc (l : List (Int × Int)) (c : Int × Int) : xsA (l ++ [c]) = xsA l ++ [.int .i64 c.1, .int .i64 c.2] := by simp [xsA]
theorem RowA.at_ {w : World} {B n : Nat} {v : Value} {l : List (Int × Int)} (h : w.ownsRow B 86 2 v n (xsA l)) (hl : l.length = n) {k : Nat} {c : Int × Int} (hc : l[k]? = some c) :
    ∃ g cap, v = .slice (some ⟨g, 0, none⟩) n cap ∧ g < w.heap.size ∧ k < n ∧ w.cell? ⟨g, k * 2, none⟩ = some (.int .i64 c.1) ∧ w.cell? ⟨g, k * 2 + 1, none⟩ = some (.int .i64 c.2) := by
  have hk : k < n := by rw [← hl]; exact (List.getElem?_eq_some_iff.1 hc).1
  obtain ⟨g, cap, rfl, hb, hlt, _, hcell, _⟩ := Flow.ownsRow_at h (by omega)
  obtain ⟨h1, h2⟩ := xsA_get l k c hc
  exact ⟨g, cap, rfl, hlt, hk, by rw [hcell _ (by omega), h1], by rw [hcell _ (by omega), h2]⟩
theorem make_ints1 (m : Nat) (hm : m ≤ 999) (w : World) : (Instr.makeSlice 116 (.int .i64 ((m : Int) + 1)) (.int .i64 ((m : Int) + 1))).run Try.prog w = .ok (.slice (some ⟨w.heap.size, 0, none⟩) (m + 1) (m + 1)) (w.alloc (.cells ((0 :: List.replicate m (0 : Int)).map (Value.int .i64)).toArray 3)) := make_ints (m + 1) (by omega) w
def Rest (m : Nat) (hold wait nd : Int) (l : List (Int × Int)) (k : Nat) (t : Int) (ms : List Int) (b : Bool) : Prop := scan m hold wait nd t ms (l.drop k) = b
theorem drop_at {l : List (Int × Int)} {k : Nat} {c : Int × Int} (h : l[k]? = some c) : l.drop k = c :: l.drop (k + 1) := by
  obtain ⟨h1, h2⟩ := List.getElem?_eq_some_iff.1 h
  rw [List.drop_eq_getElem_cons h1, h2]
theorem Rest.end_ {m : Nat} {hold wait nd t : Int} {l : List (Int × Int)} {k : Nat} {ms : List Int} {b : Bool} (h : Rest m hold wait nd l k t ms b) (hk : k = l.length) : b = true := by
  unfold Rest at h
  rw [← h, hk, List.drop_length]
  rfl
theorem Rest.late {m : Nat} {hold wait nd t : Int} {l : List (Int × Int)} {k : Nat} {ms : List Int} {b : Bool} (h : Rest m hold wait nd l k t ms b) (ht : ¬ t < hold) : b = true := by
  unfold Rest at h
  rw [← h]
  exact scan_late ht
theorem Rest.brk {m : Nat} {hold wait nd t : Int} {l : List (Int × Int)} {k : Nat} {ms : List Int} {b : Bool} {a i : Int} (h : Rest m hold wait nd l k t ms b) (hc : l[k]? = some (a, i)) (ht : t < hold) (ha : a = 4 ∧ i = nd) : b = true := by
  unfold Rest at h
  rw [drop_at hc, scan, if_neg (by omega), if_pos ha] at h
  exact h.symm
theorem Rest.bad_ {m : Nat} {hold wait nd t : Int} {l : List (Int × Int)} {k : Nat} {ms : List Int} {b : Bool} {a i c : Int} (h : Rest m hold wait nd l k t ms b) (hc : l[k]? = some (a, i)) (ht : t < hold) (ha : a = 1 ∧ 1 ≤ i ∧ i ≤ (m : Int)) (hg : ms.getD (i - 1).toNat 0 = c) (hw : wait ≤ c + 1) : b = false := by
  unfold Rest at h
  rw [drop_at hc, scan, if_neg (by omega), if_neg (by omega), if_pos ha, hg, if_pos hw] at h
  exact h.symm
theorem Rest.hit {m : Nat} {hold wait nd t : Int} {l : List (Int × Int)} {k : Nat} {ms : List Int} {b : Bool} {a i c : Int} (h : Rest m hold wait nd l k t ms b) (hc : l[k]? = some (a, i)) (ht : t < hold) (ha : a = 1 ∧ 1 ≤ i ∧ i ≤ (m : Int)) (hg : ms.getD (i - 1).toNat 0 = c) (hw : ¬ wait ≤ c + 1) : Rest m hold wait nd l (k + 1) t (ms.set (i - 1).toNat (c + 1)) b := by
  unfold Rest at h ⊢
  rw [drop_at hc, scan, if_neg (by omega), if_neg (by omega), if_pos ha, hg, if_neg hw] at h
  exact h
theorem Rest.tick {m : Nat} {hold wait nd t : Int} {l : List (Int × Int)} {k : Nat} {ms : List Int} {b : Bool} {a i : Int} (h : Rest m hold wait nd l k t ms b) (hc : l[k]? = some (a, i)) (ht : t < hold) (ha : a = 2 ∧ i = nd) : Rest m hold wait nd l (k + 1) (t + 1) ms b := by
  unfold Rest at h ⊢
  rw [drop_at hc, scan, if_neg (by omega), if_neg (by omega), if_neg (by omega), if_pos ha] at h
  exact h
theorem Rest.skip {m : Nat} {hold wait nd t : Int} {l : List (Int × Int)} {k : Nat} {ms : List Int} {b : Bool} {a i : Int} (h : Rest m hold wait nd l k t ms b) (hc : l[k]? = some (a, i)) (ht : t < hold) (h4 : ¬ (a = 4 ∧ i = nd)) (h1 : ¬ (a = 1 ∧ 1 ≤ i ∧ i ≤ (m : Int))) (h2 : ¬ (a = 2 ∧ i = nd)) : Rest m hold wait nd l (k + 1) t ms b := by
  unfold Rest at h ⊢
  rw [drop_at hc, scan, if_neg (by omega), if_neg h4, if_neg h1, if_neg h2] at h
  exact h
theorem refBad_skip {m : Nat} {n hold wait : Int} {l : List (Int × Int)} {k : Nat} {a i : Int} (hc : l[k]? = some (a, i)) (h : ¬ (a = 3 ∧ 1 ≤ i ∧ i ≤ n)) : refBad m n hold wait (l.drop k) = refBad m n hold wait (l.drop (k + 1)) := by
  rw [drop_at hc, refBad, decide_eq_false h, Bool.false_and, Bool.false_or]
theorem refBad_take {m : Nat} {n hold wait : Int} {l : List (Int × Int)} {k : Nat} {a i : Int} {b : Bool} (hc : l[k]? = some (a, i)) (h : a = 3 ∧ 1 ≤ i ∧ i ≤ n) (hr : Rest m hold wait i l (k + 1) 0 (List.replicate m 0) b) : refBad m n hold wait (l.drop k) = (!b || refBad m n hold wait (l.drop (k + 1))) := by
  unfold Rest at hr
  rw [drop_at hc, refBad, decide_eq_true h, Bool.true_and, hr]
set_option maxRecDepth 100000 in
theorem fair_ref (m : Nat) (n hold wait : Int) (v : Value) (len B : Nat) (l : List (Int × Int)) (w : World) (hm : 1 ≤ m ∧ m ≤ 5) (hn : n ≤ 8) (hh : hold ≤ 1000) (hr : w.ownsRow B 86 2 v len (xsA l)) (hl : l.length = len) (h60 : len ≤ 60) :
    Calls Try.prog 53 #[.int .i64 (m : Int), .int .i64 n, .int .i64 hold, .int .i64 wait, v] w fun e w' => e = .returned (.bool (!refBad m n hold wait l)) ∧ Below w.heap.size w w' := by
  obtain ⟨A, cap, hv, _⟩ := Flow.ownsRow_form hr
  subst hv
  have HR := Flow.hide hr
  have HL := Flow.hide hl
  obtain ⟨hm1, hm2⟩ := hm
  clear hr hl
  go_enter Try.func53, Try.ntmps53
  go_wp2_with fail
  go_loopw [11] (fun t11 wr => ∃ k : Nat, k ≤ len ∧ t11 = .int .i64 k ∧ refBad m n hold wait l = refBad m n hold wait (l.drop k) ∧ Below w.heap.size w wr) (fun t11 _ => len - (intOf t11).toNat)
  case atStart => exact ⟨0, by omega, rfl, rfl, Below.refl _ _⟩
  case round =>
    obtain ⟨k, hk, rfl, hrb, hb⟩ := hrel
    have HRB := Flow.hide hrb
    have HB := Flow.hide hb
    clear hrb hb
    by_cases hlt : k < len
    · have hkI : (k : Int) < (len : Int) := by omega
      obtain ⟨⟨a, i⟩, hc⟩ : ∃ c, l[k]? = some c := ⟨_, List.getElem?_eq_getElem (by rw [HL.out]; exact hlt)⟩
      obtain ⟨g, cap', e1, hg, _, y1, y2⟩ := RowA.at_ (Flow.ownsRow_chg HR.out (Flow.Chg.of_below HB.out) (fun _ _ e => e)) HL.out hc
      simp only [Value.slice.injEq] at e1
      obtain ⟨rfl, _, rfl⟩ := e1
      simp only at y1 y2
      have HC := Flow.hide hc
      clear hc
      by_cases hv : a = 3 ∧ 1 ≤ i ∧ i ≤ n
      · have HV := Flow.hide hv
        have ha3 : (a == 3) = true := by rw [hv.1]; rfl
        have ha3' : (a != 3) = false := by rw [hv.1]; rfl
        have hi1 : 1 ≤ i := hv.2.1
        have hi2 : i ≤ n := hv.2.2
        clear hv
        have hmk := make_ints1 m (by omega)
        go_upto_block 2 with fail
        clear hmk y1
        obtain ⟨b, hbr⟩ : ∃ b, Rest m hold wait i l (k + 1) 0 (List.replicate m 0) b := ⟨_, rfl⟩
        have HBR := Flow.hide hbr
        clear hbr
        obtain ⟨KT2, hh2, _⟩ := Flow.laid1 (w := wr) (w1 := wr.alloc (.cells (Value.int IntKind.i64 0 :: List.replicate m (Value.int IntKind.i64 0)).toArray 3)) (Below.refl _ _)
        have HB2 := Flow.hide (HB.out.trans (hh2.mono HB.out.size))
        have yi2 := (hh2.cell (p := ⟨g, k * 2 + 1, none⟩) hg).trans y2
        have htb : Hid (w.heap.size ≤ wr.heap.size) := HB.out.size
        revert KT2 HB2 yi2 htb
        clear hh2 y2
        generalize wr.alloc (.cells (Value.int IntKind.i64 0 :: List.replicate m (Value.int IntKind.i64 0)).toArray 3) = w2
        generalize wr.heap.size = tb
        intro KT2 HB2 yi2 htb
        have KT2' := Flow.hide KT2
        have YI2 := Flow.hide yi2
        clear KT2 yi2 ha3 ha3'
        go_wp2_with fail
        go_loopw [12, 14] (fun t12 t14 wq => ∃ (q : Nat) (t : Int) (ms : List Int), k + 1 ≤ q ∧ q ≤ len ∧ t14 = .int .i64 q ∧ t12 = .int .i64 t ∧ (0 ≤ t ∧ t ≤ q) ∧ ms.length = m ∧ (∀ c ∈ ms, 0 ≤ c ∧ c ≤ q) ∧ Rest m hold wait i l q t ms b ∧ Flow.Blk wq tb 3 ((0 :: ms).map (Value.int .i64)).toArray ∧ Below w.heap.size w wq) (fun _ t14 _ => len - (intOf t14).toNat)
        case atStart => exact ⟨k + 1, 0, List.replicate m 0, by omega, by omega, by go_num, rfl, by omega, List.length_replicate, fun c hc => by have := List.eq_of_mem_replicate hc; omega, HBR.out, by simpa using KT2'.out, HB2.out⟩
        case round =>
          obtain ⟨q, t, ms, hq1, hq2, rfl, rfl, ht, hms, hmc, hre, hkt, hbq⟩ := hrel
          rename World => wq
          have HMS := Flow.hide hms
          have HMC := Flow.hide hmc
          have HRE := Flow.hide hre
          have KTQ := Flow.hide hkt
          have HBQ := Flow.hide hbq
          obtain ⟨ht1, ht2⟩ := ht
          clear hms hmc hre hkt hbq
          by_cases hql : q < len
          · have hqlI : (q : Int) < (len : Int) := by omega
            by_cases hth : t < hold
            · obtain ⟨⟨a', i'⟩, hc'⟩ : ∃ c, l[q]? = some c := ⟨_, List.getElem?_eq_getElem (by rw [HL.out]; exact hql)⟩
              have hrow := Flow.ownsRow_chg HR.out (Flow.Chg.of_below HBQ.out) (fun _ _ e => e)
              obtain ⟨g1, cap1, e1, hgq, _, z1, z2⟩ := RowA.at_ hrow HL.out hc'
              obtain ⟨g2, cap2, e2, _, _, yi0, yi⟩ := RowA.at_ hrow HL.out HC.out
              simp only [Value.slice.injEq, Option.some.injEq, Addr.mk.injEq] at e1 e2
              obtain ⟨⟨rfl, _, _⟩, _, rfl⟩ := e1
              obtain ⟨⟨rfl, _, _⟩, _, rfl⟩ := e2
              clear yi0
              simp only at z1 z2 yi
              have HC' := Flow.hide hc'
              clear hc' hrow
              have hcase : a' = 4 ∨ a' = 2 ∨ a' = 1 ∨ (a' ≠ 4 ∧ a' ≠ 2 ∧ a' ≠ 1) := by omega
              rcases hcase with h | h | h | ⟨n4, n2, n1⟩
              · have b4 : (a' == 4) = true := by rw [h]; rfl
                have b2 : (a' == 2) = false := by rw [h]; rfl
                have b1 : (a' == 1) = false := by rw [h]; rfl
                have HA := Flow.hide h
                clear h
                by_cases hi : i' = i
                · have bi : (i' == i) = true := by rw [hi]; exact beq_self_eq_true _
                  have HBT := Flow.hide (HRE.out.brk HC'.out hth ⟨HA.out, hi⟩)
                  clear hi
                  go_upto_region 11 with fail
                  obtain ⟨K3, hh3, _⟩ := Flow.laid1 (w := wq) (w1 := wq.alloc (.cells #[.int .i64 a', .int .i64 i'] 86)) (Below.refl _ _)
                  have B3 := Flow.hide (HBQ.out.trans (hh3.mono HBQ.out.size))
                  have KT3 := Flow.hide (KTQ.out.below hh3)
                  have yi3 := Flow.hide ((hh3.cell (p := ⟨g, k * 2 + 1, none⟩) hgq).trans yi)
                  have hg3 := Nat.lt_of_lt_of_le hgq hh3.size
                  revert K3 B3 KT3 yi3 hg3
                  clear hh3 z1 z2
                  generalize wq.alloc (.cells #[.int .i64 a', .int .i64 i'] 86) = w3
                  generalize wq.heap.size = b3
                  intro K3 B3 KT3 yi3 hg3
                  have r1 := K3.rg
                  have ry : ∀ p : Flow.Rg, (Flow.rg w3 p).cell? ⟨g, k * 2 + 1, none⟩ = some (.int .i64 i) := fun p => ((Flow.rg_below w3 p).cell (p := ⟨g, k * 2 + 1, none⟩) hg3).trans yi3.out
                  have K3' := Flow.hide K3
                  clear K3
                  refine Flow.wp_region_all (by kernel_rfl) (by kernel_rfl) ?_
                  repeat (first
                    | (refine Flow.wpSeg_step (fun K' hK' => ?_)
                       go_simp
                       first
                         | (refine hK' _ ?_; clear hK' K')
                         | (apply Exists.intro
                            refine ⟨fun p => ?_, hK' _ ?_⟩
                            (first | fail)
                            clear hK' K')))
                  refine Flow.wpSeg_nil ?_
                  intro w4 hb4
                  have B4 := Flow.hide (B3.out.trans (hb4.mono B3.out.size))
                  clear r1 ry
                  clear hb4 KT3 yi3 hg3 B3 K3'
                  go_wp2_with fail
                  go_roundw
                  case rel =>
                    refine ⟨k + 1, by omega, by go_num, ?_, B4.out⟩
                    rw [HRB.out, refBad_take HC.out HV.out HBR.out, HBT.out]
                    rfl
                  case measure => simp [intOf]; omega
                · have bi : (i' == i) = false := by simpa using hi
                  have HS := Flow.hide (HRE.out.skip HC'.out hth (fun e => hi e.2) (fun e => by have := HA.out; omega) (fun e => hi e.2))
                  clear hi
                  go_upto_region 11 with fail
                  obtain ⟨K3, hh3, _⟩ := Flow.laid1 (w := wq) (w1 := wq.alloc (.cells #[.int .i64 a', .int .i64 i'] 86)) (Below.refl _ _)
                  have B3 := Flow.hide (HBQ.out.trans (hh3.mono HBQ.out.size))
                  have KT3 := Flow.hide (KTQ.out.below hh3)
                  have yi3 := Flow.hide ((hh3.cell (p := ⟨g, k * 2 + 1, none⟩) hgq).trans yi)
                  have hg3 := Nat.lt_of_lt_of_le hgq hh3.size
                  revert K3 B3 KT3 yi3 hg3
                  clear hh3 z1 z2
                  generalize wq.alloc (.cells #[.int .i64 a', .int .i64 i'] 86) = w3
                  generalize wq.heap.size = b3
                  intro K3 B3 KT3 yi3 hg3
                  have r1 := K3.rg
                  have ry : ∀ p : Flow.Rg, (Flow.rg w3 p).cell? ⟨g, k * 2 + 1, none⟩ = some (.int .i64 i) := fun p => ((Flow.rg_below w3 p).cell (p := ⟨g, k * 2 + 1, none⟩) hg3).trans yi3.out
                  have K3' := Flow.hide K3
                  clear K3
                  refine Flow.wp_region_all (by kernel_rfl) (by kernel_rfl) ?_
                  repeat (first
                    | (refine Flow.wpSeg_step (fun K' hK' => ?_)
                       go_simp
                       first
                         | (refine hK' _ ?_; clear hK' K')
                         | (apply Exists.intro
                            refine ⟨fun p => ?_, hK' _ ?_⟩
                            (first | fail)
                            clear hK' K')))
                  refine Flow.wpSeg_nil ?_
                  intro w4 hb4
                  have B4 := Flow.hide (B3.out.trans (hb4.mono B3.out.size))
                  clear r1 ry
                  have K4 := Flow.hide (K3'.out.below hb4)
                  have KT4 := Flow.hide (KT3.out.below hb4)
                  have yi4 := Flow.hide ((hb4.cell (p := ⟨g, k * 2 + 1, none⟩) hg3).trans yi3.out)
                  have hg4 := Nat.lt_of_lt_of_le hg3 hb4.size
                  clear hb4 KT3 yi3 hg3 B3 K3'
                  go_upto_region 12 with fail
                  have r1 := K4.out.rg
                  have ry : ∀ p : Flow.Rg, (Flow.rg w4 p).cell? ⟨g, k * 2 + 1, none⟩ = some (.int .i64 i) := fun p => ((Flow.rg_below w4 p).cell (p := ⟨g, k * 2 + 1, none⟩) hg4).trans yi4.out
                  refine Flow.wp_region_all (by kernel_rfl) (by kernel_rfl) ?_
                  repeat (first
                    | (refine Flow.wpSeg_step (fun K' hK' => ?_)
                       go_simp
                       first
                         | (refine hK' _ ?_; clear hK' K')
                         | (apply Exists.intro
                            refine ⟨fun p => ?_, hK' _ ?_⟩
                            (first | fail)
                            clear hK' K')))
                  refine Flow.wpSeg_nil ?_
                  intro w5 hb5
                  have B5 := Flow.hide (B4.out.trans (hb5.mono B4.out.size))
                  have K5 := Flow.hide (K4.out.below hb5)
                  have KT5 := Flow.hide (KT4.out.below hb5)
                  clear hb5 KT4 yi4 hg4 B4 K4 r1 ry
                  have c5 := K5.out.cell
                  go_wp2_with fail
                  go_roundw
                  case rel => exact ⟨q + 1, t, ms, by omega, by omega, by go_num, rfl, by omega, HMS.out, fun c hc => by have := HMC.out c hc; omega, HS.out, KT5.out, B5.out⟩
                  case measure => simp [intOf]; omega
              · have b4 : (a' == 4) = false := by rw [h]; rfl
                have b2 : (a' == 2) = true := by rw [h]; rfl
                have b1 : (a' == 1) = false := by rw [h]; rfl
                have HA := Flow.hide h
                clear h
                by_cases hi : i' = i
                · have bi : (i' == i) = true := by rw [hi]; exact beq_self_eq_true _
                  have HS := Flow.hide (HRE.out.tick HC'.out hth ⟨HA.out, hi⟩)
                  clear hi
                  go_upto_region 11 with fail
                  obtain ⟨K3, hh3, _⟩ := Flow.laid1 (w := wq) (w1 := wq.alloc (.cells #[.int .i64 a', .int .i64 i'] 86)) (Below.refl _ _)
                  have B3 := Flow.hide (HBQ.out.trans (hh3.mono HBQ.out.size))
                  have KT3 := Flow.hide (KTQ.out.below hh3)
                  have yi3 := Flow.hide ((hh3.cell (p := ⟨g, k * 2 + 1, none⟩) hgq).trans yi)
                  have hg3 := Nat.lt_of_lt_of_le hgq hh3.size
                  revert K3 B3 KT3 yi3 hg3
                  clear hh3 z1 z2
                  generalize wq.alloc (.cells #[.int .i64 a', .int .i64 i'] 86) = w3
                  generalize wq.heap.size = b3
                  intro K3 B3 KT3 yi3 hg3
                  have r1 := K3.rg
                  have ry : ∀ p : Flow.Rg, (Flow.rg w3 p).cell? ⟨g, k * 2 + 1, none⟩ = some (.int .i64 i) := fun p => ((Flow.rg_below w3 p).cell (p := ⟨g, k * 2 + 1, none⟩) hg3).trans yi3.out
                  have K3' := Flow.hide K3
                  clear K3
                  refine Flow.wp_region_all (by kernel_rfl) (by kernel_rfl) ?_
                  repeat (first
                    | (refine Flow.wpSeg_step (fun K' hK' => ?_)
                       go_simp
                       first
                         | (refine hK' _ ?_; clear hK' K')
                         | (apply Exists.intro
                            refine ⟨fun p => ?_, hK' _ ?_⟩
                            (first | fail)
                            clear hK' K')))
                  refine Flow.wpSeg_nil ?_
                  intro w4 hb4
                  have B4 := Flow.hide (B3.out.trans (hb4.mono B3.out.size))
                  clear r1 ry
                  have K4 := Flow.hide (K3'.out.below hb4)
                  have KT4 := Flow.hide (KT3.out.below hb4)
                  have yi4 := Flow.hide ((hb4.cell (p := ⟨g, k * 2 + 1, none⟩) hg3).trans yi3.out)
                  have hg4 := Nat.lt_of_lt_of_le hg3 hb4.size
                  clear hb4 KT3 yi3 hg3 B3 K3'
                  go_upto_region 12 with fail
                  have r1 := K4.out.rg
                  have ry : ∀ p : Flow.Rg, (Flow.rg w4 p).cell? ⟨g, k * 2 + 1, none⟩ = some (.int .i64 i) := fun p => ((Flow.rg_below w4 p).cell (p := ⟨g, k * 2 + 1, none⟩) hg4).trans yi4.out
                  refine Flow.wp_region_all (by kernel_rfl) (by kernel_rfl) ?_
                  repeat (first
                    | (refine Flow.wpSeg_step (fun K' hK' => ?_)
                       go_simp
                       first
                         | (refine hK' _ ?_; clear hK' K')
                         | (apply Exists.intro
                            refine ⟨fun p => ?_, hK' _ ?_⟩
                            (first | fail)
                            clear hK' K')))
                  refine Flow.wpSeg_nil ?_
                  intro w5 hb5
                  have B5 := Flow.hide (B4.out.trans (hb5.mono B4.out.size))
                  have K5 := Flow.hide (K4.out.below hb5)
                  have KT5 := Flow.hide (KT4.out.below hb5)
                  clear hb5 KT4 yi4 hg4 B4 K4 r1 ry
                  have c5 := K5.out.cell
                  go_wp2_with fail
                  go_roundw
                  case rel => exact ⟨q + 1, (t + 1), ms, by omega, by omega, by go_num, rfl, by omega, HMS.out, fun c hc => by have := HMC.out c hc; omega, HS.out, KT5.out, B5.out⟩
                  case measure => simp [intOf]; omega
                · have bi : (i' == i) = false := by simpa using hi
                  have HS := Flow.hide (HRE.out.skip HC'.out hth (fun e => hi e.2) (fun e => by have := HA.out; omega) (fun e => hi e.2))
                  clear hi
                  go_upto_region 11 with fail
                  obtain ⟨K3, hh3, _⟩ := Flow.laid1 (w := wq) (w1 := wq.alloc (.cells #[.int .i64 a', .int .i64 i'] 86)) (Below.refl _ _)
                  have B3 := Flow.hide (HBQ.out.trans (hh3.mono HBQ.out.size))
                  have KT3 := Flow.hide (KTQ.out.below hh3)
                  have yi3 := Flow.hide ((hh3.cell (p := ⟨g, k * 2 + 1, none⟩) hgq).trans yi)
                  have hg3 := Nat.lt_of_lt_of_le hgq hh3.size
                  revert K3 B3 KT3 yi3 hg3
                  clear hh3 z1 z2
                  generalize wq.alloc (.cells #[.int .i64 a', .int .i64 i'] 86) = w3
                  generalize wq.heap.size = b3
                  intro K3 B3 KT3 yi3 hg3
                  have r1 := K3.rg
                  have ry : ∀ p : Flow.Rg, (Flow.rg w3 p).cell? ⟨g, k * 2 + 1, none⟩ = some (.int .i64 i) := fun p => ((Flow.rg_below w3 p).cell (p := ⟨g, k * 2 + 1, none⟩) hg3).trans yi3.out
                  have K3' := Flow.hide K3
                  clear K3
                  refine Flow.wp_region_all (by kernel_rfl) (by kernel_rfl) ?_
                  repeat (first
                    | (refine Flow.wpSeg_step (fun K' hK' => ?_)
                       go_simp
                       first
                         | (refine hK' _ ?_; clear hK' K')
                         | (apply Exists.intro
                            refine ⟨fun p => ?_, hK' _ ?_⟩
                            (first | fail)
                            clear hK' K')))
                  refine Flow.wpSeg_nil ?_
                  intro w4 hb4
                  have B4 := Flow.hide (B3.out.trans (hb4.mono B3.out.size))
                  clear r1 ry
                  have K4 := Flow.hide (K3'.out.below hb4)
                  have KT4 := Flow.hide (KT3.out.below hb4)
                  have yi4 := Flow.hide ((hb4.cell (p := ⟨g, k * 2 + 1, none⟩) hg3).trans yi3.out)
                  have hg4 := Nat.lt_of_lt_of_le hg3 hb4.size
                  clear hb4 KT3 yi3 hg3 B3 K3'
                  go_upto_region 12 with fail
                  have r1 := K4.out.rg
                  have ry : ∀ p : Flow.Rg, (Flow.rg w4 p).cell? ⟨g, k * 2 + 1, none⟩ = some (.int .i64 i) := fun p => ((Flow.rg_below w4 p).cell (p := ⟨g, k * 2 + 1, none⟩) hg4).trans yi4.out
                  refine Flow.wp_region_all (by kernel_rfl) (by kernel_rfl) ?_
                  repeat (first
                    | (refine Flow.wpSeg_step (fun K' hK' => ?_)
                       go_simp
                       first
                         | (refine hK' _ ?_; clear hK' K')
                         | (apply Exists.intro
                            refine ⟨fun p => ?_, hK' _ ?_⟩
                            (first | fail)
                            clear hK' K')))
                  refine Flow.wpSeg_nil ?_
                  intro w5 hb5
                  have B5 := Flow.hide (B4.out.trans (hb5.mono B4.out.size))
                  have K5 := Flow.hide (K4.out.below hb5)
                  have KT5 := Flow.hide (KT4.out.below hb5)
                  clear hb5 KT4 yi4 hg4 B4 K4 r1 ry
                  have c5 := K5.out.cell
                  go_wp2_with fail
                  go_roundw
                  case rel => exact ⟨q + 1, t, ms, by omega, by omega, by go_num, rfl, by omega, HMS.out, fun c hc => by have := HMC.out c hc; omega, HS.out, KT5.out, B5.out⟩
                  case measure => simp [intOf]; omega
              · have b4 : (a' == 4) = false := by rw [h]; rfl
                have b2 : (a' == 2) = false := by rw [h]; rfl
                have b1 : (a' == 1) = true := by rw [h]; rfl
                have HA := Flow.hide h
                clear h
                by_cases hi : 1 ≤ i' ∧ i' ≤ (m : Int)
                · obtain ⟨ii, rfl⟩ : ∃ ii : Nat, i' = (ii : Int) + 1 := ⟨(i' - 1).toNat, by omega⟩
                  have hii : ii < m := by omega
                  have hiiI : (ii : Int) + 1 ≤ (m : Int) := by omega
                  have hiiJ : (ii : Int) < (m : Int) := by omega
                  have hi1' : 1 ≤ (ii : Int) + 1 := by omega
                  have htn : ((ii : Int) + 1 - 1).toNat = ii := by omega
                  obtain ⟨c, hc⟩ : ∃ c, ms[ii]? = some c := ⟨_, List.getElem?_eq_getElem (by rw [HMS.out]; exact hii)⟩
                  have hcb := HMC.out c (List.mem_of_getElem? hc)
                  have hcb1 : 0 ≤ c := hcb.1
                  have hcb2 : c ≤ 100 := by omega
                  have HG := Flow.hide (show ms.getD ((ii : Int) + 1 - 1).toNat 0 = c by rw [htn, List.getD_eq_getElem?_getD, hc]; rfl)
                  have HCM := Flow.hide hc
                  have HTN := Flow.hide htn
                  have HII := Flow.hide hi
                  clear hc hcb htn hi
                  go_upto_region 11 with fail
                  obtain ⟨K3, hh3, _⟩ := Flow.laid1 (w := wq) (w1 := wq.alloc (.cells #[.int .i64 a', .int .i64 ((ii : Int) + 1)] 86)) (Below.refl _ _)
                  have B3 := Flow.hide (HBQ.out.trans (hh3.mono HBQ.out.size))
                  have KT3 := Flow.hide (KTQ.out.below hh3)
                  have yi3 := Flow.hide ((hh3.cell (p := ⟨g, k * 2 + 1, none⟩) hgq).trans yi)
                  have hg3 := Nat.lt_of_lt_of_le hgq hh3.size
                  revert K3 B3 KT3 yi3 hg3
                  clear hh3 z1 z2
                  generalize wq.alloc (.cells #[.int .i64 a', .int .i64 ((ii : Int) + 1)] 86) = w3
                  generalize wq.heap.size = b3
                  intro K3 B3 KT3 yi3 hg3
                  have r1 := K3.rg
                  have ry : ∀ p : Flow.Rg, (Flow.rg w3 p).cell? ⟨g, k * 2 + 1, none⟩ = some (.int .i64 i) := fun p => ((Flow.rg_below w3 p).cell (p := ⟨g, k * 2 + 1, none⟩) hg3).trans yi3.out
                  have K3' := Flow.hide K3
                  clear K3
                  refine Flow.wp_region_all (by kernel_rfl) (by kernel_rfl) ?_
                  repeat (first
                    | (refine Flow.wpSeg_step (fun K' hK' => ?_)
                       go_simp
                       first
                         | (refine hK' _ ?_; clear hK' K')
                         | (apply Exists.intro
                            refine ⟨fun p => ?_, hK' _ ?_⟩
                            (first | fail)
                            clear hK' K')))
                  refine Flow.wpSeg_nil ?_
                  intro w4 hb4
                  have B4 := Flow.hide (B3.out.trans (hb4.mono B3.out.size))
                  clear r1 ry
                  have K4 := Flow.hide (K3'.out.below hb4)
                  have KT4 := Flow.hide (KT3.out.below hb4)
                  have yi4 := Flow.hide ((hb4.cell (p := ⟨g, k * 2 + 1, none⟩) hg3).trans yi3.out)
                  have hg4 := Nat.lt_of_lt_of_le hg3 hb4.size
                  clear hb4 KT3 yi3 hg3 B3 K3'
                  go_upto_region 12 with fail
                  have r1 := K4.out.rg
                  have ry : ∀ p : Flow.Rg, (Flow.rg w4 p).cell? ⟨g, k * 2 + 1, none⟩ = some (.int .i64 i) := fun p => ((Flow.rg_below w4 p).cell (p := ⟨g, k * 2 + 1, none⟩) hg4).trans yi4.out
                  refine Flow.wp_region_all (by kernel_rfl) (by kernel_rfl) ?_
                  repeat (first
                    | (refine Flow.wpSeg_step (fun K' hK' => ?_)
                       go_simp
                       first
                         | (refine hK' _ ?_; clear hK' K')
                         | (apply Exists.intro
                            refine ⟨fun p => ?_, hK' _ ?_⟩
                            (first | fail)
                            clear hK' K')))
                  refine Flow.wpSeg_nil ?_
                  intro w5 hb5
                  have B5 := Flow.hide (B4.out.trans (hb5.mono B4.out.size))
                  have K5 := Flow.hide (K4.out.below hb5)
                  have KT5 := Flow.hide (KT4.out.below hb5)
                  clear hb5 KT4 yi4 hg4 B4 K4 r1 ry
                  have c5 := K5.out.cell
                  have cm : w5.cell? ⟨tb, ii + 1, none⟩ = some (.int .i64 c) := by
                    rw [KT5.out.cell]
                    simp [HCM.out]
                  have fm := KT5.out.frozen (ii + 1)
                  have lm := KT5.out.lt
                  go_upto_region 16 with fail
                  have C6 := Flow.Chg.setAt w5 tb (ii + 1) (.int .i64 (c + 1))
                  have K6 := K5.out.chg C6 (K5.out.ne_type KT5.out (by decide))
                  have KT6 := Flow.Blk.set_is KT5.out (ii + 1) (.int .i64 (c + 1)) (cs' := ((0 :: ms.set ii (c + 1)).map (Value.int .i64)).toArray) (by simp [List.map_set])
                  have B6 := Flow.hide (B5.out.trans (C6.below (B := w.heap.size) (fun j _ e => by subst e; exact htb.out) B5.out.size))
                  have cm6 : (w5.setCell ⟨tb, ii + 1, none⟩ (.int .i64 (c + 1))).cell? ⟨tb, ii + 1, none⟩ = some (.int .i64 (c + 1)) := by
                    have hl' : ii < ms.length := by rw [HMS.out]; exact hii
                    rw [KT6.cell]
                    simp [hl']
                  revert K6 KT6 B6 cm6
                  clear C6 cm fm lm c5
                  generalize w5.setCell ⟨tb, ii + 1, none⟩ (.int .i64 (c + 1)) = w6
                  intro K6 KT6 B6 cm6
                  have c6 := K6.cell
                  have KT6' := Flow.hide KT6
                  clear K6 KT6 K5 KT5 B5
                  by_cases hwc : wait ≤ c + 1
                  · have HBF := Flow.hide (HRE.out.bad_ HC'.out hth ⟨HA.out, HII.out⟩ HG.out hwc)
                    go_wp2_with fail
                    go_ret
                    refine ⟨?_, B6.out⟩
                    have h1 : refBad m n hold wait l = true := by
                      rw [HRB.out, refBad_take HC.out HV.out HBR.out, HBF.out]
                      rfl
                    rw [h1]
                    rfl
                  · have HS := HRE.out.hit HC'.out hth ⟨HA.out, HII.out⟩ HG.out hwc
                    rw [HTN.out] at HS
                    have HS' := Flow.hide HS
                    clear HS
                    go_wp2_with fail
                    go_roundw
                    case rel =>
                      refine ⟨q + 1, t, ms.set ii (c + 1), by omega, by omega, by go_num, rfl, by omega, by rw [List.length_set]; exact HMS.out, fun d hd => ?_, HS'.out, KT6'.out, B6.out⟩
                      rcases List.mem_or_eq_of_mem_set hd with hd | rfl
                      · have := HMC.out d hd; omega
                      · have := HMC.out c (List.mem_of_getElem? HCM.out); omega
                    case measure => simp [intOf]; omega
                · have HS := Flow.hide (HRE.out.skip HC'.out hth (fun e => by have := HA.out; omega) (fun e => hi e.2) (fun e => by have := HA.out; omega))
                  by_cases hlo : 1 ≤ i'
                  · have hhi : ¬ i' ≤ (m : Int) := fun e => hi ⟨hlo, e⟩
                    clear hi
                    go_upto_region 11 with fail
                    obtain ⟨K3, hh3, _⟩ := Flow.laid1 (w := wq) (w1 := wq.alloc (.cells #[.int .i64 a', .int .i64 i'] 86)) (Below.refl _ _)
                    have B3 := Flow.hide (HBQ.out.trans (hh3.mono HBQ.out.size))
                    have KT3 := Flow.hide (KTQ.out.below hh3)
                    have yi3 := Flow.hide ((hh3.cell (p := ⟨g, k * 2 + 1, none⟩) hgq).trans yi)
                    have hg3 := Nat.lt_of_lt_of_le hgq hh3.size
                    revert K3 B3 KT3 yi3 hg3
                    clear hh3 z1 z2
                    generalize wq.alloc (.cells #[.int .i64 a', .int .i64 i'] 86) = w3
                    generalize wq.heap.size = b3
                    intro K3 B3 KT3 yi3 hg3
                    have r1 := K3.rg
                    have ry : ∀ p : Flow.Rg, (Flow.rg w3 p).cell? ⟨g, k * 2 + 1, none⟩ = some (.int .i64 i) := fun p => ((Flow.rg_below w3 p).cell (p := ⟨g, k * 2 + 1, none⟩) hg3).trans yi3.out
                    have K3' := Flow.hide K3
                    clear K3
                    refine Flow.wp_region_all (by kernel_rfl) (by kernel_rfl) ?_
                    repeat (first
                      | (refine Flow.wpSeg_step (fun K' hK' => ?_)
                         go_simp
                         first
                           | (refine hK' _ ?_; clear hK' K')
                           | (apply Exists.intro
                              refine ⟨fun p => ?_, hK' _ ?_⟩
                              (first | fail)
                              clear hK' K')))
                    refine Flow.wpSeg_nil ?_
                    intro w4 hb4
                    have B4 := Flow.hide (B3.out.trans (hb4.mono B3.out.size))
                    clear r1 ry
                    have K4 := Flow.hide (K3'.out.below hb4)
                    have KT4 := Flow.hide (KT3.out.below hb4)
                    have yi4 := Flow.hide ((hb4.cell (p := ⟨g, k * 2 + 1, none⟩) hg3).trans yi3.out)
                    have hg4 := Nat.lt_of_lt_of_le hg3 hb4.size
                    clear hb4 KT3 yi3 hg3 B3 K3'
                    go_upto_region 12 with fail
                    have r1 := K4.out.rg
                    have ry : ∀ p : Flow.Rg, (Flow.rg w4 p).cell? ⟨g, k * 2 + 1, none⟩ = some (.int .i64 i) := fun p => ((Flow.rg_below w4 p).cell (p := ⟨g, k * 2 + 1, none⟩) hg4).trans yi4.out
                    refine Flow.wp_region_all (by kernel_rfl) (by kernel_rfl) ?_
                    repeat (first
                      | (refine Flow.wpSeg_step (fun K' hK' => ?_)
                         go_simp
                         first
                           | (refine hK' _ ?_; clear hK' K')
                           | (apply Exists.intro
                              refine ⟨fun p => ?_, hK' _ ?_⟩
                              (first | fail)
                              clear hK' K')))
                    refine Flow.wpSeg_nil ?_
                    intro w5 hb5
                    have B5 := Flow.hide (B4.out.trans (hb5.mono B4.out.size))
                    have K5 := Flow.hide (K4.out.below hb5)
                    have KT5 := Flow.hide (KT4.out.below hb5)
                    clear hb5 KT4 yi4 hg4 B4 K4 r1 ry
                    have c5 := K5.out.cell
                    go_wp2_with fail
                    go_roundw
                    case rel => exact ⟨q + 1, t, ms, by omega, by omega, by go_num, rfl, by omega, HMS.out, fun c hc => by have := HMC.out c hc; omega, HS.out, KT5.out, B5.out⟩
                    case measure => simp [intOf]; omega
                  · clear hi
                    go_upto_region 11 with fail
                    obtain ⟨K3, hh3, _⟩ := Flow.laid1 (w := wq) (w1 := wq.alloc (.cells #[.int .i64 a', .int .i64 i'] 86)) (Below.refl _ _)
                    have B3 := Flow.hide (HBQ.out.trans (hh3.mono HBQ.out.size))
                    have KT3 := Flow.hide (KTQ.out.below hh3)
                    have yi3 := Flow.hide ((hh3.cell (p := ⟨g, k * 2 + 1, none⟩) hgq).trans yi)
                    have hg3 := Nat.lt_of_lt_of_le hgq hh3.size
                    revert K3 B3 KT3 yi3 hg3
                    clear hh3 z1 z2
                    generalize wq.alloc (.cells #[.int .i64 a', .int .i64 i'] 86) = w3
                    generalize wq.heap.size = b3
                    intro K3 B3 KT3 yi3 hg3
                    have r1 := K3.rg
                    have ry : ∀ p : Flow.Rg, (Flow.rg w3 p).cell? ⟨g, k * 2 + 1, none⟩ = some (.int .i64 i) := fun p => ((Flow.rg_below w3 p).cell (p := ⟨g, k * 2 + 1, none⟩) hg3).trans yi3.out
                    have K3' := Flow.hide K3
                    clear K3
                    refine Flow.wp_region_all (by kernel_rfl) (by kernel_rfl) ?_
                    repeat (first
                      | (refine Flow.wpSeg_step (fun K' hK' => ?_)
                         go_simp
                         first
                           | (refine hK' _ ?_; clear hK' K')
                           | (apply Exists.intro
                              refine ⟨fun p => ?_, hK' _ ?_⟩
                              (first | fail)
                              clear hK' K')))
                    refine Flow.wpSeg_nil ?_
                    intro w4 hb4
                    have B4 := Flow.hide (B3.out.trans (hb4.mono B3.out.size))
                    clear r1 ry
                    have K4 := Flow.hide (K3'.out.below hb4)
                    have KT4 := Flow.hide (KT3.out.below hb4)
                    have yi4 := Flow.hide ((hb4.cell (p := ⟨g, k * 2 + 1, none⟩) hg3).trans yi3.out)
                    have hg4 := Nat.lt_of_lt_of_le hg3 hb4.size
                    clear hb4 KT3 yi3 hg3 B3 K3'
                    go_upto_region 12 with fail
                    have r1 := K4.out.rg
                    have ry : ∀ p : Flow.Rg, (Flow.rg w4 p).cell? ⟨g, k * 2 + 1, none⟩ = some (.int .i64 i) := fun p => ((Flow.rg_below w4 p).cell (p := ⟨g, k * 2 + 1, none⟩) hg4).trans yi4.out
                    refine Flow.wp_region_all (by kernel_rfl) (by kernel_rfl) ?_
                    repeat (first
                      | (refine Flow.wpSeg_step (fun K' hK' => ?_)
                         go_simp
                         first
                           | (refine hK' _ ?_; clear hK' K')
                           | (apply Exists.intro
                              refine ⟨fun p => ?_, hK' _ ?_⟩
                              (first | fail)
                              clear hK' K')))
                    refine Flow.wpSeg_nil ?_
                    intro w5 hb5
                    have B5 := Flow.hide (B4.out.trans (hb5.mono B4.out.size))
                    have K5 := Flow.hide (K4.out.below hb5)
                    have KT5 := Flow.hide (KT4.out.below hb5)
                    clear hb5 KT4 yi4 hg4 B4 K4 r1 ry
                    have c5 := K5.out.cell
                    go_wp2_with fail
                    go_roundw
                    case rel => exact ⟨q + 1, t, ms, by omega, by omega, by go_num, rfl, by omega, HMS.out, fun c hc => by have := HMC.out c hc; omega, HS.out, KT5.out, B5.out⟩
                    case measure => simp [intOf]; omega
              · have b4 : (a' == 4) = false := by simpa using n4
                have b2 : (a' == 2) = false := by simpa using n2
                have b1 : (a' == 1) = false := by simpa using n1
                have HS := Flow.hide (HRE.out.skip HC'.out hth (fun e => n4 e.1) (fun e => n1 e.1) (fun e => n2 e.1))
                clear n4 n2 n1
                go_upto_region 11 with fail
                obtain ⟨K3, hh3, _⟩ := Flow.laid1 (w := wq) (w1 := wq.alloc (.cells #[.int .i64 a', .int .i64 i'] 86)) (Below.refl _ _)
                have B3 := Flow.hide (HBQ.out.trans (hh3.mono HBQ.out.size))
                have KT3 := Flow.hide (KTQ.out.below hh3)
                have yi3 := Flow.hide ((hh3.cell (p := ⟨g, k * 2 + 1, none⟩) hgq).trans yi)
                have hg3 := Nat.lt_of_lt_of_le hgq hh3.size
                revert K3 B3 KT3 yi3 hg3
                clear hh3 z1 z2
                generalize wq.alloc (.cells #[.int .i64 a', .int .i64 i'] 86) = w3
                generalize wq.heap.size = b3
                intro K3 B3 KT3 yi3 hg3
                have r1 := K3.rg
                have ry : ∀ p : Flow.Rg, (Flow.rg w3 p).cell? ⟨g, k * 2 + 1, none⟩ = some (.int .i64 i) := fun p => ((Flow.rg_below w3 p).cell (p := ⟨g, k * 2 + 1, none⟩) hg3).trans yi3.out
                have K3' := Flow.hide K3
                clear K3
                refine Flow.wp_region_all (by kernel_rfl) (by kernel_rfl) ?_
                repeat (first
                  | (refine Flow.wpSeg_step (fun K' hK' => ?_)
                     go_simp
                     first
                       | (refine hK' _ ?_; clear hK' K')
                       | (apply Exists.intro
                          refine ⟨fun p => ?_, hK' _ ?_⟩
                          (first | fail)
                          clear hK' K')))
                refine Flow.wpSeg_nil ?_
                intro w4 hb4
                have B4 := Flow.hide (B3.out.trans (hb4.mono B3.out.size))
                clear r1 ry
                have K4 := Flow.hide (K3'.out.below hb4)
                have KT4 := Flow.hide (KT3.out.below hb4)
                have yi4 := Flow.hide ((hb4.cell (p := ⟨g, k * 2 + 1, none⟩) hg3).trans yi3.out)
                have hg4 := Nat.lt_of_lt_of_le hg3 hb4.size
                clear hb4 KT3 yi3 hg3 B3 K3'
                go_upto_region 12 with fail
                have r1 := K4.out.rg
                have ry : ∀ p : Flow.Rg, (Flow.rg w4 p).cell? ⟨g, k * 2 + 1, none⟩ = some (.int .i64 i) := fun p => ((Flow.rg_below w4 p).cell (p := ⟨g, k * 2 + 1, none⟩) hg4).trans yi4.out
                refine Flow.wp_region_all (by kernel_rfl) (by kernel_rfl) ?_
                repeat (first
                  | (refine Flow.wpSeg_step (fun K' hK' => ?_)
                     go_simp
                     first
                       | (refine hK' _ ?_; clear hK' K')
                       | (apply Exists.intro
                          refine ⟨fun p => ?_, hK' _ ?_⟩
                          (first | fail)
                          clear hK' K')))
                refine Flow.wpSeg_nil ?_
                intro w5 hb5
                have B5 := Flow.hide (B4.out.trans (hb5.mono B4.out.size))
                have K5 := Flow.hide (K4.out.below hb5)
                have KT5 := Flow.hide (KT4.out.below hb5)
                clear hb5 KT4 yi4 hg4 B4 K4 r1 ry
                have c5 := K5.out.cell
                go_wp2_with fail
                go_roundw
                case rel => exact ⟨q + 1, t, ms, by omega, by omega, by go_num, rfl, by omega, HMS.out, fun c hc => by have := HMC.out c hc; omega, HS.out, KT5.out, B5.out⟩
                case measure => simp [intOf]; omega
            · have HBT := Flow.hide (HRE.out.late hth)
              go_wp2_with fail
              go_roundw
              case rel =>
                refine ⟨k + 1, by omega, by go_num, ?_, HBQ.out⟩
                rw [HRB.out, refBad_take HC.out HV.out HBR.out, HBT.out]
                rfl
              case measure => simp [intOf]; omega
          · have hbt : b = true := HRE.out.end_ (by rw [HL.out]; omega)
            have HBT := Flow.hide hbt
            clear hbt
            have hqI : ¬ (q : Int) < (len : Int) := by omega
            go_wp2_with fail
            go_roundw
            case rel =>
              refine ⟨k + 1, by omega, by go_num, ?_, HBQ.out⟩
              rw [HRB.out, refBad_take HC.out HV.out HBR.out, HBT.out]
              rfl
            case measure => simp [intOf]; omega
      · have hsk : Hid (refBad m n hold wait l = refBad m n hold wait (l.drop (k + 1))) := HRB.out.trans (refBad_skip HC.out hv)
        by_cases h3 : a = 3
        · have ha3 : (a == 3) = true := by rw [h3]; rfl
          have ha3' : (a != 3) = false := by rw [h3]; rfl
          by_cases hi1 : 1 ≤ i
          · have hi2 : ¬ i ≤ n := fun e => hv ⟨h3, hi1, e⟩
            have hi3 : n < i := by omega
            clear hv h3
            go_wp2_with fail
            go_roundw
            case rel => exact ⟨k + 1, by omega, by go_num, hsk.out, HB.out⟩
            case measure => simp [intOf]; omega
          · have hi3 : i < 1 := by omega
            clear hv h3
            go_wp2_with fail
            go_roundw
            case rel => exact ⟨k + 1, by omega, by go_num, hsk.out, HB.out⟩
            case measure => simp [intOf]; omega
        · have ha3 : (a == 3) = false := by simpa using h3
          have ha3' : (a != 3) = true := by simpa using h3
          clear hv h3
          go_wp2_with fail
          go_roundw
          case rel => exact ⟨k + 1, by omega, by go_num, hsk.out, HB.out⟩
          case measure => simp [intOf]; omega
    · obtain rfl : k = len := by omega
      have hf : Hid (refBad m n hold wait l = false) := by
        have h1 := HRB.out
        rw [← HL.out, List.drop_length] at h1
        exact h1
      go_wp2_with fail
      go_ret
      exact ⟨by rw [hf.out]; rfl, HB.out⟩
end Go.Proofs.Ythkphapmnlndbaa
