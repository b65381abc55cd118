/- The contracts of package pace: Node, Stop. -/
import Derived.Test.YthkphapmnlndbaaPace3
namespace Go.Proofs.Ythkphapmnlndbaa
open Go.RowKit
set_option maxHeartbeats 800000
set_option linter.unusedSimpArgs false
attribute [local irreducible] Flow.wpSeg Flow.wpF Flow.wpG Flow.wpS Flow.wpT Flow.wpK
def PSt.node (st : PSt) (i : Int) : PSt := { st with sp := (st.sp.map (upN i)).filter (fun p => !dlN st.hold p) }
def PSt.stop (st : PSt) (i : Int) : PSt := { st with sp := st.sp.filter (fun p => !dlS i p) }
theorem map_left (up : PS → PS) (dl : PS → Bool) (l : List Sp) : ((l.map (upS up)).filter (fun s => !dl s.p)).map (·.p) = ((l.map (·.p)).map up).filter (fun p => !dl p) := by
  induction l with
  | nil => rfl
  | cons s l ih =>
    simp only [List.map_cons, List.filter_cons]
    have e : (upS up s).p = up s.p := rfl
    rw [e]
    rcases dl (up s.p) with _ | _
    · simp only [Bool.not_false, if_true, List.map_cons, ih]; rfl
    · simpa using ih
theorem PBnd.node {N : Nat} {st : PSt} (h : PBnd N st) (i : Int) : PBnd (N + 1) (st.node i) := by
  refine ⟨h.m, h.n, h.hold, h.wait, ?_, fun p hp => ?_⟩
  · refine Nat.le_trans (List.length_filter_le _ _) ?_
    rw [List.length_map]
    exact Nat.le_trans h.len (by omega)
  · obtain ⟨q, hq, rfl⟩ := List.mem_map.1 (List.mem_filter.1 hp).1
    obtain ⟨h1, h2, h3⟩ := h.sp q hq
    unfold upN
    split
    · exact ⟨h1, by simp only []; omega, fun c hc => by have := h3 c hc; omega⟩
    · exact ⟨h1, by omega, fun c hc => by have := h3 c hc; omega⟩
theorem PBnd.more {N : Nat} {st : PSt} (h : PBnd N st) : PBnd (N + 1) st :=
  ⟨h.m, h.n, h.hold, h.wait, by have := h.len; omega, fun p hp => by
    obtain ⟨h1, h2, h3⟩ := h.sp p hp
    exact ⟨h1, by omega, fun c hc => by have := h3 c hc; omega⟩⟩
theorem PBnd.stop {N : Nat} {st : PSt} (h : PBnd N st) (i : Int) : PBnd (N + 1) (st.stop i) :=
  ⟨h.m, h.n, h.hold, h.wait, Nat.le_trans (List.length_filter_le _ _) (by have := h.len; omega), fun p hp => h.more.sp p (List.mem_filter.1 hp).1⟩
theorem pnode_any (g B N : Nat) (st : PSt) (i : Int) (w : World) (h : IsPace w B g N st) (hN : N < 100000) (hB : B ≤ w.heap.size) :
    Calls Try.prog 47 #[.pointer (some ⟨g, 0, none⟩), .int .i64 i] w fun e w' => e = .returned (.tuple #[]) ∧ IsPace w' B g (N + 1) (st.node i) ∧ Below B w w' ∧ Flow.Chg (Foot w) w w' := by
  obtain ⟨v, l, h1, h2, h3, h4, h5, h6⟩ := h
  have hll : l.length ≤ 1000000 := by have := congrArg List.length h4; rw [List.length_map] at this; have := h6.len; omega
  have htk : ∀ s ∈ l, 0 ≤ s.p.ticks ∧ s.p.ticks ≤ 1000000 := fun s hs => by
    have := (h6.sp s.p (by rw [← h4]; exact List.mem_map.2 ⟨s, hs, rfl⟩)).2.1
    omega
  have hft : Hid (∀ w', Flow.Chg (fun j => some j = v.ownBlock ∨ Tch l j) w w' → Flow.Chg (Foot w) w w') := fun w' hc => hc.mono (fun j _ e => e.elim (Foot.row h2) (Foot.tch h3))
  have hfb : Hid (∀ j, j < w.heap.size → (some j = v.ownBlock ∨ Tch l j ∨ j = g) → B ≤ j) := fun j _ e => by
    rcases e with e | ⟨s, hs, rfl⟩ | rfl
    · exact (h2.lt j e.symm).1
    · exact (h3.all s hs).lo
    · exact h5
  have hfg : Hid (Foot w g) := ⟨_, _, h1, .inl rfl⟩
  have HLL := Flow.hide hll
  have HTK := Flow.hide htk
  have H4 := Flow.hide h4
  have H5 := Flow.hide h5
  have H6 := Flow.hide h6
  clear hll htk h4 h5 h6
  simp only [PSt.cells] at h1
  obtain ⟨w1, hw1⟩ : ∃ w1, w1 = (w.alloc (.cells #[.pointer (some ⟨g, 0, none⟩)] 75)).alloc (.cells #[.int .i64 i] 3) := ⟨_, rfl⟩
  obtain ⟨kp, ki, hb1, hz1⟩ := Flow.laid2 (w := w) (t0 := 75) (t1 := 3) (c0 := #[.pointer (some ⟨g, 0, none⟩)]) (c1 := #[.int .i64 i]) (w1 := w1) (by rw [hw1]; exact Below.refl _ _)
  have K1 := h1.below hb1
  have R1 := Flow.hide (Flow.ownsRow_chg h2 (Flow.Chg.of_below hb1) (fun _ _ e => e))
  have S1 := Flow.hide (h3.below hb1)
  have HB1 := Flow.hide hb1
  clear h1 h2 h3 hb1 hz1
  go_enter Try.func47, Try.ntmps47
  go_upto_region 2 with fail
  rw [← hw1]
  clear hw1
  revert kp ki
  generalize w.heap.size + 1 = ib
  generalize hpb : w.heap.size = pb
  intro kp ki
  have HPB := Flow.hide hpb
  clear hpb
  obtain ⟨CS, hCS⟩ : ∃ C : World → Prop, C = fun w' => EnvN w' g ib pb st.m st.n st.hold st.wait i v st.bh := ⟨_, rfl⟩
  obtain ⟨CW, hCW⟩ : ∃ C : World → Prop, C = fun _ => True := ⟨_, rfl⟩
  have kS : ∀ w', EnvN w' g ib pb st.m st.n st.hold st.wait i v st.bh → CS w' := by rw [hCS]; exact fun _ a => a
  have r1 : ∀ (p : Flow.Wd CS) (j : Nat), p.w.cell? ⟨g, j, none⟩ = (#[.int .i64 (st.m : Int), .int .i64 st.n, .int .i64 st.hold, .int .i64 st.wait, v, .bool st.bh] : Array Value)[j]? := fun p => (Eq.mp (congrFun hCS p.w) p.ok).k.cell
  have r2 : ∀ (p : Flow.Wd CS) (j : Nat), p.w.cell? ⟨pb, j, none⟩ = (#[.pointer (some ⟨g, 0, none⟩)] : Array Value)[j]? := fun p => (Eq.mp (congrFun hCS p.w) p.ok).p.cell
  have e1 : EnvN w1 g ib pb st.m st.n st.hold st.wait i v st.bh := ⟨K1, ki, kp⟩
  have hS : ∀ w', Below w1.heap.size w1 w' → CS w' := fun w' h => kS w' (e1.chg (Flow.Chg.of_below h) (fun e => e) (fun e => e) (fun e => e))
  have hSW : ∀ w', CS w' → CW w' := by rw [hCW]; exact fun _ _ => True.intro
  have hcS : ∀ w1 w2, CS w1 → Below w1.heap.size w1 w2 → CS w2 := by rw [hCS]; exact fun _ _ h k => h.chg (Flow.Chg.of_below k) (fun e => e) (fun e => e) (fun e => e)
  have hW : ∀ w1 w2, CW w1 → Below w1.heap.size w1 w2 → CW w2 := by rw [hCW]; exact fun _ _ _ _ => True.intro
  have uW : ∀ w', CW w' := by rw [hCW]; exact fun _ => True.intro
  have ne1 : Nonempty (Flow.Wd CS) := ⟨⟨_, hS _ (Below.refl _ _)⟩⟩
  have ne2 : Nonempty (Flow.Wd CW) := ⟨⟨w1, uW _⟩⟩
  clear hCS hCW
  refine Flow.wp_region_switch 9 CS CW [0, 1, 2, 3, 4, 5] [6, 7, 8, 9] (by kernel_rfl) (by kernel_rfl) hS hSW hcS hW ?_
  dsimp only [Flow.pickIdx, List.getElem?_cons_zero, List.getElem?_cons_succ]
  iterate 6 (
      (refine Flow.wpS_strong (by kernel_rfl) (fun K' hK' => ?_)
       go_simp
       first
         | (refine hK' _ ?_; clear hK' K')
         | (apply Exists.intro
            refine ⟨fun p => ?_, hK' _ ?_⟩
            (first | fail)
            clear hK' K')))
  refine Flow.wpS_nil ?_
  clear r1 r2
  have E1 := Flow.hide e1
  clear e1 kp ki
  intro w2 hb2
  have E2 := Flow.hide (E1.out.chg (Flow.Chg.of_below hb2) (fun e => e) (fun e => e) (fun e => e))
  have R2 := Flow.hide (Flow.ownsRow_chg R1.out (Flow.Chg.of_below hb2) (fun _ _ e => e))
  have S2 := Flow.hide (S1.out.below hb2)
  have HB2 := Flow.hide (HB1.out.trans (hb2.mono HB1.out.size))
  clear hb2 E1 R1 S1 HB1 K1 hS
  refine Flow.wpK_pre rfl rfl ?_
  go_simp
  (with_reducible refine (pdelN v l.length l B g ib pb st.m st.n st.hold st.wait i v st.bh _ R2.out rfl HLL.out S2.out E2.out HTK.out).mono ?_)
  rintro e w3 ⟨v', l', rfl, hl', hr3, hs3, hv3, hc3⟩
  have HL' := Flow.hide hl'
  clear hl'
  have K3 := (E2.out.both R2.out S2.out hc3)
  obtain ⟨A', cap', hv', _⟩ := Flow.ownsRow_form hr3
  subst hv'
  refine ⟨_, rfl, kS _ K3, fun w4 hb4 => ?_⟩
  refine Flow.wpK_pre rfl rfl ?_
  go_simp
  refine ⟨kS _ (K3.chg (Flow.Chg.of_below hb4) (fun e => e) (fun e => e) (fun e => e)), fun w5 hb5 => ?_⟩
  have b35 := hb4.trans (hb5.mono hb4.size)
  refine Flow.wpK_pre rfl rfl ?_
  go_simp
  refine ⟨kS _ (K3.chg (Flow.Chg.of_below b35) (fun e => e) (fun e => e) (fun e => e)), fun w6 hb6 => ?_⟩
  have b36 := b35.trans (hb6.mono b35.size)
  have K6 := (K3.chg (Flow.Chg.of_below b36) (fun e => e) (fun e => e) (fun e => e)).k
  have R6 := Flow.ownsRow_chg hr3 (Flow.Chg.of_below b36) (fun _ _ e => e)
  have S6 := hs3.below b36
  have CC6 : Flow.Chg (fun j => some j = v.ownBlock ∨ Tch l j) w w6 := (((Flow.Chg.of_below HB2.out).mono (fun _ _ e => e.elim)).trans hc3 (fun _ _ e => e)).trans (Flow.Chg.of_below b36) (fun _ _ e => e.elim)
  have q6 := K6.cell
  have f6 := K6.frozen
  refine Flow.wpK_at rfl rfl ?_
  go_simp
  refine ⟨uW _, fun w8 hb8 => Flow.wpK_nil ?_⟩
  have c7 : Flow.Chg (· = g) w6 (w6.setCell ⟨g, 4, none⟩ (.slice A' l'.length cap')) := Flow.Chg.setAt _ _ _ _
  have K7 := Flow.Blk.set_is K6 4 (.slice A' l'.length cap') (cs' := #[.int .i64 (st.m : Int), .int .i64 st.n, .int .i64 st.hold, .int .i64 st.wait, .slice A' l'.length cap', .bool st.bh]) rfl
  have z7 : (w6.setCell ⟨g, 4, none⟩ (.slice A' l'.length cap')).heap.size = w6.heap.size := by simp
  have hb78 : Below (w6.setCell ⟨g, 4, none⟩ (.slice A' l'.length cap')).heap.size (w6.setCell ⟨g, 4, none⟩ (.slice A' l'.length cap')) w8 := by rw [z7]; exact hb8
  have C68 : Flow.Chg (· = g) w6 w8 := c7.trans (Flow.Chg.of_below hb78) (fun _ _ e => e.elim)
  have K8 := K7.below hb78
  obtain ⟨R8, S8⟩ := pace_put K6 R6 S6 C68 K8
  have hP : Hid (IsPace w8 B g (N + 1) (st.node i)) := by
    refine ⟨_, l', K8, R8, S8, ?_, H5.out, H6.out.node i⟩
    rw [HL'.out, map_left, H4.out]
    rfl
  have hC : Hid (Flow.Chg (Foot w) w w8) := (hft.out w6 CC6).trans C68 (fun j _ e => by rw [e]; exact hfg.out)
  have hBB : Hid (Below B w w8) := (CC6.mono (T := fun j => some j = v.ownBlock ∨ Tch l j ∨ j = g) (fun j _ e => e.elim .inl (fun e => .inr (.inl e)))).trans C68 (fun j _ e => .inr (.inr e)) |>.below (fun j hj e => hfb.out j hj e) hB
  clear hft hfb hfg HLL HTK E2 R2 S2 HB2 K3 hr3 hs3 hv3 hc3 HL' hb4 hb5 b35 hb6 b36 K6 R6 S6 CC6 q6 f6 hb8 c7 K7 z7 hb78 C68 K8 R8 S8 kS hSW hcS hW uW ne1 ne2 CS CW w2 w3 w4 w5 w6
  go_wp2_with fail
  refine bodyPost_end (results_none rfl _ _ _) rfl ?_
  exact ⟨rfl, hP.out, hBB.out, hC.out⟩
theorem pstop_any (g B N : Nat) (st : PSt) (i : Int) (w : World) (h : IsPace w B g N st) (hN : N < 100000) (hB : B ≤ w.heap.size) :
    Calls Try.prog 52 #[.pointer (some ⟨g, 0, none⟩), .int .i64 i] w fun e w' => e = .returned (.tuple #[]) ∧ IsPace w' B g (N + 1) (st.stop i) ∧ Below B w w' ∧ Flow.Chg (Foot w) w w' := by
  obtain ⟨v, l, h1, h2, h3, h4, h5, h6⟩ := h
  have hll : l.length ≤ 1000000 := by have := congrArg List.length h4; rw [List.length_map] at this; have := h6.len; omega
  have htk : ∀ s ∈ l, 0 ≤ s.p.ticks ∧ s.p.ticks ≤ 1000000 := fun s hs => by
    have := (h6.sp s.p (by rw [← h4]; exact List.mem_map.2 ⟨s, hs, rfl⟩)).2.1
    omega
  have hft : Hid (∀ w', Flow.Chg (fun j => some j = v.ownBlock ∨ Tch l j) w w' → Flow.Chg (Foot w) w w') := fun w' hc => hc.mono (fun j _ e => e.elim (Foot.row h2) (Foot.tch h3))
  have hfb : Hid (∀ j, j < w.heap.size → (some j = v.ownBlock ∨ Tch l j ∨ j = g) → B ≤ j) := fun j _ e => by
    rcases e with e | ⟨s, hs, rfl⟩ | rfl
    · exact (h2.lt j e.symm).1
    · exact (h3.all s hs).lo
    · exact h5
  have hfg : Hid (Foot w g) := ⟨_, _, h1, .inl rfl⟩
  have HLL := Flow.hide hll
  have HTK := Flow.hide htk
  have H4 := Flow.hide h4
  have H5 := Flow.hide h5
  have H6 := Flow.hide h6
  clear hll htk h4 h5 h6
  simp only [PSt.cells] at h1
  obtain ⟨w1, hw1⟩ : ∃ w1, w1 = (w.alloc (.cells #[.int .i64 i] 3)) := ⟨_, rfl⟩
  obtain ⟨ki, hb1, hz1⟩ := Flow.laid1 (w := w) (t0 := 3) (c0 := #[.int .i64 i]) (w1 := w1) (by rw [hw1]; exact Below.refl _ _)
  have K1 := h1.below hb1
  have R1 := Flow.hide (Flow.ownsRow_chg h2 (Flow.Chg.of_below hb1) (fun _ _ e => e))
  have S1 := Flow.hide (h3.below hb1)
  have HB1 := Flow.hide hb1
  clear h1 h2 h3 hb1 hz1
  go_enter Try.func52, Try.ntmps52
  go_upto_region 2 with fail
  rw [← hw1]
  clear hw1
  revert ki
  generalize hpb : w.heap.size = ib
  intro ki
  have HPB := Flow.hide hpb
  clear hpb
  have q1 := K1.cell
  have E1 := Flow.hide (show EnvS w1 g ib 0 st.m st.n st.hold st.wait i v st.bh from ⟨K1, ki⟩)
  clear ki K1
  go_wp2_with fail
  (with_reducible refine (pdelS v l.length l B g ib 0 st.m st.n st.hold st.wait i v st.bh _ R1.out rfl HLL.out S1.out E1.out HTK.out).mono ?_)
  rintro e w3 ⟨v', l', rfl, hl', hr3, hs3, hv3, hc3⟩
  have K3 := (E1.out.both R1.out S1.out hc3).k
  obtain ⟨A', cap', hv', _⟩ := Flow.ownsRow_form hr3
  subst hv'
  have q6 := K3.cell
  have f6 := K3.frozen
  have l6 := K3.lt
  have CC6 : Hid (Flow.Chg (fun j => some j = v.ownBlock ∨ Tch l j) w w3) := ((Flow.Chg.of_below HB1.out).mono (fun _ _ e => e.elim)).trans hc3 (fun _ _ e => e)
  have K6 := Flow.hide K3
  have R6 := Flow.hide hr3
  have S6 := Flow.hide hs3
  have HL' := Flow.hide hl'
  clear K3 hr3 hs3 hl' hv3 hc3 q1 E1 R1 S1 HB1
  go_wp2_with fail
  have c7 : Flow.Chg (· = g) w3 (w3.setCell ⟨g, 4, none⟩ (.slice A' l'.length cap')) := Flow.Chg.setAt _ _ _ _
  have K7 := Flow.Blk.set_is K6.out 4 (.slice A' l'.length cap') (cs' := #[.int .i64 (st.m : Int), .int .i64 st.n, .int .i64 st.hold, .int .i64 st.wait, .slice A' l'.length cap', .bool st.bh]) rfl
  obtain ⟨R8, S8⟩ := pace_put K6.out R6.out S6.out c7 K7
  refine bodyPost_end (results_none rfl _ _ _) rfl ?_
  refine ⟨rfl, ⟨_, l', K7, R8, S8, ?_, H5.out, H6.out.stop i⟩, ?_, (hft.out w3 CC6.out).trans c7 (fun j _ e => by rw [e]; exact hfg.out)⟩
  · rw [HL'.out, map_left, H4.out]
    have e : st.sp.map (upI i) = st.sp := List.map_id _
    rw [e]
    rfl
  · exact (CC6.out.mono (T := fun j => some j = v.ownBlock ∨ Tch l j ∨ j = g) (fun j _ e => e.elim .inl (fun e => .inr (.inl e)))).trans c7 (fun j _ e => .inr (.inr e)) |>.below (fun j hj e => hfb.out j hj e) hB
end Go.Proofs.Ythkphapmnlndbaa
