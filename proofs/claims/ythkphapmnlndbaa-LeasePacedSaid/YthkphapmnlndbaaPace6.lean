/- The contracts of package pace: Master. -/
import Derived.Test.YthkphapmnlndbaaPace5
namespace Go.Proofs.Ythkphapmnlndbaa
open Go.RowKit
set_option maxHeartbeats 1600000
set_option linter.unusedSimpArgs false
attribute [local irreducible] Flow.wpSeg Flow.wpF Flow.wpG Flow.wpS Flow.wpT Flow.wpK
def bump (j : Nat) (p : PS) : PS := { p with ms := p.ms.set j (p.ms.getD j 0 + 1) }
def bad (wait : Int) (j : Nat) (p : PS) : Bool := decide (wait ≤ p.ms.getD j 0 + 1)
def PSt.master (st : PSt) (j : Nat) : PSt := { st with sp := st.sp.map (bump j), bh := st.bh || st.sp.any (bad st.wait j) }
theorem PBnd.master {N : Nat} {st : PSt} (h : PBnd N st) (j : Nat) : PBnd (N + 1) (st.master j) := by
  refine ⟨h.m, h.n, h.hold, h.wait, by have := h.len; simp only [PSt.master, List.length_map]; omega, fun p hp => ?_⟩
  obtain ⟨q, hq, rfl⟩ := List.mem_map.1 hp
  obtain ⟨h1, h2, h3⟩ := h.sp q hq
  refine ⟨by simp only [bump, List.length_set]; exact h1, by simp only [bump]; omega, fun c hc => ?_⟩
  simp only [bump] at hc
  rcases List.mem_or_eq_of_mem_set hc with hc | rfl
  · have := h3 c hc; omega
  · rw [List.getD_eq_getElem?_getD]
    rcases hg : q.ms[j]? with _ | d
    · simp; omega
    · have := h3 d (List.mem_of_getElem? hg)
      simp only [Option.getD_some]
      omega
theorem pmaster_no (g B N : Nat) (st : PSt) (i : Int) (w : World) (h : IsPace w B g N st) (hi : ¬ (1 ≤ i ∧ i ≤ (st.m : Int))) :
    Calls Try.prog 48 #[.pointer (some ⟨g, 0, none⟩), .int .i64 i] w fun e w' => e = .returned (.tuple #[]) ∧ w = w' := by
  obtain ⟨v, l, h1, h2, h3, h4, h5, h6⟩ := h
  have c := h1.cell
  simp only [PSt.cells] at c
  have HI := Flow.hide hi
  clear h1 h2 h3 h4 h5 h6 hi
  go_enter Try.func48, Try.ntmps48
  go_wp2_with fail
  (with_reducible refine (within_no _ _ _ HI.out).mono ?_)
  rintro e w1 ⟨rfl, rfl⟩
  go_wp2_with fail
  exact bodyPost_ret (results_none rfl _ _ _) rfl ⟨rfl, rfl⟩
def Tmb (l : List Sp) (g j : Nat) : Prop := j = g ∨ ∃ s ∈ l, j = s.mb
theorem pmaster_yes (g B N : Nat) (st : PSt) (i : Int) (j : Nat) (w : World) (hij : i = (j : Int) + 1) (h : IsPace w B g N st) (hN : N < 100000) (hB : B ≤ w.heap.size) (hj : j < st.m) :
    Calls Try.prog 48 #[.pointer (some ⟨g, 0, none⟩), .int .i64 i] w fun e w' => e = .returned (.tuple #[]) ∧ IsPace w' B g (N + 1) (st.master j) ∧ Below B w w' ∧ Flow.Chg (Foot w) w w' := by
  subst hij
  obtain ⟨v, l, h1, h2, h3, h4, h5, h6⟩ := h
  have hll : l.length ≤ 100000 := by have := congrArg List.length h4; rw [List.length_map] at this; have := h6.len; omega
  have hft := Flow.hide (show ∀ w', Flow.Chg (Tmb l g) w w' → Flow.Chg (Foot w) w w' from fun w' hc => hc.mono (fun k _ e => by
    rcases e with e | ⟨s, hs, e⟩
    · rw [e]; exact ⟨_, _, h1, .inl rfl⟩
    · rw [e]; exact ⟨_, _, (h3.all s hs).ms, .inr (.inr (.inr rfl))⟩))
  have hfb := Flow.hide (show ∀ k, k < w.heap.size → Tmb l g k → B ≤ k from fun k _ e => by
    rcases e with rfl | ⟨s, hs, rfl⟩
    · exact h5
    · exact (h3.all s hs).hi)
  have hfr := Flow.hide (show ∀ k, v.ownBlock = some k → ¬ Tmb l g k from fun k hk e => by
    rcases e with rfl | ⟨s, hs, rfl⟩
    · exact Flow.row_ne h2 h1 (by decide) hk
    · exact Flow.row_ne h2 (h3.all s hs).ms (by decide) hk)
  obtain ⟨A, cap, hv, _⟩ := Flow.ownsRow_form h2
  subst hv
  have HLL := Flow.hide hll
  have H4 := Flow.hide h4
  have H5 := Flow.hide h5
  have H6 := Flow.hide h6
  have HM5 := Flow.hide h6.m
  have hjm : (j : Int) < (st.m : Int) := by omega
  have hj1 := Flow.hide (show 1 ≤ (j : Int) + 1 ∧ (j : Int) + 1 ≤ (st.m : Int) by omega)
  have hj5 : j < 5 := by have := h6.m; omega
  clear hll h4 h5 h6
  have HR := Flow.hide h2
  have HS := Flow.hide h3
  have HK1 := Flow.hide h1
  simp only [PSt.cells] at h1
  have q1 := h1.cell
  clear h1 h2 h3
  go_enter Try.func48, Try.ntmps48
  go_wp2_with fail
  (with_reducible refine (within_yes _ _ _ hj1.out).mono ?_)
  rintro e w1 ⟨rfl, rfl⟩
  go_wp2_with fail
  clear q1
  obtain ⟨v, hv⟩ : ∃ v, v = Value.slice A l.length cap := ⟨_, rfl⟩
  have HV := Flow.hide hv
  clear hv
  go_loopw [22] (fun t22 wr => ∃ (k : Nat) (a b : List Sp), l = a ++ b ∧ a.length = k ∧ t22 = .int .i64 k ∧ Sps wr B (a.map (upS (bump j)) ++ b) ∧ Flow.Blk wr g 113 #[.int .i64 (st.m : Int), .int .i64 st.n, .int .i64 st.hold, .int .i64 st.wait, v, .bool (st.bh || a.any (fun s => bad st.wait j s.p))] ∧ Flow.Chg (Tmb l g) w wr) (fun t22 _ => l.length - (intOf t22).toNat)
  case atStart =>
    refine ⟨0, [], l, rfl, rfl, rfl, HS.out, ?_, Flow.Chg.refl _ _⟩
    have := HK1.out
    rw [HV.out]
    simpa [PSt.cells] using this
  case round =>
    obtain ⟨k, a, b, hab, hak, rfl, hsp, hkg, hc⟩ := hrel
    have HAB := Flow.hide hab
    have HAK := Flow.hide hak
    have HSP := Flow.hide hsp
    have HC := Flow.hide hc
    have HRW := Flow.hide (Flow.ownsRow_chg HR.out hc hfr.out)
    clear hab hak hsp hc
    rcases b with _ | ⟨s, b⟩
    · have hkn := Flow.hide (show k = l.length by rw [← HAK.out, HAB.out]; simp)
      have hkI : ¬ (k : Int) < (l.length : Int) := by have := hkn.out; omega
      have HKG := Flow.hide hkg
      clear hkg
      go_wp2_with fail
      refine bodyPost_end (results_none rfl _ _ _) rfl ?_
      have hla : a = l := by rw [HAB.out, List.append_nil]
      refine ⟨rfl, ⟨Value.slice A l.length cap, l.map (upS (bump j)), ?_, by rw [ptrs_up, List.length_map]; exact HRW.out, by have := HSP.out; rw [hla, List.append_nil] at this; exact this, ?_, H5.out, H6.out.master j⟩, (HC.out.below (fun k hk e => hfb.out k hk e) hB), hft.out _ HC.out⟩
      · have := HKG.out
        rw [HV.out, hla] at this
        simp only [PSt.cells, PSt.master]
        rw [← H4.out, List.any_map]
        exact this
      · simp only [PSt.master]
        rw [← H4.out, List.map_map, List.map_map]
        rfl
    · have hrw := HRW.out
      rw [HAB.out] at hrw
      obtain ⟨gr, cap', e1, hgr, hkn, hcell⟩ := row_at hrw
      simp only [Value.slice.injEq] at e1
      obtain ⟨rfl, _, rfl⟩ := e1
      rw [HAK.out] at hkn hcell
      rw [← HAB.out] at hkn
      have hknI : (k : Int) < (l.length : Int) := by omega
      have hk5 : (k : Int) < 100000 := by have := HLL.out; omega
      have HM := Flow.hide (show s ∈ l by rw [HAB.out]; simp)
      have hsw : SpAt wr B s := HSP.out.all s (by simp)
      have HSW := Flow.hide hsw
      have hpb := H6.out.sp s.p (by rw [← H4.out]; exact List.mem_map.2 ⟨s, HM.out, rfl⟩)
      have HML := Flow.hide hpb.1
      have KSW : Hid (Flow.Blk wr s.sb 118 #[.int .i64 s.p.node, .int .i64 s.p.ticks, .slice (some ⟨s.mb, 0, none⟩) st.m st.m]) := by
        have := hsw.sp; unfold PS.cells at this; rw [HML.out] at this; exact this
      have KMW := Flow.hide hsw.ms
      obtain ⟨c, hc⟩ : ∃ c, s.p.ms[j]? = some c := ⟨_, List.getElem?_eq_getElem (by rw [HML.out]; exact hj)⟩
      have HC0 := Flow.hide (show s.p.ms.getD j 0 = c by rw [List.getD_eq_getElem?_getD, hc]; rfl)
      have hcb := hpb.2.2 c (List.mem_of_getElem? hc)
      have hcb1 : (0 : Int) ≤ c := hcb.1
      have hcb2 : c ≤ 100000 := by omega
      have cmj : wr.cell? ⟨s.mb, j, none⟩ = some (.int .i64 c) := by rw [KMW.out.cell]; simp [hc]
      have fmj := KMW.out.frozen j
      have cs1 := KSW.out.cell
      have cg1 := hkg.cell
      have lm := KMW.out.lt
      obtain ⟨bb, hbb⟩ : ∃ bb, (st.bh || a.any (fun s => bad st.wait j s.p)) = bb := ⟨_, rfl⟩
      rw [hbb] at hkg cg1
      have HBE := Flow.hide hbb
      have KG := Flow.hide hkg
      have HBB : True := trivial
      clear hbb hkg hsw hpb hc hcb hrw
      rcases bb with _ | _
      · clear HBB
        go_upto_region 5 with fail
        have C2 := Flow.Chg.setAt wr s.mb j (.int .i64 (c + 1))
        have KS2 := KSW.out.chg C2 (KSW.out.ne_type KMW.out (by decide))
        have KG2 := KG.out.chg C2 (KG.out.ne_type KMW.out (by decide))
        have KM2 := Flow.Blk.set_is KMW.out j (.int .i64 (c + 1)) (cs' := ((s.p.ms.set j (c + 1)).map (Value.int .i64)).toArray) (by rw [List.map_set]; simp)
        have qm : (((s.p.ms.set j (c + 1)).map (Value.int .i64)).toArray)[j]? = some (.int .i64 (c + 1)) := by
          have hjl : j < s.p.ms.length := by have := HML.out; omega
          simp [hjl]
        revert C2 KS2 KG2 KM2
        generalize wr.setCell ⟨s.mb, j, none⟩ (.int .i64 (c + 1)) = w2
        intro C2 KS2 KG2 KM2
        obtain ⟨CS, hCS⟩ : ∃ C : World → Prop, C = fun w' => Flow.Blk w' g 113 #[.int .i64 (st.m : Int), .int .i64 st.n, .int .i64 st.hold, .int .i64 st.wait, v, .bool false] ∧ Flow.Blk w' s.sb 118 #[.int .i64 s.p.node, .int .i64 s.p.ticks, .slice (some ⟨s.mb, 0, none⟩) st.m st.m] ∧ Flow.Blk w' s.mb 3 ((s.p.ms.set j (c + 1)).map (Value.int .i64)).toArray := ⟨_, rfl⟩
        obtain ⟨CW, hCW⟩ : ∃ C : World → Prop, C = fun _ => True := ⟨_, rfl⟩
        have r1 : ∀ (p : Flow.Wd CS) (j : Nat), p.w.cell? ⟨g, j, none⟩ = (#[.int .i64 (st.m : Int), .int .i64 st.n, .int .i64 st.hold, .int .i64 st.wait, v, .bool false] : Array Value)[j]? := fun p => (Eq.mp (congrFun hCS p.w) p.ok).1.cell
        have r2 : ∀ (p : Flow.Wd CS) (j : Nat), p.w.cell? ⟨s.sb, j, none⟩ = (#[.int .i64 s.p.node, .int .i64 s.p.ticks, .slice (some ⟨s.mb, 0, none⟩) st.m st.m] : Array Value)[j]? := fun p => (Eq.mp (congrFun hCS p.w) p.ok).2.1.cell
        have r3 : ∀ (p : Flow.Wd CS), p.w.cell? ⟨s.mb, j, none⟩ = some (.int .i64 (c + 1)) := fun p => ((Eq.mp (congrFun hCS p.w) p.ok).2.2.cell j).trans qm
        clear qm
        have hS : ∀ w', Below w2.heap.size w2 w' → CS w' := by rw [hCS]; exact fun _ h => ⟨KG2.below h, KS2.below h, KM2.below h⟩
        have hSW : ∀ w', CS w' → CW w' := by rw [hCW]; exact fun _ _ => True.intro
        have hcS : ∀ w1 w2, CS w1 → Below w1.heap.size w1 w2 → CS w2 := by rw [hCS]; exact fun _ _ h k => ⟨h.1.below k, h.2.1.below k, h.2.2.below k⟩
        have hW : ∀ w1 w2, CW w1 → Below w1.heap.size w1 w2 → CW w2 := by rw [hCW]; exact fun _ _ _ _ => True.intro
        have uW : ∀ w', CW w' := by rw [hCW]; exact fun _ => True.intro
        have ne1 : Nonempty (Flow.Wd CS) := ⟨⟨_, hS _ (Below.refl _ _)⟩⟩
        have ne2 : Nonempty (Flow.Wd CW) := ⟨⟨w2, uW _⟩⟩
        have hwj : IntKind.i64.wrap (j : Int) = (j : Int) := IntWalk.i64_in _ (by omega)
        clear hCS hCW hcell cmj fmj cs1 cg1
        have K2S := Flow.hide KS2
        have K2M := Flow.hide KM2
        clear KS2 KM2
        refine Flow.wp_region_switch 22 CS CW [0, 1, 2, 3, 4, 5, 6, 7, 8, 9, 10, 11, 12, 13, 14, 15, 16, 17, 18, 19, 20, 21] [22] (by kernel_rfl) (by kernel_rfl) hS hSW hcS hW ?_
        dsimp only [Flow.pickIdx, List.getElem?_cons_zero, List.getElem?_cons_succ]
        iterate 20 (
            (refine Flow.wpS_strong (by kernel_rfl) (fun K' hK' => ?_)
             go_simp
             first
               | (refine hK' _ ?_; clear hK' K')
               | (apply Exists.intro
                  refine ⟨fun p => ?_, hK' _ ?_⟩
                  (first | fail)
                  clear hK' K')))
        iterate 1 (
            (refine Flow.wpS_weak (by kernel_rfl) (fun K' hK' => ?_)
             go_simp
             first
               | (refine hK' _ ?_; clear hK' K')
               | (apply Exists.intro
                  refine ⟨fun p => ?_, hK' _ ?_⟩
                  (first | fail)
                  clear hK' K')))
        iterate 1 (
            (refine Flow.wpS_strong (by kernel_rfl) (fun K' hK' => ?_)
             go_simp
             first
               | (refine hK' _ ?_; clear hK' K')
               | (apply Exists.intro
                  refine ⟨fun p => ?_, hK' _ ?_⟩
                  (first | fail)
                  clear hK' K')))
        refine Flow.wpS_nil ?_
        clear r1 r2 r3 hwj
        intro w3 hb3
        have KG3 := KG2.below hb3
        have q3 := KG3.cell
        have f3 := KG3.frozen
        refine Flow.wpK_at rfl rfl ?_
        go_simp
        refine ⟨uW _, fun w4 hb4 => Flow.wpK_nil ?_⟩
        have c4 : Flow.Chg (· = g) w3 (w3.setCell ⟨g, 5, none⟩ (.bool (decide (st.wait ≤ c + 1)))) := Flow.Chg.setAt _ _ _ _
        have K4 := Flow.Blk.set_is KG3 5 (.bool (decide (st.wait ≤ c + 1))) (cs' := #[.int .i64 (st.m : Int), .int .i64 st.n, .int .i64 st.hold, .int .i64 st.wait, v, .bool (decide (st.wait ≤ c + 1))]) rfl
        have z4 : (w3.setCell ⟨g, 5, none⟩ (.bool (decide (st.wait ≤ c + 1)))).heap.size = w3.heap.size := by simp
        have hb4' : Below (w3.setCell ⟨g, 5, none⟩ (.bool (decide (st.wait ≤ c + 1)))).heap.size (w3.setCell ⟨g, 5, none⟩ (.bool (decide (st.wait ≤ c + 1)))) w4 := by rw [z4]; exact hb4
        have C34 : Flow.Chg (· = g) w3 w4 := c4.trans (Flow.Chg.of_below hb4') (fun _ _ e => e.elim)
        have K5 := K4.below hb4'
        have S2 : Sps w2 B (a.map (upS (bump j)) ++ upS (bump j) s :: b) := by
          refine HSP.out.set (C2.mono (fun _ _ e => .inr e)) rfl rfl ⟨?_, ?_, HSW.out.lo, HSW.out.hi⟩
          · have e1 : (upS (bump j) s).p.cells (upS (bump j) s).mb = #[.int .i64 s.p.node, .int .i64 s.p.ticks, .slice (some ⟨s.mb, 0, none⟩) st.m st.m] := by
              simp only [upS, PS.cells, bump, List.length_set]; rw [HML.out]
            rw [e1]; exact K2S.out
          · have e2 : (upS (bump j) s).p.ms = s.p.ms.set j (c + 1) := by simp only [upS, bump]; rw [HC0.out]
            rw [e2]; exact K2M.out
        have S4 := (S2.below hb3).chg C34 (fun t ht => ⟨((S2.below hb3).all t ht).sp.ne_type KG3 (by decide), ((S2.below hb3).all t ht).ms.ne_type KG3 (by decide)⟩)
        have CC4 := Flow.hide (((HC.out.trans C2 (T := (· = s.mb)) (fun _ _ e => .inr ⟨s, HM.out, e⟩)).trans (Flow.Chg.of_below hb3) (fun _ _ e => e.elim)).trans C34 (fun _ _ e => .inl e))
        have K5' := Flow.hide K5
        have S4' := Flow.hide S4
        clear KG2 C2 hb3 KG3 q3 f3 hb4 c4 K4 z4 hb4' C34 K5 S2 S4 K2S K2M hS hSW hcS hW uW ne1 ne2 CS CW w2 w3 KG KSW KMW HSW HSP HC
        go_wp2_with fail
        go_roundw
        case rel =>
          refine ⟨k + 1, a ++ [s], b, by rw [HAB.out]; simp, by rw [List.length_append, HAK.out]; rfl, by go_num, by simpa using S4'.out, ?_, CC4.out⟩
          have e : (st.bh || (a ++ [s]).any (fun s => bad st.wait j s.p)) = (decide (st.wait ≤ c + 1)) := by
            rw [List.any_append, ← Bool.or_assoc, HBE.out]
            (simp only [List.any_cons, List.any_nil, Bool.or_false, Bool.false_or, bad]; rw [HC0.out])
          rw [e]
          exact K5'.out
        case measure => simp [intOf]; omega
      · clear HBB
        go_upto_region 5 with fail
        have C2 := Flow.Chg.setAt wr s.mb j (.int .i64 (c + 1))
        have KS2 := KSW.out.chg C2 (KSW.out.ne_type KMW.out (by decide))
        have KG2 := KG.out.chg C2 (KG.out.ne_type KMW.out (by decide))
        have KM2 := Flow.Blk.set_is KMW.out j (.int .i64 (c + 1)) (cs' := ((s.p.ms.set j (c + 1)).map (Value.int .i64)).toArray) (by rw [List.map_set]; simp)
        have qm : (((s.p.ms.set j (c + 1)).map (Value.int .i64)).toArray)[j]? = some (.int .i64 (c + 1)) := by
          have hjl : j < s.p.ms.length := by have := HML.out; omega
          simp [hjl]
        revert C2 KS2 KG2 KM2
        generalize wr.setCell ⟨s.mb, j, none⟩ (.int .i64 (c + 1)) = w2
        intro C2 KS2 KG2 KM2
        obtain ⟨CS, hCS⟩ : ∃ C : World → Prop, C = fun w' => Flow.Blk w' g 113 #[.int .i64 (st.m : Int), .int .i64 st.n, .int .i64 st.hold, .int .i64 st.wait, v, .bool true] ∧ Flow.Blk w' s.sb 118 #[.int .i64 s.p.node, .int .i64 s.p.ticks, .slice (some ⟨s.mb, 0, none⟩) st.m st.m] ∧ Flow.Blk w' s.mb 3 ((s.p.ms.set j (c + 1)).map (Value.int .i64)).toArray := ⟨_, rfl⟩
        obtain ⟨CW, hCW⟩ : ∃ C : World → Prop, C = fun _ => True := ⟨_, rfl⟩
        have r1 : ∀ (p : Flow.Wd CS) (j : Nat), p.w.cell? ⟨g, j, none⟩ = (#[.int .i64 (st.m : Int), .int .i64 st.n, .int .i64 st.hold, .int .i64 st.wait, v, .bool true] : Array Value)[j]? := fun p => (Eq.mp (congrFun hCS p.w) p.ok).1.cell
        have r2 : ∀ (p : Flow.Wd CS) (j : Nat), p.w.cell? ⟨s.sb, j, none⟩ = (#[.int .i64 s.p.node, .int .i64 s.p.ticks, .slice (some ⟨s.mb, 0, none⟩) st.m st.m] : Array Value)[j]? := fun p => (Eq.mp (congrFun hCS p.w) p.ok).2.1.cell
        have r3 : ∀ (p : Flow.Wd CS), p.w.cell? ⟨s.mb, j, none⟩ = some (.int .i64 (c + 1)) := fun p => ((Eq.mp (congrFun hCS p.w) p.ok).2.2.cell j).trans qm
        clear qm
        have hS : ∀ w', Below w2.heap.size w2 w' → CS w' := by rw [hCS]; exact fun _ h => ⟨KG2.below h, KS2.below h, KM2.below h⟩
        have hSW : ∀ w', CS w' → CW w' := by rw [hCW]; exact fun _ _ => True.intro
        have hcS : ∀ w1 w2, CS w1 → Below w1.heap.size w1 w2 → CS w2 := by rw [hCS]; exact fun _ _ h k => ⟨h.1.below k, h.2.1.below k, h.2.2.below k⟩
        have hW : ∀ w1 w2, CW w1 → Below w1.heap.size w1 w2 → CW w2 := by rw [hCW]; exact fun _ _ _ _ => True.intro
        have uW : ∀ w', CW w' := by rw [hCW]; exact fun _ => True.intro
        have ne1 : Nonempty (Flow.Wd CS) := ⟨⟨_, hS _ (Below.refl _ _)⟩⟩
        have ne2 : Nonempty (Flow.Wd CW) := ⟨⟨w2, uW _⟩⟩
        have hwj : IntKind.i64.wrap (j : Int) = (j : Int) := IntWalk.i64_in _ (by omega)
        clear hCS hCW hcell cmj fmj cs1 cg1
        have K2S := Flow.hide KS2
        have K2M := Flow.hide KM2
        clear KS2 KM2
        refine Flow.wp_region_switch 22 CS CW [0, 1, 2, 3, 4, 5, 6, 7, 8, 9, 10, 11, 12, 13, 14, 15, 16, 17, 18, 19, 20, 21] [22] (by kernel_rfl) (by kernel_rfl) hS hSW hcS hW ?_
        dsimp only [Flow.pickIdx, List.getElem?_cons_zero, List.getElem?_cons_succ]
        iterate 20 (
            (refine Flow.wpS_strong (by kernel_rfl) (fun K' hK' => ?_)
             go_simp
             first
               | (refine hK' _ ?_; clear hK' K')
               | (apply Exists.intro
                  refine ⟨fun p => ?_, hK' _ ?_⟩
                  (first | fail)
                  clear hK' K')))
        iterate 1 (
            (refine Flow.wpS_weak (by kernel_rfl) (fun K' hK' => ?_)
             go_simp
             first
               | (refine hK' _ ?_; clear hK' K')
               | (apply Exists.intro
                  refine ⟨fun p => ?_, hK' _ ?_⟩
                  (first | fail)
                  clear hK' K')))
        iterate 1 (
            (refine Flow.wpS_strong (by kernel_rfl) (fun K' hK' => ?_)
             go_simp
             first
               | (refine hK' _ ?_; clear hK' K')
               | (apply Exists.intro
                  refine ⟨fun p => ?_, hK' _ ?_⟩
                  (first | fail)
                  clear hK' K')))
        refine Flow.wpS_nil ?_
        clear r1 r2 r3 hwj
        intro w3 hb3
        have KG3 := KG2.below hb3
        have q3 := KG3.cell
        have f3 := KG3.frozen
        refine Flow.wpK_at rfl rfl ?_
        go_simp
        refine ⟨uW _, fun w4 hb4 => Flow.wpK_nil ?_⟩
        have c4 : Flow.Chg (· = g) w3 (w3.setCell ⟨g, 5, none⟩ (.bool true)) := Flow.Chg.setAt _ _ _ _
        have K4 := Flow.Blk.set_is KG3 5 (.bool true) (cs' := #[.int .i64 (st.m : Int), .int .i64 st.n, .int .i64 st.hold, .int .i64 st.wait, v, .bool true]) rfl
        have z4 : (w3.setCell ⟨g, 5, none⟩ (.bool true)).heap.size = w3.heap.size := by simp
        have hb4' : Below (w3.setCell ⟨g, 5, none⟩ (.bool true)).heap.size (w3.setCell ⟨g, 5, none⟩ (.bool true)) w4 := by rw [z4]; exact hb4
        have C34 : Flow.Chg (· = g) w3 w4 := c4.trans (Flow.Chg.of_below hb4') (fun _ _ e => e.elim)
        have K5 := K4.below hb4'
        have S2 : Sps w2 B (a.map (upS (bump j)) ++ upS (bump j) s :: b) := by
          refine HSP.out.set (C2.mono (fun _ _ e => .inr e)) rfl rfl ⟨?_, ?_, HSW.out.lo, HSW.out.hi⟩
          · have e1 : (upS (bump j) s).p.cells (upS (bump j) s).mb = #[.int .i64 s.p.node, .int .i64 s.p.ticks, .slice (some ⟨s.mb, 0, none⟩) st.m st.m] := by
              simp only [upS, PS.cells, bump, List.length_set]; rw [HML.out]
            rw [e1]; exact K2S.out
          · have e2 : (upS (bump j) s).p.ms = s.p.ms.set j (c + 1) := by simp only [upS, bump]; rw [HC0.out]
            rw [e2]; exact K2M.out
        have S4 := (S2.below hb3).chg C34 (fun t ht => ⟨((S2.below hb3).all t ht).sp.ne_type KG3 (by decide), ((S2.below hb3).all t ht).ms.ne_type KG3 (by decide)⟩)
        have CC4 := Flow.hide (((HC.out.trans C2 (T := (· = s.mb)) (fun _ _ e => .inr ⟨s, HM.out, e⟩)).trans (Flow.Chg.of_below hb3) (fun _ _ e => e.elim)).trans C34 (fun _ _ e => .inl e))
        have K5' := Flow.hide K5
        have S4' := Flow.hide S4
        clear KG2 C2 hb3 KG3 q3 f3 hb4 c4 K4 z4 hb4' C34 K5 S2 S4 K2S K2M hS hSW hcS hW uW ne1 ne2 CS CW w2 w3 KG KSW KMW HSW HSP HC
        go_wp2_with fail
        go_roundw
        case rel =>
          refine ⟨k + 1, a ++ [s], b, by rw [HAB.out]; simp, by rw [List.length_append, HAK.out]; rfl, by go_num, by simpa using S4'.out, ?_, CC4.out⟩
          have e : (st.bh || (a ++ [s]).any (fun s => bad st.wait j s.p)) = true := by
            rw [List.any_append, ← Bool.or_assoc, HBE.out]
            rfl
          rw [e]
          exact K5'.out
        case measure => simp [intOf]; omega
end Go.Proofs.Ythkphapmnlndbaa
