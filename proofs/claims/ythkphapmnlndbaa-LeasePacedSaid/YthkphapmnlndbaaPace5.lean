/- The contracts of package pace: Ask, Master. -/
import Derived.Test.YthkphapmnlndbaaPace4
namespace Go.Proofs.Ythkphapmnlndbaa
open Go.RowKit
set_option maxHeartbeats 800000
set_option linter.unusedSimpArgs false
attribute [local irreducible] Flow.wpSeg Flow.wpF Flow.wpG Flow.wpS Flow.wpT Flow.wpK
def PSt.ask (st : PSt) (i : Int) : PSt := { st with sp := st.sp ++ [⟨i, 0, List.replicate st.m 0⟩] }
theorem PBnd.ask {N : Nat} {st : PSt} (h : PBnd N st) (i : Int) : PBnd (N + 1) (st.ask i) :=
  ⟨h.m, h.n, h.hold, h.wait, by have := h.len; simp only [PSt.ask, List.length_append, List.length_cons, List.length_nil]; omega, fun p hp => by
    rcases List.mem_append.1 hp with hp | hp
    · exact h.more.sp p hp
    · simp only [List.mem_cons, List.not_mem_nil, or_false] at hp
      subst hp
      exact ⟨List.length_replicate, by simp only []; omega, fun c hc => by have := List.eq_of_mem_replicate hc; omega⟩⟩
theorem info3 : (Try.prog.info? 3).map (fun i => (i.zero, i.size, i.bytes)) = some (some (.int .i64 0), 1, 8) := by kernel_rfl
theorem made_ints (m : Nat) : madeCells (Value.cells (.int .i64 0)) (m * 1) = ((List.replicate m (0 : Int)).map (Value.int .i64)).toArray := by
  apply Array.ext'
  rw [Nat.mul_one]
  have e : Value.cells (.int .i64 0) = #[.int .i64 0] := rfl
  rw [e, toList_madeCells_one]
  simp
theorem make_ints (m : Nat) (hm : m ≤ 1000) (w : World) : (Instr.makeSlice 116 (.int .i64 (m : Int)) (.int .i64 (m : Int))).run Try.prog w = .ok (.slice (some ⟨w.heap.size, 0, none⟩) m m) (w.alloc (.cells ((List.replicate m (0 : Int)).map (Value.int .i64)).toArray 3)) := by
  obtain ⟨i0, hi, hz0, hz1, hz2⟩ := info_parts info3
  have := run_makeSlice (P := Try.prog) w 116 3 i0 (.int .i64 0) Try.underlying116 hi hz0 .i64 .i64 m m (by omega) (Int.le_refl _) (by rw [hz1]; simp; omega) (by rw [hz2]; omega) (by omega)
  rw [this, hz1]
  simp only [Int.toNat_natCast]
  rw [made_ints]
theorem pask_no (g B N : Nat) (st : PSt) (i : Int) (w : World) (h : IsPace w B g N st) (hi : ¬ (1 ≤ i ∧ i ≤ st.n)) :
    Calls Try.prog 49 #[.pointer (some ⟨g, 0, none⟩), .int .i64 i] w fun e w' => e = .returned (.tuple #[]) ∧ w = w' := by
  obtain ⟨v, l, h1, h2, h3, h4, h5, h6⟩ := h
  have c := h1.cell
  simp only [PSt.cells] at c
  have HI := Flow.hide hi
  clear h1 h2 h3 h4 h5 h6 hi
  go_enter Try.func49, Try.ntmps49
  go_wp2_with fail
  (with_reducible refine (within_no _ _ _ HI.out).mono ?_)
  rintro e w1 ⟨rfl, rfl⟩
  go_wp2_with fail
  exact bodyPost_end (results_none rfl _ _ _) rfl ⟨rfl, rfl⟩
theorem pask_yes (g B N : Nat) (st : PSt) (i : Int) (w : World) (h : IsPace w B g N st) (hN : N < 100000) (hB : B ≤ w.heap.size) (hi : 1 ≤ i ∧ i ≤ st.n) :
    Calls Try.prog 49 #[.pointer (some ⟨g, 0, none⟩), .int .i64 i] w fun e w' => e = .returned (.tuple #[]) ∧ IsPace w' B g (N + 1) (st.ask i) ∧ Below B w w' ∧ Flow.Chg (Foot w) w w' := by
  obtain ⟨v, l, h1, h2, h3, h4, h5, h6⟩ := h
  have hll : l.length ≤ 100000 := by have := congrArg List.length h4; rw [List.length_map] at this; have := h6.len; omega
  have hft : Hid (∀ w', Flow.Chg (fun j => some j = v.ownBlock) w w' → Flow.Chg (Foot w) w w') := fun w' hc => hc.mono (fun j _ e => Foot.row h2 e)
  have hfb : Hid (∀ j, j < w.heap.size → (some j = v.ownBlock ∨ j = g) → B ≤ j) := fun j _ e => by
    rcases e with e | rfl
    · exact (h2.lt j e.symm).1
    · exact h5
  have hfg : Hid (Foot w g) := ⟨_, _, h1, .inl rfl⟩
  have hlt3 := Flow.hide (show ∀ s ∈ l, s.sb < w.heap.size ∧ s.mb < w.heap.size from fun s hs => h3.lt hs)
  have HLL := Flow.hide hll
  have HM := Flow.hide h6.m
  have H4 := Flow.hide h4
  have H5 := Flow.hide h5
  have H6 := Flow.hide h6
  have HI := Flow.hide hi
  clear hll h4 h5 h6 hi
  simp only [PSt.cells] at h1
  have K1 := h1
  have R1 := Flow.hide h2
  have S1 := Flow.hide h3
  clear h1 h2 h3
  have q1 := K1.cell
  go_enter Try.func49, Try.ntmps49
  go_wp2_with fail
  (with_reducible refine (within_yes _ _ _ HI.out).mono ?_)
  rintro e w1 ⟨rfl, rfl⟩
  go_upto_region 1 with fail
  obtain ⟨CS, hCS⟩ : ∃ C : World → Prop, C = fun w' => Flow.Blk w' g 113 #[.int .i64 (st.m : Int), .int .i64 st.n, .int .i64 st.hold, .int .i64 st.wait, v, .bool st.bh] := ⟨_, rfl⟩
  obtain ⟨CW, hCW⟩ : ∃ C : World → Prop, C = fun _ => True := ⟨_, rfl⟩
  have kS : ∀ w', Flow.Blk w' g 113 #[.int .i64 (st.m : Int), .int .i64 st.n, .int .i64 st.hold, .int .i64 st.wait, v, .bool st.bh] → CS w' := by rw [hCS]; exact fun _ a => a
  have r1 : ∀ (p : Flow.Wd CS) (j : Nat), p.w.cell? ⟨g, j, none⟩ = (#[.int .i64 (st.m : Int), .int .i64 st.n, .int .i64 st.hold, .int .i64 st.wait, v, .bool st.bh] : Array Value)[j]? := fun p => (Eq.mp (congrFun hCS p.w) p.ok).cell
  have hS : ∀ w', Below w.heap.size w w' → CS w' := fun w' h => kS w' (K1.below h)
  have hSW : ∀ w', CS w' → CW w' := by rw [hCW]; exact fun _ _ => True.intro
  have hcS : ∀ w1 w2, CS w1 → Below w1.heap.size w1 w2 → CS w2 := by rw [hCS]; exact fun _ _ h k => h.below k
  have hW : ∀ w1 w2, CW w1 → Below w1.heap.size w1 w2 → CW w2 := by rw [hCW]; exact fun _ _ _ _ => True.intro
  have uW : ∀ w', CW w' := by rw [hCW]; exact fun _ => True.intro
  have ne1 : Nonempty (Flow.Wd CS) := ⟨⟨_, hS _ (Below.refl _ _)⟩⟩
  have ne2 : Nonempty (Flow.Wd CW) := ⟨⟨w, uW _⟩⟩
  clear hCS hCW q1
  refine Flow.wp_region_switch 17 CS CW [0, 1, 2, 3, 4, 5, 6, 7, 8, 9] [10, 11, 12, 13, 14, 15, 16, 17] (by kernel_rfl) (by kernel_rfl) hS hSW hcS hW ?_
  dsimp only [Flow.pickIdx, List.getElem?_cons_zero, List.getElem?_cons_succ]
  iterate 10 (
      (refine Flow.wpS_strong (by kernel_rfl) (fun K' hK' => ?_)
       go_simp
       first
         | (refine hK' _ ?_; clear hK' K')
         | (apply Exists.intro
            refine ⟨fun p => ?_, hK' _ ?_⟩
            (first | fail)
            clear hK' K')))
  refine Flow.wpS_nil ?_
  clear r1
  intro w2 hb2
  have hmk := make_ints st.m (by have := HM.out; omega)
  refine Flow.wpK_pre rfl rfl ?_
  go_simp
  clear hmk
  refine ⟨hS _ (hb2.alloc hb2.size _), fun w3 hb3 => ?_⟩
  obtain ⟨KM, q3, z3⟩ := Flow.laid1 (by simpa using hb3)
  have b3 := hb2.trans (q3.mono hb2.size)
  have hsz2 : w.heap.size ≤ w2.heap.size := hb2.size
  clear hb2 hb3 q3 z3
  revert KM
  generalize w2.heap.size = mb at hsz2 ⊢
  intro KM
  clear w2
  refine Flow.wpK_pre rfl rfl ?_
  go_simp
  refine ⟨hS _ b3, fun w4 hb4 => ?_⟩
  have KM4 := KM.below hb4
  have b4 := b3.trans (hb4.mono b3.size)
  clear hb4 KM b3
  refine Flow.wpK_pre rfl rfl ?_
  go_simp
  refine ⟨hS _ (b4.alloc b4.size _), fun w5 hb5 => ?_⟩
  obtain ⟨KS, q5, z5⟩ := Flow.laid1 (by simpa using hb5)
  have b5 := b4.trans (q5.mono b4.size)
  have KM5 := KM4.below q5
  have hsz4 : w.heap.size ≤ w4.heap.size := b4.size
  clear hb5 q5 z5 KM4 b4
  revert KS
  generalize w4.heap.size = sb at hsz4 ⊢
  intro KS
  clear w3 w4
  refine Flow.wpK_pre rfl rfl ?_
  go_simp
  refine ⟨hS _ (b5.alloc b5.size _), fun w6 hb6 => ?_⟩
  obtain ⟨KL, q6, z6⟩ := Flow.laid1 (by simpa using hb6)
  have b6 := b5.trans (q6.mono b5.size)
  have KM6 := KM5.below q6
  have KS6 := KS.below q6
  clear hb6 q6 z6 KM5 KS b5
  have S6 := S1.out.below b6
  have s6 : SpAt w6 B ⟨⟨i, 0, List.replicate st.m 0⟩, sb, mb⟩ := ⟨by unfold PS.cells; simp only [List.length_replicate]; exact KS6, by simpa using KM6, Nat.le_trans hB hsz4, Nat.le_trans hB hsz2⟩
  have S6' := S6.snoc s6 (fun t ht => by have := hlt3.out t ht; simp only []; omega)
  obtain ⟨v7, w7, hr7, ho7, hb7, hc7, hw7⟩ := Flow.append_row (Flow.ownsRow_chg R1.out (Flow.Chg.of_below b6) (fun _ _ e => e)) 111 Try.underlying111 info115 rfl (by decide) [.pointer (some ⟨sb, 0, none⟩)] rfl ⟨w5.heap.size, 0, none⟩ 1 KL.news (fun u hu => by simp at hu; subst hu; rfl) (by have := HLL.out; omega) (by omega) (Nat.le_trans hB b6.size)
  have R6 := Flow.ownsRow_chg R1.out (Flow.Chg.of_below b6) (fun _ _ e => e)
  have K6 := K1.below b6
  have S7 := S6'.chg hc7 (fun s hs => ⟨fun e => Flow.row_ne R6 (S6'.all s hs).sp (by decide) e.symm, fun e => Flow.row_ne R6 (S6'.all s hs).ms (by decide) e.symm⟩)
  have K7 := K6.chg hc7 (fun e => Flow.row_ne R6 K6 (by decide) e.symm)
  have hap : ptrs l ++ [.pointer (some ⟨sb, 0, none⟩)] = ptrs (l ++ [⟨⟨i, 0, List.replicate st.m 0⟩, sb, mb⟩]) := by rw [ptrs_app]; rfl
  rw [hap] at ho7
  have CC7 : Flow.Chg (fun j => some j = v.ownBlock) w w7 := ((Flow.Chg.of_below b6).mono (fun _ _ e => e.elim)).trans hc7 (fun _ _ e => e)
  obtain ⟨A7, cap7, e7, _⟩ := Flow.ownsRow_form ho7
  subst e7
  have HO7 := Flow.hide ho7
  have HS7 := Flow.hide S7
  clear hb7 hc7 hw7 hap KM6 KS6 S6 s6 S6' K6 R6 KL b6 ho7 S7 K1 R1 S1 hS
  refine Flow.wpK_pre rfl rfl (Flow.nUpon_append _ _ 111 rfl rfl rfl hr7 ⟨kS _ K7, fun w8 hb8 => ?_⟩)
  simp only [Act.put, List.setIfInBounds_toArray, List.set_cons_succ, List.set_cons_zero]
  clear hr7
  refine Flow.wpK_pre rfl rfl ?_
  go_simp
  refine ⟨kS _ (K7.below hb8), fun w9 hb9 => ?_⟩
  have b79 := hb8.trans (hb9.mono hb8.size)
  refine Flow.wpK_pre rfl rfl ?_
  go_simp
  refine ⟨kS _ (K7.below b79), fun wa hba => ?_⟩
  have b7a := b79.trans (hba.mono b79.size)
  have Ka := K7.below b7a
  have Ra := Flow.ownsRow_chg HO7.out (Flow.Chg.of_below b7a) (fun _ _ e => e)
  have Sa := HS7.out.below b7a
  have CCa := CC7.trans (Flow.Chg.of_below b7a) (fun _ _ e => e.elim)
  have qa := Ka.cell
  have fa := Ka.frozen
  refine Flow.wpK_at rfl rfl ?_
  go_simp
  refine ⟨uW _, fun wb hbb => Flow.wpK_nil ?_⟩
  have c7 : Flow.Chg (· = g) wa (wa.setCell ⟨g, 4, none⟩ (.slice A7 (l.length + 1) cap7)) := Flow.Chg.setAt _ _ _ _
  have Kb := Flow.Blk.set_is Ka 4 (.slice A7 (l.length + 1) cap7) (cs' := #[.int .i64 (st.m : Int), .int .i64 st.n, .int .i64 st.hold, .int .i64 st.wait, .slice A7 (l.length + 1) cap7, .bool st.bh]) rfl
  have zb : (wa.setCell ⟨g, 4, none⟩ (.slice A7 (l.length + 1) cap7)).heap.size = wa.heap.size := by simp
  have hbb' : Below (wa.setCell ⟨g, 4, none⟩ (.slice A7 (l.length + 1) cap7)).heap.size (wa.setCell ⟨g, 4, none⟩ (.slice A7 (l.length + 1) cap7)) wb := by rw [zb]; exact hbb
  have Cab : Flow.Chg (· = g) wa wb := c7.trans (Flow.Chg.of_below hbb') (fun _ _ e => e.elim)
  have Kw := Kb.below hbb'
  obtain ⟨Rw, Sw⟩ := pace_put Ka Ra Sa Cab Kw
  have hP : Hid (IsPace wb B g (N + 1) (st.ask i)) := by
    refine ⟨_, l ++ [⟨⟨i, 0, List.replicate st.m 0⟩, sb, mb⟩], Kw, ?_, Sw, ?_, H5.out, H6.out.ask i⟩
    · rw [List.length_append]; exact Rw
    · rw [List.map_append, H4.out]; rfl
  have hC : Hid (Flow.Chg (Foot w) w wb) := (hft.out wa CCa).trans Cab (fun j _ e => by rw [e]; exact hfg.out)
  have hBB : Hid (Below B w wb) := (CCa.mono (T := fun j => some j = v.ownBlock ∨ j = g) (fun j _ e => .inl e)).trans Cab (fun j _ e => .inr e) |>.below (fun j hj e => hfb.out j hj e) hB
  clear hft hfb hfg hlt3 HLL HM HI HO7 HS7 CC7 hb8 hb9 b79 hba b7a Ka Ra Sa CCa qa fa hbb c7 Kb zb hbb' Cab Kw Rw Sw kS hSW hcS hW uW ne1 ne2 CS CW K7 w6 w7 w8 w9 wa
  go_wp2_with fail
  refine bodyPost_end (results_none rfl _ _ _) rfl ?_
  exact ⟨rfl, hP.out, hBB.out, hC.out⟩
end Go.Proofs.Ythkphapmnlndbaa
