/- The document's Of: for any records and any key it gives the operations that refOf tells (its contract, f45). -/
import Derived.Test.YthkphapmnlndbabHRows
namespace Go.Proofs.Ythkphapmnlndbab
open Go.RowKit
set_option maxHeartbeats 40000000
set_option linter.unusedSimpArgs false
attribute [local irreducible] Flow.wpSeg Flow.wpF Flow.wpG Flow.wpS Flow.wpT Flow.wpK
theorem fresh_take {l : List Rc} {k : Nat} {y x : Rc} (hy : l[k]? = some y) : fresh (l.take (k + 1)) x ↔ fresh (l.take k) x ∧ (y.refused = false → y.same x = false) := by
  have e : l.take (k + 1) = l.take k ++ [y] := by
    rw [List.take_add_one, hy]; rfl
  rw [e, fresh_snoc]
theorem drop_at {l : List Rc} {k : Nat} {y : Rc} (hy : l[k]? = some y) : l.drop k = y :: l.drop (k + 1) := by
  obtain ⟨hk, e⟩ := List.getElem?_eq_some_iff.1 hy
  rw [List.drop_eq_getElem_cons hk, e]
theorem ref_skip {l : List Rc} {i : Nat} {x : Rc} {key : Int} (hx : l[i]? = some x) (h : ¬ (x.refused = false ∧ fresh (l.take i) x ∧ x.ky = key)) :
    (refFrom (l.take i) (l.drop i)).filter (fun e => e.ky == key) = (refFrom (l.take (i + 1)) (l.drop (i + 1))).filter (fun e => e.ky == key) := by
  have e : l.take (i + 1) = l.take i ++ [x] := by
    rw [List.take_add_one, hx]; rfl
  rw [drop_at hx, e]
  simp only [refFrom]
  rw [List.filter_append]
  by_cases h2 : x.refused = false ∧ fresh (l.take i) x
  · rw [if_pos h2]
    have hk : ¬ x.ky = key := fun hk => h ⟨h2.1, h2.2, hk⟩
    have hky : (foldE x x.new (x :: l.drop (i + 1))).ky = x.ky := foldE_ky _ _ _
    simp [hky, hk]
  · rw [if_neg h2]; rfl
theorem ref_take {l : List Rc} {i : Nat} {x : Rc} {key : Int} (hx : l[i]? = some x) (h : x.refused = false) (h2 : fresh (l.take i) x) (h3 : x.ky = key) :
    (refFrom (l.take i) (l.drop i)).filter (fun e => e.ky == key) = foldE x x.new (l.drop i) :: (refFrom (l.take (i + 1)) (l.drop (i + 1))).filter (fun e => e.ky == key) := by
  have e : l.take (i + 1) = l.take i ++ [x] := by
    rw [List.take_add_one, hx]; rfl
  rw [drop_at hx, e]
  simp only [refFrom]
  rw [List.filter_append, if_pos ⟨h, h2⟩]
  have hky : (foldE x x.new (x :: l.drop (i + 1))).ky = x.ky := foldE_ky _ _ _
  simp [hky, h3]
theorem own_ltg {w : World} {b n : Nat} {e : TypeId} {sz : Nat} {v : Value} {x : List Value} (h : w.ownsRow b e sz v n x) : ∀ j, v.ownBlock = some j → j < w.heap.size := by
  intro j hj
  rcases h.2 with ⟨rfl, _⟩ | ⟨g, cap, cur, rfl, _, hg, _⟩
  · cases hj
  · simp only [Value.ownBlock, Option.some.injEq] at hj
    subst hj
    exact (Array.getElem?_eq_some_iff.1 hg).1
theorem take1_other (x e y : Rc) (h : ¬ (y.refused = false ∧ y.same x = true)) : x.take1 e y = e := by unfold Rc.take1; rw [if_neg h]
theorem take1_late (x e y : Rc) (h : ¬ (0 < y.en ∧ (e.en = 0 ∨ y.en < e.en))) : x.take1 e y = e := by
  unfold Rc.take1 Rc.upd
  rw [if_neg h]
  simp
theorem st_next {S : Nat → Prop} {w0 w w' : World} {g : Nat} {t : TypeId} {cs cs' : Array Value} (h : Flow.Blk w g t cs) (C : Flow.Chg S w0 w) (hS : S g) (i : Nat) (u : Value) (e : cs.setIfInBounds i u = cs') (hb : Below w.heap.size (w.setCell ⟨g, i, none⟩ u) w') : Flow.Blk w' g t cs' ∧ Flow.Chg S w0 w' := by
  have hb' : Below (w.setCell ⟨g, i, none⟩ u).heap.size (w.setCell ⟨g, i, none⟩ u) w' := by rw [World.size_setCell]; exact hb
  exact ⟨(Flow.Blk.set_is h i u e).below hb', (C.setCell (p := ⟨g, i, none⟩) (fun _ => hS) u).trans (Flow.Chg.of_below hb') (fun _ _ e => e.elim)⟩
theorem chg_cell {S : Nat → Prop} {w w' : World} {g : Nat} (h : Flow.Chg S w w') (hg : g < w.heap.size) (hn : ¬ S g) (i : Nat) : w'.cell? ⟨g, i, none⟩ = w.cell? ⟨g, i, none⟩ := by
  simp [World.cell?, h.block g hg hn]
theorem take1_now (x e y : Rc) (h1 : y.refused = false) (h2 : y.same x = true) (h : 0 < y.en ∧ (e.en = 0 ∨ y.en < e.en)) : x.take1 e y = { e with en := y.en, er := y.er, an := y.an, wr := y.wr } := by
  unfold Rc.take1 Rc.upd
  rw [if_pos ⟨h1, h2⟩, if_pos h]
theorem refused61_is (r : Rc) (b : Bool) (w : World) (h : r.refused = b) :
    Calls Try.prog 61 #[.agg #[.int .u8 r.nd, .int .u32 r.ss, .int .u32 r.sq, .int .i64 r.ky, .int .u32 r.op, .int .i64 r.st, .int .i64 r.en, .int .i64 r.er, .int .u32 r.an, .bool r.wr]] w fun e w' => e = .returned (.bool b) ∧ Below w.heap.size w w' := by
  subst h; exact refused61 r w
theorem same62_is (a b : Rc) (c : Bool) (w : World) (h : a.same b = c) :
    Calls Try.prog 62 #[.agg #[.int .u8 a.nd, .int .u32 a.ss, .int .u32 a.sq, .int .i64 a.ky, .int .u32 a.op, .int .i64 a.st, .int .i64 a.en, .int .i64 a.er, .int .u32 a.an, .bool a.wr], .agg #[.int .u8 b.nd, .int .u32 b.ss, .int .u32 b.sq, .int .i64 b.ky, .int .u32 b.op, .int .i64 b.st, .int .i64 b.en, .int .i64 b.er, .int .u32 b.an, .bool b.wr]] w fun e w' => e = .returned (.bool c) ∧ Below w.heap.size w w' := by
  subst h; exact same62 a b w
set_option maxRecDepth 20000 in
theorem refof45 (v : Value) (n B : Nat) (l : List Rc) (key : Int) (w : World) (hrow : w.ownsRow B 113 10 v n (rowsOf Rc.cells l)) (hl : l.length = n) (hn : n ≤ 30) :
    Calls Try.prog 45 #[v, .int .i64 key] w fun e w' => (∃ v', e = .returned v' ∧ w'.ownsRow w.heap.size 113 10 v' (refOf l key).length (rowsOf Rc.cells (refOf l key))) ∧ Below w.heap.size w w' := by
  obtain ⟨A, cap, hv, _⟩ := Flow.ownsRow_form hrow
  subst hv
  have HR := Flow.hide hrow
  have HL := Flow.hide hl
  have HN := Flow.hide hn
  have hn30 : (n : Int) ≤ 30 := by omega
  clear hrow hl hn
  go_enter Try.func45, Try.ntmps45
  go_wp2_with fail
  go_loopw [5, 6] (fun t5 t6 wr => ∃ (i : Nat) (out : List Rc), i ≤ n ∧ t6 = .int .i64 i ∧ wr.ownsRow w.heap.size 113 10 t5 out.length (rowsOf Rc.cells out) ∧ out ++ (refFrom (l.take i) (l.drop i)).filter (fun e => e.ky == key) = refOf l key ∧ Below w.heap.size w wr) (fun _ t6 _ => 30 - (intOf t6).toNat)
  case atStart => exact ⟨0, [], by omega, rfl, World.ownsRow_nil _ _ _ _, by simp [refOf], Below.refl _ _⟩
  case round =>
    obtain ⟨i, out, hin, rfl, hout, hsum, hb⟩ := hrel
    obtain ⟨A5, cap5, hv5, _⟩ := Flow.ownsRow_form hout
    subst hv5
    have HO := Flow.hide hout
    have HS := Flow.hide hsum
    have HB := Flow.hide hb
    clear hout hsum hb
    by_cases hlt : i < n
    · have hltI : (i : Int) < (n : Int) := by omega
      obtain ⟨x, hx⟩ : ∃ x, l[i]? = some x := ⟨_, List.getElem?_eq_getElem (by have := HL.out; omega)⟩
      have HX := Flow.hide hx
      have R1 := Flow.hide (Flow.ownsRow_chg HR.out (Flow.Chg.of_below HB.out) (fun _ _ e => e))
      obtain ⟨g, cap', e1, _, hg, _, z0, z1, z2, z3, z4, z5, z6, z7, z8, z9⟩ := at113 R1.out HL.out hx
      simp only [Value.slice.injEq] at e1
      obtain ⟨rfl, _, rfl⟩ := e1
      clear hx
      rcases hr : x.refused with _ | _
      · have HRF := Flow.hide hr
        clear hr
        go_wp2_with fail
        (with_reducible refine (refused61 x _).mono ?_)
        rw [HRF.out]
        rintro e w1 ⟨rfl, hb1⟩
        have HB1 := Flow.hide (HB.out.trans (hb1.mono HB.out.size))
        have HO1 := Flow.hide (Flow.ownsRow_chg HO.out (Flow.Chg.of_below hb1) (fun _ _ e => e))
        have R2 := Flow.hide (Flow.ownsRow_chg R1.out (Flow.Chg.of_below hb1) (fun _ _ e => e))
        clear hb1 z0 z1 z2 z3 z4 z5 z6 z7 z8 z9 HB HO R1 hg
        go_wp2_with fail
        go_loopw [7, 8] (fun t7 t8 wx => ∃ k : Nat, k ≤ i ∧ t8 = .int .i64 k ∧ t7 = .bool (decide (fresh (l.take k) x)) ∧ Below w1.heap.size w1 wx) (fun _ t8 _ => 30 - (intOf t8).toNat)
        case atStart => exact ⟨0, by omega, rfl, by simp [fresh], Below.refl _ _⟩
        case round =>
          obtain ⟨k, hki, rfl, rfl, hb⟩ := hrel
          have HBX := Flow.hide hb
          clear hb
          by_cases hlt2 : k < i
          · have hlt2I : (k : Int) < (i : Int) := by omega
            have hkI : (k : Int) < (n : Int) := by omega
            obtain ⟨y, hy⟩ : ∃ y, l[k]? = some y := ⟨_, List.getElem?_eq_getElem (by have := HL.out; omega)⟩
            have HY := Flow.hide hy
            have R3 := Flow.hide (Flow.ownsRow_chg R2.out (Flow.Chg.of_below HBX.out) (fun _ _ e => e))
            obtain ⟨g3, cap3, e1, _, hg3, _, z0, z1, z2, z3, z4, z5, z6, z7, z8, z9⟩ := at113 R3.out HL.out HX.out
            obtain ⟨g2, cap2, e2, _, _, _, y0, y1, y2, y3, y4, y5, y6, y7, y8, y9⟩ := at113 R3.out HL.out hy
            simp only [Value.slice.injEq, Option.some.injEq, Addr.mk.injEq] at e1 e2
            obtain ⟨⟨e1, _⟩, _, e3⟩ := e1
            obtain ⟨⟨e2, _⟩, _, e4⟩ := e2
            subst e1 e2 e3 e4
            clear hy
            have a0 : ∀ (p : Flow.Rg), (Flow.rg wr p).cell? ⟨g, k * 10, none⟩ = some (.int .u8 y.nd) := fun p => ((Flow.rg_below wr p).cell (p := ⟨g, k * 10, none⟩) hg3).trans y0
            have a1 : ∀ (p : Flow.Rg), (Flow.rg wr p).cell? ⟨g, k * 10 + 1, none⟩ = some (.int .u32 y.ss) := fun p => ((Flow.rg_below wr p).cell (p := ⟨g, k * 10 + 1, none⟩) hg3).trans y1
            have a2 : ∀ (p : Flow.Rg), (Flow.rg wr p).cell? ⟨g, k * 10 + 2, none⟩ = some (.int .u32 y.sq) := fun p => ((Flow.rg_below wr p).cell (p := ⟨g, k * 10 + 2, none⟩) hg3).trans y2
            have a3 : ∀ (p : Flow.Rg), (Flow.rg wr p).cell? ⟨g, k * 10 + 3, none⟩ = some (.int .i64 y.ky) := fun p => ((Flow.rg_below wr p).cell (p := ⟨g, k * 10 + 3, none⟩) hg3).trans y3
            have a4 : ∀ (p : Flow.Rg), (Flow.rg wr p).cell? ⟨g, k * 10 + 4, none⟩ = some (.int .u32 y.op) := fun p => ((Flow.rg_below wr p).cell (p := ⟨g, k * 10 + 4, none⟩) hg3).trans y4
            have a5 : ∀ (p : Flow.Rg), (Flow.rg wr p).cell? ⟨g, k * 10 + 5, none⟩ = some (.int .i64 y.st) := fun p => ((Flow.rg_below wr p).cell (p := ⟨g, k * 10 + 5, none⟩) hg3).trans y5
            have a6 : ∀ (p : Flow.Rg), (Flow.rg wr p).cell? ⟨g, k * 10 + 6, none⟩ = some (.int .i64 y.en) := fun p => ((Flow.rg_below wr p).cell (p := ⟨g, k * 10 + 6, none⟩) hg3).trans y6
            have a7 : ∀ (p : Flow.Rg), (Flow.rg wr p).cell? ⟨g, k * 10 + 7, none⟩ = some (.int .i64 y.er) := fun p => ((Flow.rg_below wr p).cell (p := ⟨g, k * 10 + 7, none⟩) hg3).trans y7
            have a8 : ∀ (p : Flow.Rg), (Flow.rg wr p).cell? ⟨g, k * 10 + 8, none⟩ = some (.int .u32 y.an) := fun p => ((Flow.rg_below wr p).cell (p := ⟨g, k * 10 + 8, none⟩) hg3).trans y8
            have a9 : ∀ (p : Flow.Rg), (Flow.rg wr p).cell? ⟨g, k * 10 + 9, none⟩ = some (.bool y.wr) := fun p => ((Flow.rg_below wr p).cell (p := ⟨g, k * 10 + 9, none⟩) hg3).trans y9
            have c0 : ∀ (p : Flow.Rg), (Flow.rg wr p).cell? ⟨g, i * 10, none⟩ = some (.int .u8 x.nd) := fun p => ((Flow.rg_below wr p).cell (p := ⟨g, i * 10, none⟩) hg3).trans z0
            have c1 : ∀ (p : Flow.Rg), (Flow.rg wr p).cell? ⟨g, i * 10 + 1, none⟩ = some (.int .u32 x.ss) := fun p => ((Flow.rg_below wr p).cell (p := ⟨g, i * 10 + 1, none⟩) hg3).trans z1
            have c2 : ∀ (p : Flow.Rg), (Flow.rg wr p).cell? ⟨g, i * 10 + 2, none⟩ = some (.int .u32 x.sq) := fun p => ((Flow.rg_below wr p).cell (p := ⟨g, i * 10 + 2, none⟩) hg3).trans z2
            have c3 : ∀ (p : Flow.Rg), (Flow.rg wr p).cell? ⟨g, i * 10 + 3, none⟩ = some (.int .i64 x.ky) := fun p => ((Flow.rg_below wr p).cell (p := ⟨g, i * 10 + 3, none⟩) hg3).trans z3
            have c4 : ∀ (p : Flow.Rg), (Flow.rg wr p).cell? ⟨g, i * 10 + 4, none⟩ = some (.int .u32 x.op) := fun p => ((Flow.rg_below wr p).cell (p := ⟨g, i * 10 + 4, none⟩) hg3).trans z4
            have c5 : ∀ (p : Flow.Rg), (Flow.rg wr p).cell? ⟨g, i * 10 + 5, none⟩ = some (.int .i64 x.st) := fun p => ((Flow.rg_below wr p).cell (p := ⟨g, i * 10 + 5, none⟩) hg3).trans z5
            have c6 : ∀ (p : Flow.Rg), (Flow.rg wr p).cell? ⟨g, i * 10 + 6, none⟩ = some (.int .i64 x.en) := fun p => ((Flow.rg_below wr p).cell (p := ⟨g, i * 10 + 6, none⟩) hg3).trans z6
            have c7 : ∀ (p : Flow.Rg), (Flow.rg wr p).cell? ⟨g, i * 10 + 7, none⟩ = some (.int .i64 x.er) := fun p => ((Flow.rg_below wr p).cell (p := ⟨g, i * 10 + 7, none⟩) hg3).trans z7
            have c8 : ∀ (p : Flow.Rg), (Flow.rg wr p).cell? ⟨g, i * 10 + 8, none⟩ = some (.int .u32 x.an) := fun p => ((Flow.rg_below wr p).cell (p := ⟨g, i * 10 + 8, none⟩) hg3).trans z8
            have c9 : ∀ (p : Flow.Rg), (Flow.rg wr p).cell? ⟨g, i * 10 + 9, none⟩ = some (.bool x.wr) := fun p => ((Flow.rg_below wr p).cell (p := ⟨g, i * 10 + 9, none⟩) hg3).trans z9
            clear z0 z1 z2 z3 z4 z5 z6 z7 z8 z9 y0 y1 y2 y3 y4 y5 y6 y7 y8 y9
            by_cases hf : fresh (l.take k) x
            · have HF := Flow.hide hf
              rw [decide_eq_true hf]
              clear hf
              rcases hyr : y.refused with _ | _
              · have HYR := Flow.hide hyr
                clear hyr
                rcases hys : y.same x with _ | _
                · have HYS := Flow.hide hys
                  clear hys
                  go_upto_region 10 with fail
                  refine Flow.wp_region_all (by kernel_rfl) (by kernel_rfl) ?_
                  repeat (first
                    | (refine Flow.wpSeg_step (fun K' hK' => ?_)
                       go_simp
                       first
                         | (refine hK' _ ?_; clear hK' K')
                         | (apply Exists.intro
                            refine ⟨fun p => ?_, hK' _ ?_⟩
                            (first | with_reducible exact (refused61_is y false _ HYR.out) | with_reducible exact (same62_is y x false _ HYS.out))
                            clear hK' K')))
                  refine Flow.wpSeg_nil ?_
                  intro w7 hb7
                  clear a0 a1 a2 a3 a4 a5 a6 a7 a8 a9 c0 c1 c2 c3 c4 c5 c6 c7 c8 c9
                  have HB7 := Flow.hide hb7
                  clear hb7
                  go_wp2_with fail
                  go_roundw
                  case rel => exact ⟨k + 1, by omega, by go_num, by rw [decide_eq_true ((fresh_take HY.out).2 ⟨HF.out, fun _ => HYS.out⟩)], HBX.out.trans (HB7.out.mono HBX.out.size)⟩
                  case measure => simp [intOf]; omega
                · have HYS := Flow.hide hys
                  clear hys
                  go_upto_region 10 with fail
                  refine Flow.wp_region_all (by kernel_rfl) (by kernel_rfl) ?_
                  repeat (first
                    | (refine Flow.wpSeg_step (fun K' hK' => ?_)
                       go_simp
                       first
                         | (refine hK' _ ?_; clear hK' K')
                         | (apply Exists.intro
                            refine ⟨fun p => ?_, hK' _ ?_⟩
                            (first | with_reducible exact (refused61_is y false _ HYR.out) | with_reducible exact (same62_is y x true _ HYS.out))
                            clear hK' K')))
                  refine Flow.wpSeg_nil ?_
                  intro w7 hb7
                  clear a0 a1 a2 a3 a4 a5 a6 a7 a8 a9 c0 c1 c2 c3 c4 c5 c6 c7 c8 c9
                  have HB7 := Flow.hide hb7
                  clear hb7
                  go_wp2_with fail
                  go_roundw
                  case rel => exact ⟨k + 1, by omega, by go_num, by rw [decide_eq_false (fun c => by have := ((fresh_take HY.out).1 c).2 HYR.out; rw [HYS.out] at this; cases this)], HBX.out.trans (HB7.out.mono HBX.out.size)⟩
                  case measure => simp [intOf]; omega
              · have HYR := Flow.hide hyr
                clear hyr
                go_upto_region 10 with fail
                refine Flow.wp_region_all (by kernel_rfl) (by kernel_rfl) ?_
                repeat (first
                  | (refine Flow.wpSeg_step (fun K' hK' => ?_)
                     go_simp
                     first
                       | (refine hK' _ ?_; clear hK' K')
                       | (apply Exists.intro
                          refine ⟨fun p => ?_, hK' _ ?_⟩
                          (first | with_reducible exact (refused61_is y true _ HYR.out) | with_reducible exact (same62_is y x true _ (by assumption)))
                          clear hK' K')))
                refine Flow.wpSeg_nil ?_
                intro w7 hb7
                clear a0 a1 a2 a3 a4 a5 a6 a7 a8 a9 c0 c1 c2 c3 c4 c5 c6 c7 c8 c9
                have HB7 := Flow.hide hb7
                clear hb7
                go_wp2_with fail
                go_roundw
                case rel => exact ⟨k + 1, by omega, by go_num, by rw [decide_eq_true ((fresh_take HY.out).2 ⟨HF.out, fun c => by rw [HYR.out] at c; cases c⟩)], HBX.out.trans (HB7.out.mono HBX.out.size)⟩
                case measure => simp [intOf]; omega
            · have HF := Flow.hide hf
              rw [decide_eq_false hf]
              clear hf
              go_upto_region 10 with fail
              refine Flow.wp_region_all (by kernel_rfl) (by kernel_rfl) ?_
              repeat (first
                | (refine Flow.wpSeg_step (fun K' hK' => ?_)
                   go_simp
                   first
                     | (refine hK' _ ?_; clear hK' K')
                     | (apply Exists.intro
                        refine ⟨fun p => ?_, hK' _ ?_⟩
                        (first | with_reducible exact (refused61_is y true _ (by assumption)) | with_reducible exact (same62_is y x true _ (by assumption)))
                        clear hK' K')))
              refine Flow.wpSeg_nil ?_
              intro w7 hb7
              clear a0 a1 a2 a3 a4 a5 a6 a7 a8 a9 c0 c1 c2 c3 c4 c5 c6 c7 c8 c9
              have HB7 := Flow.hide hb7
              clear hb7
              go_wp2_with fail
              go_roundw
              case rel => exact ⟨k + 1, by omega, by go_num, by rw [decide_eq_false (fun c => HF.out ((fresh_take HY.out).1 c).1)], HBX.out.trans (HB7.out.mono HBX.out.size)⟩
              case measure => simp [intOf]; omega
          · obtain rfl : i = k := by omega
            have R3 := Flow.hide (Flow.ownsRow_chg R2.out (Flow.Chg.of_below HBX.out) (fun _ _ e => e))
            have HO3 := Flow.hide (Flow.ownsRow_chg HO1.out (Flow.Chg.of_below HBX.out) (fun _ _ e => e))
            have HB3 := Flow.hide (HB1.out.trans (HBX.out.mono HB1.out.size))
            obtain ⟨g3, cap3, e1, _, hg3, _, z0, z1, z2, z3, z4, z5, z6, z7, z8, z9⟩ := at113 R3.out HL.out HX.out
            simp only [Value.slice.injEq, Option.some.injEq, Addr.mk.injEq] at e1
            obtain ⟨⟨e1, _⟩, _, e3⟩ := e1
            subst e1 e3
            clear hlt2 HB1 HO1 R2 HBX
            by_cases hf : fresh (l.take i) x
            · have HF := Flow.hide hf
              rw [decide_eq_true hf]
              clear hf
              by_cases hk : x.ky = key
              · have HKE := Flow.hide hk
                clear hk
                have hkn : (x.ky != key) = false := by simp [HKE.out]
                go_upto_region 12 with fail
                go_upto_block 4 with fail
                obtain ⟨K5, hh5, _⟩ := Flow.laid1 (w := wr) (w1 := wr.alloc (.cells #[.int .u8 x.nd, .int .u32 x.ss, .int .u32 x.sq, .int .i64 x.ky, .int .u32 x.op, .int .i64 x.st, .int .i64 0, .int .i64 0, .int .u32 0, .bool false] 113)) (Below.refl _ _)
                have R5 := Flow.hide (Flow.ownsRow_chg R3.out (Flow.Chg.of_below hh5) (fun _ _ e => e))
                have HO5 := Flow.hide (Flow.ownsRow_chg HO3.out (Flow.Chg.of_below hh5) (fun _ _ e => e))
                have HB5 := Flow.hide (HB3.out.trans (hh5.mono HB3.out.size))
                have hg9 := Flow.hide (show g ≠ wr.heap.size by omega)
                have ho9 := Flow.hide (own_ltg HO3.out)
                have hs9 := Flow.hide (show w.heap.size ≤ wr.heap.size from HB3.out.size)
                clear hh5 R3 HO3 HB3 hg3 z0 z1 z2 z3 z4 z5 z6 z7 z8 z9
                revert K5 R5 HO5 HB5 hg9 ho9 hs9
                generalize wr.alloc (.cells #[.int .u8 x.nd, .int .u32 x.ss, .int .u32 x.sq, .int .i64 x.ky, .int .u32 x.op, .int .i64 x.st, .int .i64 0, .int .i64 0, .int .u32 0, .bool false] 113) = w5
                generalize wr.heap.size = g9
                intro K5 R5 HO5 HB5 hg9 ho9 hs9
                have KK5 := Flow.hide K5
                clear K5 hkn
                go_wp2_with fail
                go_loopw [10] (fun t10 wx => ∃ (k : Nat) (e : Rc), i ≤ k ∧ k ≤ n ∧ t10 = .int .i64 k ∧ Flow.Blk wx g9 113 #[.int .u8 e.nd, .int .u32 e.ss, .int .u32 e.sq, .int .i64 e.ky, .int .u32 e.op, .int .i64 e.st, .int .i64 e.en, .int .i64 e.er, .int .u32 e.an, .bool e.wr] ∧ foldE x e (l.drop k) = foldE x x.new (l.drop i) ∧ Flow.Chg (· = g9) w5 wx) (fun t10 _ => 30 - (intOf t10).toNat)
                case atStart => exact ⟨i, x.new, by omega, by omega, rfl, KK5.out, rfl, Flow.Chg.refl _ _⟩
                case round =>
                  obtain ⟨k, e, hik, hkn, rfl, hke, hfold, hc⟩ := hrel
                  have KE := Flow.hide hke
                  have HC5 := Flow.hide hc
                  have HFO := Flow.hide hfold
                  have R6 := Flow.hide (Flow.ownsRow_chg R5.out HC5.out (fun j hj => by simp only [Value.ownBlock, Option.some.injEq] at hj; subst hj; exact hg9.out))
                  have HO6 := Flow.hide (Flow.ownsRow_chg HO5.out HC5.out (fun j hj => by have := ho9.out j hj; omega))
                  clear hke hfold hc R5 HO5 KK5
                  by_cases hlt3 : k < n
                  · obtain ⟨y, hy⟩ : ∃ y, l[k]? = some y := ⟨_, List.getElem?_eq_getElem (by have := HL.out; omega)⟩
                    have HY := Flow.hide hy
                    have hkI : (k : Int) < (n : Int) := by omega
                    obtain ⟨g3, cap3, e1, _, hg3, _, z0, z1, z2, z3, z4, z5, z6, z7, z8, z9⟩ := at113 R6.out HL.out HX.out
                    obtain ⟨g2, cap2, e2, _, _, _, y0, y1, y2, y3, y4, y5, y6, y7, y8, y9⟩ := at113 R6.out HL.out hy
                    simp only [Value.slice.injEq, Option.some.injEq, Addr.mk.injEq] at e1 e2
                    obtain ⟨⟨e1, _⟩, _, e3⟩ := e1
                    obtain ⟨⟨e2, _⟩, _, e4⟩ := e2
                    subst e1 e2 e3 e4
                    clear hy
                    have rx := KE.out.rg
                    have a0 : ∀ (p : Flow.Rg), (Flow.rg wr p).cell? ⟨g, k * 10, none⟩ = some (.int .u8 y.nd) := fun p => ((Flow.rg_below wr p).cell (p := ⟨g, k * 10, none⟩) hg3).trans y0
                    have a1 : ∀ (p : Flow.Rg), (Flow.rg wr p).cell? ⟨g, k * 10 + 1, none⟩ = some (.int .u32 y.ss) := fun p => ((Flow.rg_below wr p).cell (p := ⟨g, k * 10 + 1, none⟩) hg3).trans y1
                    have a2 : ∀ (p : Flow.Rg), (Flow.rg wr p).cell? ⟨g, k * 10 + 2, none⟩ = some (.int .u32 y.sq) := fun p => ((Flow.rg_below wr p).cell (p := ⟨g, k * 10 + 2, none⟩) hg3).trans y2
                    have a3 : ∀ (p : Flow.Rg), (Flow.rg wr p).cell? ⟨g, k * 10 + 3, none⟩ = some (.int .i64 y.ky) := fun p => ((Flow.rg_below wr p).cell (p := ⟨g, k * 10 + 3, none⟩) hg3).trans y3
                    have a4 : ∀ (p : Flow.Rg), (Flow.rg wr p).cell? ⟨g, k * 10 + 4, none⟩ = some (.int .u32 y.op) := fun p => ((Flow.rg_below wr p).cell (p := ⟨g, k * 10 + 4, none⟩) hg3).trans y4
                    have a5 : ∀ (p : Flow.Rg), (Flow.rg wr p).cell? ⟨g, k * 10 + 5, none⟩ = some (.int .i64 y.st) := fun p => ((Flow.rg_below wr p).cell (p := ⟨g, k * 10 + 5, none⟩) hg3).trans y5
                    have a6 : ∀ (p : Flow.Rg), (Flow.rg wr p).cell? ⟨g, k * 10 + 6, none⟩ = some (.int .i64 y.en) := fun p => ((Flow.rg_below wr p).cell (p := ⟨g, k * 10 + 6, none⟩) hg3).trans y6
                    have a7 : ∀ (p : Flow.Rg), (Flow.rg wr p).cell? ⟨g, k * 10 + 7, none⟩ = some (.int .i64 y.er) := fun p => ((Flow.rg_below wr p).cell (p := ⟨g, k * 10 + 7, none⟩) hg3).trans y7
                    have a8 : ∀ (p : Flow.Rg), (Flow.rg wr p).cell? ⟨g, k * 10 + 8, none⟩ = some (.int .u32 y.an) := fun p => ((Flow.rg_below wr p).cell (p := ⟨g, k * 10 + 8, none⟩) hg3).trans y8
                    have a9 : ∀ (p : Flow.Rg), (Flow.rg wr p).cell? ⟨g, k * 10 + 9, none⟩ = some (.bool y.wr) := fun p => ((Flow.rg_below wr p).cell (p := ⟨g, k * 10 + 9, none⟩) hg3).trans y9
                    have c0 : ∀ (p : Flow.Rg), (Flow.rg wr p).cell? ⟨g, i * 10, none⟩ = some (.int .u8 x.nd) := fun p => ((Flow.rg_below wr p).cell (p := ⟨g, i * 10, none⟩) hg3).trans z0
                    have c1 : ∀ (p : Flow.Rg), (Flow.rg wr p).cell? ⟨g, i * 10 + 1, none⟩ = some (.int .u32 x.ss) := fun p => ((Flow.rg_below wr p).cell (p := ⟨g, i * 10 + 1, none⟩) hg3).trans z1
                    have c2 : ∀ (p : Flow.Rg), (Flow.rg wr p).cell? ⟨g, i * 10 + 2, none⟩ = some (.int .u32 x.sq) := fun p => ((Flow.rg_below wr p).cell (p := ⟨g, i * 10 + 2, none⟩) hg3).trans z2
                    have c3 : ∀ (p : Flow.Rg), (Flow.rg wr p).cell? ⟨g, i * 10 + 3, none⟩ = some (.int .i64 x.ky) := fun p => ((Flow.rg_below wr p).cell (p := ⟨g, i * 10 + 3, none⟩) hg3).trans z3
                    have c4 : ∀ (p : Flow.Rg), (Flow.rg wr p).cell? ⟨g, i * 10 + 4, none⟩ = some (.int .u32 x.op) := fun p => ((Flow.rg_below wr p).cell (p := ⟨g, i * 10 + 4, none⟩) hg3).trans z4
                    have c5 : ∀ (p : Flow.Rg), (Flow.rg wr p).cell? ⟨g, i * 10 + 5, none⟩ = some (.int .i64 x.st) := fun p => ((Flow.rg_below wr p).cell (p := ⟨g, i * 10 + 5, none⟩) hg3).trans z5
                    have c6 : ∀ (p : Flow.Rg), (Flow.rg wr p).cell? ⟨g, i * 10 + 6, none⟩ = some (.int .i64 x.en) := fun p => ((Flow.rg_below wr p).cell (p := ⟨g, i * 10 + 6, none⟩) hg3).trans z6
                    have c7 : ∀ (p : Flow.Rg), (Flow.rg wr p).cell? ⟨g, i * 10 + 7, none⟩ = some (.int .i64 x.er) := fun p => ((Flow.rg_below wr p).cell (p := ⟨g, i * 10 + 7, none⟩) hg3).trans z7
                    have c8 : ∀ (p : Flow.Rg), (Flow.rg wr p).cell? ⟨g, i * 10 + 8, none⟩ = some (.int .u32 x.an) := fun p => ((Flow.rg_below wr p).cell (p := ⟨g, i * 10 + 8, none⟩) hg3).trans z8
                    have c9 : ∀ (p : Flow.Rg), (Flow.rg wr p).cell? ⟨g, i * 10 + 9, none⟩ = some (.bool x.wr) := fun p => ((Flow.rg_below wr p).cell (p := ⟨g, i * 10 + 9, none⟩) hg3).trans z9
                    clear z0 z1 z2 z3 z4 z5 z6 z7 z8 z9 y0 y1 y2 y3 y4 y5 y6 y7 y8 y9
                    rcases hyr : y.refused with _ | _
                    · have HYR := Flow.hide hyr
                      clear hyr
                      rcases hys : y.same x with _ | _
                      · have HYS := Flow.hide hys
                        clear hys
                        go_upto_region 17 with fail
                        refine Flow.wp_region_all (by kernel_rfl) (by kernel_rfl) ?_
                        repeat (first
                          | (refine Flow.wpSeg_step (fun K' hK' => ?_)
                             go_simp
                             first
                               | (refine hK' _ ?_; clear hK' K')
                               | (apply Exists.intro
                                  refine ⟨fun p => ?_, hK' _ ?_⟩
                                  (first | with_reducible exact (refused61_is y false _ HYR.out) | with_reducible exact (same62_is y x false _ HYS.out))
                                  clear hK' K')))
                        refine Flow.wpSeg_nil ?_
                        intro w7 hb7
                        clear a0 a1 a2 a3 a4 a5 a6 a7 a8 a9 c0 c1 c2 c3 c4 c5 c6 c7 c8 c9 rx
                        have HB7 := Flow.hide hb7
                        clear hb7
                        go_wp2_with fail
                        go_roundw
                        case rel => exact ⟨k + 1, e, by omega, by omega, by go_num, KE.out.below HB7.out, by rw [← HFO.out, drop_at HY.out]; exact congrArg (fun q => foldE x q (l.drop (k + 1))) (show e = x.take1 e y from (take1_other _ _ _ (fun c => by rw [HYS.out] at c; cases c.2)).symm), HC5.out.trans (Flow.Chg.of_below HB7.out) (fun _ _ e => e.elim)⟩
                        case measure => simp [intOf]; omega
                      · have HYS := Flow.hide hys
                        clear hys
                        by_cases hen : 0 < y.en
                        · by_cases he0 : e.en = 0
                          · have HQ := Flow.hide (show 0 < y.en ∧ (e.en = 0 ∨ y.en < e.en) from ⟨hen, .inl he0⟩)
                            go_upto_region 17 with fail
                            refine Flow.wp_region_all (by kernel_rfl) (by kernel_rfl) ?_
                            repeat (first
                              | (refine Flow.wpSeg_step (fun K' hK' => ?_)
                                 go_simp
                                 first
                                   | (refine hK' _ ?_; clear hK' K')
                                   | (apply Exists.intro
                                      refine ⟨fun p => ?_, hK' _ ?_⟩
                                      (first | with_reducible exact (refused61_is y false _ HYR.out) | with_reducible exact (same62_is y x true _ HYS.out))
                                      clear hK' K')))
                            refine Flow.wpSeg_nil ?_
                            intro w7 hb7
                            clear a0 a1 a2 a3 a4 a5 a6 a7 a8 a9 c0 c1 c2 c3 c4 c5 c6 c7 c8 c9 rx
                            have R7 := Flow.hide (Flow.ownsRow_chg R6.out (Flow.Chg.of_below hb7) (fun _ _ e => e))
                            have K7 := Flow.hide (KE.out.below hb7)
                            have HB7 := Flow.hide hb7
                            clear hb7
                            obtain ⟨g4, cap4, e1, _, hg4, _, y0, y1, y2, y3, y4, y5, y6, y7, y8, y9⟩ := at113 R7.out HL.out HY.out
                            simp only [Value.slice.injEq, Option.some.injEq, Addr.mk.injEq] at e1
                            obtain ⟨⟨e1, _⟩, _, e3⟩ := e1
                            subst e1 e3
                            have hgg := hg9.out
                            obtain ⟨CW, hCW⟩ : ∃ C : World → Prop, C = fun w' => Flow.Chg (· = g9) w7 w' := ⟨_, rfl⟩
                            have kW : ∀ w', Flow.Chg (· = g9) w7 w' → CW w' := by rw [hCW]; exact fun _ h => h
                            have uW : ∀ w', CW w' → Flow.Chg (· = g9) w7 w' := by rw [hCW]; exact fun _ h => h
                            have hW : ∀ w1 w2, CW w1 → Below w1.heap.size w1 w2 → CW w2 := by rw [hCW]; exact fun _ _ h k => h.trans (Flow.Chg.of_below k) (fun _ _ e => e.elim)
                            have b6 : ∀ p : Flow.Wd CW, p.w.cell? ⟨g, k * 10 + 6, none⟩ = some (.int .i64 y.en) := fun p => (chg_cell (uW _ p.ok) hg4 hgg _).trans y6
                            have b7 : ∀ p : Flow.Wd CW, p.w.cell? ⟨g, k * 10 + 7, none⟩ = some (.int .i64 y.er) := fun p => (chg_cell (uW _ p.ok) hg4 hgg _).trans y7
                            have b8 : ∀ p : Flow.Wd CW, p.w.cell? ⟨g, k * 10 + 8, none⟩ = some (.int .u32 y.an) := fun p => (chg_cell (uW _ p.ok) hg4 hgg _).trans y8
                            have b9 : ∀ p : Flow.Wd CW, p.w.cell? ⟨g, k * 10 + 9, none⟩ = some (.bool y.wr) := fun p => (chg_cell (uW _ p.ok) hg4 hgg _).trans y9
                            have ne1 : Nonempty (Flow.Wd CW) := ⟨⟨w7, kW _ (Flow.Chg.refl _ _)⟩⟩
                            clear hCW y0 y1 y2 y3 y4 y5 y6 y7 y8 y9
                            go_upto_region 18 with fail
                            refine Flow.wp_region_chain 1000 CW CW [0, 1, 2, 3, 4, 5, 6, 7, 8, 9, 10, 11, 12, 13, 14, 15, 16, 17, 18, 19, 20] [21, 22, 23, 24, 25, 26, 27] (by kernel_rfl) (by kernel_rfl) (.inl rfl) (fun w' h => kW _ ((Flow.Chg.of_below h).mono (fun _ _ e => e.elim))) (fun _ h => h) hW ?_
                            dsimp only [Flow.pickIdx, List.getElem?_cons_zero, List.getElem?_cons_succ]
                            iterate 21 (
                                (refine Flow.wpS_weak (by kernel_rfl) (fun K' hK' => ?_)
                                 go_simp
                                 first
                                   | (refine hK' _ ?_; clear hK' K')
                                   | (apply Exists.intro
                                      refine ⟨fun p => ?_, hK' _ ?_⟩
                                      (first | fail)
                                      clear hK' K')))
                            refine Flow.wpS_nil ?_
                            dsimp only [Flow.pickOps, List.getElem?_cons_zero, List.getElem?_cons_succ]
                            clear b6 b7 b8 b9
                            intro w8 hb8
                            have G8 := K7.out.below hb8
                            have C8 : Flow.Chg (· = g9) w7 w8 := (Flow.Chg.of_below hb8).mono (fun _ _ e => e.elim)
                            clear hb8
                            have q8 := G8.cell
                            have f8 := G8.frozen
                            refine Flow.wpT_on rfl ?_
                            go_simp
                            refine ⟨kW _ (C8.setCell (p := ⟨g9, 6, none⟩) (fun _ => rfl) _), fun w9 hb9 => ?_⟩
                            obtain ⟨G9, C9⟩ := st_next G8 C8 rfl 6 (.int .i64 y.en) (cs' := #[.int .u8 e.nd, .int .u32 e.ss, .int .u32 e.sq, .int .i64 e.ky, .int .u32 e.op, .int .i64 e.st, .int .i64 y.en, .int .i64 e.er, .int .u32 e.an, .bool e.wr]) rfl hb9
                            clear hb9 q8 f8 G8 C8
                            refine Flow.wpT_on rfl ?_
                            go_simp
                            refine ⟨kW _ C9, fun w10 hb10 => ?_⟩
                            have G10 := G9.below hb10
                            have C10 := C9.trans (Flow.Chg.of_below hb10) (fun _ _ e => e.elim)
                            clear hb10 G9 C9
                            have q8 := G10.cell
                            have f8 := G10.frozen
                            refine Flow.wpT_on rfl ?_
                            go_simp
                            refine ⟨kW _ (C10.setCell (p := ⟨g9, 7, none⟩) (fun _ => rfl) _), fun w11 hb11 => ?_⟩
                            obtain ⟨G11, C11⟩ := st_next G10 C10 rfl 7 (.int .i64 y.er) (cs' := #[.int .u8 e.nd, .int .u32 e.ss, .int .u32 e.sq, .int .i64 e.ky, .int .u32 e.op, .int .i64 e.st, .int .i64 y.en, .int .i64 y.er, .int .u32 e.an, .bool e.wr]) rfl hb11
                            clear hb11 q8 f8 G10 C10
                            refine Flow.wpT_on rfl ?_
                            go_simp
                            refine ⟨kW _ C11, fun w12 hb12 => ?_⟩
                            have G12 := G11.below hb12
                            have C12 := C11.trans (Flow.Chg.of_below hb12) (fun _ _ e => e.elim)
                            clear hb12 G11 C11
                            have q8 := G12.cell
                            have f8 := G12.frozen
                            refine Flow.wpT_on rfl ?_
                            go_simp
                            refine ⟨kW _ (C12.setCell (p := ⟨g9, 8, none⟩) (fun _ => rfl) _), fun w13 hb13 => ?_⟩
                            obtain ⟨G13, C13⟩ := st_next G12 C12 rfl 8 (.int .u32 y.an) (cs' := #[.int .u8 e.nd, .int .u32 e.ss, .int .u32 e.sq, .int .i64 e.ky, .int .u32 e.op, .int .i64 e.st, .int .i64 y.en, .int .i64 y.er, .int .u32 y.an, .bool e.wr]) rfl hb13
                            clear hb13 q8 f8 G12 C12
                            refine Flow.wpT_on rfl ?_
                            go_simp
                            refine ⟨kW _ C13, fun w14 hb14 => ?_⟩
                            have G14 := G13.below hb14
                            have C14 := C13.trans (Flow.Chg.of_below hb14) (fun _ _ e => e.elim)
                            clear hb14 G13 C13
                            have q8 := G14.cell
                            have f8 := G14.frozen
                            refine Flow.wpT_on rfl ?_
                            go_simp
                            refine ⟨kW _ (C14.setCell (p := ⟨g9, 9, none⟩) (fun _ => rfl) _), fun w15 hb15 => Flow.wpT_nil ?_⟩
                            obtain ⟨G15, C15⟩ := st_next G14 C14 rfl 9 (.bool y.wr) (cs' := #[.int .u8 e.nd, .int .u32 e.ss, .int .u32 e.sq, .int .i64 e.ky, .int .u32 e.op, .int .i64 e.st, .int .i64 y.en, .int .i64 y.er, .int .u32 y.an, .bool y.wr]) rfl hb15
                            have GG := Flow.hide G15
                            have CC := Flow.hide C15
                            clear hb15 q8 f8 G14 C14 G15 C15 kW uW hW ne1 hgg
                            go_wp2_with fail
                            go_roundw
                            case rel => exact ⟨k + 1, { e with en := y.en, er := y.er, an := y.an, wr := y.wr }, by omega, by omega, by go_num, GG.out, by rw [← HFO.out, drop_at HY.out]; exact congrArg (fun q => foldE x q (l.drop (k + 1))) (show _ = x.take1 e y from (take1_now _ _ _ HYR.out HYS.out HQ.out).symm), (HC5.out.trans (Flow.Chg.of_below HB7.out) (fun _ _ e => e.elim)).trans CC.out (fun _ _ e => e)⟩
                            case measure => simp [intOf]; omega
                          · by_cases hlt4 : y.en < e.en
                            · have HQ := Flow.hide (show 0 < y.en ∧ (e.en = 0 ∨ y.en < e.en) from ⟨hen, .inr hlt4⟩)
                              go_upto_region 17 with fail
                              refine Flow.wp_region_all (by kernel_rfl) (by kernel_rfl) ?_
                              repeat (first
                                | (refine Flow.wpSeg_step (fun K' hK' => ?_)
                                   go_simp
                                   first
                                     | (refine hK' _ ?_; clear hK' K')
                                     | (apply Exists.intro
                                        refine ⟨fun p => ?_, hK' _ ?_⟩
                                        (first | with_reducible exact (refused61_is y false _ HYR.out) | with_reducible exact (same62_is y x true _ HYS.out))
                                        clear hK' K')))
                              refine Flow.wpSeg_nil ?_
                              intro w7 hb7
                              clear a0 a1 a2 a3 a4 a5 a6 a7 a8 a9 c0 c1 c2 c3 c4 c5 c6 c7 c8 c9 rx
                              have R7 := Flow.hide (Flow.ownsRow_chg R6.out (Flow.Chg.of_below hb7) (fun _ _ e => e))
                              have K7 := Flow.hide (KE.out.below hb7)
                              have HB7 := Flow.hide hb7
                              clear hb7
                              obtain ⟨g4, cap4, e1, _, hg4, _, y0, y1, y2, y3, y4, y5, y6, y7, y8, y9⟩ := at113 R7.out HL.out HY.out
                              simp only [Value.slice.injEq, Option.some.injEq, Addr.mk.injEq] at e1
                              obtain ⟨⟨e1, _⟩, _, e3⟩ := e1
                              subst e1 e3
                              have hgg := hg9.out
                              obtain ⟨CW, hCW⟩ : ∃ C : World → Prop, C = fun w' => Flow.Chg (· = g9) w7 w' := ⟨_, rfl⟩
                              have kW : ∀ w', Flow.Chg (· = g9) w7 w' → CW w' := by rw [hCW]; exact fun _ h => h
                              have uW : ∀ w', CW w' → Flow.Chg (· = g9) w7 w' := by rw [hCW]; exact fun _ h => h
                              have hW : ∀ w1 w2, CW w1 → Below w1.heap.size w1 w2 → CW w2 := by rw [hCW]; exact fun _ _ h k => h.trans (Flow.Chg.of_below k) (fun _ _ e => e.elim)
                              have b6 : ∀ p : Flow.Wd CW, p.w.cell? ⟨g, k * 10 + 6, none⟩ = some (.int .i64 y.en) := fun p => (chg_cell (uW _ p.ok) hg4 hgg _).trans y6
                              have b7 : ∀ p : Flow.Wd CW, p.w.cell? ⟨g, k * 10 + 7, none⟩ = some (.int .i64 y.er) := fun p => (chg_cell (uW _ p.ok) hg4 hgg _).trans y7
                              have b8 : ∀ p : Flow.Wd CW, p.w.cell? ⟨g, k * 10 + 8, none⟩ = some (.int .u32 y.an) := fun p => (chg_cell (uW _ p.ok) hg4 hgg _).trans y8
                              have b9 : ∀ p : Flow.Wd CW, p.w.cell? ⟨g, k * 10 + 9, none⟩ = some (.bool y.wr) := fun p => (chg_cell (uW _ p.ok) hg4 hgg _).trans y9
                              have ne1 : Nonempty (Flow.Wd CW) := ⟨⟨w7, kW _ (Flow.Chg.refl _ _)⟩⟩
                              clear hCW y0 y1 y2 y3 y4 y5 y6 y7 y8 y9
                              go_upto_region 18 with fail
                              refine Flow.wp_region_chain 1000 CW CW [0, 1, 2, 3, 4, 5, 6, 7, 8, 9, 10, 11, 12, 13, 14, 15, 16, 17, 18, 19, 20] [21, 22, 23, 24, 25, 26, 27] (by kernel_rfl) (by kernel_rfl) (.inl rfl) (fun w' h => kW _ ((Flow.Chg.of_below h).mono (fun _ _ e => e.elim))) (fun _ h => h) hW ?_
                              dsimp only [Flow.pickIdx, List.getElem?_cons_zero, List.getElem?_cons_succ]
                              iterate 21 (
                                  (refine Flow.wpS_weak (by kernel_rfl) (fun K' hK' => ?_)
                                   go_simp
                                   first
                                     | (refine hK' _ ?_; clear hK' K')
                                     | (apply Exists.intro
                                        refine ⟨fun p => ?_, hK' _ ?_⟩
                                        (first | fail)
                                        clear hK' K')))
                              refine Flow.wpS_nil ?_
                              dsimp only [Flow.pickOps, List.getElem?_cons_zero, List.getElem?_cons_succ]
                              clear b6 b7 b8 b9
                              intro w8 hb8
                              have G8 := K7.out.below hb8
                              have C8 : Flow.Chg (· = g9) w7 w8 := (Flow.Chg.of_below hb8).mono (fun _ _ e => e.elim)
                              clear hb8
                              have q8 := G8.cell
                              have f8 := G8.frozen
                              refine Flow.wpT_on rfl ?_
                              go_simp
                              refine ⟨kW _ (C8.setCell (p := ⟨g9, 6, none⟩) (fun _ => rfl) _), fun w9 hb9 => ?_⟩
                              obtain ⟨G9, C9⟩ := st_next G8 C8 rfl 6 (.int .i64 y.en) (cs' := #[.int .u8 e.nd, .int .u32 e.ss, .int .u32 e.sq, .int .i64 e.ky, .int .u32 e.op, .int .i64 e.st, .int .i64 y.en, .int .i64 e.er, .int .u32 e.an, .bool e.wr]) rfl hb9
                              clear hb9 q8 f8 G8 C8
                              refine Flow.wpT_on rfl ?_
                              go_simp
                              refine ⟨kW _ C9, fun w10 hb10 => ?_⟩
                              have G10 := G9.below hb10
                              have C10 := C9.trans (Flow.Chg.of_below hb10) (fun _ _ e => e.elim)
                              clear hb10 G9 C9
                              have q8 := G10.cell
                              have f8 := G10.frozen
                              refine Flow.wpT_on rfl ?_
                              go_simp
                              refine ⟨kW _ (C10.setCell (p := ⟨g9, 7, none⟩) (fun _ => rfl) _), fun w11 hb11 => ?_⟩
                              obtain ⟨G11, C11⟩ := st_next G10 C10 rfl 7 (.int .i64 y.er) (cs' := #[.int .u8 e.nd, .int .u32 e.ss, .int .u32 e.sq, .int .i64 e.ky, .int .u32 e.op, .int .i64 e.st, .int .i64 y.en, .int .i64 y.er, .int .u32 e.an, .bool e.wr]) rfl hb11
                              clear hb11 q8 f8 G10 C10
                              refine Flow.wpT_on rfl ?_
                              go_simp
                              refine ⟨kW _ C11, fun w12 hb12 => ?_⟩
                              have G12 := G11.below hb12
                              have C12 := C11.trans (Flow.Chg.of_below hb12) (fun _ _ e => e.elim)
                              clear hb12 G11 C11
                              have q8 := G12.cell
                              have f8 := G12.frozen
                              refine Flow.wpT_on rfl ?_
                              go_simp
                              refine ⟨kW _ (C12.setCell (p := ⟨g9, 8, none⟩) (fun _ => rfl) _), fun w13 hb13 => ?_⟩
                              obtain ⟨G13, C13⟩ := st_next G12 C12 rfl 8 (.int .u32 y.an) (cs' := #[.int .u8 e.nd, .int .u32 e.ss, .int .u32 e.sq, .int .i64 e.ky, .int .u32 e.op, .int .i64 e.st, .int .i64 y.en, .int .i64 y.er, .int .u32 y.an, .bool e.wr]) rfl hb13
                              clear hb13 q8 f8 G12 C12
                              refine Flow.wpT_on rfl ?_
                              go_simp
                              refine ⟨kW _ C13, fun w14 hb14 => ?_⟩
                              have G14 := G13.below hb14
                              have C14 := C13.trans (Flow.Chg.of_below hb14) (fun _ _ e => e.elim)
                              clear hb14 G13 C13
                              have q8 := G14.cell
                              have f8 := G14.frozen
                              refine Flow.wpT_on rfl ?_
                              go_simp
                              refine ⟨kW _ (C14.setCell (p := ⟨g9, 9, none⟩) (fun _ => rfl) _), fun w15 hb15 => Flow.wpT_nil ?_⟩
                              obtain ⟨G15, C15⟩ := st_next G14 C14 rfl 9 (.bool y.wr) (cs' := #[.int .u8 e.nd, .int .u32 e.ss, .int .u32 e.sq, .int .i64 e.ky, .int .u32 e.op, .int .i64 e.st, .int .i64 y.en, .int .i64 y.er, .int .u32 y.an, .bool y.wr]) rfl hb15
                              have GG := Flow.hide G15
                              have CC := Flow.hide C15
                              clear hb15 q8 f8 G14 C14 G15 C15 kW uW hW ne1 hgg
                              go_wp2_with fail
                              go_roundw
                              case rel => exact ⟨k + 1, { e with en := y.en, er := y.er, an := y.an, wr := y.wr }, by omega, by omega, by go_num, GG.out, by rw [← HFO.out, drop_at HY.out]; exact congrArg (fun q => foldE x q (l.drop (k + 1))) (show _ = x.take1 e y from (take1_now _ _ _ HYR.out HYS.out HQ.out).symm), (HC5.out.trans (Flow.Chg.of_below HB7.out) (fun _ _ e => e.elim)).trans CC.out (fun _ _ e => e)⟩
                              case measure => simp [intOf]; omega
                            · have HQ := Flow.hide (show ¬ (0 < y.en ∧ (e.en = 0 ∨ y.en < e.en)) from fun c => c.2.elim he0 hlt4)
                              go_upto_region 17 with fail
                              refine Flow.wp_region_all (by kernel_rfl) (by kernel_rfl) ?_
                              repeat (first
                                | (refine Flow.wpSeg_step (fun K' hK' => ?_)
                                   go_simp
                                   first
                                     | (refine hK' _ ?_; clear hK' K')
                                     | (apply Exists.intro
                                        refine ⟨fun p => ?_, hK' _ ?_⟩
                                        (first | with_reducible exact (refused61_is y false _ HYR.out) | with_reducible exact (same62_is y x true _ HYS.out))
                                        clear hK' K')))
                              refine Flow.wpSeg_nil ?_
                              intro w7 hb7
                              clear a0 a1 a2 a3 a4 a5 a6 a7 a8 a9 c0 c1 c2 c3 c4 c5 c6 c7 c8 c9 rx
                              have HB7 := Flow.hide hb7
                              clear hb7
                              go_wp2_with fail
                              go_roundw
                              case rel => exact ⟨k + 1, e, by omega, by omega, by go_num, KE.out.below HB7.out, by rw [← HFO.out, drop_at HY.out]; exact congrArg (fun q => foldE x q (l.drop (k + 1))) (show e = x.take1 e y from (take1_late _ _ _ HQ.out).symm), HC5.out.trans (Flow.Chg.of_below HB7.out) (fun _ _ e => e.elim)⟩
                              case measure => simp [intOf]; omega
                        · have HQ := Flow.hide (show ¬ (0 < y.en ∧ (e.en = 0 ∨ y.en < e.en)) from fun c => hen c.1)
                          go_upto_region 17 with fail
                          refine Flow.wp_region_all (by kernel_rfl) (by kernel_rfl) ?_
                          repeat (first
                            | (refine Flow.wpSeg_step (fun K' hK' => ?_)
                               go_simp
                               first
                                 | (refine hK' _ ?_; clear hK' K')
                                 | (apply Exists.intro
                                    refine ⟨fun p => ?_, hK' _ ?_⟩
                                    (first | with_reducible exact (refused61_is y false _ HYR.out) | with_reducible exact (same62_is y x true _ HYS.out))
                                    clear hK' K')))
                          refine Flow.wpSeg_nil ?_
                          intro w7 hb7
                          clear a0 a1 a2 a3 a4 a5 a6 a7 a8 a9 c0 c1 c2 c3 c4 c5 c6 c7 c8 c9 rx
                          have HB7 := Flow.hide hb7
                          clear hb7
                          go_wp2_with fail
                          go_roundw
                          case rel => exact ⟨k + 1, e, by omega, by omega, by go_num, KE.out.below HB7.out, by rw [← HFO.out, drop_at HY.out]; exact congrArg (fun q => foldE x q (l.drop (k + 1))) (show e = x.take1 e y from (take1_late _ _ _ HQ.out).symm), HC5.out.trans (Flow.Chg.of_below HB7.out) (fun _ _ e => e.elim)⟩
                          case measure => simp [intOf]; omega
                    · have HYR := Flow.hide hyr
                      clear hyr
                      go_upto_region 17 with fail
                      refine Flow.wp_region_all (by kernel_rfl) (by kernel_rfl) ?_
                      repeat (first
                        | (refine Flow.wpSeg_step (fun K' hK' => ?_)
                           go_simp
                           first
                             | (refine hK' _ ?_; clear hK' K')
                             | (apply Exists.intro
                                refine ⟨fun p => ?_, hK' _ ?_⟩
                                (first | with_reducible exact (refused61_is y true _ HYR.out) | with_reducible exact (same62_is y x true _ (by assumption)))
                                clear hK' K')))
                      refine Flow.wpSeg_nil ?_
                      intro w7 hb7
                      clear a0 a1 a2 a3 a4 a5 a6 a7 a8 a9 c0 c1 c2 c3 c4 c5 c6 c7 c8 c9 rx
                      have HB7 := Flow.hide hb7
                      clear hb7
                      go_wp2_with fail
                      go_roundw
                      case rel => exact ⟨k + 1, e, by omega, by omega, by go_num, KE.out.below HB7.out, by rw [← HFO.out, drop_at HY.out]; exact congrArg (fun q => foldE x q (l.drop (k + 1))) (show e = x.take1 e y from (take1_other _ _ _ (fun c => by rw [HYR.out] at c; cases c.1)).symm), HC5.out.trans (Flow.Chg.of_below HB7.out) (fun _ _ e => e.elim)⟩
                      case measure => simp [intOf]; omega
                  · obtain rfl : n = k := by omega
                    have he : foldE x x.new (l.drop i) = e := by rw [← HFO.out, List.drop_of_length_le (by have := HL.out; omega)]; rfl
                    have HE := Flow.hide he
                    have cx := KE.out.cell
                    have cz := KE.out.lt
                    clear he
                    have hol : out.length ≤ 30 := by
                      have h1 := congrArg List.length HS.out
                      have h2 := refOf_length l key
                      have h3 := HL.out
                      have h4 := HN.out
                      rw [List.length_append] at h1
                      omega
                    have HB6 := Flow.hide (HB5.out.trans (HC5.out.below (B := w.heap.size) (fun j _ e => by have := hs9.out; omega) HB5.out.size))
                    obtain ⟨K8, hh8, _⟩ := Flow.laid1 (w := wr) (w1 := wr.alloc (.cells #[.int .u8 e.nd, .int .u32 e.ss, .int .u32 e.sq, .int .i64 e.ky, .int .u32 e.op, .int .i64 e.st, .int .i64 e.en, .int .i64 e.er, .int .u32 e.an, .bool e.wr] 113)) (Below.refl _ _)
                    obtain ⟨v9, w9, hr9, ho9', hb9, hc9⟩ := append_rc (cp := 1) (Flow.ownsRow_chg HO6.out (Flow.Chg.of_below hh8) (fun _ _ e => e)) e _ K8 (by omega) (Nat.le_trans HB6.out.size hh8.size)
                    have HR9 := Flow.hide hr9
                    have HO9 := Flow.hide ho9'
                    have HB9 := Flow.hide ((HB6.out.trans (hh8.mono HB6.out.size)).trans hb9)
                    clear K8 hh8 hr9 ho9' hb9 hc9 hol
                    go_wp2_with (at_builtin; refine Flow.wpList_append_run _ _ 102 rfl rfl rfl rfl HR9.out ?_)
                    go_roundw
                    case rel => exact ⟨i + 1, out ++ [e], by omega, by go_num, by rw [List.length_append]; exact HO9.out, by rw [← HS.out, ref_take HX.out HRF.out HF.out HKE.out, HE.out]; simp, HB9.out⟩
                    case measure => simp [intOf]; omega
              · go_wp2_with fail
                go_roundw
                case rel => exact ⟨i + 1, out, by omega, by go_num, HO3.out, by rw [← ref_skip HX.out (fun c => hk c.2.2)]; exact HS.out, HB3.out⟩
                case measure => simp [intOf]; omega
            · have HF := Flow.hide hf
              rw [decide_eq_false hf]
              clear hf z0 z1 z2 z3 z4 z5 z6 z7 z8 z9
              go_wp2_with fail
              go_roundw
              case rel => exact ⟨i + 1, out, by omega, by go_num, HO3.out, by rw [← ref_skip HX.out (fun c => HF.out c.2.1)]; exact HS.out, HB3.out⟩
              case measure => simp [intOf]; omega
      · have HRF := Flow.hide hr
        clear hr
        go_wp2_with fail
        (with_reducible refine (refused61 x _).mono ?_)
        rw [HRF.out]
        rintro e w1 ⟨rfl, hb1⟩
        have HB1 := Flow.hide hb1
        clear hb1 z0 z1 z2 z3 z4 z5 z6 z7 z8 z9
        go_wp2_with fail
        go_roundw
        case rel => exact ⟨i + 1, out, by omega, by go_num, Flow.ownsRow_chg HO.out (Flow.Chg.of_below HB1.out) (fun _ _ e => e), by rw [← ref_skip HX.out (fun c => by rw [HRF.out] at c; cases c.1)]; exact HS.out, HB.out.trans (HB1.out.mono HB.out.size)⟩
        case measure => simp [intOf]; omega
    · obtain rfl : i = n := by omega
      have hd : l.drop i = [] := List.drop_of_length_le (by have := HL.out; omega)
      have hs : out = refOf l key := by rw [← HS.out, hd]; simp [refFrom]
      have HSS := Flow.hide hs
      clear hd hs
      go_wp2_with fail
      go_ret
      exact ⟨⟨_, rfl, by rw [← HSS.out]; exact HO.out⟩, HB.out⟩
end Go.Proofs.Ythkphapmnlndbab
