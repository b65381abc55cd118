/- The contracts of package lease, second part. -/
import Derived.Test.YthkphapmnlndbaaLease
namespace Go.Proofs.Ythkphapmnlndbaa
open Go.RowKit
set_option maxHeartbeats 4000000
set_option linter.unusedSimpArgs false
attribute [local irreducible] Flow.wpSeg Flow.wpF Flow.wpG Flow.wpS
/-- What is left of Ask behind its test. -/
theorem ask_fin (h : Nat) (s : Hs) (ep : Int) (w w' W2 : World) (hW2 : W2 = w'.setCell ⟨h, 3, none⟩ (.int .u32 (s.made + 1))) (Hb' : Below w.heap.size w w') (hh : h < w.heap.size) (b : Nat) (w3 : World) (hb : W2.heap.size ≤ b)
    (h1 : Flow.Chg (· = h) W2 w3) (h2 : Flow.Blk w3 h 106 (Hs.cells { s with made := s.made + 1, req := some ⟨b, s.made + 1, ep, s.now⟩ })) (h3 : Flow.Blk w3 b 108 #[.int .u32 (s.made + 1), .int .u32 ep, .int .i64 s.now]) :
    (∃ b, IsH w3 h { s with made := s.made + 1, req := some ⟨b, s.made + 1, ep, s.now⟩ } ∧ w.heap.size ≤ b) ∧ Flow.Chg (· = h) w w3 := by
  have hz : W2.heap.size = w'.heap.size := by rw [hW2]; simp
  have := Hb'.size
  refine ⟨⟨b, ⟨h2, fun r e => ?_⟩, by omega⟩, ?_⟩
  · cases e
    exact ⟨by show b ≠ h; omega, h3⟩
  · refine ((Flow.Chg.of_below Hb').mono (T := (· = h)) (fun _ _ e => e.elim)).trans (Flow.Chg.trans (S := (· = h)) (T := (· = h)) (b := W2) ?_ h1 (fun _ _ e => e)) (fun _ _ e => e)
    rw [hW2]; exact Flow.Chg.setAt _ _ _ _
set_option maxRecDepth 20000 in
theorem ask_yes (h : Nat) (s : Hs) (ep : Int) (w : World) (H : IsH w h s) (hb : Bnd s) (hd : due s ep = true) :
    Calls Try.prog 37 #[hp h, .int .u32 ep] w fun e w' => e = .returned (.bool true) ∧ (∃ b, IsH w' h { s with made := s.made + 1, req := some ⟨b, s.made + 1, ep, s.now⟩ } ∧ w.heap.size ≤ b) ∧ Flow.Chg (· = h) w w' := by
  have r0 := H.1.rg
  have b1 := hb.now.1
  have b2 := hb.now.2
  have b3 := hb.made.1
  have b4 := hb.made.2
  have hhw := H.1.lt
  simp only [Hs.cells, Hs.ptr] at r0
  unfold due at hd
  have HH := Flow.hide H
  have lq := leftOf_bd s ep hb
  cases hr : s.req with
  | none =>
    rw [hr] at r0 hd
    have hl : decide (s.renew < leftOf s ep) = false := by simpa using hd
    clear H hd
    have HR := Flow.hide hr
    clear hr
    go_enter Try.func37, Try.ntmps37
    go_wp2_with fail
    refine Flow.wp_region_all (by kernel_rfl) (by kernel_rfl) ?_
    repeat (first
      | (refine Flow.wpSeg_step (fun K' hK' => ?_)
         go_simp
         first
           | (refine hK' _ ?_; clear hK' K')
           | (apply Exists.intro
              refine ⟨fun p => ?_, hK' _ ?_⟩
              (first | with_reducible exact (left_q HH.out hb p))
              clear hK' K')))
    refine Flow.wpSeg_nil ?_
    intro w' hb'
    have H1 := HH.out.below hb'
    have c := H1.1.cell
    have f := H1.1.frozen
    simp only [Hs.cells, Hs.ptr] at c
    clear HH r0
    have HH := Flow.hide H1
    have Hb' := Flow.hide hb'
    clear H1 hb'
    go_wp2_with fail
    obtain ⟨W2, hW2⟩ : ∃ W2, W2 = w'.setCell ⟨h, 3, none⟩ (.int .u32 (s.made + 1)) := ⟨_, rfl⟩
    rw [← hW2]
    have k2 : Flow.Blk W2 h 106 (Hs.cells { s with made := s.made + 1 }) := by rw [hW2]; exact HH.out.1.set 3 _
    have HW := Flow.hide hW2
    clear hW2 c f
    obtain ⟨CS, hCS⟩ : ∃ C, C = Flow.Fx (· = h) W2 [(h, 106, Hs.cells { s with made := s.made + 1 })] := ⟨_, rfl⟩
    obtain ⟨CW, hCW⟩ : ∃ C, C = Flow.Chg (· = h) W2 := ⟨_, rfl⟩
    have gss : Flow.Good CS CS := by rw [hCS]; exact Flow.good_same _ _ _
    have sub : ∀ w, CS w → CW w := by rw [hCS, hCW]; exact fun w h => h.1
    have rs : ∀ (p : Flow.Wd CS) (i : Nat), p.w.cell? ⟨h, i, none⟩ = #[Value.int IntKind.i64 s.hold, .int .i64 s.renew, .int .i64 s.now, .int .u32 (s.made + 1), s.ptr, .int .u32 s.epoch, .int .i64 s.fin][i]? := fun p => (Flow.Fx.head (Eq.mp (congrFun hCS p.w) p.ok)).cell
    have HCS := Flow.hide hCS
    have HCW := Flow.hide hCW
    have hR : ∀ w3, Below W2.heap.size W2 w3 → CS w3 := by rw [hCS]; exact fun w3 hb3 => (Flow.Fx.nil (Flow.Chg.of_below hb3 |>.mono (fun _ _ e => e.elim))).add (k2.below hb3)
    clear hCS hCW
    have ne1 : Nonempty (Flow.Wd CS) := ⟨⟨W2, hR _ (Below.refl _ _)⟩⟩
    have ne2 : Nonempty (Flow.Wd CW) := ⟨⟨W2, sub _ (hR _ (Below.refl _ _))⟩⟩
    refine Flow.wp_region_gen 14 (Flow.two CS CW) CS gss hR (by kernel_rfl) 15 rfl ?_
    refine Flow.wpG_seg [0, 1, 2, 3, 4, 5, 6, 7, 8, 9, 10] 4 rfl (by kernel_rfl) (sub) (gss) ?_
    dsimp only [Flow.pickIdx, List.getElem?_cons_zero, List.getElem?_cons_succ]
    iterate 11 (
        (refine Flow.wpS_strong (by kernel_rfl) (fun K' hK' => ?_)
         go_simp
         first
           | (refine hK' _ ?_; clear hK' K')
           | (apply Exists.intro
              refine ⟨fun p => ?_, hK' _ ?_⟩
              (first | fail)
              clear hK' K')))
    refine Flow.wpS_nil ?_
    refine Flow.wpG_next 11 _ (by kernel_rfl) rfl ?_
    intro w3 hw3
    rw [HCS.out] at hw3
    go_simp
    refine ⟨Flow.Fx (· = h) W2 [(h, 106, Hs.cells { s with made := s.made + 1 }), (w3.heap.size, 108, #[.int .u32 (s.made + 1), .int .u32 ep, .int .i64 s.now])], ?_, ((Flow.Fx.nil (hw3.1.alloc _)).add (Flow.Blk.new _ _ _)).add (hw3.head.alloc _), ?_⟩
    · show Flow.Good CS _
      rw [HCS.out]
      exact ⟨fun w h => (Flow.Fx.nil h.1).add h.head, (Flow.good_same _ _ _).kept⟩
    obtain ⟨g, hg⟩ : ∃ g, g = w3.heap.size := ⟨_, rfl⟩
    have hgs : W2.heap.size ≤ g := by rw [hg]; exact hw3.1.size
    rw [← hg]
    clear hg hw3 w3
    have g2 : Flow.Good CS (Flow.Fx (· = h) W2 [(h, 106, Hs.cells { s with made := s.made + 1 }), (g, 108, #[.int .u32 (s.made + 1), .int .u32 ep, .int .i64 s.now])]) := by
      rw [HCS.out]
      exact ⟨fun w h => (Flow.Fx.nil h.1).add h.head, (Flow.good_same _ _ _).kept⟩
    refine Flow.wpG_seg [12, 13] 1 rfl (by kernel_rfl) (sub) (g2) ?_
    dsimp only [Flow.pickIdx, List.getElem?_cons_zero, List.getElem?_cons_succ]
    iterate 1 (
        (refine Flow.wpS_weak (by kernel_rfl) (fun K' hK' => ?_)
         go_simp
         first
           | (refine hK' _ ?_; clear hK' K')
           | (apply Exists.intro
              refine ⟨fun p => ?_, hK' _ ?_⟩
              (first | fail)
              clear hK' K')))
    iterate 1 (
        (refine Flow.wpS_strong (by kernel_rfl) (fun K' hK' => ?_)
         go_simp
         first
           | (refine hK' _ ?_; clear hK' K')
           | (apply Exists.intro
              refine ⟨fun p => ?_, hK' _ ?_⟩
              (first | fail)
              clear hK' K')))
    refine Flow.wpS_nil ?_
    clear g2
    refine Flow.wpG_next 14 _ (by kernel_rfl) rfl ?_
    intro w3 hw3
    have c3 := hw3.head.cell
    have f3 := hw3.head.frozen
    simp only [Hs.cells] at c3
    go_simp
    refine ⟨Flow.Fx (· = h) W2 [(h, 106, Hs.cells { s with made := s.made + 1, req := some ⟨g, s.made + 1, ep, s.now⟩ }), (g, 108, #[.int .u32 (s.made + 1), .int .u32 ep, .int .i64 s.now])], ?_, ?_, ?_⟩
    · show Flow.Good CW _
      rw [HCW.out]
      exact Flow.good_fx _ _ _
    · have hz : W2.heap.size = w'.heap.size := by rw [HW.out]; simp
      have hz2 := Hb'.out.size
      exact hw3.set (fun _ => rfl) (fun p hp => by simp at hp; subst hp; show g ≠ h; omega) 4 (.pointer (some ⟨g, 0, none⟩))
    clear c3 f3 hw3 w3
    refine Flow.wpG_done (by kernel_rfl) ?_
    intro w3 hw3
    go_wp2_with fail
    go_ret
    exact ⟨rfl, ask_fin h s ep w w' W2 HW.out Hb'.out hhw g w3 hgs hw3.1 hw3.head hw3.tail.head⟩
  | some r =>
    rw [hr] at r0 hd
    have d0 := (H.2 r hr).2.rg
    simp only [Rq.cells] at d0
    have q1 := (hb.req r hr).1
    have q2 := (hb.req r hr).2.1
    have s1 : IntKind.i64.wrap (s.now - r.at_) = s.now - r.at_ := IntWalk.i64_in _ (by omega)
    clear H
    have HR := Flow.hide hr
    clear hr
    have hl0 : ¬ s.now - r.at_ < s.hold := by intro hh; simp [hh] at hd
    have hl2 : decide (s.now - r.at_ < s.hold) = false := decide_eq_false hl0
    have hl3 : decide (s.renew < leftOf s ep) = false := by simpa [hl0] using hd
    clear hd hl0
    go_enter Try.func37, Try.ntmps37
    go_wp2_with fail
    refine Flow.wp_region_all (by kernel_rfl) (by kernel_rfl) ?_
    repeat (first
      | (refine Flow.wpSeg_step (fun K' hK' => ?_)
         go_simp
         first
           | (refine hK' _ ?_; clear hK' K')
           | (apply Exists.intro
              refine ⟨fun p => ?_, hK' _ ?_⟩
              (first | with_reducible exact (left_q HH.out hb p))
              clear hK' K')))
    refine Flow.wpSeg_nil ?_
    intro w' hb'
    have H1 := HH.out.below hb'
    have c := H1.1.cell
    have f := H1.1.frozen
    simp only [Hs.cells, Hs.ptr] at c
    clear HH r0 d0 s1
    have HH := Flow.hide H1
    have Hb' := Flow.hide hb'
    clear H1 hb'
    go_wp2_with fail
    obtain ⟨W2, hW2⟩ : ∃ W2, W2 = w'.setCell ⟨h, 3, none⟩ (.int .u32 (s.made + 1)) := ⟨_, rfl⟩
    rw [← hW2]
    have k2 : Flow.Blk W2 h 106 (Hs.cells { s with made := s.made + 1 }) := by rw [hW2]; exact HH.out.1.set 3 _
    have HW := Flow.hide hW2
    clear hW2 c f
    obtain ⟨CS, hCS⟩ : ∃ C, C = Flow.Fx (· = h) W2 [(h, 106, Hs.cells { s with made := s.made + 1 })] := ⟨_, rfl⟩
    obtain ⟨CW, hCW⟩ : ∃ C, C = Flow.Chg (· = h) W2 := ⟨_, rfl⟩
    have gss : Flow.Good CS CS := by rw [hCS]; exact Flow.good_same _ _ _
    have sub : ∀ w, CS w → CW w := by rw [hCS, hCW]; exact fun w h => h.1
    have rs : ∀ (p : Flow.Wd CS) (i : Nat), p.w.cell? ⟨h, i, none⟩ = #[Value.int IntKind.i64 s.hold, .int .i64 s.renew, .int .i64 s.now, .int .u32 (s.made + 1), s.ptr, .int .u32 s.epoch, .int .i64 s.fin][i]? := fun p => (Flow.Fx.head (Eq.mp (congrFun hCS p.w) p.ok)).cell
    have HCS := Flow.hide hCS
    have HCW := Flow.hide hCW
    have hR : ∀ w3, Below W2.heap.size W2 w3 → CS w3 := by rw [hCS]; exact fun w3 hb3 => (Flow.Fx.nil (Flow.Chg.of_below hb3 |>.mono (fun _ _ e => e.elim))).add (k2.below hb3)
    clear hCS hCW
    have ne1 : Nonempty (Flow.Wd CS) := ⟨⟨W2, hR _ (Below.refl _ _)⟩⟩
    have ne2 : Nonempty (Flow.Wd CW) := ⟨⟨W2, sub _ (hR _ (Below.refl _ _))⟩⟩
    refine Flow.wp_region_gen 14 (Flow.two CS CW) CS gss hR (by kernel_rfl) 15 rfl ?_
    refine Flow.wpG_seg [0, 1, 2, 3, 4, 5, 6, 7, 8, 9, 10] 4 rfl (by kernel_rfl) (sub) (gss) ?_
    dsimp only [Flow.pickIdx, List.getElem?_cons_zero, List.getElem?_cons_succ]
    iterate 11 (
        (refine Flow.wpS_strong (by kernel_rfl) (fun K' hK' => ?_)
         go_simp
         first
           | (refine hK' _ ?_; clear hK' K')
           | (apply Exists.intro
              refine ⟨fun p => ?_, hK' _ ?_⟩
              (first | fail)
              clear hK' K')))
    refine Flow.wpS_nil ?_
    refine Flow.wpG_next 11 _ (by kernel_rfl) rfl ?_
    intro w3 hw3
    rw [HCS.out] at hw3
    go_simp
    refine ⟨Flow.Fx (· = h) W2 [(h, 106, Hs.cells { s with made := s.made + 1 }), (w3.heap.size, 108, #[.int .u32 (s.made + 1), .int .u32 ep, .int .i64 s.now])], ?_, ((Flow.Fx.nil (hw3.1.alloc _)).add (Flow.Blk.new _ _ _)).add (hw3.head.alloc _), ?_⟩
    · show Flow.Good CS _
      rw [HCS.out]
      exact ⟨fun w h => (Flow.Fx.nil h.1).add h.head, (Flow.good_same _ _ _).kept⟩
    obtain ⟨g, hg⟩ : ∃ g, g = w3.heap.size := ⟨_, rfl⟩
    have hgs : W2.heap.size ≤ g := by rw [hg]; exact hw3.1.size
    rw [← hg]
    clear hg hw3 w3
    have g2 : Flow.Good CS (Flow.Fx (· = h) W2 [(h, 106, Hs.cells { s with made := s.made + 1 }), (g, 108, #[.int .u32 (s.made + 1), .int .u32 ep, .int .i64 s.now])]) := by
      rw [HCS.out]
      exact ⟨fun w h => (Flow.Fx.nil h.1).add h.head, (Flow.good_same _ _ _).kept⟩
    refine Flow.wpG_seg [12, 13] 1 rfl (by kernel_rfl) (sub) (g2) ?_
    dsimp only [Flow.pickIdx, List.getElem?_cons_zero, List.getElem?_cons_succ]
    iterate 1 (
        (refine Flow.wpS_weak (by kernel_rfl) (fun K' hK' => ?_)
         go_simp
         first
           | (refine hK' _ ?_; clear hK' K')
           | (apply Exists.intro
              refine ⟨fun p => ?_, hK' _ ?_⟩
              (first | fail)
              clear hK' K')))
    iterate 1 (
        (refine Flow.wpS_strong (by kernel_rfl) (fun K' hK' => ?_)
         go_simp
         first
           | (refine hK' _ ?_; clear hK' K')
           | (apply Exists.intro
              refine ⟨fun p => ?_, hK' _ ?_⟩
              (first | fail)
              clear hK' K')))
    refine Flow.wpS_nil ?_
    clear g2
    refine Flow.wpG_next 14 _ (by kernel_rfl) rfl ?_
    intro w3 hw3
    have c3 := hw3.head.cell
    have f3 := hw3.head.frozen
    simp only [Hs.cells] at c3
    go_simp
    refine ⟨Flow.Fx (· = h) W2 [(h, 106, Hs.cells { s with made := s.made + 1, req := some ⟨g, s.made + 1, ep, s.now⟩ }), (g, 108, #[.int .u32 (s.made + 1), .int .u32 ep, .int .i64 s.now])], ?_, ?_, ?_⟩
    · show Flow.Good CW _
      rw [HCW.out]
      exact Flow.good_fx _ _ _
    · have hz : W2.heap.size = w'.heap.size := by rw [HW.out]; simp
      have hz2 := Hb'.out.size
      exact hw3.set (fun _ => rfl) (fun p hp => by simp at hp; subst hp; show g ≠ h; omega) 4 (.pointer (some ⟨g, 0, none⟩))
    clear c3 f3 hw3 w3
    refine Flow.wpG_done (by kernel_rfl) ?_
    intro w3 hw3
    go_wp2_with fail
    go_ret
    exact ⟨rfl, ask_fin h s ep w w' W2 HW.out Hb'.out hhw g w3 hgs hw3.1 hw3.head hw3.tail.head⟩
end Go.Proofs.Ythkphapmnlndbaa
