/- The contracts of package lease, third part. -/
import Derived.Test.YthkphapmnlndbaaLease2
namespace Go.Proofs.Ythkphapmnlndbaa
open Go.RowKit
set_option maxHeartbeats 4000000
set_option linter.unusedSimpArgs false
attribute [local irreducible] Flow.wpSeg Flow.wpF Flow.wpG Flow.wpS
def grants (s : Hs) (ep rq : Int) : Bool := match s.req with | none => false | some r => decide (r.num = rq ∧ r.ep = ep)
theorem grant_no (h : Nat) (s : Hs) (ep rq : Int) (w : World) (H : IsH w h s) (hd : grants s ep rq = false) :
    Calls Try.prog 39 #[hp h, .int .u32 ep, .int .u32 rq] w fun e w' => e = .returned (.bool false) ∧ w = w' := by
  have c := H.1.cell
  simp only [Hs.cells, Hs.ptr] at c
  unfold grants at hd
  cases hr : s.req with
  | none =>
    rw [hr] at c
    clear H hd hr
    go_enter Try.func39, Try.ntmps39
    go_wp2_with fail
    go_ret
    exact ⟨rfl, rfl⟩
  | some r =>
    rw [hr] at c hd
    have d := (H.2 r hr).2.cell
    simp only [Rq.cells] at d
    clear H hr
    simp only [decide_eq_false_iff_not] at hd
    by_cases h1 : r.num = rq
    · have h2 : ¬ r.ep = ep := fun h2 => hd ⟨h1, h2⟩
      have h3 : (r.num != rq) = false := by simp [h1]
      have h4 : (r.ep != ep) = true := by simp [h2]
      clear hd h1 h2
      go_enter Try.func39, Try.ntmps39
      go_wp2_with fail
      go_ret
      exact ⟨rfl, rfl⟩
    · have h3 : (r.num != rq) = true := by simp [h1]
      clear hd h1
      go_enter Try.func39, Try.ntmps39
      go_wp2_with fail
      go_ret
      exact ⟨rfl, rfl⟩
theorem grant_yes (h : Nat) (s : Hs) (r : Rq) (ep rq : Int) (w : World) (H : IsH w h s) (hb : Bnd s) (hr : s.req = some r) (h1 : r.num = rq) (h2 : r.ep = ep) :
    Calls Try.prog 39 #[hp h, .int .u32 ep, .int .u32 rq] w fun e w' => e = .returned (.bool true) ∧ IsH w' h { s with req := none, epoch := ep, fin := r.at_ + s.hold } ∧ Flow.Chg (· = h) w w' := by
  have c := H.1.cell
  simp only [Hs.cells, Hs.ptr, hr] at c
  have hB := H.1
  have hD := (H.2 r hr).2
  have hne := (H.2 r hr).1
  have d := hD.cell
  simp only [Rq.cells] at d
  have q1 := (hb.req r hr).1
  have q2 := (hb.req r hr).2.1
  have b1 := hb.now.2
  have b2 := hb.hold.1
  have b3 := hb.hold.2
  have h3 : (r.num != rq) = false := by simp [h1]
  have h4 : (r.ep != ep) = false := by simp [h2]
  have hL : Hs.cells s = #[.int .i64 s.hold, .int .i64 s.renew, .int .i64 s.now, .int .u32 s.made, .pointer (some ⟨r.blk, 0, none⟩), .int .u32 s.epoch, .int .i64 s.fin] := by simp [Hs.cells, Hs.ptr, hr]
  rw [hL] at hB
  clear H hL hr h1 h2
  have HB := Flow.hide hB
  have HD := Flow.hide hD
  clear hB hD
  go_enter Try.func39, Try.ntmps39
  go_wp2_with fail
  clear c d h3 h4
  obtain ⟨CS, hCS⟩ : ∃ C, C = Flow.Fx (· = h) w [(h, 106, #[.int .i64 s.hold, .int .i64 s.renew, .int .i64 s.now, .int .u32 s.made, .pointer (some ⟨r.blk, 0, none⟩), .int .u32 s.epoch, .int .i64 s.fin]), (r.blk, 108, r.cells)] := ⟨_, rfl⟩
  obtain ⟨CW, hCW⟩ : ∃ C, C = Flow.Chg (· = h) w := ⟨_, rfl⟩
  have gss : Flow.Good CS CS := by rw [hCS]; exact Flow.good_same _ _ _
  have sub : ∀ w, CS w → CW w := by rw [hCS, hCW]; exact fun w h => h.1
  have rs : ∀ (p : Flow.Wd CS) (i : Nat), p.w.cell? ⟨h, i, none⟩ = (#[.int .i64 s.hold, .int .i64 s.renew, .int .i64 s.now, .int .u32 s.made, .pointer (some ⟨r.blk, 0, none⟩), .int .u32 s.epoch, .int .i64 s.fin] : Array Value)[i]? := fun p => (Flow.Fx.head (Eq.mp (congrFun hCS p.w) p.ok)).cell
  have rd : ∀ (p : Flow.Wd CS) (i : Nat), p.w.cell? ⟨r.blk, i, none⟩ = (#[.int .u32 r.num, .int .u32 r.ep, .int .i64 r.at_] : Array Value)[i]? := fun p => (Flow.Fx.head (Flow.Fx.tail (Eq.mp (congrFun hCS p.w) p.ok))).cell
  have HCS := Flow.hide hCS
  have HCW := Flow.hide hCW
  have hR : ∀ w3, Below w.heap.size w w3 → CS w3 := by rw [hCS]; exact fun w3 hb3 => ((Flow.Fx.nil (Flow.Chg.of_below hb3 |>.mono (fun _ _ e => e.elim))).add (HD.out.below hb3)).add (HB.out.below hb3)
  clear hCS hCW
  have ne1 : Nonempty (Flow.Wd CS) := ⟨⟨w, hR _ (Below.refl _ _)⟩⟩
  have ne2 : Nonempty (Flow.Wd CW) := ⟨⟨w, sub _ (hR _ (Below.refl _ _))⟩⟩
  have s1 : IntKind.i64.wrap (r.at_ + s.hold) = r.at_ + s.hold := IntWalk.i64_in _ (by omega)
  refine Flow.wp_region_gen 18 (Flow.two CS CW) CS gss hR (by kernel_rfl) 25 rfl ?_
  refine Flow.wpG_seg [0, 1, 2, 3, 4, 5, 6, 7, 8, 9, 10, 11, 12, 13, 14, 15, 16, 17] 7 rfl (by kernel_rfl) (sub) (gss) ?_
  dsimp only [Flow.pickIdx, List.getElem?_cons_zero, List.getElem?_cons_succ]
  iterate 1 (
      (refine Flow.wpS_strong (by kernel_rfl) (fun K' hK' => ?_)
       go_simp
       first
         | (refine hK' _ ?_; clear hK' K')
         | (apply Exists.intro
            refine ⟨fun p => ?_, hK' _ ?_⟩
            (first | fail)
            clear hK' K')))
  iterate 2 (
      (refine Flow.wpS_weak (by kernel_rfl) (fun K' hK' => ?_)
       go_simp
       first
         | (refine hK' _ ?_; clear hK' K')
         | (apply Exists.intro
            refine ⟨fun p => ?_, hK' _ ?_⟩
            (first | fail)
            clear hK' K')))
  iterate 1 (
      (refine Flow.wpS_strong (by kernel_rfl) (fun K' hK' => ?_)
       go_simp
       first
         | (refine hK' _ ?_; clear hK' K')
         | (apply Exists.intro
            refine ⟨fun p => ?_, hK' _ ?_⟩
            (first | fail)
            clear hK' K')))
  iterate 3 (
      (refine Flow.wpS_weak (by kernel_rfl) (fun K' hK' => ?_)
       go_simp
       first
         | (refine hK' _ ?_; clear hK' K')
         | (apply Exists.intro
            refine ⟨fun p => ?_, hK' _ ?_⟩
            (first | fail)
            clear hK' K')))
  iterate 1 (
      (refine Flow.wpS_strong (by kernel_rfl) (fun K' hK' => ?_)
       go_simp
       first
         | (refine hK' _ ?_; clear hK' K')
         | (apply Exists.intro
            refine ⟨fun p => ?_, hK' _ ?_⟩
            (first | fail)
            clear hK' K')))
  iterate 2 (
      (refine Flow.wpS_weak (by kernel_rfl) (fun K' hK' => ?_)
       go_simp
       first
         | (refine hK' _ ?_; clear hK' K')
         | (apply Exists.intro
            refine ⟨fun p => ?_, hK' _ ?_⟩
            (first | fail)
            clear hK' K')))
  iterate 1 (
      (refine Flow.wpS_strong (by kernel_rfl) (fun K' hK' => ?_)
       go_simp
       first
         | (refine hK' _ ?_; clear hK' K')
         | (apply Exists.intro
            refine ⟨fun p => ?_, hK' _ ?_⟩
            (first | fail)
            clear hK' K')))
  iterate 3 (
      (refine Flow.wpS_weak (by kernel_rfl) (fun K' hK' => ?_)
       go_simp
       first
         | (refine hK' _ ?_; clear hK' K')
         | (apply Exists.intro
            refine ⟨fun p => ?_, hK' _ ?_⟩
            (first | fail)
            clear hK' K')))
  iterate 1 (
      (refine Flow.wpS_strong (by kernel_rfl) (fun K' hK' => ?_)
       go_simp
       first
         | (refine hK' _ ?_; clear hK' K')
         | (apply Exists.intro
            refine ⟨fun p => ?_, hK' _ ?_⟩
            (first | fail)
            clear hK' K')))
  iterate 2 (
      (refine Flow.wpS_weak (by kernel_rfl) (fun K' hK' => ?_)
       go_simp
       first
         | (refine hK' _ ?_; clear hK' K')
         | (apply Exists.intro
            refine ⟨fun p => ?_, hK' _ ?_⟩
            (first | fail)
            clear hK' K')))
  iterate 1 (
      (refine Flow.wpS_strong (by kernel_rfl) (fun K' hK' => ?_)
       go_simp
       first
         | (refine hK' _ ?_; clear hK' K')
         | (apply Exists.intro
            refine ⟨fun p => ?_, hK' _ ?_⟩
            (first | fail)
            clear hK' K')))
  refine Flow.wpS_nil ?_
  clear rs rd gss
  refine Flow.wpG_next 18 _ (by kernel_rfl) rfl ?_
  intro w3 hw3
  rw [HCS.out] at hw3
  have c3 := hw3.head.cell
  have f3 := hw3.head.frozen
  go_simp
  have gw : Flow.Good CW (Flow.Fx (· = h) w [(h, 106, #[.int .i64 s.hold, .int .i64 s.renew, .int .i64 s.now, .int .u32 s.made, .pointer (some ⟨r.blk, 0, none⟩), .int .u32 ep, .int .i64 s.fin])]) := by
    rw [HCW.out]
    exact Flow.good_fx _ _ _
  refine ⟨Flow.Fx (· = h) w [(h, 106, #[.int .i64 s.hold, .int .i64 s.renew, .int .i64 s.now, .int .u32 s.made, .pointer (some ⟨r.blk, 0, none⟩), .int .u32 ep, .int .i64 s.fin])], gw, ?_, ?_⟩
  · exact ((Flow.Fx.nil hw3.1).add hw3.head).set (fun _ => rfl) (fun p hp => by cases hp) 5 (.int .u32 ep)
  clear c3 f3 hw3 w3
  refine Flow.wpG_seg [19, 20] 4 rfl (by kernel_rfl) (sub) (gw) ?_
  dsimp only [Flow.pickIdx, List.getElem?_cons_zero, List.getElem?_cons_succ]
  iterate 2 (
      (refine Flow.wpS_weak (by kernel_rfl) (fun K' hK' => ?_)
       go_simp
       first
         | (refine hK' _ ?_; clear hK' K')
         | (apply Exists.intro
            refine ⟨fun p => ?_, hK' _ ?_⟩
            (first | fail)
            clear hK' K')))
  refine Flow.wpS_nil ?_
  clear gw
  refine Flow.wpG_next 21 _ (by kernel_rfl) rfl ?_
  intro w3 hw3
  have c3 := hw3.head.cell
  have f3 := hw3.head.frozen
  go_simp
  have gw : Flow.Good CW (Flow.Fx (· = h) w [(h, 106, #[.int .i64 s.hold, .int .i64 s.renew, .int .i64 s.now, .int .u32 s.made, .pointer (some ⟨r.blk, 0, none⟩), .int .u32 ep, .int .i64 (r.at_ + s.hold)])]) := by
    rw [HCW.out]
    exact Flow.good_fx _ _ _
  refine ⟨Flow.Fx (· = h) w [(h, 106, #[.int .i64 s.hold, .int .i64 s.renew, .int .i64 s.now, .int .u32 s.made, .pointer (some ⟨r.blk, 0, none⟩), .int .u32 ep, .int .i64 (r.at_ + s.hold)])], gw, ?_, ?_⟩
  · exact ((Flow.Fx.nil hw3.1).add hw3.head).set (fun _ => rfl) (fun p hp => by cases hp) 6 (.int .i64 (r.at_ + s.hold))
  clear c3 f3 hw3 w3
  refine Flow.wpG_seg [22, 23] 1 rfl (by kernel_rfl) (sub) (gw) ?_
  dsimp only [Flow.pickIdx, List.getElem?_cons_zero, List.getElem?_cons_succ]
  iterate 2 (
      (refine Flow.wpS_weak (by kernel_rfl) (fun K' hK' => ?_)
       go_simp
       first
         | (refine hK' _ ?_; clear hK' K')
         | (apply Exists.intro
            refine ⟨fun p => ?_, hK' _ ?_⟩
            (first | fail)
            clear hK' K')))
  refine Flow.wpS_nil ?_
  clear gw
  refine Flow.wpG_next 24 _ (by kernel_rfl) rfl ?_
  intro w3 hw3
  have c3 := hw3.head.cell
  have f3 := hw3.head.frozen
  go_simp
  have gw : Flow.Good CW (Flow.Fx (· = h) w [(h, 106, #[.int .i64 s.hold, .int .i64 s.renew, .int .i64 s.now, .int .u32 s.made, .pointer none, .int .u32 ep, .int .i64 (r.at_ + s.hold)])]) := by
    rw [HCW.out]
    exact Flow.good_fx _ _ _
  refine ⟨Flow.Fx (· = h) w [(h, 106, #[.int .i64 s.hold, .int .i64 s.renew, .int .i64 s.now, .int .u32 s.made, .pointer none, .int .u32 ep, .int .i64 (r.at_ + s.hold)])], gw, ?_, ?_⟩
  · exact ((Flow.Fx.nil hw3.1).add hw3.head).set (fun _ => rfl) (fun p hp => by cases hp) 4 (.pointer none)
  clear c3 f3 hw3 w3
  clear gw
  refine Flow.wpG_done (by kernel_rfl) ?_
  intro w3 hw3
  go_wp2_with fail
  go_ret
  exact ⟨rfl, ⟨hw3.head, fun _ e => by cases e⟩, hw3.1⟩
end Go.Proofs.Ythkphapmnlndbaa
