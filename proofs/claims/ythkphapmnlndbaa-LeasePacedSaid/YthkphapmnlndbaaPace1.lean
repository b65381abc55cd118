/- The contracts of package pace: the closures, IndexFunc, DeleteFunc. -/
import Derived.Test.YthkphapmnlndbaaPaceMem
import Derived.Test.YthkphapmnlndbaaSteps
import Derived.WalkKit
import Derived.WalkLawsBesides
import Derived.WalkSpells
import Derived.Handy
import Derived.Deep.Cut
namespace Go.Proofs.Ythkphapmnlndbaa
open Go.RowKit
set_option maxHeartbeats 800000
set_option linter.unusedSimpArgs false
attribute [local irreducible] Flow.wpSeg Flow.wpF Flow.wpG Flow.wpS Flow.wpT
/-- What a tick of node i does to a span. -/
def upN (i : Int) (p : PS) : PS := if p.node = i then { p with ticks := p.ticks + 1 } else p
def dlN (hold : Int) (p : PS) : Bool := decide (hold ≤ p.ticks)
def upI (_ : Int) (p : PS) : PS := p
def dlS (i : Int) (p : PS) : Bool := p.node == i
/-- What the closures have caught. -/
structure EnvN (w : World) (g ib pb : Nat) (a0 a1 hold a3 i : Int) (v : Value) (b : Bool) : Prop where
  k : Flow.Blk w g 113 #[.int .i64 a0, .int .i64 a1, .int .i64 hold, .int .i64 a3, v, .bool b]
  i : Flow.Blk w ib 3 #[.int .i64 i]
  p : Flow.Blk w pb 75 #[.pointer (some ⟨g, 0, none⟩)]
structure EnvS (w : World) (g ib pb : Nat) (a0 a1 hold a3 i : Int) (v : Value) (b : Bool) : Prop where
  k : Flow.Blk w g 113 #[.int .i64 a0, .int .i64 a1, .int .i64 hold, .int .i64 a3, v, .bool b]
  i : Flow.Blk w ib 3 #[.int .i64 i]
section
variable {S : Nat → Prop} {w w' : World} {g ib pb : Nat} {a0 a1 hold a3 i : Int} {v : Value} {b : Bool} {B : Nat} {l : List Sp}
theorem EnvN.chg (h : EnvN w g ib pb a0 a1 hold a3 i v b) (hc : Flow.Chg S w w') (h1 : ¬ S g) (h2 : ¬ S ib) (h3 : ¬ S pb) : EnvN w' g ib pb a0 a1 hold a3 i v b := ⟨h.k.chg hc h1, h.i.chg hc h2, h.p.chg hc h3⟩
theorem EnvS.chg (h : EnvS w g ib pb a0 a1 hold a3 i v b) (hc : Flow.Chg S w w') (h1 : ¬ S g) (h2 : ¬ S ib) : EnvS w' g ib pb a0 a1 hold a3 i v b := ⟨h.k.chg hc h1, h.i.chg hc h2⟩
theorem EnvN.tch (h : EnvN w g ib pb a0 a1 hold a3 i v b) (hs : Sps w B l) (hc : Flow.Chg (Tch l) w w') : EnvN w' g ib pb a0 a1 hold a3 i v b := h.chg hc (hs.ne_sb h.k (by decide)) (hs.ne_sb h.i (by decide)) (hs.ne_sb h.p (by decide))
theorem EnvS.tch (h : EnvS w g ib pb a0 a1 hold a3 i v b) (hs : Sps w B l) (hc : Flow.Chg (Tch l) w w') : EnvS w' g ib pb a0 a1 hold a3 i v b := h.chg hc (hs.ne_sb h.k (by decide)) (hs.ne_sb h.i (by decide))
end
/-- What a closure has done to one span. -/
def One (B : Nat) (s : Sp) (up : PS → PS) (dl : PS → Bool) (w : World) (e : Ending) (w' : World) : Prop :=
  e = .returned (.bool (dl (up s.p))) ∧ SpAt w' B (upS up s) ∧ Flow.Chg (· = s.sb) w w'
theorem cl64 (s : Sp) (B g ib pb : Nat) (a0 a1 hold a3 i : Int) (v : Value) (b : Bool) (w : World) (he : EnvN w g ib pb a0 a1 hold a3 i v b) (hs : SpAt w B s) (ht : 0 ≤ s.p.ticks ∧ s.p.ticks ≤ 1000000) :
    Calls Try.prog 64 #[.pointer (some ⟨s.sb, 0, none⟩), .pointer (some ⟨ib, 0, none⟩), .pointer (some ⟨pb, 0, none⟩)] w (One B s (upN i) (dlN hold) w) := by
  obtain ⟨⟨nd, tk, ms⟩, sb, mb⟩ := s
  obtain ⟨ks, km, k1, k2⟩ := hs
  obtain ⟨kg, ki, kp⟩ := he
  simp only [PS.cells] at ks km k1 k2 ht ⊢
  have c1 := ks.cell
  have c2 := ks.frozen
  have c3 := ks.lt
  have r1 := ks.rg
  have r2 := kg.rg
  have r3 := ki.rg
  have r4 := kp.rg
  have hne := ks.ne_type kg (by decide)
  have hnp := ks.ne_type kp (by decide)
  have KS := Flow.hide ks
  have KM := Flow.hide km
  have KP := Flow.hide kp
  have KG := Flow.hide kg
  clear ks km kg ki kp
  have hne' := Flow.hide hne
  have hnp' := Flow.hide hnp
  have hnm := Flow.hide (KS.out.ne_type KM.out (by decide))
  clear hne hnp
  by_cases hn : nd = i
  · have hb : (nd == i) = true := by rw [hn]; exact beq_self_eq_true _
    have hup : Hid (upN i ⟨nd, tk, ms⟩ = ⟨nd, tk + 1, ms⟩) := if_pos hn
    clear hn
    go_enter Try.func64, Try.ntmps64
    go_upto_region 1 with fail
    refine Flow.wp_region_all (by kernel_rfl) (by kernel_rfl) ?_
    repeat (first
      | (refine Flow.wpSeg_step (fun K' hK' => ?_)
         go_simp
         first
           | (refine hK' _ ?_; clear hK' K')
           | (apply Exists.intro
              refine ⟨fun p => ?_, hK' _ ?_⟩
              (first | fail)
              clear hK' K')))
    refine Flow.wpSeg_nil ?_
    intro w' hbq
    have BQ := Flow.hide hbq
    have K2 := KS.out.below hbq
    have c4 := K2.cell
    have c5 := K2.frozen
    have c6 := K2.lt
    have KM2 := Flow.hide (KM.out.below hbq)
    have KG2 := Flow.hide (KG.out.below hbq)
    have KP2 := Flow.hide (KP.out.below hbq)
    clear hbq c1 c2 c3 r1 r2 r3 r4 KS KM KP KG
    go_upto_region 3 with fail
    have C3 := Flow.Chg.setAt w' sb 1 (.int .i64 (tk + 1))
    have K3 := Flow.Blk.set_is K2 1 (.int .i64 (tk + 1)) (cs' := #[.int .i64 nd, .int .i64 (tk + 1), .slice (some ⟨mb, 0, none⟩) ms.length ms.length]) rfl
    have KM3 := Flow.hide (KM2.out.chg C3 (Ne.symm hnm.out))
    have KG3 := KG2.out.chg C3 (Ne.symm hne'.out)
    have KP3 := KP2.out.chg C3 (Ne.symm hnp'.out)
    have CC := Flow.hide (((Flow.Chg.of_below BQ.out).mono (T := (· = sb)) (fun _ _ e => e.elim)).trans C3 (fun _ _ e => e))
    revert K3 KM3 KG3 KP3 CC
    clear C3 c4 c5 c6 K2 KM2 KG2 KP2 BQ
    generalize w'.setCell ⟨sb, 1, none⟩ (.int .i64 (tk + 1)) = w3
    intro K3 KM3 KG3 KP3 CC
    have r1 := K3.rg
    have r2 := KG3.rg
    have r4 := KP3.rg
    have K3' := Flow.hide K3
    clear K3 KG3 KP3
    refine Flow.wp_region_all (by kernel_rfl) (by kernel_rfl) ?_
    repeat (first
      | (refine Flow.wpSeg_step (fun K' hK' => ?_)
         go_simp
         first
           | (refine hK' _ ?_; clear hK' K')
           | (apply Exists.intro
              refine ⟨fun p => ?_, hK' _ ?_⟩
              (first | fail)
              clear hK' K')))
    refine Flow.wpSeg_nil ?_
    intro w4 hb4
    have K4 := Flow.hide (K3'.out.below hb4)
    have KM4 := Flow.hide (KM3.out.below hb4)
    have C4 := Flow.hide (CC.out.trans (Flow.Chg.of_below hb4) (fun _ _ e => e.elim))
    clear r1 r2 r4 hb4 K3' KM3 CC
    go_wp2_with fail
    go_ret
    refine ⟨?_, ?_, C4.out⟩
    · rw [hup.out]; rfl
    · simp only [upS]; rw [hup.out]; exact ⟨K4.out, KM4.out, k1, k2⟩
  · have hb : (nd == i) = false := by simpa using hn
    have hup : Hid (upN i ⟨nd, tk, ms⟩ = ⟨nd, tk, ms⟩) := if_neg hn
    clear hn
    go_enter Try.func64, Try.ntmps64
    go_upto_region 1 with fail
    refine Flow.wp_region_all (by kernel_rfl) (by kernel_rfl) ?_
    repeat (first
      | (refine Flow.wpSeg_step (fun K' hK' => ?_)
         go_simp
         first
           | (refine hK' _ ?_; clear hK' K')
           | (apply Exists.intro
              refine ⟨fun p => ?_, hK' _ ?_⟩
              (first | fail)
              clear hK' K')))
    refine Flow.wpSeg_nil ?_
    intro w' hbq
    have K2 := KS.out.below hbq
    have KG2 := KG.out.below hbq
    have KP2 := KP.out.below hbq
    have r1 := K2.rg
    have r2 := KG2.rg
    have r4 := KP2.rg
    have BQ := Flow.hide hbq
    have KM2 := Flow.hide (KM.out.below hbq)
    have K2' := Flow.hide K2
    clear hbq K2 KG2 KP2 c1 c2 c3 KS KM KP KG
    go_upto_region 3 with fail
    refine Flow.wp_region_all (by kernel_rfl) (by kernel_rfl) ?_
    repeat (first
      | (refine Flow.wpSeg_step (fun K' hK' => ?_)
         go_simp
         first
           | (refine hK' _ ?_; clear hK' K')
           | (apply Exists.intro
              refine ⟨fun p => ?_, hK' _ ?_⟩
              (first | fail)
              clear hK' K')))
    refine Flow.wpSeg_nil ?_
    intro w4 hb4
    have K4 := Flow.hide (K2'.out.below hb4)
    have KM4 := Flow.hide (KM2.out.below hb4)
    have C4 := Flow.hide (((Flow.Chg.of_below (BQ.out.trans (hb4.mono BQ.out.size))).mono (T := (· = sb)) (fun _ _ e => e.elim)))
    clear r1 r2 r4 hb4 K2' KM2 BQ
    go_wp2_with fail
    go_ret
    refine ⟨?_, ?_, C4.out⟩
    · rw [hup.out]; rfl
    · simp only [upS]; rw [hup.out]; exact ⟨K4.out, KM4.out, k1, k2⟩
theorem cl65 (s : Sp) (B g ib pb : Nat) (a0 a1 hold a3 i : Int) (v : Value) (b : Bool) (w : World) (he : EnvS w g ib pb a0 a1 hold a3 i v b) (hs : SpAt w B s) :
    Calls Try.prog 65 #[.pointer (some ⟨s.sb, 0, none⟩), .pointer (some ⟨ib, 0, none⟩)] w (One B s (upI i) (dlS i) w) := by
  obtain ⟨⟨nd, tk, ms⟩, sb, mb⟩ := s
  obtain ⟨ks, km, k1, k2⟩ := hs
  obtain ⟨kg, ki⟩ := he
  simp only [PS.cells] at ks km k1 k2 ⊢
  have r1 := ks.rg
  have r3 := ki.rg
  have KS := Flow.hide ks
  have KM := Flow.hide km
  clear ks km kg ki
  go_enter Try.func65, Try.ntmps65
  go_upto_region 1 with fail
  refine Flow.wp_region_all (by kernel_rfl) (by kernel_rfl) ?_
  repeat (first
    | (refine Flow.wpSeg_step (fun K' hK' => ?_)
       go_simp
       first
         | (refine hK' _ ?_; clear hK' K')
         | (apply Exists.intro
            refine ⟨fun p => ?_, hK' _ ?_⟩
            (first | fail)
            clear hK' K')))
  refine Flow.wpSeg_nil ?_
  intro w' hbq
  have K4 := Flow.hide (KS.out.below hbq)
  have KM4 := Flow.hide (KM.out.below hbq)
  have C4 := Flow.hide ((Flow.Chg.of_below hbq).mono (T := (· = sb)) (fun _ _ e => e.elim))
  clear hbq r1 r3 KS KM
  go_wp2_with fail
  go_ret
  exact ⟨rfl, ⟨K4.out, KM4.out, k1, k2⟩, C4.out⟩
end Go.Proofs.Ythkphapmnlndbaa
