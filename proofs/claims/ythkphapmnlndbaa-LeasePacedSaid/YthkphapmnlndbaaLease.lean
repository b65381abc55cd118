/- The contracts of package lease. -/
import Derived.Test.YthkphapmnlndbaaProg
import Derived.Test.YthkphapmnlndbaaGen
import Derived.WalkKit
import Derived.WalkLawsBesides
import Derived.WalkSpells
import Derived.Handy
namespace Go.Proofs.Ythkphapmnlndbaa
open Go.RowKit
set_option maxHeartbeats 4000000
set_option linter.unusedSimpArgs false
attribute [local irreducible] Flow.wpSeg Flow.wpF Flow.wpG Flow.wpS

/-- an open request -/
structure Rq where
  blk : Nat
  num : Int
  ep : Int
  at_ : Int
/-- a holder -/
structure Hs where
  hold : Int
  renew : Int
  now : Int
  made : Int
  req : Option Rq
  epoch : Int
  fin : Int
def Hs.ptr (s : Hs) : Value := .pointer (s.req.map fun r => ⟨r.blk, 0, none⟩)
def Hs.cells (s : Hs) : Array Value := #[.int .i64 s.hold, .int .i64 s.renew, .int .i64 s.now, .int .u32 s.made, s.ptr, .int .u32 s.epoch, .int .i64 s.fin]
def Rq.cells (r : Rq) : Array Value := #[.int .u32 r.num, .int .u32 r.ep, .int .i64 r.at_]
def IsH (w : World) (h : Nat) (s : Hs) : Prop := Flow.Blk w h 106 s.cells ∧ ∀ r, s.req = some r → r.blk ≠ h ∧ Flow.Blk w r.blk 108 r.cells
structure Bnd (s : Hs) : Prop where
  hold : 1 ≤ s.hold ∧ s.hold ≤ 1000
  renew : 0 ≤ s.renew ∧ s.renew ≤ 1000
  now : 0 ≤ s.now ∧ s.now ≤ 100000
  made : 0 ≤ s.made ∧ s.made ≤ 100000
  req : ∀ r, s.req = some r → 0 ≤ r.at_ ∧ r.at_ ≤ s.now ∧ 1 ≤ r.num ∧ r.num ≤ s.made
  fin : 0 ≤ s.fin ∧ s.fin ≤ 200000
abbrev hp (g : Nat) : Value := .pointer (some ⟨g, 0, none⟩)
def leftOf (s : Hs) (ep : Int) : Int := if s.epoch = ep then max (s.fin - s.now) 0 else 0
theorem IsH.chg {S : Nat → Prop} {w w' : World} {h : Nat} {s : Hs} (H : IsH w h s) (hc : Flow.Chg S w w') (hh : ¬ S h) (hr : ∀ r, s.req = some r → ¬ S r.blk) : IsH w' h s :=
  ⟨H.1.chg hc hh, fun r e => ⟨(H.2 r e).1, (H.2 r e).2.chg hc (hr r e)⟩⟩
theorem IsH.below {w w' : World} {h : Nat} {s : Hs} (H : IsH w h s) (hb : Below w.heap.size w w') : IsH w' h s := ⟨H.1.below hb, fun r e => ⟨(H.2 r e).1, (H.2 r e).2.below hb⟩⟩

theorem new_any (a b : Int) (w : World) : Calls Try.prog 36 #[.int .i64 a, .int .i64 b] w fun e w' => e = .returned (hp w.heap.size) ∧ w' = w.alloc (.cells (Hs.cells ⟨max a 1, max b 0, 0, 0, none, 0, 0⟩) 106) := by
  go_enter Try.func36, Try.ntmps36
  go_wp2
  all_goals (go_ret; exact ⟨rfl, by
    have h1 : max a 1 = a ∨ max a 1 = 1 := by omega
    have h2 : max b 0 = b ∨ max b 0 = 0 := by omega
    rcases h1 with h1 | h1 <;> rcases h2 with h2 | h2 <;> simp only [Hs.cells, Hs.ptr, h1, h2] <;> first | rfl | (exfalso; omega) | (congr <;> omega)⟩)

theorem tick_any (h : Nat) (s : Hs) (w : World) (H : IsH w h s) (hb : Bnd s) :
    Calls Try.prog 40 #[hp h] w fun e w' => e = .returned (.tuple #[]) ∧ IsH w' h { s with now := s.now + 1 } ∧ Flow.Chg (· = h) w w' := by
  have c := H.1.cell
  have f := H.1.frozen
  have b1 := hb.now.1
  have b2 := hb.now.2
  have HH := Flow.hide H
  clear H
  simp only [Hs.cells] at c
  go_enter Try.func40, Try.ntmps40
  go_wp2_with fail
  refine bodyPost_end (results_none rfl _ _ _) rfl ?_
  exact ⟨rfl, ⟨HH.out.1.set 2 _, fun r e => ⟨(HH.out.2 r e).1, (HH.out.2 r e).2.far (p := ⟨h, 2, none⟩) (HH.out.2 r e).1 _⟩⟩, Flow.Chg.setAt _ _ _ _⟩
theorem left_any (h : Nat) (s : Hs) (ep : Int) (w : World) (H : IsH w h s) (hb : Bnd s) :
    Calls Try.prog 61 #[hp h, .int .u32 ep] w fun e w' => e = .returned (.int .i64 (leftOf s ep)) ∧ Below w.heap.size w w' := by
  have c := H.1.cell
  have r0 := H.1.rg
  have b1 := hb.now.1
  have b2 := hb.now.2
  have b3 := hb.fin.1
  have b4 := hb.fin.2
  clear H
  simp only [Hs.cells] at c r0
  by_cases he : s.epoch = ep
  · have hl : leftOf s ep = if s.fin - s.now < 0 then 0 else s.fin - s.now := by unfold leftOf; rw [if_pos he]; split <;> omega
    have HL := Flow.hide hl
    have he' : (s.epoch == ep) = true := by simp [he]
    have he'' : (s.epoch != ep) = false := by simp [he]
    have s1 : IntKind.i64.wrap (s.fin - s.now) = s.fin - s.now := IntWalk.i64_in _ (by omega)
    clear hl
    have He := Flow.hide he
    clear he
    go_enter Try.func61, Try.ntmps61
    go_wp2_with fail
    refine Flow.wp_region_all (by kernel_rfl) (by kernel_rfl) ?_
    repeat (first
      | (refine Flow.wpSeg_step (fun K' hK' => ?_)
         go_simp
         first
           | (refine hK' _ ?_; clear hK' K')
           | (apply Exists.intro
              refine ⟨fun p => ?_, hK' _ ?_⟩
              (first | fail)
              clear hK' K')))
    refine Flow.wpSeg_nil ?_
    intro w' hb'
    go_wp2_with fail
    all_goals (go_ret; refine ⟨?_, hb'⟩; rw [HL.out]; first | (rw [if_pos ‹_›]; rfl) | (rw [if_neg (by omega)]; rfl))
  · have hl : leftOf s ep = 0 := by unfold leftOf; rw [if_neg he]
    have HL := Flow.hide hl
    have he' : (s.epoch == ep) = false := by simp [he]
    have he'' : (s.epoch != ep) = true := by simp [he]
    clear hl r0
    go_enter Try.func61, Try.ntmps61
    go_wp2_with fail
    go_ret
    exact ⟨by rw [HL.out]; rfl, Below.refl _ _⟩
def holdsOf (s : Hs) (ep : Int) : Bool := decide (s.epoch = ep ∧ s.now < s.fin)
theorem leftOf_pos (s : Hs) (ep : Int) : (0 < leftOf s ep) = (s.epoch = ep ∧ s.now < s.fin) := by
  unfold leftOf
  apply propext
  split
  · rename_i h; omega
  · rename_i h; simp [h]
theorem leftOf_bd (s : Hs) (ep : Int) (hb : Bnd s) : 0 ≤ leftOf s ep ∧ leftOf s ep ≤ 200000 := by
  have := hb.fin; have := hb.now
  unfold leftOf
  split <;> omega
theorem holds_any (h : Nat) (s : Hs) (ep : Int) (w : World) (H : IsH w h s) (hb : Bnd s) :
    Calls Try.prog 41 #[hp h, .int .u32 ep] w fun e w' => e = .returned (.bool (holdsOf s ep)) ∧ Below w.heap.size w w' := by
  have HH := Flow.hide H
  clear H
  go_enter Try.func41, Try.ntmps41
  go_wp2_with fail
  refine (left_any h s ep _ HH.out hb).mono ?_
  rintro e w1 ⟨rfl, hb1⟩
  go_wp2_with fail
  go_ret
  exact ⟨by show Ending.returned (.bool (decide (0 < leftOf s ep))) = _; unfold holdsOf; rw [decide_eq_decide.2 (by rw [leftOf_pos])], hb1⟩
def reqOf (s : Hs) : Int := match s.req with | none => 0 | some r => r.num
theorem request_any (h : Nat) (s : Hs) (w : World) (H : IsH w h s) :
    Calls Try.prog 38 #[hp h] w fun e w' => e = .returned (.int .u32 (reqOf s)) ∧ w = w' := by
  have c := H.1.cell
  have HH := Flow.hide H
  clear H
  simp only [Hs.cells, Hs.ptr] at c
  cases hr : s.req with
  | none =>
    rw [hr] at c
    have HR := Flow.hide hr
    clear hr
    go_enter Try.func38, Try.ntmps38
    go_wp2_with fail
    go_ret
    exact ⟨by unfold reqOf; rw [HR.out]; rfl, rfl⟩
  | some r =>
    rw [hr] at c
    have d := (HH.out.2 r hr).2.cell
    simp only [Rq.cells] at d
    have HR := Flow.hide hr
    clear hr
    go_enter Try.func38, Try.ntmps38
    go_wp2_with fail
    go_ret
    exact ⟨by unfold reqOf; rw [HR.out]; rfl, rfl⟩
theorem void_any (h : Nat) (s : Hs) (w : World) (H : IsH w h s) :
    Calls Try.prog 44 #[hp h] w fun e w' => e = .returned (.tuple #[]) ∧ IsH w' h { s with req := none, fin := s.now } ∧ Flow.Chg (· = h) w w' := by
  have c := H.1.cell
  have f := H.1.frozen
  have HH := Flow.hide H
  clear H
  simp only [Hs.cells] at c
  go_enter Try.func44, Try.ntmps44
  go_wp2_with fail
  refine bodyPost_end (results_none rfl _ _ _) rfl ?_
  exact ⟨rfl, ⟨(HH.out.1.set 4 _).set 6 _, fun r e => by cases e⟩, (Flow.Chg.setAt _ _ _ _).trans (Flow.Chg.setAt _ _ _ _) (fun _ _ e => e)⟩
theorem nil_any (w : World) : (Calls Try.prog 40 #[.pointer none] w fun e w' => e = .returned (.tuple #[]) ∧ w = w') ∧ (Calls Try.prog 44 #[.pointer none] w fun e w' => e = .returned (.tuple #[]) ∧ w = w') ∧
    (Calls Try.prog 38 #[.pointer none] w fun e w' => e = .returned (.int .u32 0) ∧ w = w') ∧ (∀ ep, Calls Try.prog 41 #[.pointer none, .int .u32 ep] w fun e w' => e = .returned (.bool false) ∧ w = w') ∧
    (∀ ep r, Calls Try.prog 39 #[.pointer none, .int .u32 ep, .int .u32 r] w fun e w' => e = .returned (.bool false) ∧ w = w') := by
  refine ⟨?_, ?_, ?_, fun ep => ?_, fun ep r => ?_⟩
  · go_enter Try.func40, Try.ntmps40
    go_wp2_with fail
    exact bodyPost_end (results_none rfl _ _ _) rfl ⟨rfl, rfl⟩
  · go_enter Try.func44, Try.ntmps44
    go_wp2_with fail
    exact bodyPost_end (results_none rfl _ _ _) rfl ⟨rfl, rfl⟩
  · go_enter Try.func38, Try.ntmps38
    go_wp2_with fail
    go_ret
    exact ⟨rfl, rfl⟩
  · go_enter Try.func41, Try.ntmps41
    go_wp2_with fail
    go_ret
    exact ⟨rfl, rfl⟩
  · go_enter Try.func39, Try.ntmps39
    go_wp2_with fail
    go_ret
    exact ⟨rfl, rfl⟩
theorem asknil_any (ep : Int) (w : World) : Calls Try.prog 37 #[.pointer none, .int .u32 ep] w fun e w' => e = .returned (.bool false) ∧ Below w.heap.size w w' := by
  go_enter Try.func37, Try.ntmps37
  go_wp2_with fail
  refine Flow.wp_region_all (by kernel_rfl) (by kernel_rfl) ?_
  repeat (first
    | (refine Flow.wpSeg_step (fun K' hK' => ?_)
       go_simp
       first
         | (refine hK' _ ?_; clear hK' K')
         | (apply Exists.intro
            refine ⟨fun p => ?_, hK' _ ?_⟩
            (first | fail)
            clear hK' K')))
  refine Flow.wpSeg_nil ?_
  intro w' hb'
  go_wp2_with fail
  go_ret
  exact ⟨rfl, hb'⟩
def due (s : Hs) (ep : Int) : Bool := (match s.req with | none => true | some r => !decide (s.now - r.at_ < s.hold)) && !decide (s.renew < leftOf s ep)
theorem left_q {h : Nat} {s : Hs} {ep : Int} {w : World} (H : IsH w h s) (hb : Bnd s) (p : Flow.Rg) :
    Calls Try.prog 61 #[hp h, .int .u32 ep] (Flow.rg w p) fun e w' => e = .returned (.int .i64 (leftOf s ep)) ∧ Below (Flow.rg w p).heap.size (Flow.rg w p) w' :=
  left_any h s ep _ (H.below (Flow.rg_below w p)) hb
theorem ask_no (h : Nat) (s : Hs) (ep : Int) (w : World) (H : IsH w h s) (hb : Bnd s) (hd : due s ep = false) :
    Calls Try.prog 37 #[hp h, .int .u32 ep] w fun e w' => e = .returned (.bool false) ∧ Below w.heap.size w w' := by
  have r0 := H.1.rg
  have b1 := hb.now.1
  have b2 := hb.now.2
  simp only [Hs.cells, Hs.ptr] at r0
  unfold due at hd
  have HH := Flow.hide H
  have lq := leftOf_bd s ep hb
  cases hr : s.req with
  | none =>
    rw [hr] at r0 hd
    have hl : decide (s.renew < leftOf s ep) = true := by simpa using hd
    clear H hd
    have HR := Flow.hide hr
    clear hr
    go_enter Try.func37, Try.ntmps37
    go_wp2_with fail
    refine Flow.wp_region_all (by kernel_rfl) (by kernel_rfl) ?_
    repeat (first
      | (refine Flow.wpSeg_step (fun K' hK' => ?_)
         go_simp
         first
           | (refine hK' _ ?_; clear hK' K')
           | (apply Exists.intro
              refine ⟨fun p => ?_, hK' _ ?_⟩
              (first | with_reducible exact (left_q HH.out hb p))
              clear hK' K')))
    refine Flow.wpSeg_nil ?_
    intro w' hb'
    go_wp2_with fail
    go_ret
    exact ⟨rfl, hb'⟩
  | some r =>
    rw [hr] at r0 hd
    have d0 := (H.2 r hr).2.rg
    simp only [Rq.cells] at d0
    have q1 := (hb.req r hr).1
    have q2 := (hb.req r hr).2.1
    have s1 : IntKind.i64.wrap (s.now - r.at_) = s.now - r.at_ := IntWalk.i64_in _ (by omega)
    clear H
    have HR := Flow.hide hr
    clear hr
    by_cases hl : s.now - r.at_ < s.hold
    · have hl2 : decide (s.now - r.at_ < s.hold) = true := decide_eq_true hl
      clear hd hl
      go_enter Try.func37, Try.ntmps37
      go_wp2_with fail
      refine Flow.wp_region_all (by kernel_rfl) (by kernel_rfl) ?_
      repeat (first
        | (refine Flow.wpSeg_step (fun K' hK' => ?_)
           go_simp
           first
             | (refine hK' _ ?_; clear hK' K')
             | (apply Exists.intro
                refine ⟨fun p => ?_, hK' _ ?_⟩
                (first | with_reducible exact (left_q HH.out hb p))
                clear hK' K')))
      refine Flow.wpSeg_nil ?_
      intro w' hb'
      go_wp2_with fail
      go_ret
      exact ⟨rfl, hb'⟩
    · have hl2 : decide (s.now - r.at_ < s.hold) = false := decide_eq_false hl
      have hl3 : decide (s.renew < leftOf s ep) = true := by simpa [hl] using hd
      clear hd hl
      go_enter Try.func37, Try.ntmps37
      go_wp2_with fail
      refine Flow.wp_region_all (by kernel_rfl) (by kernel_rfl) ?_
      repeat (first
        | (refine Flow.wpSeg_step (fun K' hK' => ?_)
           go_simp
           first
             | (refine hK' _ ?_; clear hK' K')
             | (apply Exists.intro
                refine ⟨fun p => ?_, hK' _ ?_⟩
                (first | with_reducible exact (left_q HH.out hb p))
                clear hK' K')))
      refine Flow.wpSeg_nil ?_
      intro w' hb'
      go_wp2_with fail
      go_ret
      exact ⟨rfl, hb'⟩
end Go.Proofs.Ythkphapmnlndbaa
