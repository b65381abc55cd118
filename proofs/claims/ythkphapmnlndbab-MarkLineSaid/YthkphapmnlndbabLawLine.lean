/- MarkLine: for every three stamps the law returns true and leaves its arguments as they were. No condition. -/
import Derived.Test.YthkphapmnlndbabRows
import Derived.Test.YthkphapmnlndbabMark
import Derived.Test.YthkphapmnlndbabOpen
import Derived.Test.YthkphapmnlndbabSteps
namespace Go.Proofs.Ythkphapmnlndbab.LawLine
open Go.ChangeShapes Go.WideShapes Go.ChangeAt Go.RowKit
set_option linter.unusedSimpArgs false
set_option maxHeartbeats 40000000
attribute [local irreducible] Flow.wpSeg Flow.wpF

def sEq (a b c d e f : Int) : Bool := decide (a = d ∧ b = e ∧ c = f)
theorem eql30 (a b c d e f : Int) (w : World) : (binOp .eql 30 (.agg #[.int .u32 a, .int .u8 b, .int .u8 c]) (.agg #[.int .u32 d, .int .u8 e, .int .u8 f])).run Try.prog w = .ok (.bool (sEq a b c d e f)) w := by
  go_simp
  unfold sEq
  by_cases h1 : a = d <;> by_cases h2 : b = e <;> by_cases h3 : c = f <;> simp [h1, h2, h3]
theorem less_is (n b l n' b' l' : Int) (x : Bool) (w : World) (h : Hid (slt n b l n' b' l' = x)) :
    Calls Try.prog 19 #[.agg #[.int .u32 n, .int .u8 b, .int .u8 l], .agg #[.int .u32 n', .int .u8 b', .int .u8 l']] w fun e w' => e = .returned (.bool x) ∧ Below w.heap.size w w' := by rw [← h.out]; exact less_any _ _ _ _ _ _ _
theorem slt_iff (a b c d e f : Int) : slt a b c d e f = true ↔ (a < d ∨ a = d ∧ (b < e ∨ b = e ∧ c < f)) := by simp [slt]
theorem slt_not (a b c d e f : Int) : slt a b c d e f = false ↔ ¬ (a < d ∨ a = d ∧ (b < e ∨ b = e ∧ c < f)) := by rw [← slt_iff]; simp
theorem tri (a b c d e f : Int) : (slt a b c d e f = true ∧ slt d e f a b c = false ∧ sEq a b c d e f = false) ∨ (slt a b c d e f = false ∧ slt d e f a b c = true ∧ sEq a b c d e f = false) ∨
    (slt a b c d e f = false ∧ slt d e f a b c = false ∧ sEq a b c d e f = true) := by
  simp only [slt_iff, slt_not, sEq, decide_eq_true_eq, decide_eq_false_iff_not]
  omega
theorem great_facts (a b c d e f p q r : Int) (ha : 0 ≤ a) (hb : 0 ≤ b) (hc : 0 ≤ c) :
    ∃ u v t, great (0, 0, 0) [(a, b, c), (d, e, f), (p, q, r)] = (u, v, t) ∧ slt u v t a b c = false ∧ slt u v t d e f = false ∧ slt u v t p q r = false ∧
      (sEq u v t a b c = true ∨ sEq u v t d e f = true ∨ sEq u v t p q r = true) := by
  have h1 : (if sless (0, 0, 0) (a, b, c) then ((a, b, c) : St) else (0, 0, 0)) = (a, b, c) := by
    split
    · rfl
    · rename_i h
      have h := (Bool.not_eq_true _).mp h
      simp only [sless, slt_not] at h
      simp only [Prod.mk.injEq]
      omega
  have key : ∀ (x y z u v t : Int), (slt u v t x y z = false ∧ True) → True := fun _ _ _ _ _ _ _ => trivial
  simp only [great, h1]
  by_cases h2 : sless (a, b, c) (d, e, f) = true
  · rw [if_pos h2]
    by_cases h3 : sless (d, e, f) (p, q, r) = true
    · rw [if_pos h3]
      refine ⟨p, q, r, rfl, ?_⟩
      simp only [sless, slt_iff] at h2 h3
      simp only [slt_not, sEq, decide_eq_true_eq]
      refine ⟨by omega, by omega, by omega, .inr (.inr ⟨trivial, trivial, trivial⟩)⟩
    · rw [if_neg h3]
      have h3 := (Bool.not_eq_true _).mp h3
      refine ⟨d, e, f, rfl, ?_⟩
      simp only [sless, slt_iff] at h2
      simp only [sless, slt_not] at h3
      simp only [slt_not, sEq, decide_eq_true_eq]
      refine ⟨by omega, by omega, by omega, .inr (.inl ⟨trivial, trivial, trivial⟩)⟩
  · rw [if_neg h2]
    have h2 := (Bool.not_eq_true _).mp h2
    by_cases h3 : sless (a, b, c) (p, q, r) = true
    · rw [if_pos h3]
      refine ⟨p, q, r, rfl, ?_⟩
      simp only [sless, slt_not] at h2
      simp only [sless, slt_iff] at h3
      simp only [slt_not, sEq, decide_eq_true_eq]
      refine ⟨by omega, by omega, by omega, .inr (.inr ⟨trivial, trivial, trivial⟩)⟩
    · rw [if_neg h3]
      have h3 := (Bool.not_eq_true _).mp h3
      refine ⟨a, b, c, rfl, ?_⟩
      simp only [sless, slt_not] at h2 h3
      simp only [slt_not, sEq, decide_eq_true_eq]
      refine ⟨by omega, by omega, by omega, .inl ⟨trivial, trivial, trivial⟩⟩
theorem trans_ (a b c d e f p q r : Int) (h1 : slt a b c d e f = true) (h2 : slt d e f p q r = true) : slt a b c p q r = true := by
  simp only [slt_iff] at *; omega

set_option maxRecDepth 100000 in
theorem walk (a b c d e f p q r : Int) (w : World) (ha : 0 ≤ a) (hb : 0 ≤ b) (hc : 0 ≤ c) :
    Calls Try.prog 4 #[.agg #[.int .u32 a, .int .u8 b, .int .u8 c], .agg #[.int .u32 d, .int .u8 e, .int .u8 f], .agg #[.int .u32 p, .int .u8 q, .int .u8 r]] w fun e w' => e = .returned (.bool true) ∧ Below w.heap.size w w' := by
  obtain ⟨u, v, t, hm, m1, m2, m3, m4⟩ := great_facts a b c d e f p q r ha hb hc
  have M1 := Flow.hide m1
  have M2 := Flow.hide m2
  have M3 := Flow.hide m3
  have M4 := Flow.hide m4
  have HM := Flow.hide hm
  have T := Flow.hide (tri a b c d e f)
  have TR := Flow.hide (trans_ a b c d e f p q r)
  clear m1 m2 m3 m4 hm
  have heq := eql30
  go_enter Try.func4, Try.ntmps4
  go_wp2_with fail
  refine (speaks03 _).mono ?_
  rintro e1 w1 ⟨rfl, hb1⟩
  have b1 : Below w.heap.size w w1 := (Below.refl _ _).alloc (Nat.le_refl _) _ |>.alloc (by simp) _ |>.alloc (by simp; omega) _ |>.trans (hb1.mono (by simp; omega))
  have k1 : Flow.Blk w1 w.heap.size 24 #[.int .u32 a, .int .u8 b, .int .u8 c] := (((Flow.Blk.new _ _ _).alloc _).alloc _).below hb1
  have k2 : Flow.Blk w1 (w.heap.size + 1) 24 #[.int .u32 d, .int .u8 e, .int .u8 f] := by
    have := ((Flow.Blk.new (w.alloc (.cells #[.int .u32 a, .int .u8 b, .int .u8 c] 24)) 24 #[.int .u32 d, .int .u8 e, .int .u8 f]).alloc (.cells #[.int .u32 p, .int .u8 q, .int .u8 r] 24)).below hb1
    simpa using this
  have k3 : Flow.Blk w1 (w.heap.size + 1 + 1) 24 #[.int .u32 p, .int .u8 q, .int .u8 r] := by
    have := (Flow.Blk.new ((w.alloc (.cells #[.int .u32 a, .int .u8 b, .int .u8 c] 24)).alloc (.cells #[.int .u32 d, .int .u8 e, .int .u8 f] 24)) 24 #[.int .u32 p, .int .u8 q, .int .u8 r]).below hb1
    simpa using this
  clear hb1
  go_wp2_with fail
  refine Flow.wp_region_flow (by kernel_rfl) 12 rfl ?_
  refine Flow.wpF_seg [0, 1, 2, 3, 4, 5] 6 rfl (by kernel_rfl) ?_
  dsimp only [Flow.pickOps, List.getElem?_cons_zero, List.getElem?_cons_succ]
  have r0 := k1.rg
  have r1 := k2.rg
  have r2 := k3.rg
  repeat (first
    | (refine Flow.wpSeg_step (fun K' hK' => ?_)
       go_simp
       first
         | (refine hK' _ ?_; clear hK' K')
         | (apply Exists.intro
            refine ⟨fun p => ?_, hK' _ ?_⟩
            (first | with_reducible exact (told_any _ _ _ _))
            clear hK' K')))
  refine Flow.wpSeg_nil ?_
  clear r0 r1 r2
  refine Flow.wpF_declared [⟨6, 9, 7, 15, 30, #[.int .u32 0, .int .u8 0, .int .u8 0], #[.int .u32 a, .int .u8 b, .int .u8 c]⟩, ⟨7, 10, 8, 17, 30, #[.int .u32 0, .int .u8 0, .int .u8 0], #[.int .u32 d, .int .u8 e, .int .u8 f]⟩, ⟨8, 11, 9, 19, 30, #[.int .u32 0, .int .u8 0, .int .u8 0], #[.int .u32 p, .int .u8 q, .int .u8 r]⟩] 0 (by kernel_rfl) ?hz ?hs ?_
  case hz =>
    intro p hp wz; simp only [List.mem_cons, List.not_mem_nil, or_false] at hp
    rcases hp with rfl | rfl | rfl
    all_goals kernel_rfl
  case hs =>
    intro p hp; simp only [List.mem_cons, List.not_mem_nil, or_false] at hp
    rcases hp with rfl | rfl | rfl
    all_goals exact ⟨rfl, by simp, by kernel_rfl, rfl, by simp [Value.oneCell']⟩
  intro gf own hgf hnf hown
  dsimp only [Flow.putG, if_true]
  simp only [Act.put, List.setIfInBounds_toArray, List.set_cons_succ, List.set_cons_zero, if_true]
  refine Flow.wpF_done (by kernel_rfl) ?_
  intro w2 hC hO
  have k4 : Flow.Blk w2 (gf 6) 30 #[.int .u32 a, .int .u8 b, .int .u8 c] := (hO _ (hown ⟨6, 9, 7, 15, 30, #[.int .u32 0, .int .u8 0, .int .u8 0], #[.int .u32 a, .int .u8 b, .int .u8 c]⟩ (by simp))).2
  have k5 : Flow.Blk w2 (gf 7) 30 #[.int .u32 d, .int .u8 e, .int .u8 f] := (hO _ (hown ⟨7, 10, 8, 17, 30, #[.int .u32 0, .int .u8 0, .int .u8 0], #[.int .u32 d, .int .u8 e, .int .u8 f]⟩ (by simp))).2
  have k6 : Flow.Blk w2 (gf 8) 30 #[.int .u32 p, .int .u8 q, .int .u8 r] := (hO _ (hown ⟨8, 11, 9, 19, 30, #[.int .u32 0, .int .u8 0, .int .u8 0], #[.int .u32 p, .int .u8 q, .int .u8 r]⟩ (by simp))).2
  have b1 := b1.trans (hC.below.mono b1.size)
  clear hC hO hown hnf hgf k1 k2 k3
  generalize gf 6 = g4 at *
  generalize gf 7 = g5 at *
  generalize gf 8 = g6 at *
  rcases T.out with ⟨h1, h2, h3⟩ | ⟨h1, h2, h3⟩ | ⟨h1, h2, h3⟩
  all_goals (
    have H1 := Flow.hide h1
    have H2 := Flow.hide h2
    clear h1 h2 T
    have c4 := k4.cell
    have c5 := k5.cell
    go_wp2_with fail
    refine (less_is _ _ _ _ _ _ _ _ H1).mono ?_
    rintro e2 w3 ⟨rfl, hb⟩
    have k4 := k4.below hb
    have k5 := k5.below hb
    have k6 := k6.below hb
    have b1 := b1.trans (hb.mono b1.size)
    clear c4 c5 hb
    have c4 := k4.cell
    have c5 := k5.cell
    go_wp2_with fail
    refine (less_is _ _ _ _ _ _ _ _ H2).mono ?_
    rintro e3 w4 ⟨rfl, hb⟩
    have k4 := k4.below hb
    have k5 := k5.below hb
    have k6 := k6.below hb
    have b1 := b1.trans (hb.mono b1.size)
    clear c4 c5 hb
    have c4 := k4.cell
    have c5 := k5.cell
    have c6 := k6.cell
    go_wp2_with fail
    refine (great3_is a b c d e f p q r u v t _ _ (Flow.Blk.new _ _ _) HM.out).mono ?_
    rintro e5 w5 ⟨rfl, hb⟩
    have k4 := (k4.alloc _).below hb
    have k5 := (k5.alloc _).below hb
    have k6 := (k6.alloc _).below hb
    have b1 := (b1.alloc b1.size _).trans (hb.mono (by have := b1.size; simp; omega))
    clear c4 c5 c6 hb
    obtain ⟨yz, hyz⟩ : ∃ x, slt d e f p q r = x := ⟨_, rfl⟩
    obtain ⟨xz, hxz⟩ : ∃ x, slt a b c p q r = x := ⟨_, rfl⟩
    have H3 := Flow.hide hyz
    have H4 := Flow.hide hxz
    obtain ⟨mx, hmx⟩ : ∃ x, sEq u v t a b c = x := ⟨_, rfl⟩
    obtain ⟨my, hmy⟩ : ∃ x, sEq u v t d e f = x := ⟨_, rfl⟩
    obtain ⟨mz, hmz⟩ : ∃ x, sEq u v t p q r = x := ⟨_, rfl⟩
    have hyx : Hid (slt a b c d e f = false ∨ yz = false ∨ (yz = true ∧ xz = true)) := by
      rcases hh : slt a b c d e f with _ | _
      · exact .inl rfl
      · rcases yz with _ | _
        · exact .inr (.inl rfl)
        · exact .inr (.inr ⟨rfl, by rw [← hxz]; exact TR.out hh hyz⟩)
    have hm3 : Hid (mx = true ∨ (mx = false ∧ my = true) ∨ (mx = false ∧ my = false ∧ mz = true)) := by
      have := M4.out
      rw [hmx, hmy, hmz] at this
      rcases mx with _ | _ <;> rcases my with _ | _ <;> rcases mz with _ | _ <;> simp_all [Hid]
    clear hyz hxz TR HM
    rcases hyx.out with hz | hz | ⟨hz, hz'⟩
    · first
      | exact absurd (H1.out.symm.trans hz) (by decide)
      | (clear hz hyx
         rcases hm3.out with ha | ⟨ha, ha'⟩ | ⟨ha, ha', ha''⟩
         · rw [ha] at hmx; clear ha
           clear hm3
           have c4 := k4.cell
           have c5 := k5.cell
           have c6 := k6.cell
           have l4 := k4.lt
           have l5 := k5.lt
           have l6 := k6.lt
           go_wp2_with fail
           refine (less_is _ _ _ _ _ _ _ _ H1).mono ?_
           rintro ee w6 ⟨rfl, hb⟩
           have k7 : Flow.Blk w6 w5.heap.size 30 #[.int .u32 u, .int .u8 v, .int .u8 t] := (Flow.Blk.new _ _ _).below hb
           have k4 := (k4.alloc _).below hb
           have k5 := (k5.alloc _).below hb
           have k6 := (k6.alloc _).below hb
           have b1 := (b1.alloc b1.size _).trans (hb.mono (by have := b1.size; simp; omega))
           clear c4 c5 c6 l4 l5 l6 hb
           repeat (
             have c4 := k4.cell
             have c5 := k5.cell
             have c6 := k6.cell
             have c7 := k7.cell
             go_wp2_with fail
             (first | (with_reducible refine (less_is _ _ _ _ _ _ _ _ H1).mono ?_) | (with_reducible refine (less_is _ _ _ _ _ _ _ _ H3).mono ?_) | (with_reducible refine (less_is _ _ _ _ _ _ _ _ H4).mono ?_) | (with_reducible refine (less_is _ _ _ _ _ _ _ _ M1).mono ?_) | (with_reducible refine (less_is _ _ _ _ _ _ _ _ M2).mono ?_) | (with_reducible refine (less_is _ _ _ _ _ _ _ _ M3).mono ?_))
             rintro ee wn ⟨rfl, hb⟩
             have k4 := k4.below hb
             have k5 := k5.below hb
             have k6 := k6.below hb
             have k7 := k7.below hb
             have b1 := b1.trans (hb.mono b1.size)
             clear c4 c5 c6 c7 hb)
           have c4 := k4.cell
           have c5 := k5.cell
           have c6 := k6.cell
           have c7 := k7.cell
           go_wp2_with fail
           go_returns
           refine ⟨?_, b1⟩
           simp
         · rw [ha] at hmx; rw [ha'] at hmy; clear ha ha'
           clear hm3
           have c4 := k4.cell
           have c5 := k5.cell
           have c6 := k6.cell
           have l4 := k4.lt
           have l5 := k5.lt
           have l6 := k6.lt
           go_wp2_with fail
           refine (less_is _ _ _ _ _ _ _ _ H1).mono ?_
           rintro ee w6 ⟨rfl, hb⟩
           have k7 : Flow.Blk w6 w5.heap.size 30 #[.int .u32 u, .int .u8 v, .int .u8 t] := (Flow.Blk.new _ _ _).below hb
           have k4 := (k4.alloc _).below hb
           have k5 := (k5.alloc _).below hb
           have k6 := (k6.alloc _).below hb
           have b1 := (b1.alloc b1.size _).trans (hb.mono (by have := b1.size; simp; omega))
           clear c4 c5 c6 l4 l5 l6 hb
           repeat (
             have c4 := k4.cell
             have c5 := k5.cell
             have c6 := k6.cell
             have c7 := k7.cell
             go_wp2_with fail
             (first | (with_reducible refine (less_is _ _ _ _ _ _ _ _ H1).mono ?_) | (with_reducible refine (less_is _ _ _ _ _ _ _ _ H3).mono ?_) | (with_reducible refine (less_is _ _ _ _ _ _ _ _ H4).mono ?_) | (with_reducible refine (less_is _ _ _ _ _ _ _ _ M1).mono ?_) | (with_reducible refine (less_is _ _ _ _ _ _ _ _ M2).mono ?_) | (with_reducible refine (less_is _ _ _ _ _ _ _ _ M3).mono ?_))
             rintro ee wn ⟨rfl, hb⟩
             have k4 := k4.below hb
             have k5 := k5.below hb
             have k6 := k6.below hb
             have k7 := k7.below hb
             have b1 := b1.trans (hb.mono b1.size)
             clear c4 c5 c6 c7 hb)
           have c4 := k4.cell
           have c5 := k5.cell
           have c6 := k6.cell
           have c7 := k7.cell
           go_wp2_with fail
           go_returns
           refine ⟨?_, b1⟩
           simp
         · rw [ha] at hmx; rw [ha'] at hmy; rw [ha''] at hmz; clear ha ha' ha''
           clear hm3
           have c4 := k4.cell
           have c5 := k5.cell
           have c6 := k6.cell
           have l4 := k4.lt
           have l5 := k5.lt
           have l6 := k6.lt
           go_wp2_with fail
           refine (less_is _ _ _ _ _ _ _ _ H1).mono ?_
           rintro ee w6 ⟨rfl, hb⟩
           have k7 : Flow.Blk w6 w5.heap.size 30 #[.int .u32 u, .int .u8 v, .int .u8 t] := (Flow.Blk.new _ _ _).below hb
           have k4 := (k4.alloc _).below hb
           have k5 := (k5.alloc _).below hb
           have k6 := (k6.alloc _).below hb
           have b1 := (b1.alloc b1.size _).trans (hb.mono (by have := b1.size; simp; omega))
           clear c4 c5 c6 l4 l5 l6 hb
           repeat (
             have c4 := k4.cell
             have c5 := k5.cell
             have c6 := k6.cell
             have c7 := k7.cell
             go_wp2_with fail
             (first | (with_reducible refine (less_is _ _ _ _ _ _ _ _ H1).mono ?_) | (with_reducible refine (less_is _ _ _ _ _ _ _ _ H3).mono ?_) | (with_reducible refine (less_is _ _ _ _ _ _ _ _ H4).mono ?_) | (with_reducible refine (less_is _ _ _ _ _ _ _ _ M1).mono ?_) | (with_reducible refine (less_is _ _ _ _ _ _ _ _ M2).mono ?_) | (with_reducible refine (less_is _ _ _ _ _ _ _ _ M3).mono ?_))
             rintro ee wn ⟨rfl, hb⟩
             have k4 := k4.below hb
             have k5 := k5.below hb
             have k6 := k6.below hb
             have k7 := k7.below hb
             have b1 := b1.trans (hb.mono b1.size)
             clear c4 c5 c6 c7 hb)
           have c4 := k4.cell
           have c5 := k5.cell
           have c6 := k6.cell
           have c7 := k7.cell
           go_wp2_with fail
           go_returns
           refine ⟨?_, b1⟩
           simp)
    · rw [hz] at H3
      clear hz hyx
      rcases hm3.out with ha | ⟨ha, ha'⟩ | ⟨ha, ha', ha''⟩
      · rw [ha] at hmx; clear ha
        clear hm3
        have c4 := k4.cell
        have c5 := k5.cell
        have c6 := k6.cell
        have l4 := k4.lt
        have l5 := k5.lt
        have l6 := k6.lt
        go_wp2_with fail
        refine (less_is _ _ _ _ _ _ _ _ H1).mono ?_
        rintro ee w6 ⟨rfl, hb⟩
        have k7 : Flow.Blk w6 w5.heap.size 30 #[.int .u32 u, .int .u8 v, .int .u8 t] := (Flow.Blk.new _ _ _).below hb
        have k4 := (k4.alloc _).below hb
        have k5 := (k5.alloc _).below hb
        have k6 := (k6.alloc _).below hb
        have b1 := (b1.alloc b1.size _).trans (hb.mono (by have := b1.size; simp; omega))
        clear c4 c5 c6 l4 l5 l6 hb
        repeat (
          have c4 := k4.cell
          have c5 := k5.cell
          have c6 := k6.cell
          have c7 := k7.cell
          go_wp2_with fail
          (first | (with_reducible refine (less_is _ _ _ _ _ _ _ _ H1).mono ?_) | (with_reducible refine (less_is _ _ _ _ _ _ _ _ H3).mono ?_) | (with_reducible refine (less_is _ _ _ _ _ _ _ _ H4).mono ?_) | (with_reducible refine (less_is _ _ _ _ _ _ _ _ M1).mono ?_) | (with_reducible refine (less_is _ _ _ _ _ _ _ _ M2).mono ?_) | (with_reducible refine (less_is _ _ _ _ _ _ _ _ M3).mono ?_))
          rintro ee wn ⟨rfl, hb⟩
          have k4 := k4.below hb
          have k5 := k5.below hb
          have k6 := k6.below hb
          have k7 := k7.below hb
          have b1 := b1.trans (hb.mono b1.size)
          clear c4 c5 c6 c7 hb)
        have c4 := k4.cell
        have c5 := k5.cell
        have c6 := k6.cell
        have c7 := k7.cell
        go_wp2_with fail
        go_returns
        refine ⟨?_, b1⟩
        simp
      · rw [ha] at hmx; rw [ha'] at hmy; clear ha ha'
        clear hm3
        have c4 := k4.cell
        have c5 := k5.cell
        have c6 := k6.cell
        have l4 := k4.lt
        have l5 := k5.lt
        have l6 := k6.lt
        go_wp2_with fail
        refine (less_is _ _ _ _ _ _ _ _ H1).mono ?_
        rintro ee w6 ⟨rfl, hb⟩
        have k7 : Flow.Blk w6 w5.heap.size 30 #[.int .u32 u, .int .u8 v, .int .u8 t] := (Flow.Blk.new _ _ _).below hb
        have k4 := (k4.alloc _).below hb
        have k5 := (k5.alloc _).below hb
        have k6 := (k6.alloc _).below hb
        have b1 := (b1.alloc b1.size _).trans (hb.mono (by have := b1.size; simp; omega))
        clear c4 c5 c6 l4 l5 l6 hb
        repeat (
          have c4 := k4.cell
          have c5 := k5.cell
          have c6 := k6.cell
          have c7 := k7.cell
          go_wp2_with fail
          (first | (with_reducible refine (less_is _ _ _ _ _ _ _ _ H1).mono ?_) | (with_reducible refine (less_is _ _ _ _ _ _ _ _ H3).mono ?_) | (with_reducible refine (less_is _ _ _ _ _ _ _ _ H4).mono ?_) | (with_reducible refine (less_is _ _ _ _ _ _ _ _ M1).mono ?_) | (with_reducible refine (less_is _ _ _ _ _ _ _ _ M2).mono ?_) | (with_reducible refine (less_is _ _ _ _ _ _ _ _ M3).mono ?_))
          rintro ee wn ⟨rfl, hb⟩
          have k4 := k4.below hb
          have k5 := k5.below hb
          have k6 := k6.below hb
          have k7 := k7.below hb
          have b1 := b1.trans (hb.mono b1.size)
          clear c4 c5 c6 c7 hb)
        have c4 := k4.cell
        have c5 := k5.cell
        have c6 := k6.cell
        have c7 := k7.cell
        go_wp2_with fail
        go_returns
        refine ⟨?_, b1⟩
        simp
      · rw [ha] at hmx; rw [ha'] at hmy; rw [ha''] at hmz; clear ha ha' ha''
        clear hm3
        have c4 := k4.cell
        have c5 := k5.cell
        have c6 := k6.cell
        have l4 := k4.lt
        have l5 := k5.lt
        have l6 := k6.lt
        go_wp2_with fail
        refine (less_is _ _ _ _ _ _ _ _ H1).mono ?_
        rintro ee w6 ⟨rfl, hb⟩
        have k7 : Flow.Blk w6 w5.heap.size 30 #[.int .u32 u, .int .u8 v, .int .u8 t] := (Flow.Blk.new _ _ _).below hb
        have k4 := (k4.alloc _).below hb
        have k5 := (k5.alloc _).below hb
        have k6 := (k6.alloc _).below hb
        have b1 := (b1.alloc b1.size _).trans (hb.mono (by have := b1.size; simp; omega))
        clear c4 c5 c6 l4 l5 l6 hb
        repeat (
          have c4 := k4.cell
          have c5 := k5.cell
          have c6 := k6.cell
          have c7 := k7.cell
          go_wp2_with fail
          (first | (with_reducible refine (less_is _ _ _ _ _ _ _ _ H1).mono ?_) | (with_reducible refine (less_is _ _ _ _ _ _ _ _ H3).mono ?_) | (with_reducible refine (less_is _ _ _ _ _ _ _ _ H4).mono ?_) | (with_reducible refine (less_is _ _ _ _ _ _ _ _ M1).mono ?_) | (with_reducible refine (less_is _ _ _ _ _ _ _ _ M2).mono ?_) | (with_reducible refine (less_is _ _ _ _ _ _ _ _ M3).mono ?_))
          rintro ee wn ⟨rfl, hb⟩
          have k4 := k4.below hb
          have k5 := k5.below hb
          have k6 := k6.below hb
          have k7 := k7.below hb
          have b1 := b1.trans (hb.mono b1.size)
          clear c4 c5 c6 c7 hb)
        have c4 := k4.cell
        have c5 := k5.cell
        have c6 := k6.cell
        have c7 := k7.cell
        go_wp2_with fail
        go_returns
        refine ⟨?_, b1⟩
        simp
    · rw [hz] at H3; rw [hz'] at H4
      clear hz hyx
      rcases hm3.out with ha | ⟨ha, ha'⟩ | ⟨ha, ha', ha''⟩
      · rw [ha] at hmx; clear ha
        clear hm3
        have c4 := k4.cell
        have c5 := k5.cell
        have c6 := k6.cell
        have l4 := k4.lt
        have l5 := k5.lt
        have l6 := k6.lt
        go_wp2_with fail
        refine (less_is _ _ _ _ _ _ _ _ H1).mono ?_
        rintro ee w6 ⟨rfl, hb⟩
        have k7 : Flow.Blk w6 w5.heap.size 30 #[.int .u32 u, .int .u8 v, .int .u8 t] := (Flow.Blk.new _ _ _).below hb
        have k4 := (k4.alloc _).below hb
        have k5 := (k5.alloc _).below hb
        have k6 := (k6.alloc _).below hb
        have b1 := (b1.alloc b1.size _).trans (hb.mono (by have := b1.size; simp; omega))
        clear c4 c5 c6 l4 l5 l6 hb
        repeat (
          have c4 := k4.cell
          have c5 := k5.cell
          have c6 := k6.cell
          have c7 := k7.cell
          go_wp2_with fail
          (first | (with_reducible refine (less_is _ _ _ _ _ _ _ _ H1).mono ?_) | (with_reducible refine (less_is _ _ _ _ _ _ _ _ H3).mono ?_) | (with_reducible refine (less_is _ _ _ _ _ _ _ _ H4).mono ?_) | (with_reducible refine (less_is _ _ _ _ _ _ _ _ M1).mono ?_) | (with_reducible refine (less_is _ _ _ _ _ _ _ _ M2).mono ?_) | (with_reducible refine (less_is _ _ _ _ _ _ _ _ M3).mono ?_))
          rintro ee wn ⟨rfl, hb⟩
          have k4 := k4.below hb
          have k5 := k5.below hb
          have k6 := k6.below hb
          have k7 := k7.below hb
          have b1 := b1.trans (hb.mono b1.size)
          clear c4 c5 c6 c7 hb)
        have c4 := k4.cell
        have c5 := k5.cell
        have c6 := k6.cell
        have c7 := k7.cell
        go_wp2_with fail
        go_returns
        refine ⟨?_, b1⟩
        simp
      · rw [ha] at hmx; rw [ha'] at hmy; clear ha ha'
        clear hm3
        have c4 := k4.cell
        have c5 := k5.cell
        have c6 := k6.cell
        have l4 := k4.lt
        have l5 := k5.lt
        have l6 := k6.lt
        go_wp2_with fail
        refine (less_is _ _ _ _ _ _ _ _ H1).mono ?_
        rintro ee w6 ⟨rfl, hb⟩
        have k7 : Flow.Blk w6 w5.heap.size 30 #[.int .u32 u, .int .u8 v, .int .u8 t] := (Flow.Blk.new _ _ _).below hb
        have k4 := (k4.alloc _).below hb
        have k5 := (k5.alloc _).below hb
        have k6 := (k6.alloc _).below hb
        have b1 := (b1.alloc b1.size _).trans (hb.mono (by have := b1.size; simp; omega))
        clear c4 c5 c6 l4 l5 l6 hb
        repeat (
          have c4 := k4.cell
          have c5 := k5.cell
          have c6 := k6.cell
          have c7 := k7.cell
          go_wp2_with fail
          (first | (with_reducible refine (less_is _ _ _ _ _ _ _ _ H1).mono ?_) | (with_reducible refine (less_is _ _ _ _ _ _ _ _ H3).mono ?_) | (with_reducible refine (less_is _ _ _ _ _ _ _ _ H4).mono ?_) | (with_reducible refine (less_is _ _ _ _ _ _ _ _ M1).mono ?_) | (with_reducible refine (less_is _ _ _ _ _ _ _ _ M2).mono ?_) | (with_reducible refine (less_is _ _ _ _ _ _ _ _ M3).mono ?_))
          rintro ee wn ⟨rfl, hb⟩
          have k4 := k4.below hb
          have k5 := k5.below hb
          have k6 := k6.below hb
          have k7 := k7.below hb
          have b1 := b1.trans (hb.mono b1.size)
          clear c4 c5 c6 c7 hb)
        have c4 := k4.cell
        have c5 := k5.cell
        have c6 := k6.cell
        have c7 := k7.cell
        go_wp2_with fail
        go_returns
        refine ⟨?_, b1⟩
        simp
      · rw [ha] at hmx; rw [ha'] at hmy; rw [ha''] at hmz; clear ha ha' ha''
        clear hm3
        have c4 := k4.cell
        have c5 := k5.cell
        have c6 := k6.cell
        have l4 := k4.lt
        have l5 := k5.lt
        have l6 := k6.lt
        go_wp2_with fail
        refine (less_is _ _ _ _ _ _ _ _ H1).mono ?_
        rintro ee w6 ⟨rfl, hb⟩
        have k7 : Flow.Blk w6 w5.heap.size 30 #[.int .u32 u, .int .u8 v, .int .u8 t] := (Flow.Blk.new _ _ _).below hb
        have k4 := (k4.alloc _).below hb
        have k5 := (k5.alloc _).below hb
        have k6 := (k6.alloc _).below hb
        have b1 := (b1.alloc b1.size _).trans (hb.mono (by have := b1.size; simp; omega))
        clear c4 c5 c6 l4 l5 l6 hb
        repeat (
          have c4 := k4.cell
          have c5 := k5.cell
          have c6 := k6.cell
          have c7 := k7.cell
          go_wp2_with fail
          (first | (with_reducible refine (less_is _ _ _ _ _ _ _ _ H1).mono ?_) | (with_reducible refine (less_is _ _ _ _ _ _ _ _ H3).mono ?_) | (with_reducible refine (less_is _ _ _ _ _ _ _ _ H4).mono ?_) | (with_reducible refine (less_is _ _ _ _ _ _ _ _ M1).mono ?_) | (with_reducible refine (less_is _ _ _ _ _ _ _ _ M2).mono ?_) | (with_reducible refine (less_is _ _ _ _ _ _ _ _ M3).mono ?_))
          rintro ee wn ⟨rfl, hb⟩
          have k4 := k4.below hb
          have k5 := k5.below hb
          have k6 := k6.below hb
          have k7 := k7.below hb
          have b1 := b1.trans (hb.mono b1.size)
          clear c4 c5 c6 c7 hb)
        have c4 := k4.cell
        have c5 := k5.cell
        have c6 := k6.cell
        have c7 := k7.cell
        go_wp2_with fail
        go_returns
        refine ⟨?_, b1⟩
        simp)

theorem own : ownKnob Try.prog.godebug = none := by kernel_rfl
theorem laidOut : laidOutB Try.prog = true := by kernel_rfl

set_option maxRecDepth 100000 in
theorem lifted (os : Os) (started : os.Started) (H : Type) (enc : TypeId × Value → H) :
    ReturnsInHanded {} Try.checked os 4 .any (Rows.markLineSpec.pre6 enc Try.prog Try.f4 Rows.markLineRow.domain false) (Rows.markLineSpec.post enc Try.prog Try.f4 false true false false) := by
  refine returnsInHanded_of_change (C := Try.checked) own started (by kernel_rfl) Try.func4
    (ChangeSpec.witness6 (enc := enc) (C := Try.checked) false ⟨#[], #[.agg #[.int .u32 0, .int .u8 0, .int .u8 0], .agg #[.int .u32 0, .int .u8 0, .int .u8 0], .agg #[.int .u32 0, .int .u8 0, .int .u8 0]], []⟩ 8 (by kernel_rfl) (by kernel_rfl) (by kernel_rfl) (by kernel_rfl)) ?_
  intro W base args ds gs before hval0 hW hcnd _
  have hval : ∀ (j : Nat) t v, Try.f4.params[j]? = some t → args[j]? = some v → Value.okWide Try.prog W .any base t v := hval0
  have hW' := hW
  obtain ⟨p, q, hA0, hV, rfl, hfz, hnd⟩ := hW
  have hA : DataW.TrodAll enc Try.prog W 0 (fun _ => true) true Try.f4.params.toList args.toList ds p := hA0
  rw [Try.params4] at hA hval
  obtain ⟨v0, v1, v2, d0, d1, d2, p0, p1, p2, hargs, rfl, rfl, h0, h1, h2⟩ := trodAll_three hA
  obtain ⟨rfl, rfl⟩ := trodVars_none hV
  subst hargs
  obtain ⟨cs0, rfl, hl0, r0⟩ := Open.open_agg 30 (ss := [.int .u32, .int .u8, .int .u8]) (.inl ⟨_, Try.underlying24⟩) (by kernel_rfl) (by kernel_rfl) (hval 0 24 v0 rfl rfl) h0
  obtain ⟨a, e00, w00⟩ := r0.int 0 rfl
  obtain ⟨b, e01, w01⟩ := r0.int 1 rfl
  obtain ⟨c, e02, w02⟩ := r0.int 2 rfl
  have c0 : cs0 = [.int .u32 a, .int .u8 b, .int .u8 c] := Open.list3 hl0 e00 e01 e02
  subst c0
  obtain ⟨cs1, rfl, hl1, r1⟩ := Open.open_agg 30 (ss := [.int .u32, .int .u8, .int .u8]) (.inl ⟨_, Try.underlying24⟩) (by kernel_rfl) (by kernel_rfl) (hval 1 24 v1 rfl rfl) h1
  obtain ⟨d, e10, w10⟩ := r1.int 0 rfl
  obtain ⟨e, e11, w11⟩ := r1.int 1 rfl
  obtain ⟨f, e12, w12⟩ := r1.int 2 rfl
  have c1 : cs1 = [.int .u32 d, .int .u8 e, .int .u8 f] := Open.list3 hl1 e10 e11 e12
  subst c1
  obtain ⟨cs2, rfl, hl2, r2⟩ := Open.open_agg 30 (ss := [.int .u32, .int .u8, .int .u8]) (.inl ⟨_, Try.underlying24⟩) (by kernel_rfl) (by kernel_rfl) (hval 2 24 v2 rfl rfl) h2
  obtain ⟨p', e20, w20⟩ := r2.int 0 rfl
  obtain ⟨q', e21, w21⟩ := r2.int 1 rfl
  obtain ⟨r', e22, w22⟩ := r2.int 2 rfl
  have c2 : cs2 = [.int .u32 p', .int .u8 q', .int .u8 r'] := Open.list3 hl2 e20 e21 e22
  subst c2
  clear hA0 hval0
  refine (walk a b c d e f p' q' r' W (bounds_u32 w00).1 (bounds_u8 w01).1 (bounds_u8 w02).1).mono fun e W' ⟨he, hb⟩ => ?_
  subst he
  exact ⟨_, rfl, Open.law_post laidOut (by kernel_rfl) (by kernel_rfl) Try.underlying4 rfl rfl hW' hb⟩

theorem over : Rows.markLineRow.holds Try.pinned (OpenSpec.ofChange Rows.markLineSpec) :=
  OpenClaim.holds_of_wide 4 Try.f4 rfl rfl rfl rfl rfl rfl rfl ⟨rfl, rfl, rfl, rfl, rfl⟩ rfl rfl rfl rfl rfl (by kernel_rfl) Try.func4 (by kernel_rfl)
    (of_decide_eq_true (by kernel_rfl)) (by unfold Func.isWrapper; first | (rw [if_pos (by decide +kernel)]; kernel_rfl) | (rw [if_neg (by decide +kernel)]; exact ⟨rfl, rfl⟩))
    (fun os started H enc _ => lifted os started H enc)

theorem proved : Rows.MarkLineSaid := over
#print axioms proved
end Go.Proofs.Ythkphapmnlndbab.LawLine
