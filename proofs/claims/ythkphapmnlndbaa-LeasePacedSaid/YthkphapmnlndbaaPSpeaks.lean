/- talarialaw08.speaks. -/
import Derived.Test.YthkphapmnlndbaaPace6
namespace Go.Proofs.Ythkphapmnlndbaa
open Go.RowKit
set_option maxHeartbeats 1600000
set_option linter.unusedSimpArgs false
attribute [local irreducible] Flow.wpSeg Flow.wpF Flow.wpG Flow.wpS Flow.wpT Flow.wpK
theorem IsPace.mono {w : World} {B g N N' : Nat} {st : PSt} (h : IsPace w B g N st) (hN : N ≤ N') : IsPace w B g N' st := by
  obtain ⟨v, l, h1, h2, h3, h4, h5, h6⟩ := h
  exact ⟨v, l, h1, h2, h3, h4, h5, h6.m, h6.n, h6.hold, h6.wait, by have := h6.len; omega, fun p hp => by
    obtain ⟨a, b, c⟩ := h6.sp p hp
    exact ⟨a, by omega, fun d hd => by have := c d hd; omega⟩⟩
theorem pfair_is (g B N : Nat) (st : PSt) (b : Bool) (w : World) (h : IsPace w B g N st) (hb : st.fair = b) : Calls Try.prog 50 #[.pointer (some ⟨g, 0, none⟩)] w fun e w' => e = .returned (.bool b) ∧ w = w' := by
  subst hb; exact pfair_any g B N st w h
theorem pnew_is (mi : Int) (m : Nat) (n hold wait : Int) (w : World) (hm : mi = (m : Int)) (h1 : 1 ≤ m ∧ m ≤ 5) (h2 : 1 ≤ n ∧ n ≤ 8) (h3 : 1 ≤ hold ∧ hold ≤ 1000) (h4 : 1 ≤ wait ∧ wait ≤ 1000) :
    Calls Try.prog 46 #[.int .i64 mi, .int .i64 n, .int .i64 hold, .int .i64 wait] w fun e w' => e = .returned (.tuple #[.pointer (some ⟨w.heap.size, 0, none⟩), .int .i64 0]) ∧ IsPace w' w.heap.size w.heap.size 0 ⟨m, n, hold, wait, [], false⟩ ∧ Below w.heap.size w w' := by
  subst hm; exact pnew_yes m n hold wait w h1 h2 h3 h4
theorem speaks08 (w : World) : Calls Try.prog 51 #[] w fun e w' => e = .returned (.bool true) ∧ Below w.heap.size w w' := by
  go_enter Try.func51, Try.ntmps51
  go_wp2_with fail
  (with_reducible refine (pnew_is 1 1 1 2 3 _ rfl (by decide) (by decide) (by decide) (by decide)).mono ?_)
  rintro e w1 ⟨rfl, h1, hb1⟩
  have H1 := Flow.hide h1
  have B1 := Flow.hide hb1
  clear h1 hb1
  go_wp2_with fail
  (with_reducible refine (pask_yes _ _ _ _ 1 _ H1.out (by decide) B1.out.size (by decide)).mono ?_)
  rintro e w2 ⟨rfl, h2, hb2, _⟩
  have H2 := Flow.hide h2
  have B2 := Flow.hide (B1.out.trans hb2)
  clear h2 hb2 H1 B1
  go_wp2_with fail
  (with_reducible refine (pmaster_yes _ _ _ _ 1 0 _ rfl H2.out (by decide) B2.out.size (by decide)).mono ?_)
  rintro e w3 ⟨rfl, h3, hb3, _⟩
  have H3 := Flow.hide h3
  have B3 := Flow.hide (B2.out.trans hb3)
  clear h3 hb3 H2 B2
  go_wp2_with fail
  (with_reducible refine (pmaster_yes _ _ _ _ 1 0 _ rfl H3.out (by decide) B3.out.size (by decide)).mono ?_)
  rintro e w4 ⟨rfl, h4, hb4, _⟩
  have H4 := Flow.hide h4
  have B4 := Flow.hide (B3.out.trans hb4)
  clear h4 hb4 H3 B3
  go_wp2_with fail
  (with_reducible refine (pfair_is _ _ _ _ true _ H4.out (by decide)).mono ?_)
  rintro e w5 ⟨rfl, rfl⟩
  go_wp2_with fail
  (with_reducible refine (pmaster_yes _ _ _ _ 1 0 _ rfl H4.out (by decide) B4.out.size (by decide)).mono ?_)
  rintro e w5 ⟨rfl, h5, hb5, _⟩
  have H5 := Flow.hide h5
  have B5 := Flow.hide (B4.out.trans hb5)
  clear h5 hb5 H4 B4
  go_wp2_with fail
  (with_reducible refine (pfair_is _ _ _ _ false _ H5.out (by decide)).mono ?_)
  rintro e w6 ⟨rfl, rfl⟩
  go_wp2_with fail
  go_ret
  exact ⟨rfl, B5.out⟩
/-! ### What PaceHolds says, in plain words -/
structure HInv (h w : Int) (st : PSt) (asked : Bool) (node master : Int) : Prop where
  m : st.m = 2
  n : st.n = 2
  hold : st.hold = h
  wait : st.wait = w
  fair : st.bh = false → asked = true → master < w ∧ (node < h → ∃ p ∈ st.sp, p.node = 2 ∧ p.ticks = node ∧ p.ms.getD 0 0 = master ∧ p.ms.length = 2)
  lt : asked = true → node < h
/-- .. and behind an act, ahead of the check. -/
structure HMid (h w : Int) (st : PSt) (asked : Bool) (node master : Int) : Prop where
  m : st.m = 2
  n : st.n = 2
  hold : st.hold = h
  wait : st.wait = w
  fair : st.bh = false → asked = true → master < w ∧ (node < h → ∃ p ∈ st.sp, p.node = 2 ∧ p.ticks = node ∧ p.ms.getD 0 0 = master ∧ p.ms.length = 2)
theorem HInv.master {h w : Int} {st : PSt} {asked : Bool} {node mst : Int} (H : HInv h w st asked node mst) : HMid h w (st.master 0) asked node (mst + 1) := by
  refine ⟨H.m, H.n, H.hold, H.wait, fun hb ha => ?_⟩
  simp only [PSt.master, Bool.or_eq_false_iff] at hb
  obtain ⟨h1, h2⟩ := H.fair hb.1 ha
  obtain ⟨p, hp, e1, e2, e3, e4⟩ := h2 (H.lt ha)
  have hbad := List.any_eq_false.1 hb.2 p hp
  simp only [bad, e3, decide_eq_true_eq, H.wait] at hbad
  refine ⟨by omega, fun _ => ⟨bump 0 p, List.mem_map.2 ⟨p, hp, rfl⟩, e1, e2, ?_, by simp only [bump, List.length_set]; exact e4⟩⟩
  simp only [bump, List.getD_eq_getElem?_getD]
  rw [List.getElem?_set_self (by omega)]
  simp only [Option.getD_some]
  rw [← List.getD_eq_getElem?_getD, e3]
theorem HInv.node {h w : Int} {st : PSt} {asked : Bool} {node mst : Int} (H : HInv h w st asked node mst) : HMid h w (st.node 2) asked (node + 1) mst := by
  refine ⟨H.m, H.n, H.hold, H.wait, fun hb ha => ?_⟩
  obtain ⟨h1, h2⟩ := H.fair hb ha
  obtain ⟨p, hp, e1, e2, e3, e4⟩ := h2 (H.lt ha)
  refine ⟨h1, fun hlt => ⟨upN 2 p, ?_, ?_, ?_, ?_, ?_⟩⟩
  · simp only [PSt.node]
    refine List.mem_filter.2 ⟨List.mem_map.2 ⟨p, hp, rfl⟩, ?_⟩
    simp only [dlN, upN, e1, if_true, e2, H.hold, Bool.not_eq_true', decide_eq_false_iff_not]
    omega
  · simp only [upN, e1, if_true]
  · simp only [upN, e1, if_true, e2]
  · simp only [upN, e1, if_true, e3]
  · simp only [upN, e1, if_true, e4]
theorem HInv.ask {h w : Int} {st : PSt} {asked : Bool} {node mst : Int} (H : HInv h w st asked node mst) (ha : asked = true) : HMid h w (st.ask 2) true node mst := by
  refine ⟨H.m, H.n, H.hold, H.wait, fun hb _ => ?_⟩
  obtain ⟨h1, h2⟩ := H.fair hb ha
  refine ⟨h1, fun hlt => ?_⟩
  obtain ⟨p, hp, e⟩ := h2 hlt
  exact ⟨p, List.mem_append.2 (.inl hp), e⟩
theorem HInv.ask0 {h w : Int} {st : PSt} {asked : Bool} {node mst : Int} (H : HInv h w st asked node mst) (hw : 1 ≤ w) : HMid h w (st.ask 2) true 0 0 := by
  refine ⟨H.m, H.n, H.hold, H.wait, fun hb _ => ⟨by omega, fun _ => ⟨⟨2, 0, List.replicate st.m 0⟩, List.mem_append.2 (.inr (by simp)), rfl, rfl, ?_, ?_⟩⟩⟩
  · rw [H.m]; rfl
  · rw [H.m]; rfl
theorem HInv.stop {h w : Int} {st : PSt} {asked : Bool} {node mst : Int} (H : HInv h w st asked node mst) : HMid h w (st.stop 2) false node mst :=
  ⟨H.m, H.n, H.hold, H.wait, fun _ h => (by cases h)⟩
theorem HInv.mid {h w : Int} {st : PSt} {asked : Bool} {node mst : Int} (H : HInv h w st asked node mst) : HMid h w st asked node mst := ⟨H.m, H.n, H.hold, H.wait, H.fair⟩
theorem HMid.lt {h w : Int} {st : PSt} {asked : Bool} {node mst : Int} (H : HMid h w st asked node mst) (hl : node < h) : HInv h w st asked node mst := ⟨H.m, H.n, H.hold, H.wait, H.fair, fun _ => hl⟩
theorem HMid.off {h w : Int} {st : PSt} {asked : Bool} {node mst : Int} (H : HMid h w st asked node mst) : HInv h w st false node mst := ⟨H.m, H.n, H.hold, H.wait, fun _ h => (by cases h), fun h => (by cases h)⟩
theorem HInv.start (h w : Int) : HInv h w ⟨2, 2, h, w, [], false⟩ false 0 0 := ⟨rfl, rfl, rfl, rfl, fun _ h => (by cases h), fun h => (by cases h)⟩
/-! ### What PaceEven says -/
structure EInv (h w : Int) (st : PSt) (k : Nat → Int → Int) : Prop where
  m : st.m = 3
  n : st.n = 4
  hold : st.hold = h
  wait : st.wait = w
  fair : st.bh = false
  sp : ∀ p ∈ st.sp, p.ms.length = 3 ∧ p.ticks < h ∧ 1 ≤ p.node ∧ p.node ≤ 4 ∧ ∀ j, j < 3 → p.ms.getD j 0 = p.ticks + k j p.node
def kM (j : Nat) : Nat → Int → Int := fun q _ => if q < j then 1 else 0
def kN (n : Int) : Nat → Int → Int := fun _ nd => if nd ≤ n then 0 else 1
theorem EInv.ext {h w : Int} {st : PSt} {k k' : Nat → Int → Int} (H : EInv h w st k) (e : ∀ j n, j < 3 → 1 ≤ n → n ≤ 4 → k j n = k' j n) : EInv h w st k' :=
  ⟨H.m, H.n, H.hold, H.wait, H.fair, fun p hp => by
    obtain ⟨h1, h2, h3, h4, h5⟩ := H.sp p hp
    exact ⟨h1, h2, h3, h4, fun j hj => by rw [h5 j hj, e j p.node hj h3 h4]⟩⟩
theorem EInv.master {h w : Int} {st : PSt} {j : Nat} (H : EInv h w st (kM j)) (hj : j < 3) (hw : h < w) : EInv h w (st.master j) (kM (j + 1)) := by
  refine ⟨H.m, H.n, H.hold, H.wait, ?_, fun p hp => ?_⟩
  · simp only [PSt.master, H.fair, Bool.false_or, List.any_eq_false]
    intro p hp
    obtain ⟨h1, h2, h3, h4, h5⟩ := H.sp p hp
    have := h5 j hj
    simp only [kM, Nat.lt_irrefl, if_false] at this
    simp only [bad, decide_eq_true_eq, H.wait, this]
    omega
  · obtain ⟨q, hq, rfl⟩ := List.mem_map.1 hp
    obtain ⟨h1, h2, h3, h4, h5⟩ := H.sp q hq
    refine ⟨by simp only [bump, List.length_set]; exact h1, h2, h3, h4, fun i hi => ?_⟩
    have e5 := h5 i hi
    have ej := h5 j hj
    simp only [kM, Nat.lt_irrefl, if_false] at ej
    simp only [bump]
    by_cases hij : i = j
    · subst hij
      rw [List.getD_eq_getElem?_getD, List.getElem?_set_self (by omega), Option.getD_some, ej]
      simp only [kM, Nat.lt_succ_self, if_true]
      omega
    · rw [List.getD_eq_getElem?_getD, List.getElem?_set_ne (Ne.symm hij), ← List.getD_eq_getElem?_getD, e5]
      simp only [kM]
      congr 1
      by_cases h : i < j
      · rw [if_pos h, if_pos (by omega)]
      · rw [if_neg h, if_neg (by omega)]
theorem EInv.node {h w : Int} {st : PSt} {n : Int} (H : EInv h w st (kN (n - 1))) : EInv h w (st.node n) (kN n) := by
  refine ⟨H.m, H.n, H.hold, H.wait, H.fair, fun p hp => ?_⟩
  obtain ⟨hq1, hq2⟩ := List.mem_filter.1 hp
  obtain ⟨q, hq, rfl⟩ := List.mem_map.1 hq1
  obtain ⟨h1, h2, h3, h4, h5⟩ := H.sp q hq
  simp only [dlN, H.hold, Bool.not_eq_true', decide_eq_false_iff_not] at hq2
  by_cases hn : q.node = n
  · simp only [upN, if_pos hn] at hq2 ⊢
    refine ⟨h1, by omega, h3, h4, fun j hj => ?_⟩
    have := h5 j hj
    simp only [kN] at this ⊢
    rw [if_neg (by omega)] at this
    rw [if_pos (by omega), this]
    omega
  · simp only [upN, if_neg hn] at hq2 ⊢
    refine ⟨h1, h2, h3, h4, fun j hj => ?_⟩
    have := h5 j hj
    simp only [kN] at this ⊢
    rw [this]
    congr 1
    by_cases h : q.node ≤ n - 1
    · rw [if_pos h, if_pos (by omega)]
    · rw [if_neg h, if_neg (by omega)]
theorem EInv.ask {h w : Int} {st : PSt} {n : Int} (H : EInv h w st (kN n)) (hn : 1 ≤ n ∧ n ≤ 4) (hh : 1 ≤ h) : EInv h w (st.ask n) (kN n) := by
  refine ⟨H.m, H.n, H.hold, H.wait, H.fair, fun p hp => ?_⟩
  rcases List.mem_append.1 hp with hp | hp
  · exact H.sp p hp
  · simp only [List.mem_cons, List.not_mem_nil, or_false] at hp
    subst hp
    rw [H.m]
    refine ⟨rfl, by simp only []; omega, hn.1, hn.2, fun j hj => ?_⟩
    simp only [kN, Int.le_refl, if_true]
    match j, hj with
    | 0, _ => rfl
    | 1, _ => rfl
    | 2, _ => rfl
theorem EInv.stop {h w : Int} {st : PSt} {k : Nat → Int → Int} (H : EInv h w st k) (n : Int) : EInv h w (st.stop n) k :=
  ⟨H.m, H.n, H.hold, H.wait, H.fair, fun p hp => H.sp p (List.mem_filter.1 hp).1⟩
end Go.Proofs.Ythkphapmnlndbaa
