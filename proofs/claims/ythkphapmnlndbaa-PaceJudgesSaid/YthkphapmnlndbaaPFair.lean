/- talariaref08.Fair, and what it has to do with a pace. -/
import Derived.Test.YthkphapmnlndbaaPSpeaks
import Derived.Deep.DeepCutAuto
import Derived.Deep.CutBlock
namespace Go.Proofs.Ythkphapmnlndbaa
open Go.RowKit
set_option maxHeartbeats 4000000
set_option linter.unusedSimpArgs false
attribute [local irreducible] Flow.wpSeg Flow.wpF Flow.wpG Flow.wpS Flow.wpT Flow.wpK
/-! ### Plain -/
def scan (m : Nat) (hold wait nd : Int) : Int → List Int → List (Int × Int) → Bool
  | _, _, [] => true
  | t, ms, (a, i) :: r => if ¬ t < hold then true else if a = 4 ∧ i = nd then true else
      if a = 1 ∧ 1 ≤ i ∧ i ≤ (m : Int) then (if wait ≤ ms.getD (i - 1).toNat 0 + 1 then false else scan m hold wait nd t (ms.set (i - 1).toNat (ms.getD (i - 1).toNat 0 + 1)) r)
      else scan m hold wait nd (if a = 2 ∧ i = nd then t + 1 else t) ms r
def refBad (m : Nat) (n hold wait : Int) : List (Int × Int) → Bool
  | [] => false
  | (a, i) :: r => (decide (a = 3 ∧ 1 ≤ i ∧ i ≤ n) && !scan m hold wait i 0 (List.replicate m 0) r) || refBad m n hold wait r
def stepA (st : PSt) (x : Int × Int) : PSt :=
  if x.1 = 1 then (if 1 ≤ x.2 ∧ x.2 ≤ (st.m : Int) then st.master (x.2 - 1).toNat else st) else if x.1 = 2 then st.node x.2 else if x.1 = 3 then (if 1 ≤ x.2 ∧ x.2 ≤ st.n then st.ask x.2 else st) else st.stop x.2
theorem scan_late {m : Nat} {hold wait nd t : Int} {ms : List Int} {l : List (Int × Int)} (h : ¬ t < hold) : scan m hold wait nd t ms l = true := by
  rcases l with _ | ⟨⟨a, i⟩, r⟩
  · rfl
  · rw [scan, if_pos h]
theorem stepA_head (st : PSt) (x : Int × Int) : (stepA st x).m = st.m ∧ (stepA st x).n = st.n ∧ (stepA st x).hold = st.hold ∧ (stepA st x).wait = st.wait := by
  unfold stepA
  split
  · split <;> exact ⟨rfl, rfl, rfl, rfl⟩
  · split
    · exact ⟨rfl, rfl, rfl, rfl⟩
    · split
      · split <;> exact ⟨rfl, rfl, rfl, rfl⟩
      · exact ⟨rfl, rfl, rfl, rfl⟩
theorem any_or {α : Type} (l : List α) (f g : α → Bool) : l.any (fun x => f x || g x) = (l.any f || l.any g) := by
  induction l with
  | nil => rfl
  | cons a l ih => simp only [List.any_cons, ih]; rcases f a <;> rcases g a <;> rcases l.any f <;> rfl
theorem any_congr {α : Type} {l : List α} {f g : α → Bool} (h : ∀ x ∈ l, f x = g x) : l.any f = l.any g := by
  induction l with
  | nil => rfl
  | cons a l ih => simp only [List.any_cons]; rw [h a (by simp), ih (fun x hx => h x (by simp [hx]))]
theorem stepA_bh (st : PSt) (x : Int × Int) (r : List (Int × Int)) (hx : x.1 = 1 ∨ x.1 = 2 ∨ x.1 = 3 ∨ x.1 = 4) (hh : 1 ≤ st.hold) (ht : ∀ p ∈ st.sp, p.ticks < st.hold) :
    ((stepA st x).bh || (stepA st x).sp.any (fun p => !scan st.m st.hold st.wait p.node p.ticks p.ms r) || refBad st.m st.n st.hold st.wait r) = (st.bh || st.sp.any (fun p => !scan st.m st.hold st.wait p.node p.ticks p.ms (x :: r)) || refBad st.m st.n st.hold st.wait (x :: r)) := by
  obtain ⟨a, i⟩ := x
  simp only at hx
  rcases hx with rfl | rfl | rfl | rfl
  · by_cases hi : 1 ≤ i ∧ i ≤ (st.m : Int)
    · have e1 : st.sp.any (fun p => !scan st.m st.hold st.wait p.node p.ticks p.ms ((1, i) :: r)) = st.sp.any (fun p => bad st.wait (i - 1).toNat p || !scan st.m st.hold st.wait (bump (i - 1).toNat p).node (bump (i - 1).toNat p).ticks (bump (i - 1).toNat p).ms r) := any_congr (fun p hp => by
        rw [scan, if_neg (by have := ht p hp; omega), if_neg (by omega), if_pos ⟨rfl, hi⟩]
        simp only [bad, bump]
        by_cases hb : st.wait ≤ p.ms.getD (i - 1).toNat 0 + 1
        · rw [if_pos hb, decide_eq_true hb]; rfl
        · rw [if_neg hb, decide_eq_false hb]; rfl)
      rw [e1, any_or]
      simp only [stepA, if_true, if_pos hi, PSt.master, List.any_map, refBad]
      have e2 : decide ((1 : Int) = 3 ∧ 1 ≤ i ∧ i ≤ st.n) = false := by simp
      rw [e2, Bool.false_and, Bool.false_or]
      simp only [Bool.or_assoc]
      rfl
    · have e1 : st.sp.any (fun p => !scan st.m st.hold st.wait p.node p.ticks p.ms ((1, i) :: r)) = st.sp.any (fun p => !scan st.m st.hold st.wait p.node p.ticks p.ms r) := any_congr (fun p hp => by
        rw [scan, if_neg (by have := ht p hp; omega), if_neg (by omega), if_neg (by omega), if_neg (by omega)])
      have e2 : decide ((1 : Int) = 3 ∧ 1 ≤ i ∧ i ≤ st.n) = false := by simp
      simp only [e1, stepA, if_true, if_neg hi, refBad, e2, Bool.false_and, Bool.false_or]
  · have e1 : (st.node i).sp.any (fun p => !scan st.m st.hold st.wait p.node p.ticks p.ms r) = st.sp.any (fun p => !scan st.m st.hold st.wait p.node p.ticks p.ms ((2, i) :: r)) := by
      simp only [PSt.node, List.any_filter, List.any_map]
      refine any_congr (fun p hp => ?_)
      rw [scan, if_neg (by have := ht p hp; omega), if_neg (by omega), if_neg (by omega)]
      by_cases hn : p.node = i
      · rw [if_pos ⟨rfl, hn.symm⟩]
        simp only [Function.comp, dlN, upN, if_pos hn]
        by_cases hl : st.hold ≤ p.ticks + 1
        · rw [scan_late (by omega)]; simp
        · simp [hl]
      · rw [if_neg (fun e => hn e.2.symm)]
        simp only [Function.comp, dlN, upN, if_neg hn]
        have := ht p hp
        have hl : ¬ st.hold ≤ p.ticks := by omega
        simp [hl]
    have e2 : decide ((2 : Int) = 3 ∧ 1 ≤ i ∧ i ≤ st.n) = false := by simp
    have e3 : stepA st (2, i) = st.node i := by simp [stepA]
    rw [e3, e1]
    simp only [refBad, e2, Bool.false_and, Bool.false_or]
    rfl
  · have e1 : st.sp.any (fun p => !scan st.m st.hold st.wait p.node p.ticks p.ms ((3, i) :: r)) = st.sp.any (fun p => !scan st.m st.hold st.wait p.node p.ticks p.ms r) := any_congr (fun p hp => by
      rw [scan, if_neg (by have := ht p hp; omega), if_neg (by omega), if_neg (by omega), if_neg (by omega)])
    by_cases hi : 1 ≤ i ∧ i ≤ st.n
    · have e2 : decide ((3 : Int) = 3 ∧ 1 ≤ i ∧ i ≤ st.n) = true := by simpa using hi
      have e3 : stepA st (3, i) = st.ask i := by simp [stepA, hi]
      rw [e1, e3]
      rw [refBad, e2]
      simp only [Bool.true_and, PSt.ask, List.any_append, List.any_cons, List.any_nil, Bool.or_false, Bool.or_assoc]
    · have e2 : decide ((3 : Int) = 3 ∧ 1 ≤ i ∧ i ≤ st.n) = false := by simpa using hi
      have e3 : stepA st (3, i) = st := by unfold stepA; rw [if_neg (by simp), if_neg (by simp), if_pos rfl, if_neg hi]
      rw [e1, e3, refBad, e2, Bool.false_and, Bool.false_or]
  · have e1 : (st.stop i).sp.any (fun p => !scan st.m st.hold st.wait p.node p.ticks p.ms r) = st.sp.any (fun p => !scan st.m st.hold st.wait p.node p.ticks p.ms ((4, i) :: r)) := by
      simp only [PSt.stop, List.any_filter]
      refine any_congr (fun p hp => ?_)
      rw [scan, if_neg (by have := ht p hp; omega)]
      by_cases hn : p.node = i
      · rw [if_pos ⟨rfl, hn.symm⟩]
        simp [dlS, hn]
      · rw [if_neg (fun e => hn e.2.symm), if_neg (by omega), if_neg (by omega)]
        simp [dlS, hn]
    have e2 : decide ((4 : Int) = 3 ∧ 1 ≤ i ∧ i ≤ st.n) = false := by simp
    have e3 : stepA st (4, i) = st.stop i := by simp [stepA]
    rw [e3, e1]
    simp only [refBad, e2, Bool.false_and, Bool.false_or]
    rfl
theorem stepA_lt (st : PSt) (x : Int × Int) (hh : 1 ≤ st.hold) (ht : ∀ p ∈ st.sp, p.ticks < st.hold) : ∀ p ∈ (stepA st x).sp, p.ticks < st.hold := by
  intro p hp
  unfold stepA at hp
  split at hp
  · split at hp
    · obtain ⟨q, hq, rfl⟩ := List.mem_map.1 hp
      exact ht q hq
    · exact ht p hp
  · split at hp
    · have := (List.mem_filter.1 hp).2
      simp only [dlN, Bool.not_eq_true', decide_eq_false_iff_not] at this
      omega
    · split at hp
      · split at hp
        · rcases List.mem_append.1 hp with hp | hp
          · exact ht p hp
          · simp only [List.mem_cons, List.not_mem_nil, or_false] at hp
            subst hp
            simp only []
            omega
        · exact ht p hp
      · exact ht p (List.mem_filter.1 hp).1
theorem run_bh (acts : List (Int × Int)) (st : PSt) (ha : ∀ x ∈ acts, x.1 = 1 ∨ x.1 = 2 ∨ x.1 = 3 ∨ x.1 = 4) (hh : 1 ≤ st.hold) (ht : ∀ p ∈ st.sp, p.ticks < st.hold) :
    (acts.foldl stepA st).bh = (st.bh || st.sp.any (fun p => !scan st.m st.hold st.wait p.node p.ticks p.ms acts) || refBad st.m st.n st.hold st.wait acts) := by
  induction acts generalizing st with
  | nil =>
    have : st.sp.any (fun p => !scan st.m st.hold st.wait p.node p.ticks p.ms []) = false := by simp [scan]
    rw [this]
    simp [refBad]
  | cons x r ih =>
    obtain ⟨h1, h2, h3, h4⟩ := stepA_head st x
    rw [List.foldl_cons, ih (stepA st x) (fun y hy => ha y (by simp [hy])) (by rw [h3]; exact hh) (by rw [h3]; exact stepA_lt st x hh ht), h1, h2, h3, h4]
    exact stepA_bh st x r (ha x (by simp)) hh ht
/-- Of no span: what the document says. -/
theorem run_fair (acts : List (Int × Int)) (m : Nat) (n hold wait : Int) (ha : ∀ x ∈ acts, x.1 = 1 ∨ x.1 = 2 ∨ x.1 = 3 ∨ x.1 = 4) (hh : 1 ≤ hold) :
    (acts.foldl stepA ⟨m, n, hold, wait, [], false⟩).bh = refBad m n hold wait acts := by
  rw [run_bh acts _ ha hh (fun p hp => (by cases hp))]
  simp
end Go.Proofs.Ythkphapmnlndbaa
