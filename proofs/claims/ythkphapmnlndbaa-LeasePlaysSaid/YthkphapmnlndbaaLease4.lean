/- The contracts of package talariaref21. -/
import Derived.Test.YthkphapmnlndbaaLSpeaks
namespace Go.Proofs.Ythkphapmnlndbaa
open Go.RowKit
set_option maxHeartbeats 4000000
set_option linter.unusedSimpArgs false
/-- The reference's holder: the same numbers; of a request that is not open whatever was left. -/
def mcells (s : Hs) (oe oa : Int) : Array Value := #[.int .i64 s.hold, .int .i64 s.renew, .int .i64 s.now, .int .u32 s.made, .int .u32 (reqOf s), .int .u32 oe, .int .i64 oa, .int .u32 s.epoch, .int .i64 s.fin]
theorem rholds_any (s : Hs) (oe oa ep : Int) (w : World) : Calls Try.prog 45 #[.agg (mcells s oe oa), .int .u32 ep] w fun e w' => e = .returned (.bool (holdsOf s ep)) ∧ Below w.heap.size w w' := by
  unfold mcells holdsOf
  by_cases h1 : s.epoch = ep
  · have h2 : (s.epoch == ep) = true := by simp [h1]
    have h3 : decide (s.epoch = ep ∧ s.now < s.fin) = decide (s.now < s.fin) := decide_eq_decide.2 (by simp [h1])
    rw [h3]
    clear h1 h3
    go_enter Try.func45, Try.ntmps45
    go_wp2
    all_goals (go_returns; exact ⟨by rfl, by go_grown⟩)
  · have h2 : (s.epoch == ep) = false := by simp [h1]
    have h3 : decide (s.epoch = ep ∧ s.now < s.fin) = false := decide_eq_false (by simp [h1])
    rw [h3]
    clear h1 h3
    go_enter Try.func45, Try.ntmps45
    go_wp2
    all_goals (go_returns; exact ⟨by rfl, by go_grown⟩)
theorem rgrant_no (s : Hs) (oe oa ep rq : Int) (w : World) (h : reqOf s = 0 ∨ reqOf s ≠ rq ∨ oe ≠ ep) :
    Calls Try.prog 43 #[.agg (mcells s oe oa), .int .u32 ep, .int .u32 rq] w fun e w' => e = .returned (.tuple #[.agg (mcells s oe oa), .bool false]) ∧ Below w.heap.size w w' := by
  unfold mcells
  generalize reqOf s = R at *
  by_cases h1 : R = 0
  · have h2 : (R == 0) = true := by simp [h1]
    clear h h1
    go_enter Try.func43, Try.ntmps43
    go_wp2
    all_goals (go_returns; exact ⟨rfl, by go_grown⟩)
  · have h2 : (R == 0) = false := by simp [h1]
    by_cases h3 : R = rq
    · have h4 : (R != rq) = false := by simp [h3]
      have h5 : (oe != ep) = true := by
        rcases h with h | h | h
        · exact absurd h h1
        · exact absurd h3 h
        · simp [h]
      clear h h1 h3
      go_enter Try.func43, Try.ntmps43
      go_wp2
      all_goals (go_returns; exact ⟨rfl, by go_grown⟩)
    · have h4 : (R != rq) = true := by simp [h3]
      clear h h1 h3
      go_enter Try.func43, Try.ntmps43
      go_wp2
      all_goals (go_returns; exact ⟨rfl, by go_grown⟩)
theorem rgrant_yes (s : Hs) (oe oa ep rq : Int) (w : World) (h0 : reqOf s ≠ 0) (h1 : reqOf s = rq) (h2 : oe = ep) (hb : 0 ≤ oa ∧ oa ≤ 200000) (hh : 0 ≤ s.hold ∧ s.hold ≤ 200000) :
    Calls Try.prog 43 #[.agg (mcells s oe oa), .int .u32 ep, .int .u32 rq] w fun e w' => e = .returned (.tuple #[.agg (mcells { s with req := none, epoch := ep, fin := oa + s.hold } oe oa), .bool true]) ∧ Below w.heap.size w w' := by
  unfold mcells
  have h3 : (reqOf s == 0) = false := by simp [h0]
  have h4 : (reqOf s != rq) = false := by simp [h1]
  have h5 : (oe != ep) = false := by simp [h2]
  generalize reqOf s = R at *
  clear h0 h1 h2
  go_enter Try.func43, Try.ntmps43
  go_wp2
  all_goals (go_returns; exact ⟨rfl, by go_grown⟩)
theorem rask_no (s : Hs) (oe oa ep : Int) (w : World) (h : (reqOf s ≠ 0 ∧ s.now - oa < s.hold) ∨ (s.epoch = ep ∧ s.now + s.renew < s.fin)) (hb : 0 ≤ oa ∧ oa ≤ 200000) (hn : 0 ≤ s.now ∧ s.now ≤ 200000) (hr : 0 ≤ s.renew ∧ s.renew ≤ 200000) :
    Calls Try.prog 42 #[.agg (mcells s oe oa), .int .u32 ep] w fun e w' => e = .returned (.tuple #[.agg (mcells s oe oa), .bool false]) ∧ Below w.heap.size w w' := by
  unfold mcells
  generalize reqOf s = R at *
  by_cases h1 : R ≠ 0 ∧ s.now - oa < s.hold
  · have h2 : (R != 0) = true := by simp [h1.1]
    have h3 := h1.2
    clear h h1
    go_enter Try.func42, Try.ntmps42
    go_wp2
    all_goals (go_returns; exact ⟨rfl, by go_grown⟩)
  · have h' := h.resolve_left h1
    have h4 : (s.epoch == ep) = true := by simp [h'.1]
    have h5 := h'.2
    by_cases h2 : R = 0
    · have h3 : (R != 0) = false := by simp [h2]
      clear h h1 h' h2
      go_enter Try.func42, Try.ntmps42
      go_wp2
      all_goals (go_returns; exact ⟨rfl, by go_grown⟩)
    · have h3 : (R != 0) = true := by simp [h2]
      have h6 : ¬ s.now - oa < s.hold := fun h => h1 ⟨h2, h⟩
      clear h h1 h' h2
      go_enter Try.func42, Try.ntmps42
      go_wp2
      all_goals (go_returns; exact ⟨rfl, by go_grown⟩)
theorem rask_yes (s : Hs) (oe oa ep : Int) (b : Nat) (w : World) (h : ¬ (reqOf s ≠ 0 ∧ s.now - oa < s.hold)) (h' : ¬ (s.epoch = ep ∧ s.now + s.renew < s.fin)) (hb : 0 ≤ oa ∧ oa ≤ 200000) (hn : 0 ≤ s.now ∧ s.now ≤ 200000) (hr : 0 ≤ s.renew ∧ s.renew ≤ 200000) (hm : 0 ≤ s.made ∧ s.made ≤ 200000) :
    Calls Try.prog 42 #[.agg (mcells s oe oa), .int .u32 ep] w fun e w' => e = .returned (.tuple #[.agg (mcells { s with made := s.made + 1, req := some ⟨b, s.made + 1, ep, s.now⟩ } ep s.now), .bool true]) ∧ Below w.heap.size w w' := by
  unfold mcells
  have e : reqOf { s with made := s.made + 1, req := some ⟨b, s.made + 1, ep, s.now⟩ } = s.made + 1 := rfl
  rw [e]
  generalize reqOf s = R at *
  by_cases h1 : s.epoch = ep
  · have h4 : (s.epoch == ep) = true := by simp [h1]
    have h5 : ¬ s.now + s.renew < s.fin := fun h => h' ⟨h1, h⟩
    by_cases h2 : R = 0
    · have h3 : (R != 0) = false := by simp [h2]
      clear h h1 h' h2 e
      go_enter Try.func42, Try.ntmps42
      go_wp2
      all_goals (go_returns; exact ⟨rfl, by go_grown⟩)
    · have h3 : (R != 0) = true := by simp [h2]
      have h6 : ¬ s.now - oa < s.hold := fun hh => h ⟨h2, hh⟩
      clear h h1 h' h2 e
      go_enter Try.func42, Try.ntmps42
      go_wp2
      all_goals (go_returns; exact ⟨rfl, by go_grown⟩)
  · have h4 : (s.epoch == ep) = false := by simp [h1]
    by_cases h2 : R = 0
    · have h3 : (R != 0) = false := by simp [h2]
      clear h h1 h' h2 e
      go_enter Try.func42, Try.ntmps42
      go_wp2
      all_goals (go_returns; exact ⟨rfl, by go_grown⟩)
    · have h3 : (R != 0) = true := by simp [h2]
      have h6 : ¬ s.now - oa < s.hold := fun hh => h ⟨h2, hh⟩
      clear h h1 h' h2 e
      go_enter Try.func42, Try.ntmps42
      go_wp2
      all_goals (go_returns; exact ⟨rfl, by go_grown⟩)
end Go.Proofs.Ythkphapmnlndbaa
