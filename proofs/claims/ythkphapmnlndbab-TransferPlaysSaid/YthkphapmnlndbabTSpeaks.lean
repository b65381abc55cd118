/- The statements' helper of package transfer. -/
import Derived.Test.YthkphapmnlndbabTransfer
import Derived.Test.YthkphapmnlndbabChg
namespace Go.Proofs.Ythkphapmnlndbab
open Go.RowKit
set_option maxHeartbeats 1000000
theorem tc_congr {h h' : Nat → Bool} (c : Int) (he : ∀ j, j < 6 → h' j = h j) : tc h' c = tc h c := by
  unfold tc
  rw [he 0 (by omega), he 1 (by omega), he 2 (by omega), he 3 (by omega), he 4 (by omega), he 5 (by omega)]
theorem eq64 (a b c d : Int) (w : World) : (binOp .eql 64 (.agg #[.int .u8 a, .int .u8 b]) (.agg #[.int .u8 c, .int .u8 d])).run Try.prog w = .ok (.bool (decide (a = c ∧ b = d))) w := by
  go_simp
  by_cases h1 : a = c <;> by_cases h2 : b = d <;> simp [h1, h2]
theorem speaks19 (w : World) : Calls Try.prog 26 #[] w fun e w' => e = .returned (.bool true) ∧ Below w.heap.size w w' := by
  have heq := eq64
  go_enter Try.func26, Try.ntmps26
  go_wp2_with fail
  refine (new_any false _).mono ?_
  rintro e w1 ⟨rfl, hB, hb⟩
  go_wp2_with fail
  refine (got_any _ _ _ 0 _ hB).mono ?_
  rintro e w2 ⟨rfl, hB2, hg2⟩
  have hb2 : Below w.heap.size w w2 := hb.grown hg2 hb.size (fun k hk => by cases hk; exact Nat.le_refl _)
  clear hB hb hg2
  go_wp2_with fail
  have k1 := Flow.Blk.new w2 5 #[.int .u8 2, .int .u8 3]
  refine (needs_any _ 0 _ _ 2 2 (fun i => if i = 0 then 2 else 3) _ (hB2.alloc _) (.inr ⟨_, 0, rfl, fun e => by have := hB2.lt; omega, by simp, fun i hi => ?_⟩) (by omega) (by omega)).mono ?_
  · rw [k1.cell]
    match i, hi with
    | 0, _ => rfl
    | 1, _ => rfl
  rintro e w3 ⟨v, rfl, hown, hB3, hg3⟩
  have hL : keys (got (fun _ => false) 0) 6 = [1, 2, 3, 4, 5] := by decide
  rw [if_neg (by decide), hL] at hown
  obtain ⟨g, cap, rfl, hgb, hgl, hcap, hcell, _⟩ := Flow.ownsRow_at hown (by decide)
  have q0 := hcell 0 (by decide)
  have q1 := hcell 1 (by decide)
  simp [needC] at q0 q1
  have hb3 : Below w.heap.size w w3 := (hb2.alloc hb2.size _).grown hg3 (by have := hb2.size; simp; omega) (fun k hk => by cases hk; exact Nat.le_refl _)
  clear hB2 hb2 hg3 k1 hL hcell hown
  go_wp2_with fail
  refine (has_any _ _ _ 0 _ hB3).mono ?_
  rintro e w4 ⟨rfl, rfl⟩
  rw [show hasOf (got (fun _ => false) 0) 0 = true from by decide]
  go_wp2_with fail
  refine (has_any _ _ _ 1 _ hB3).mono ?_
  rintro e w4 ⟨rfl, rfl⟩
  rw [show hasOf (got (fun _ => false) 0) 1 = false from by decide]
  go_wp2_with fail
  refine (complete_any _ _ _ _ hB3).mono ?_
  rintro e w4 ⟨rfl, rfl⟩
  rw [show allOf (got (fun _ => false) 0) 6 = false from by decide]
  go_wp2_with fail
  refine (new_any true _).mono ?_
  rintro e w5 ⟨rfl, hB5, hb5⟩
  have hb6 : Below w.heap.size w w5 := hb3.trans (hb5.mono hb3.size)
  clear hb3 hb5 q0 q1 hB3
  go_wp2_with fail
  refine (complete_any _ _ _ _ hB5).mono ?_
  rintro e w4 ⟨rfl, rfl⟩
  go_wp2_with fail
  go_ret
  exact ⟨rfl, hb6⟩
end Go.Proofs.Ythkphapmnlndbab
