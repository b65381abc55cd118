/- The statements' first helper of package cell. -/
import Derived.Test.YthkphapmnlndbabCell2
namespace Go.Proofs.Ythkphapmnlndbab
open Go.RowKit
set_option maxHeartbeats 2000000
set_option linter.unusedSimpArgs false
def c0 : Wc := ⟨0, 0, 0, false, ⟨#[]⟩, false⟩
def x0 : Wc := ⟨2, 1, 1, true, ⟨#[97]⟩, false⟩
theorem told17_x0 (w : World) : Calls Try.prog 33 #[.agg #[.int .u32 2, .int .u8 1, .int .u8 1, .bool true, .bool false, .string ⟨#[97]⟩]] w fun e w' => e = .returned (.tuple #[.agg #[.int .u32 2, .int .u8 1, .int .u8 1, .bool true, .string ⟨#[97]⟩, .bool false], .agg #[.int .u32 2, .int .u8 1, .int .u8 1, .bool true, .string ⟨#[97]⟩, .bool false, .int .i64 0]]) ∧ Below w.heap.size w w' := told17_any x0 w
theorem inv_x0 (w : World) : Calls Try.prog 34 #[.agg #[.int .u32 0, .int .u8 0, .int .u8 0, .bool false, .string ⟨#[]⟩, .bool false, .int .i64 0], .agg #[.int .u32 2, .int .u8 1, .int .u8 1, .bool true, .string ⟨#[97]⟩, .bool false]] w fun e w' => e = .returned (.tuple #[.agg #[.int .u32 2, .int .u8 1, .int .u8 1, .bool true, .string ⟨#[97]⟩, .bool false, .int .i64 2], .int .i64 1]) ∧ Below w.heap.size w w' := inv_took c0 0 x0 w (by decide)
theorem val_x0 (w : World) : Calls Try.prog 36 #[.agg #[.int .u32 2, .int .u8 1, .int .u8 1, .bool true, .string ⟨#[97]⟩, .bool false, .int .i64 2], .agg #[.int .u32 2, .int .u8 1, .int .u8 1]] w fun e w' => e = .returned (.tuple #[.agg #[.int .u32 2, .int .u8 1, .int .u8 1, .bool true, .string ⟨#[97]⟩, .bool false, .int .i64 1], .bool true]) ∧ Below w.heap.size w w' := val_yes x0 2 x0 w (by decide) (by decide)
set_option maxRecDepth 20000 in
theorem speaks17 (w : World) : Calls Try.prog 32 #[] w fun e w' => e = .returned (.bool true) ∧ Below w.heap.size w w' := by
  go_enter Try.func32, Try.ntmps32
  go_wp2_with fail
  refine (told17_x0 _).mono ?_
  rintro e w1 ⟨rfl, hb1⟩
  go_wp2_with fail
  refine (inv_x0 _).mono ?_
  rintro e w2 ⟨rfl, hb2⟩
  obtain ⟨k1, k2, hB2, hz2⟩ := Flow.laid2 hb2
  have B2 := Flow.hide (hb1.trans (hB2.mono hb1.size))
  have q1 := k1.cell
  have z1 := k1.lt
  clear hb1 hb2 hB2 k2
  go_wp2_with fail
  refine (val_x0 _).mono ?_
  rintro e w3 ⟨rfl, hb3⟩
  obtain ⟨k3, hB3, hz3⟩ := Flow.laid1 hb3
  have B3 := Flow.hide (B2.out.trans (hB3.mono B2.out.size))
  have q3 := k3.cell
  clear hb3 hB3 q1 k1
  have z3 := k3.lt
  go_wp2_with fail
  go_ret
  exact ⟨rfl, B3.out.alloc B3.out.size _⟩
end Go.Proofs.Ythkphapmnlndbab
