/- talarialaw26.speaks. -/
import Derived.Test.YthkphapmnlndbabHOf
namespace Go.Proofs.Ythkphapmnlndbab
open Go.RowKit
set_option maxHeartbeats 4000000
set_option linter.unusedSimpArgs false
attribute [local irreducible] Flow.wpSeg Flow.wpF Flow.wpG Flow.wpS Flow.wpT Flow.wpK
theorem build104 (a b : Int) (w : World) : (Instr.build 104 #[(0, .int .u8 1), (1, .int .u32 1), (2, .int .u32 1), (3, .int .i64 2), (5, .int .i64 a), (6, .int .i64 5), (8, .int .u32 b)]).run Try.prog w = .ok (.agg #[.int .u8 1, .int .u32 1, .int .u32 1, .int .i64 2, .int .u32 0, .int .i64 a, .int .i64 5, .int .i64 0, .int .u32 b, .bool false]) w := run_build w 104 _ _ (by kernel_rfl)
theorem own_lit (w : World) (e : TypeId) (sz n : Nat) (cs : Array Value) (h : cs.toList.length = n * sz) (hn : n ≤ maxLen) : (w.alloc (.cells cs e)).ownsRow w.heap.size e sz (.slice (some ⟨w.heap.size, 0, none⟩) n n) n cs.toList :=
  ⟨h, .inr ⟨w.heap.size, n, cs, rfl, Nat.le_refl _, Flow.Blk.new w e cs, Nat.le_refl _, hn, by simpa using h, by rw [← h, List.take_length]⟩⟩
def sp1 : Rc := ⟨1, 1, 1, 2, 0, 3, 5, 0, 7, false⟩
def sp2 : Rc := ⟨1, 1, 1, 2, 0, 4, 5, 0, 7, false⟩
theorem sp_ref : refOf [sp1, sp2] 2 = [sp1] := by kernel_rfl
theorem sp_wf : ∀ r ∈ [sp1, sp2], r.wf := by
  intro r hr
  simp only [List.mem_cons, List.not_mem_nil, or_false] at hr
  rcases hr with rfl | rfl <;> (unfold Rc.wf; decide)
theorem told_lit (a b : Int) (w : World) : Calls Try.prog 43 #[.agg #[.int .u8 1, .int .u32 1, .int .u32 1, .int .i64 2, .int .u32 0, .int .i64 a, .int .i64 5, .int .i64 0, .int .u32 b, .bool false]] w fun e w' => e = .returned (.agg #[.int .u8 1, .int .u32 1, .int .u32 1, .int .i64 5, .int .i64 2, .string ⟨#[]⟩, .bool false, .string ⟨#[]⟩, .int .i64 0, .int .i64 a, .int .i64 5, .int .i64 0, .bool false, .string ⟨#[]⟩, .int .u32 b, .int .u8 0, .int .u8 0, .bool false]) ∧ Below w.heap.size w w' :=
  told43 ⟨1, 1, 1, 2, 0, a, 5, 0, b, false⟩ w ⟨Int.le_refl _, by show (0 : Int) ≤ 4294967295; decide⟩
theorem sure_lit (w : World) : Calls Try.prog 46 #[.agg #[.int .i64 5, .int .i64 2, .string ⟨#[]⟩, .bool false, .string ⟨#[]⟩, .int .i64 0, .int .i64 3, .int .i64 5, .int .i64 0, .bool false, .string ⟨#[]⟩, .int .u32 7, .int .u8 0, .int .u8 0, .bool false]] w fun e w' => e = .returned (.bool true) ∧ Below w.heap.size w w' := sure46 sp1 w
theorem of_sp (w : World) : Calls Try.prog 44 #[.slice (some ⟨w.heap.size, 0, none⟩) 2 2, .int .i64 2] (w.alloc (.cells #[.int .u8 1, .int .u32 1, .int .u32 1, .int .i64 5, .int .i64 2, .string ⟨#[]⟩, .bool false, .string ⟨#[]⟩, .int .i64 0, .int .i64 3, .int .i64 5, .int .i64 0, .bool false, .string ⟨#[]⟩, .int .u32 7, .int .u8 0, .int .u8 0, .bool false, .int .u8 1, .int .u32 1, .int .u32 1, .int .i64 5, .int .i64 2, .string ⟨#[]⟩, .bool false, .string ⟨#[]⟩, .int .i64 0, .int .i64 4, .int .i64 5, .int .i64 0, .bool false, .string ⟨#[]⟩, .int .u32 7, .int .u8 0, .int .u8 0, .bool false] 111)) fun e w' => ∃ g cap, e = .returned (.slice (some ⟨g, 0, none⟩) 1 cap) ∧ g < w'.heap.size ∧ (∀ (j : Nat) (u : Value), (#[.int .i64 5, .int .i64 2, .string ⟨#[]⟩, .bool false, .string ⟨#[]⟩, .int .i64 0, .int .i64 3, .int .i64 5, .int .i64 0, .bool false, .string ⟨#[]⟩, .int .u32 7, .int .u8 0, .int .u8 0, .bool false] : Array Value).toList[j]? = some u → w'.cell? ⟨g, j, none⟩ = some u) ∧ Below w.heap.size w w' := by
  have h0 := own_lit w 111 18 2 #[.int .u8 1, .int .u32 1, .int .u32 1, .int .i64 5, .int .i64 2, .string ⟨#[]⟩, .bool false, .string ⟨#[]⟩, .int .i64 0, .int .i64 3, .int .i64 5, .int .i64 0, .bool false, .string ⟨#[]⟩, .int .u32 7, .int .u8 0, .int .u8 0, .bool false, .int .u8 1, .int .u32 1, .int .u32 1, .int .i64 5, .int .i64 2, .string ⟨#[]⟩, .bool false, .string ⟨#[]⟩, .int .i64 0, .int .i64 4, .int .i64 5, .int .i64 0, .bool false, .string ⟨#[]⟩, .int .u32 7, .int .u8 0, .int .u8 0, .bool false] rfl (by decide)
  have h1 : (w.alloc (.cells #[.int .u8 1, .int .u32 1, .int .u32 1, .int .i64 5, .int .i64 2, .string ⟨#[]⟩, .bool false, .string ⟨#[]⟩, .int .i64 0, .int .i64 3, .int .i64 5, .int .i64 0, .bool false, .string ⟨#[]⟩, .int .u32 7, .int .u8 0, .int .u8 0, .bool false, .int .u8 1, .int .u32 1, .int .u32 1, .int .i64 5, .int .i64 2, .string ⟨#[]⟩, .bool false, .string ⟨#[]⟩, .int .i64 0, .int .i64 4, .int .i64 5, .int .i64 0, .bool false, .string ⟨#[]⟩, .int .u32 7, .int .u8 0, .int .u8 0, .bool false] 111)).ownsRow w.heap.size 111 18 (.slice (some ⟨w.heap.size, 0, none⟩) 2 2) 2 (rowsOf Rc.wcells [sp1, sp2]) := h0
  refine (of44 _ 2 w.heap.size [sp1, sp2] 2 _ h1 rfl (by decide) sp_wf).mono ?_
  rintro e w' ⟨⟨v', rfl, hv⟩, hb⟩
  rw [sp_ref] at hv
  obtain ⟨g, cap, rfl, _, hg, _, hc⟩ := at118f (l := [sp1]) (k := 0) (c := sp1) hv rfl rfl
  exact ⟨g, cap, rfl, hg, fun j u hu => by have := hc j u hu; rwa [show 0 * 15 + j = j by omega] at this, (Flow.below_alloc w _).trans (hb.mono (by simp))⟩
set_option maxRecDepth 20000 in
theorem speaks42 (w : World) : Calls Try.prog 42 #[] w fun e w' => e = .returned (.bool true) ∧ Below w.heap.size w w' := by
  have b104 := build104
  go_enter Try.func42, Try.ntmps42
  go_wp2_with fail
  (with_reducible refine (told_lit 3 7 _).mono ?_)
  rintro e w1 ⟨rfl, hb⟩
  have B1 := Flow.hide hb
  clear hb
  go_wp2_with fail
  (with_reducible refine (told_lit 4 7 _).mono ?_)
  rintro e w2 ⟨rfl, hb⟩
  have B2 := Flow.hide (B1.out.trans (hb.mono B1.out.size))
  clear hb B1
  go_wp2_with fail
  (with_reducible refine (of_sp _).mono ?_)
  rintro e w3 ⟨g, cap, rfl, hg, hc, hb⟩
  have B3 := Flow.hide (B2.out.trans (hb.mono B2.out.size))
  have z0 := hc 0 _ rfl
  have z1 := hc 1 _ rfl
  have z2 := hc 2 _ rfl
  have z3 := hc 3 _ rfl
  have z4 := hc 4 _ rfl
  have z5 := hc 5 _ rfl
  have z6 := hc 6 _ rfl
  have z7 := hc 7 _ rfl
  have z8 := hc 8 _ rfl
  have z9 := hc 9 _ rfl
  have z10 := hc 10 _ rfl
  have z11 := hc 11 _ rfl
  have z12 := hc 12 _ rfl
  have z13 := hc 13 _ rfl
  have z14 := hc 14 _ rfl
  clear hb B2 hc
  go_wp2_with (with_reducible refine (sure_lit _).mono ?_)
  rintro e w4 ⟨rfl, hb⟩
  have y0 := (hb.cell (p := ⟨g, 11, none⟩) hg).trans z11
  have HB := Flow.hide (B3.out.trans (hb.mono B3.out.size))
  clear z0 z1 z2 z3 z4 z5 z6 z7 z8 z9 z10 z11 z12 z13 z14 hb B3
  go_wp2_with fail
  go_ret
  exact ⟨rfl, HB.out⟩
end Go.Proofs.Ythkphapmnlndbab
