/- MarkNext: for every stamp, step and pair of numbers the law returns true and leaves its arguments as they were. No condition. -/
import Derived.Test.YthkphapmnlndbabRows
import Derived.Test.YthkphapmnlndbabMark
import Derived.Test.YthkphapmnlndbabOpen
namespace Go.Proofs.Ythkphapmnlndbab.LawNext
open Go.ChangeShapes Go.WideShapes Go.ChangeAt Go.RowKit
set_option linter.unusedSimpArgs false
set_option maxHeartbeats 40000000

def NextIs (n k d f N' B' L' : Int) (ok : Bool) : Prop := (ok = true ∧ 0 < k ∧ k + n ≤ 4294967295 ∧ N' = n + k ∧ B' = d ∧ L' = f) ∨ (ok = false ∧ (k = 0 ∨ 4294967295 < k + n) ∧ N' = 0 ∧ B' = 0 ∧ L' = 0)
theorem nextIs_ex (n k d f : Int) (hk : 0 ≤ k) : ∃ N' B' L' ok, NextIs n k d f N' B' L' ok := by
  by_cases h : 0 < k ∧ k + n ≤ 4294967295
  · exact ⟨_, _, _, true, .inl ⟨rfl, h.1, h.2, rfl, rfl, rfl⟩⟩
  · exact ⟨_, _, _, false, .inr ⟨rfl, by omega, rfl, rfl, rfl⟩⟩
theorem next_is (n b l d f k N' B' L' : Int) (ok : Bool) (w : World) (h : NextIs n k d f N' B' L' ok) (hn : 0 ≤ n ∧ n ≤ 4294967295) (hk : 0 ≤ k ∧ k ≤ 4294967295) :
    Calls Try.prog 16 #[.agg #[.int .u32 n, .int .u8 b, .int .u8 l], .int .u32 k, .int .u8 d, .int .u8 f] w fun e w' => e = .returned (.tuple #[.agg #[.int .u32 N', .int .u8 B', .int .u8 L'], .bool ok]) ∧ Below w.heap.size w w' := by
  rcases h with ⟨rfl, h1, h2, rfl, rfl, rfl⟩ | ⟨rfl, h1, rfl, rfl, rfl⟩
  · exact next_yes _ _ _ _ _ _ _ hn.1 h1 h2
  · rcases h1 with rfl | h1
    · exact next_zero _ _ _ _ _ _ hn.1 hn.2
    · exact next_no _ _ _ _ _ _ _ hn.1 hn.2 h1
theorem rnext_is (n b l d f k N' B' L' : Int) (ok : Bool) (w : World) (h : NextIs n k d f N' B' L' ok) (hn : 0 ≤ n ∧ n ≤ 4294967295) (hk : 0 ≤ k ∧ k ≤ 4294967295) :
    Calls Try.prog 17 #[.agg #[.int .u32 n, .int .u8 b, .int .u8 l], .int .u32 k, .int .u8 d, .int .u8 f] w fun e w' => e = .returned (.tuple #[.agg #[.int .u32 N', .int .u8 B', .int .u8 L'], .bool ok]) ∧ Below w.heap.size w w' := by
  rcases h with ⟨rfl, h1, h2, rfl, rfl, rfl⟩ | ⟨rfl, h1, rfl, rfl, rfl⟩
  · exact rnext_yes _ _ _ _ _ _ _ hn.1 h1 h2
  · rcases h1 with rfl | h1
    · exact rnext_zero _ _ _ _ _ _ hn.1 hn.2
    · exact rnext_no _ _ _ _ _ _ _ hn.1 hn.2 hk.2 hk.1 h1
theorem bnext_is (n b d f N' B' L' : Int) (ok : Bool) (w : World) (h : NextIs n 1 d f N' B' L' ok) (hn : 0 ≤ n ∧ n ≤ 4294967295) :
    Calls Try.prog 18 #[.agg #[.int .u32 n, .int .u8 b], .int .u8 d] w fun e w' => e = .returned (.tuple #[.agg #[.int .u32 N', .int .u8 B'], .bool ok]) ∧ Below w.heap.size w w' := by
  rcases h with ⟨rfl, h1, h2, rfl, rfl, rfl⟩ | ⟨rfl, h1, rfl, rfl, rfl⟩
  · exact bnext_yes _ _ _ _ hn.1 (by omega)
  · obtain rfl : n = 4294967295 := by omega
    exact bnext_no _ _ _
theorem next_less {n b l k d f N' B' L' : Int} (h : NextIs n k d f N' B' L' true) : slt n b l N' B' L' = true := by
  rcases h with ⟨_, h1, _, rfl, _, _⟩ | ⟨h, _⟩
  · unfold slt; simp; omega
  · cases h
theorem next_below {n b k d f N' B' L' : Int} (h : NextIs n k d f N' B' L' true) : mlt n b N' B' = true := by
  rcases h with ⟨_, h1, _, rfl, _, _⟩ | ⟨h, _⟩
  · unfold mlt; simp; omega
  · cases h

theorem field30_0 (a b c : Value) (w : World) : (Instr.field 30 (.agg #[a, b, c]) 0).run Try.prog w = .ok (.agg #[a, b]) w := by kernel_rfl
set_option maxRecDepth 100000 in
theorem walk (N B L k d0 d1 : Int) (w : World) (hN : 0 ≤ N ∧ N ≤ 4294967295) (hk : 0 ≤ k ∧ k ≤ 4294967295) :
    Calls Try.prog 3 #[.agg #[.int .u32 N, .int .u8 B, .int .u8 L], .int .u32 k, .agg #[.int .u8 d0, .int .u8 d1]] w fun e w' => e = .returned (.bool true) ∧ Below w.heap.size w w' := by
  obtain ⟨N1, B1, L1, ok, i1⟩ := nextIs_ex N k d0 d1 hk.1
  obtain ⟨N2, B2, L2, has, i2⟩ := nextIs_ex N 1 d0 0 (by omega)
  have hfld := field30_0
  go_enter Try.func3, Try.ntmps3
  go_wp2_with fail
  refine (speaks03 _).mono ?_
  rintro e w1 ⟨rfl, hb1⟩
  have k1 : Flow.Blk w1 w.heap.size 24 #[.int .u32 N, .int .u8 B, .int .u8 L] := ((Flow.Blk.new _ _ _).alloc _).below hb1
  have k2 : Flow.Blk w1 (w.heap.size + 1) 25 #[.int .u8 d0, .int .u8 d1] := by
    have := (Flow.Blk.new (w.alloc (.cells #[.int .u32 N, .int .u8 B, .int .u8 L] 24)) 25 #[.int .u8 d0, .int .u8 d1]).below hb1
    simpa using this
  have b1 : Below w.heap.size w w1 := (Below.refl _ _).alloc (Nat.le_refl _) _ |>.alloc (by simp) _ |>.trans (hb1.mono (by simp; omega))
  clear hb1
  go_wp2_with fail
  -- REGIONS
  refine Flow.wp_region_flow (by kernel_rfl) 14 rfl ?_
  refine Flow.wpF_seg [0, 1, 2, 3, 4, 5, 6, 7, 8, 9, 10] 3 rfl (by kernel_rfl) ?_
  dsimp only [Flow.pickOps, List.getElem?_cons_zero, List.getElem?_cons_succ]
  repeat (first
    | (apply Flow.wpSeg_off rfl; simp only [Act.put, List.setIfInBounds_toArray, List.set_cons_succ, List.set_cons_zero])
    | (apply Flow.wpSeg_on rfl
       · (intro wq hwq; have q0 := (k1.below hwq.below).cell; have q1 := (k2.below hwq.below).cell; clear hwq; go_simp; first | exact Flow.q_value | with_reducible exact Flow.q_call (told_any _ _ _ _) | with_reducible exact Flow.q_call (next_is _ _ _ _ _ _ _ _ _ _ _ i1 hN hk) | with_reducible exact Flow.q_call (bnext_is _ _ _ 0 _ _ _ _ _ i2 hN))
       simp only [Act.put, List.setIfInBounds_toArray, List.set_cons_succ, List.set_cons_zero]))
  refine Flow.wpSeg_nil ?_
  refine Flow.wpF_declared [⟨11, 12, 7, 26, 30, #[.int .u32 0, .int .u8 0, .int .u8 0], #[.int .u32 N1, .int .u8 B1, .int .u8 L1]⟩] 1 (by kernel_rfl) ?hz ?hs ?_
  case hz =>
    intro p hp wz; simp only [List.mem_cons, List.not_mem_nil, or_false] at hp
    subst hp
    all_goals kernel_rfl
  case hs =>
    intro p hp; simp only [List.mem_cons, List.not_mem_nil, or_false] at hp
    subst hp
    all_goals exact ⟨rfl, by simp, by kernel_rfl, rfl, by simp [Value.oneCell']⟩
  intro gf own hgf hnf hown
  dsimp only [Flow.putG, if_true]
  simp only [Act.put, List.setIfInBounds_toArray, List.set_cons_succ, List.set_cons_zero, if_true]
  refine Flow.wpF_seg [13] 0 rfl (by kernel_rfl) ?_
  dsimp only [Flow.pickOps, List.getElem?_cons_zero, List.getElem?_cons_succ]
  repeat (first
    | (apply Flow.wpSeg_off rfl; simp only [Act.put, List.setIfInBounds_toArray, List.set_cons_succ, List.set_cons_zero])
    | (apply Flow.wpSeg_on rfl
       · (intro wq hwq; clear hwq; go_simp; first | exact Flow.q_value)
       simp only [Act.put, List.setIfInBounds_toArray, List.set_cons_succ, List.set_cons_zero]))
  refine Flow.wpSeg_nil ?_
  refine Flow.wpF_done (by kernel_rfl) ?_
  intro w2 hC hO
  have hg3 := hgf _ List.mem_cons_self
  have k3 : Flow.Blk w2 (gf 11) 30 #[.int .u32 N1, .int .u8 B1, .int .u8 L1] := (hO _ (hown _ List.mem_cons_self)).2
  have k1 := k1.below hC.below
  have k2 := k2.below hC.below
  have b1 := b1.trans (hC.below.mono b1.size)
  clear hC hO hown hnf hgf
  generalize gf 11 = g3 at *
  have c1 := k1.cell
  have c2 := k2.cell
  go_wp2_with fail
  refine (rnext_is _ _ _ _ _ _ _ _ _ _ _ i1 hN hk).mono ?_
  rintro e w3 ⟨rfl, hb⟩
  have k1 := k1.below hb
  have k2 := k2.below hb
  have k3 := k3.below hb
  have b1 := b1.trans (hb.mono b1.size)
  clear c1 c2 hb
  go_wp2_with fail
  have k4 : Flow.Blk (w3.alloc (.cells #[.int .u32 N1, .int .u8 B1, .int .u8 L1] 34)) w3.heap.size 34 #[.int .u32 N1, .int .u8 B1, .int .u8 L1] := Flow.Blk.new _ _ _
  have k1 := k1.alloc (.cells #[.int .u32 N1, .int .u8 B1, .int .u8 L1] 34)
  have k2 := k2.alloc (.cells #[.int .u32 N1, .int .u8 B1, .int .u8 L1] 34)
  have k3 := k3.alloc (.cells #[.int .u32 N1, .int .u8 B1, .int .u8 L1] 34)
  have b1 := b1.alloc b1.size (.cells #[.int .u32 N1, .int .u8 B1, .int .u8 L1] 34)
  generalize w3.alloc (.cells #[.int .u32 N1, .int .u8 B1, .int .u8 L1] 34) = w4 at *
  generalize w3.heap.size = g4 at *
  refine Flow.wp_region_flow (by kernel_rfl) 13 rfl ?_
  refine Flow.wpF_seg [0, 1, 2, 3, 4, 5, 6, 7, 8, 9] 3 rfl (by kernel_rfl) ?_
  dsimp only [Flow.pickOps, List.getElem?_cons_zero, List.getElem?_cons_succ]
  repeat (first
    | (apply Flow.wpSeg_off rfl; simp only [Act.put, List.setIfInBounds_toArray, List.set_cons_succ, List.set_cons_zero])
    | (apply Flow.wpSeg_on rfl
       · (intro wq hwq; have q0 := (k1.below hwq.below).cell; have q1 := (k2.below hwq.below).cell; have q2 := (k3.below hwq.below).cell; have q3 := (k4.below hwq.below).cell; clear hwq; go_simp; first | exact Flow.q_value | with_reducible exact Flow.q_call (told_any _ _ _ _) | with_reducible exact Flow.q_call (next_is _ _ _ _ _ _ _ _ _ _ _ i1 hN hk) | with_reducible exact Flow.q_call (bnext_is _ _ _ 0 _ _ _ _ _ i2 hN))
       simp only [Act.put, List.setIfInBounds_toArray, List.set_cons_succ, List.set_cons_zero]))
  refine Flow.wpSeg_nil ?_
  refine Flow.wpF_declared [⟨10, 11, 11, 46, 38, #[.int .u32 0, .int .u8 0], #[.int .u32 N2, .int .u8 B2]⟩] 1 (by kernel_rfl) ?hz ?hs ?_
  case hz =>
    intro p hp wz; simp only [List.mem_cons, List.not_mem_nil, or_false] at hp
    subst hp
    all_goals kernel_rfl
  case hs =>
    intro p hp; simp only [List.mem_cons, List.not_mem_nil, or_false] at hp
    subst hp
    all_goals exact ⟨rfl, by simp, by kernel_rfl, rfl, by simp [Value.oneCell']⟩
  intro gf own hgf hnf hown
  dsimp only [Flow.putG, if_true]
  simp only [Act.put, List.setIfInBounds_toArray, List.set_cons_succ, List.set_cons_zero, if_true]
  refine Flow.wpF_seg [12] 0 rfl (by kernel_rfl) ?_
  dsimp only [Flow.pickOps, List.getElem?_cons_zero, List.getElem?_cons_succ]
  repeat (first
    | (apply Flow.wpSeg_off rfl; simp only [Act.put, List.setIfInBounds_toArray, List.set_cons_succ, List.set_cons_zero])
    | (apply Flow.wpSeg_on rfl
       · (intro wq hwq; clear hwq; go_simp; first | exact Flow.q_value)
       simp only [Act.put, List.setIfInBounds_toArray, List.set_cons_succ, List.set_cons_zero]))
  refine Flow.wpSeg_nil ?_
  refine Flow.wpF_done (by kernel_rfl) ?_
  intro w5 hC hO
  have k5 : Flow.Blk w5 (gf 10) 38 #[.int .u32 N2, .int .u8 B2] := (hO _ (hown _ List.mem_cons_self)).2
  have k1 := k1.below hC.below
  have k2 := k2.below hC.below
  have k3 := k3.below hC.below
  have k4 := k4.below hC.below
  have b1 := b1.trans (hC.below.mono b1.size)
  clear hC hO hown hnf hgf
  generalize gf 10 = g5 at *
  have c1 := k1.cell
  have c2 := k2.cell
  go_wp2_with fail
  refine (rnext_is _ _ _ _ _ _ _ _ _ _ _ i2 hN (by omega)).mono ?_
  rintro e w6 ⟨rfl, hb⟩
  have k1 := k1.below hb
  have k3 := k3.below hb
  have k4 := k4.below hb
  have k5 := k5.below hb
  have b1 := b1.trans (hb.mono b1.size)
  clear c1 c2 hb k2
  go_wp2_with fail
  have k6 : Flow.Blk (w6.alloc (.cells #[.int .u32 N2, .int .u8 B2, .int .u8 L2] 34)) w6.heap.size 34 #[.int .u32 N2, .int .u8 B2, .int .u8 L2] := Flow.Blk.new _ _ _
  have k1 := k1.alloc (.cells #[.int .u32 N2, .int .u8 B2, .int .u8 L2] 34)
  have k3 := k3.alloc (.cells #[.int .u32 N2, .int .u8 B2, .int .u8 L2] 34)
  have k4 := k4.alloc (.cells #[.int .u32 N2, .int .u8 B2, .int .u8 L2] 34)
  have k5 := k5.alloc (.cells #[.int .u32 N2, .int .u8 B2, .int .u8 L2] 34)
  have b1 := b1.alloc b1.size (.cells #[.int .u32 N2, .int .u8 B2, .int .u8 L2] 34)
  generalize w6.alloc (.cells #[.int .u32 N2, .int .u8 B2, .int .u8 L2] 34) = w7 at *
  generalize w6.heap.size = g6 at *
  have l1 : ok = true → slt N B L N1 B1 L1 = true := fun h => next_less (h ▸ i1)
  have l2 : has = true → mlt N B N2 B2 = true := fun h => next_below (h ▸ i2)
  have L1' := Flow.hide l1
  have L2' := Flow.hide l2
  clear l1 l2 i1 i2
  refine Flow.wp_region_all (by kernel_rfl) (by kernel_rfl) ?_
  rcases ok with _ | _ <;> rcases has with _ | _
  all_goals (
    repeat (first
      | (apply Flow.wpSeg_off rfl; simp only [Act.put, List.setIfInBounds_toArray, List.set_cons_succ, List.set_cons_zero])
      | (apply Flow.wpSeg_on rfl
         · (intro wq hwq; have q0 := (k1.below hwq.below).cell; have q1 := (k3.below hwq.below).cell; have q2 := (k4.below hwq.below).cell; have q3 := (k5.below hwq.below).cell; have q4 := (k6.below hwq.below).cell; clear hwq; go_simp; first | exact Flow.q_value | with_reducible exact Flow.q_call (told_any _ _ _ _) | with_reducible exact Flow.q_call (less_yes _ _ _ _ _ _ _ (L1'.out rfl)) | with_reducible exact Flow.q_call (below_yes _ _ _ _ _ (L2'.out rfl)))
         simp only [Act.put, List.setIfInBounds_toArray, List.set_cons_succ, List.set_cons_zero]))
    refine Flow.wpSeg_nil ?_
    intro w8 hb
    have b1 := b1.trans (hb.mono b1.size)
    go_wp2_with fail
    go_returns
    refine ⟨?_, b1⟩
    simp)

theorem own : ownKnob Try.prog.godebug = none := by kernel_rfl
theorem laidOut : laidOutB Try.prog = true := by kernel_rfl

set_option maxRecDepth 100000 in
theorem lifted (os : Os) (started : os.Started) (H : Type) (enc : TypeId × Value → H) :
    ReturnsInHanded {} Try.checked os 3 .any (Rows.markNextSpec.pre6 enc Try.prog Try.f3 Rows.markNextRow.domain false) (Rows.markNextSpec.post enc Try.prog Try.f3 false true false false) := by
  refine returnsInHanded_of_change (C := Try.checked) own started (by kernel_rfl) Try.func3
    (ChangeSpec.witness6 (enc := enc) (C := Try.checked) false ⟨#[], #[.agg #[.int .u32 0, .int .u8 0, .int .u8 0], .int .u32 0, .agg #[.int .u8 0, .int .u8 0]], []⟩ 8 (by kernel_rfl) (by kernel_rfl) (by kernel_rfl) (by kernel_rfl)) ?_
  intro W base args ds gs before hval0 hW hcnd _
  have hval : ∀ (j : Nat) t v, Try.f3.params[j]? = some t → args[j]? = some v → Value.okWide Try.prog W .any base t v := hval0
  have hW' := hW
  obtain ⟨p, q, hA0, hV, rfl, hfz, hnd⟩ := hW
  have hA : DataW.TrodAll enc Try.prog W 0 (fun _ => true) true Try.f3.params.toList args.toList ds p := hA0
  rw [Try.params3] at hA hval
  obtain ⟨v0, v1, v2, d0, d1, d2, p0, p1, p2, hargs, rfl, rfl, h0, h1, h2⟩ := trodAll_three hA
  obtain ⟨rfl, rfl⟩ := trodVars_none hV
  subst hargs
  obtain ⟨cs0, rfl, hl0, r0⟩ := Open.open_agg 30 (ss := [.int .u32, .int .u8, .int .u8]) (.inl ⟨_, Try.underlying24⟩) (by kernel_rfl) (by kernel_rfl) (hval 0 24 v0 rfl rfl) h0
  obtain ⟨k, rfl, rfl, rfl, wk⟩ := open_int Try.underlying22 (hval 1 22 v1 rfl rfl) h1
  obtain ⟨cs2, rfl, hl2, r2⟩ := Open.open_agg 30 (ss := [.int .u8, .int .u8]) (.inr ⟨_, _, Try.underlying25⟩) (by kernel_rfl) (by kernel_rfl) (hval 2 25 v2 rfl rfl) h2
  obtain ⟨N, e0, wN⟩ := r0.int 0 rfl
  obtain ⟨B, e1, wB⟩ := r0.int 1 rfl
  obtain ⟨L, e2, wL⟩ := r0.int 2 rfl
  obtain ⟨x, e3, wx⟩ := r2.int 0 rfl
  obtain ⟨y, e4, wy⟩ := r2.int 1 rfl
  have c0 : cs0 = [.int .u32 N, .int .u8 B, .int .u8 L] := Open.list3 hl0 e0 e1 e2
  have c2 : cs2 = [.int .u8 x, .int .u8 y] := Open.list2 hl2 e3 e4
  subst c0 c2
  clear hA0 hval0
  refine (walk N B L k x y W (bounds_u32 wN) (bounds_u32 wk)).mono fun e W' ⟨he, hb⟩ => ?_
  subst he
  exact ⟨_, rfl, Open.law_post laidOut (by kernel_rfl) (by kernel_rfl) Try.underlying4 rfl rfl hW' hb⟩

theorem over : Rows.markNextRow.holds Try.pinned (OpenSpec.ofChange Rows.markNextSpec) :=
  OpenClaim.holds_of_wide 3 Try.f3 rfl rfl rfl rfl rfl rfl rfl ⟨rfl, rfl, rfl, rfl, rfl⟩ rfl rfl rfl rfl rfl (by kernel_rfl) Try.func3 (by kernel_rfl)
    (of_decide_eq_true (by kernel_rfl)) (by unfold Func.isWrapper; first | (rw [if_pos (by decide +kernel)]; kernel_rfl) | (rw [if_neg (by decide +kernel)]; exact ⟨rfl, rfl⟩))
    (fun os started H enc _ => lifted os started H enc)

theorem proved : Rows.MarkNextSaid := over
#print axioms proved
end Go.Proofs.Ythkphapmnlndbab.LawNext
