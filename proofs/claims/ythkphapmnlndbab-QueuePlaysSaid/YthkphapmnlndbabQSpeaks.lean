/- talarialaw23.speaks. -/
import Derived.Test.YthkphapmnlndbabQueue2
namespace Go.Proofs.Ythkphapmnlndbab
open Go.RowKit
set_option maxHeartbeats 4000000
set_option linter.unusedSimpArgs false
attribute [local irreducible] Flow.wpSeg Flow.wpF Flow.wpG Flow.wpS Flow.wpT
def mkC (n k : Int) : Cl := ⟨n, if n = 4294967295 then 0 else n + 1, 5, k, ⟨#[]⟩, false, ⟨#[]⟩, n⟩
theorem call_is (n k m : Int) (w : World) (hn : 0 ≤ n ∧ n ≤ 4294967295) (hm : (if n = 4294967295 then 0 else n + 1) = m) :
    Calls Try.prog 52 #[.int .u32 n, .int .i64 k] w fun e w' => e = .returned (.agg #[.int .u32 n, .int .u32 m, .int .i64 5, .int .i64 k, .string ⟨#[]⟩, .bool false, .string ⟨#[]⟩, .int .i64 n]) ∧ Below w.heap.size w w' := by
  rw [← hm]; exact call_any n k w hn
theorem push_mk (g B : Nat) (l : List Cl) (n k m : Int) (w : World) (hm : (if n = 4294967295 then 0 else n + 1) = m) (hq : IsQ w B g l) (hn : l.length < 8) (hB : B ≤ w.heap.size) :
    Calls Try.prog 51 #[.pointer (some ⟨g, 0, none⟩), .agg #[.int .u32 n, .int .u32 m, .int .i64 5, .int .i64 k, .string ⟨#[]⟩, .bool false, .string ⟨#[]⟩, .int .i64 n]] w fun e w' => e = .returned (.bool true) ∧ IsQ w' B g (l ++ [mkC n k]) ∧ Below B w w' := by
  rw [← hm]; exact push_yes g B l (mkC n k) w hq hn hB
theorem Fst.of {l : List Cl} {key : Int} {i : Nat} {c : Cl} (h : l[i]? = some c) (hk : c.key = key) (hn : ∀ j d, j < i → l[j]? = some d → d.key ≠ key) : Fst l key i := ⟨⟨c, h, hk⟩, hn⟩
theorem room_below (g B : Nat) (l : List Cl) (r : Int) (w : World) (hq : IsQ w B g l) (hn : l.length ≤ 8) (hr : 8 - (l.length : Int) = r) :
    Calls Try.prog 54 #[.pointer (some ⟨g, 0, none⟩)] w fun e w' => e = .returned (.int .i64 r) ∧ Below w.heap.size w w' := by
  refine (room_any g B l w hq hn).mono ?_
  rintro e w' ⟨rfl, rfl⟩
  exact ⟨by rw [hr], Below.refl _ _⟩
theorem take_mk (g B : Nat) (l : List Cl) (n key m : Int) (i : Nat) (w : World) (hm : (if n = 4294967295 then 0 else n + 1) = m) (hq : IsQ w B g l) (hn : l.length ≤ 1000) (hr : Fst l key i) (hc : l[i]? = some (mkC n key)) (hB : B ≤ w.heap.size) :
    Calls Try.prog 53 #[.pointer (some ⟨g, 0, none⟩), .int .i64 key] w fun e w' => e = .returned (.tuple #[.agg #[.int .u32 n, .int .u32 m, .int .i64 5, .int .i64 key, .string ⟨#[]⟩, .bool false, .string ⟨#[]⟩, .int .i64 n], .bool true]) ∧ IsQ w' B g (l.eraseIdx i) ∧ Below B w w' ∧ Flow.Chg (OnQ w g) w w' := by
  rw [← hm]; exact take_yes g B l key i (mkC n key) w hq hn hr hc hB
theorem eq125a (w : World) : (binOp .eql 125 (.agg #[.int .u32 1, .int .u32 2, .int .i64 5, .int .i64 1, .string ⟨#[]⟩, .bool false, .string ⟨#[]⟩, .int .i64 1]) (.agg #[.int .u32 1, .int .u32 2, .int .i64 5, .int .i64 1, .string ⟨#[]⟩, .bool false, .string ⟨#[]⟩, .int .i64 1])).run Try.prog w = .ok (.bool true) w := by kernel_rfl
theorem eq125b (w : World) : (binOp .eql 125 (.agg #[.int .u32 3, .int .u32 4, .int .i64 5, .int .i64 1, .string ⟨#[]⟩, .bool false, .string ⟨#[]⟩, .int .i64 3]) (.agg #[.int .u32 3, .int .u32 4, .int .i64 5, .int .i64 1, .string ⟨#[]⟩, .bool false, .string ⟨#[]⟩, .int .i64 3])).run Try.prog w = .ok (.bool true) w := by kernel_rfl
set_option maxRecDepth 20000 in
theorem speaks23 (w : World) : Calls Try.prog 49 #[] w fun e w' => e = .returned (.bool true) ∧ Below w.heap.size w w' := by
  go_enter Try.func49, Try.ntmps49
  go_wp2_with fail
  (with_reducible refine (new_any w.heap.size w (Nat.le_refl _)).mono ?_)
  rintro e w1 ⟨rfl, Q1, B1⟩
  have HQ1 := Flow.hide Q1
  have HB1 := Flow.hide B1
  clear Q1 B1
  go_wp2_with fail
  (with_reducible refine (call_is 1 1 2 _ (by decide) (by decide)).mono ?_)
  rintro e w2 ⟨rfl, hb⟩
  have HQ2 := Flow.hide (HQ1.out.below hb)
  have HB2 := Flow.hide (HB1.out.trans (hb.mono HB1.out.size))
  clear HQ1 HB1 hb w1
  go_wp2_with fail
  (with_reducible refine (push_mk w.heap.size w.heap.size [] 1 1 2 _ (by decide) HQ2.out (by decide) HB2.out.size).mono ?_)
  rintro e w3 ⟨rfl, q, hb⟩
  have HQ3 := Flow.hide q
  have HB3 := Flow.hide (HB2.out.trans hb)
  clear HQ2 HB2 hb q w2
  go_wp2_with fail
  (with_reducible refine (call_is 2 2 3 _ (by decide) (by decide)).mono ?_)
  rintro e w2 ⟨rfl, hb⟩
  have HQ2 := Flow.hide (HQ3.out.below hb)
  have HB2 := Flow.hide (HB3.out.trans (hb.mono HB3.out.size))
  clear HQ3 HB3 hb w3
  go_wp2_with fail
  (with_reducible refine (push_mk w.heap.size w.heap.size _ 2 2 3 _ (by decide) HQ2.out (by decide) HB2.out.size).mono ?_)
  rintro e w3 ⟨rfl, q, hb⟩
  have HQ3 := Flow.hide q
  have HB3 := Flow.hide (HB2.out.trans hb)
  clear HQ2 HB2 hb q w2
  go_wp2_with fail
  (with_reducible refine (call_is 3 1 4 _ (by decide) (by decide)).mono ?_)
  rintro e w2 ⟨rfl, hb⟩
  have HQ2 := Flow.hide (HQ3.out.below hb)
  have HB2 := Flow.hide (HB3.out.trans (hb.mono HB3.out.size))
  clear HQ3 HB3 hb w3
  go_wp2_with fail
  (with_reducible refine (push_mk w.heap.size w.heap.size _ 3 1 4 _ (by decide) HQ2.out (by decide) HB2.out.size).mono ?_)
  rintro e w3 ⟨rfl, q, hb⟩
  have HQ3 : Hid (IsQ w3 w.heap.size w.heap.size [mkC 1 1, mkC 2 2, mkC 3 1]) := q
  have HB3 := Flow.hide (HB2.out.trans hb)
  clear HQ2 HB2 hb q w2
  go_wp2_with fail
  (with_reducible refine (take_yes w.heap.size w.heap.size [mkC 1 1, mkC 2 2, mkC 3 1] 1 0 (mkC 1 1) _ HQ3.out (by decide) (Fst.of rfl rfl (fun j c h => by omega)) rfl HB3.out.size).mono ?_)
  rintro e w4 ⟨rfl, q, hb, hcc⟩
  clear hcc
  have HQ4 : Hid (IsQ w4 w.heap.size w.heap.size [mkC 2 2, mkC 3 1]) := q
  have HB4 := Flow.hide (HB3.out.trans hb)
  clear HQ3 HB3 hb q w3
  simp only [mkC, Int.reduceEq, if_false, Int.reduceAdd]
  go_upto_region 4 with fail
  obtain ⟨K5, hh5, z5⟩ := Flow.laid1 (w := w4) (w1 := w4.alloc (.cells #[.int .u32 1, .int .u32 2, .int .i64 5, .int .i64 1, .string ⟨#[]⟩, .bool false, .string ⟨#[]⟩, .int .i64 1] 125)) (Below.refl _ _)
  have HQ5 := Flow.hide (HQ4.out.below hh5)
  have HB5 := Flow.hide (HB4.out.trans (hh5.mono HB4.out.size))
  revert K5 HQ5 HB5
  clear z5 hh5 HQ4 HB4
  generalize w4.alloc (.cells #[.int .u32 1, .int .u32 2, .int .i64 5, .int .i64 1, .string ⟨#[]⟩, .bool false, .string ⟨#[]⟩, .int .i64 1] 125) = w5
  generalize w4.heap.size = b5
  intro K5 HQ5 HB5
  go_wp2_with fail
  (with_reducible refine (first_yes w.heap.size w.heap.size [mkC 2 2, mkC 3 1] 1 1 (mkC 3 1) _ HQ5.out (by decide) (Fst.of rfl rfl (fun j c h hc => by obtain rfl : j = 0 := (by omega); simp at hc; subst hc; decide)) rfl).mono ?_)
  rintro e w6 ⟨rfl, hb⟩
  have K6 := K5.below hb
  have HQ6 := Flow.hide (HQ5.out.below hb)
  have HB6 := Flow.hide (HB5.out.trans (hb.mono HB5.out.size))
  clear K5 HQ5 HB5 hb w5
  simp only [mkC, Int.reduceEq, if_false, Int.reduceAdd]
  go_upto_region 5 with fail
  obtain ⟨K7, hh7, z7⟩ := Flow.laid1 (w := w6) (w1 := w6.alloc (.cells #[.int .u32 3, .int .u32 4, .int .i64 5, .int .i64 1, .string ⟨#[]⟩, .bool false, .string ⟨#[]⟩, .int .i64 3] 125)) (Below.refl _ _)
  have K67 := K6.below hh7
  have HQ7 := Flow.hide (HQ6.out.below hh7)
  have HB7 := Flow.hide (HB6.out.trans (hh7.mono HB6.out.size))
  revert K7 K67 HQ7 HB7
  clear z7 hh7 K6 HQ6 HB6
  generalize w6.alloc (.cells #[.int .u32 3, .int .u32 4, .int .i64 5, .int .i64 1, .string ⟨#[]⟩, .bool false, .string ⟨#[]⟩, .int .i64 3] 125) = w7
  generalize w6.heap.size = b7
  intro K7 K67 HQ7 HB7
  clear w6
  have r5 := K67.rg
  have r7 := K7.rg
  have ea := eq125a
  have eb := eq125b
  clear K67 K7
  refine Flow.wp_region_all (by kernel_rfl) (by kernel_rfl) ?_
  repeat (first
    | (refine Flow.wpSeg_step (fun K' hK' => ?_)
       go_simp
       first
         | (refine hK' _ ?_; clear hK' K')
         | (apply Exists.intro
            refine ⟨fun p => ?_, hK' _ ?_⟩
            (first | with_reducible exact (call_is 1 1 2 _ (by decide) (by decide)) | with_reducible exact (call_is 3 1 4 _ (by decide) (by decide)) | with_reducible exact (room_below _ _ _ 6 _ (HQ7.out.below (Flow.rg_below _ _)) (by decide) (by decide)))
            clear hK' K')))
  refine Flow.wpSeg_nil ?_
  intro w' hb'
  go_wp2_with fail
  go_ret
  exact ⟨rfl, HB7.out.trans (hb'.mono HB7.out.size)⟩
end Go.Proofs.Ythkphapmnlndbab
