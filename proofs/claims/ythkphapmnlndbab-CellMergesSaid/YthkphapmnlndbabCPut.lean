/- CellMerges's closure: one act put into a cell. -/
import Derived.Test.YthkphapmnlndbabCSpeaks
import Derived.Deep.Cut
namespace Go.Proofs.Ythkphapmnlndbab.CMerges
open Go.RowKit
set_option maxHeartbeats 4000000
set_option linter.unusedSimpArgs false
attribute [local irreducible] Flow.wpSeg Flow.wpF Flow.wpG Flow.wpS
/-- What the calls come to, written out. -/
theorem told_lit (x : Wc) (w : World) : Calls Try.prog 33 #[.agg #[.int .u32 x.n, .int .u8 x.b, .int .u8 x.l, .bool x.has, .bool x.rmw, .string x.text]] w fun e w' => e = .returned (.tuple #[.agg #[.int .u32 x.n, .int .u8 x.b, .int .u8 x.l, .bool x.has, .string x.text, .bool x.rmw], .agg #[.int .u32 x.n, .int .u8 x.b, .int .u8 x.l, .bool x.has, .string x.text, .bool x.rmw, .int .i64 0]]) ∧ Below w.heap.size w w' := told17_any x w
theorem inv_lit (c : Wc) (s : Int) (x : Wc) (w : World) : Calls Try.prog 34 #[.agg #[.int .u32 c.n, .int .u8 c.b, .int .u8 c.l, .bool c.has, .string c.text, .bool c.rmw, .int .i64 s], .agg #[.int .u32 x.n, .int .u8 x.b, .int .u8 x.l, .bool x.has, .string x.text, .bool x.rmw]] w fun e w' => e = .returned (.tuple #[.agg #[.int .u32 (invW c x).n, .int .u8 (invW c x).b, .int .u8 (invW c x).l, .bool (invW c x).has, .string (invW c x).text, .bool (invW c x).rmw, .int .i64 (invS c s x)], .int .i64 (invR c x)]) ∧ Below w.heap.size w w' := inv_any c s x w
theorem rinv_lit (c : Wc) (s : Int) (x : Wc) (w : World) (hc : c.ok) (hx : x.ok) : Calls Try.prog 35 #[.agg #[.int .u32 c.n, .int .u8 c.b, .int .u8 c.l, .bool c.has, .string c.text, .bool c.rmw, .int .i64 s], .agg #[.int .u32 x.n, .int .u8 x.b, .int .u8 x.l, .bool x.has, .string x.text, .bool x.rmw, .int .i64 0]] w fun e w' => e = .returned (.tuple #[.agg #[.int .u32 (invW c x).n, .int .u8 (invW c x).b, .int .u8 (invW c x).l, .bool (invW c x).has, .string (invW c x).text, .bool (invW c x).rmw, .int .i64 (invS c s x)], .int .i64 (invR c x)]) ∧ Below w.heap.size w w' := rinv_any c s x 0 w hc hx
theorem val_lit (c : Wc) (s : Int) (x : Wc) (w : World) : Calls Try.prog 36 #[.agg #[.int .u32 c.n, .int .u8 c.b, .int .u8 c.l, .bool c.has, .string c.text, .bool c.rmw, .int .i64 s], .agg #[.int .u32 x.n, .int .u8 x.b, .int .u8 x.l]] w fun e w' => e = .returned (.tuple #[.agg #[.int .u32 c.n, .int .u8 c.b, .int .u8 c.l, .bool c.has, .string c.text, .bool c.rmw, .int .i64 (valS c s x)], .bool (valR c s x)]) ∧ Below w.heap.size w w' := val_any c s x w
theorem rval_lit (c : Wc) (s : Int) (x : Wc) (w : World) : Calls Try.prog 37 #[.agg #[.int .u32 c.n, .int .u8 c.b, .int .u8 c.l, .bool c.has, .string c.text, .bool c.rmw, .int .i64 s], .agg #[.int .u32 x.n, .int .u8 x.b, .int .u8 x.l]] w fun e w' => e = .returned (.tuple #[.agg #[.int .u32 c.n, .int .u8 c.b, .int .u8 c.l, .bool c.has, .string c.text, .bool c.rmw, .int .i64 (valS c s x)], .bool (valR c s x)]) ∧ Below w.heap.size w w' := rval17_any c s x w
theorem give_lit (c : Wc) (s : Int) (x : Wc) (v : Bool) (w : World) : Calls Try.prog 38 #[.agg #[.int .u32 c.n, .int .u8 c.b, .int .u8 c.l, .bool c.has, .string c.text, .bool c.rmw, .int .i64 s], .agg #[.int .u32 x.n, .int .u8 x.b, .int .u8 x.l, .bool x.has, .string x.text, .bool x.rmw], .bool v] w fun e w' => e = .returned (.tuple #[.agg #[.int .u32 (giveW c s x).n, .int .u8 (giveW c s x).b, .int .u8 (giveW c s x).l, .bool (giveW c s x).has, .string (giveW c s x).text, .bool (giveW c s x).rmw, .int .i64 (giveS c s x v)], .bool (giveR c s x v)]) ∧ Below w.heap.size w w' := give_any c s x v w
theorem rgive_lit (c : Wc) (s : Int) (x : Wc) (v : Bool) (w : World) (hc : c.ok) (hx : x.ok) : Calls Try.prog 39 #[.agg #[.int .u32 c.n, .int .u8 c.b, .int .u8 c.l, .bool c.has, .string c.text, .bool c.rmw, .int .i64 s], .agg #[.int .u32 x.n, .int .u8 x.b, .int .u8 x.l, .bool x.has, .string x.text, .bool x.rmw, .int .i64 0], .bool v] w fun e w' => e = .returned (.tuple #[.agg #[.int .u32 (giveW c s x).n, .int .u8 (giveW c s x).b, .int .u8 (giveW c s x).l, .bool (giveW c s x).has, .string (giveW c s x).text, .bool (giveW c s x).rmw, .int .i64 (giveS c s x v)], .bool (giveR c s x v)]) ∧ Below w.heap.size w w' := rgive_any c s x 0 v w hc hx
set_option maxRecDepth 20000 in
theorem put_inv (c : Wc) (s : Int) (Q : Int) (x : Wc) (V : Bool) (w : World) (hq : (bits BinOp.and IntKind.u8 Q 1 == 0) = true) (hQ : 0 ≤ Q ∧ Q ≤ 255) :
    Calls Try.prog 41 #[.agg #[.int .u32 c.n, .int .u8 c.b, .int .u8 c.l, .bool c.has, .string c.text, .bool c.rmw, .int .i64 s], .agg #[.int .u8 Q, .int .u32 x.n, .int .u8 x.b, .int .u8 x.l, .bool x.has, .bool x.rmw, .string x.text, .bool V]] w fun e w' => e = .returned (.agg #[.int .u32 (invW c x).n, .int .u8 (invW c x).b, .int .u8 (invW c x).l, .bool (invW c x).has, .string (invW c x).text, .bool (invW c x).rmw, .int .i64 (invS c s x)]) ∧ Below w.heap.size w w' := by
  have hxq := hQ
  go_enter Try.func41, Try.ntmps41
  go_wp2_with fail
  (with_reducible refine (told_lit x _).mono ?_)
  rintro e w2 ⟨rfl, hb2⟩
  obtain ⟨k1, k2, k3, hB, hz⟩ := Flow.laid3 hb2
  generalize hwb : w.heap.size = wb at *
  have HWB := Flow.hide hwb
  clear hwb
  have q1 := k1.cell
  have q2 := k2.cell
  have hl1 : wb < w2.heap.size := by omega
  have hl2 : wb + 1 < w2.heap.size := by omega
  have hl3 : wb + 1 + 1 < w2.heap.size := by omega
  have hl1' : wb < w2.heap.size + 1 := by omega
  have hl2' : wb + 1 < w2.heap.size + 1 := by omega
  clear hb2
  go_wp2_with fail
  (with_reducible refine (inv_lit c s x _).mono ?_)
  rintro e w4 ⟨rfl, hb4⟩
  obtain ⟨k5, k6, hB4, hz4⟩ := Flow.laid2 hb4
  have k1' := k1.below hB4
  have k3' := k3.below hB4
  have hB' := hB.trans (hB4.mono (by omega))
  generalize w2.heap.size = xb at *
  clear q1 q2 hb4 hB4 k1 k2 k3 hB k5 k6
  have fc := k1'.frozen
  have q1 := k1'.cell
  have f3 := k3'.frozen
  have q3 := k3'.cell
  have hl4 : wb < w4.heap.size := k1'.lt
  have hl5 : wb + 1 + 1 < w4.heap.size := k3'.lt
  go_upto_region 5 with fail
  obtain ⟨w5, hw5⟩ : ∃ w5, w5 = (((((((w4.setCell ⟨wb, 0, none⟩ (.int .u32 (invW c x).n)).setCell ⟨wb, 1, none⟩ (.int .u8 (invW c x).b)).setCell ⟨wb, 2, none⟩ (.int .u8 (invW c x).l)).setCell ⟨wb, 3, none⟩ (.bool (invW c x).has)).setCell ⟨wb, 4, none⟩ (.string (invW c x).text)).setCell ⟨wb, 5, none⟩ (.bool (invW c x).rmw)).setCell ⟨wb, 6, none⟩ (.int .i64 (invS c s x))) := ⟨_, rfl⟩
  rw [← hw5]
  obtain ⟨k5, c5⟩ := Flow.store7 (b0 := .int .u32 (invW c x).n) (b1 := .int .u8 (invW c x).b) (b2 := .int .u8 (invW c x).l) (b3 := .bool (invW c x).has) (b4 := .string (invW c x).text) (b5 := .bool (invW c x).rmw) (b6 := .int .i64 (invS c s x)) k1'
  rw [← hw5] at k5 c5
  have k3'' := k3'.chg c5 (by omega)
  have hle : wb ≤ w4.heap.size := by omega
  have hB5 := hB'.trans (c5.below (fun j _ e => by omega) hle)
  have hle5 : wb ≤ w5.heap.size := by have := c5.size; omega
  clear hw5 fc q1 f3 q3 hl4 hl5 c5 hB'
  have q5 := k5.cell
  have f5 := k3''.frozen
  have q3 := k3''.cell
  have hl4 : wb < w5.heap.size := k5.lt
  have hl5 : wb + 1 + 1 < w5.heap.size := k3''.lt
  go_wp2_with fail
  obtain ⟨w6, hw6⟩ : ∃ w6, w6 = (((((((w5.setCell ⟨(wb + 1 + 1), 0, none⟩ (.int .u32 (invW c x).n)).setCell ⟨(wb + 1 + 1), 1, none⟩ (.int .u8 (invW c x).b)).setCell ⟨(wb + 1 + 1), 2, none⟩ (.int .u8 (invW c x).l)).setCell ⟨(wb + 1 + 1), 3, none⟩ (.bool (invW c x).has)).setCell ⟨(wb + 1 + 1), 4, none⟩ (.string (invW c x).text)).setCell ⟨(wb + 1 + 1), 5, none⟩ (.bool (invW c x).rmw)).setCell ⟨(wb + 1 + 1), 6, none⟩ (.int .i64 (invS c s x))) := ⟨_, rfl⟩
  rw [← hw6]
  obtain ⟨k6, c6⟩ := Flow.store7 (b0 := .int .u32 (invW c x).n) (b1 := .int .u8 (invW c x).b) (b2 := .int .u8 (invW c x).l) (b3 := .bool (invW c x).has) (b4 := .string (invW c x).text) (b5 := .bool (invW c x).rmw) (b6 := .int .i64 (invS c s x)) k3''
  rw [← hw6] at k6 c6
  have q6 := k6.cell
  exact bodyPost_ret (v := .agg #[.int .u32 (invW c x).n, .int .u8 (invW c x).b, .int .u8 (invW c x).l, .bool (invW c x).has, .string (invW c x).text, .bool (invW c x).rmw, .int .i64 (invS c s x)]) (by simp [results, Try.results41, go_sem, q6]) rfl ⟨rfl, by rw [HWB.out]; exact hB5.trans (c6.below (fun j _ e => by omega) hle5)⟩
set_option maxRecDepth 20000 in
theorem put_give (c : Wc) (s : Int) (Q : Int) (x : Wc) (V : Bool) (w : World) (hq : (bits BinOp.and IntKind.u8 Q 1 == 0) = false) (hQ : 0 ≤ Q ∧ Q ≤ 255) :
    Calls Try.prog 41 #[.agg #[.int .u32 c.n, .int .u8 c.b, .int .u8 c.l, .bool c.has, .string c.text, .bool c.rmw, .int .i64 s], .agg #[.int .u8 Q, .int .u32 x.n, .int .u8 x.b, .int .u8 x.l, .bool x.has, .bool x.rmw, .string x.text, .bool V]] w fun e w' => e = .returned (.agg #[.int .u32 (giveW c s x).n, .int .u8 (giveW c s x).b, .int .u8 (giveW c s x).l, .bool (giveW c s x).has, .string (giveW c s x).text, .bool (giveW c s x).rmw, .int .i64 (giveS c s x V)]) ∧ Below w.heap.size w w' := by
  have hxq := hQ
  go_enter Try.func41, Try.ntmps41
  go_wp2_with fail
  (with_reducible refine (told_lit x _).mono ?_)
  rintro e w2 ⟨rfl, hb2⟩
  obtain ⟨k1, k2, k3, hB, hz⟩ := Flow.laid3 hb2
  generalize hwb : w.heap.size = wb at *
  have HWB := Flow.hide hwb
  clear hwb
  have q1 := k1.cell
  have q2 := k2.cell
  have hl1 : wb < w2.heap.size := by omega
  have hl2 : wb + 1 < w2.heap.size := by omega
  have hl3 : wb + 1 + 1 < w2.heap.size := by omega
  have hl1' : wb < w2.heap.size + 1 := by omega
  have hl2' : wb + 1 < w2.heap.size + 1 := by omega
  clear hb2
  go_wp2_with fail
  (with_reducible refine (give_lit c s x V _).mono ?_)
  rintro e w4 ⟨rfl, hb4⟩
  obtain ⟨k5, k6, hB4, hz4⟩ := Flow.laid2 hb4
  have k1' := k1.below hB4
  have k3' := k3.below hB4
  have hB' := hB.trans (hB4.mono (by omega))
  generalize w2.heap.size = xb at *
  clear q1 q2 hb4 hB4 k1 k2 k3 hB k5 k6
  have fc := k1'.frozen
  have q1 := k1'.cell
  have f3 := k3'.frozen
  have q3 := k3'.cell
  have hl4 : wb < w4.heap.size := k1'.lt
  have hl5 : wb + 1 + 1 < w4.heap.size := k3'.lt
  go_upto_region 5 with fail
  obtain ⟨w5, hw5⟩ : ∃ w5, w5 = (((((((w4.setCell ⟨wb, 0, none⟩ (.int .u32 (giveW c s x).n)).setCell ⟨wb, 1, none⟩ (.int .u8 (giveW c s x).b)).setCell ⟨wb, 2, none⟩ (.int .u8 (giveW c s x).l)).setCell ⟨wb, 3, none⟩ (.bool (giveW c s x).has)).setCell ⟨wb, 4, none⟩ (.string (giveW c s x).text)).setCell ⟨wb, 5, none⟩ (.bool (giveW c s x).rmw)).setCell ⟨wb, 6, none⟩ (.int .i64 (giveS c s x V))) := ⟨_, rfl⟩
  rw [← hw5]
  obtain ⟨k5, c5⟩ := Flow.store7 (b0 := .int .u32 (giveW c s x).n) (b1 := .int .u8 (giveW c s x).b) (b2 := .int .u8 (giveW c s x).l) (b3 := .bool (giveW c s x).has) (b4 := .string (giveW c s x).text) (b5 := .bool (giveW c s x).rmw) (b6 := .int .i64 (giveS c s x V)) k1'
  rw [← hw5] at k5 c5
  have k3'' := k3'.chg c5 (by omega)
  have hle : wb ≤ w4.heap.size := by omega
  have hB5 := hB'.trans (c5.below (fun j _ e => by omega) hle)
  have hle5 : wb ≤ w5.heap.size := by have := c5.size; omega
  clear hw5 fc q1 f3 q3 hl4 hl5 c5 hB'
  have q5 := k5.cell
  have f5 := k3''.frozen
  have q3 := k3''.cell
  have hl4 : wb < w5.heap.size := k5.lt
  have hl5 : wb + 1 + 1 < w5.heap.size := k3''.lt
  go_wp2_with fail
  obtain ⟨w6, hw6⟩ : ∃ w6, w6 = (((((((w5.setCell ⟨(wb + 1 + 1), 0, none⟩ (.int .u32 (giveW c s x).n)).setCell ⟨(wb + 1 + 1), 1, none⟩ (.int .u8 (giveW c s x).b)).setCell ⟨(wb + 1 + 1), 2, none⟩ (.int .u8 (giveW c s x).l)).setCell ⟨(wb + 1 + 1), 3, none⟩ (.bool (giveW c s x).has)).setCell ⟨(wb + 1 + 1), 4, none⟩ (.string (giveW c s x).text)).setCell ⟨(wb + 1 + 1), 5, none⟩ (.bool (giveW c s x).rmw)).setCell ⟨(wb + 1 + 1), 6, none⟩ (.int .i64 (giveS c s x V))) := ⟨_, rfl⟩
  rw [← hw6]
  obtain ⟨k6, c6⟩ := Flow.store7 (b0 := .int .u32 (giveW c s x).n) (b1 := .int .u8 (giveW c s x).b) (b2 := .int .u8 (giveW c s x).l) (b3 := .bool (giveW c s x).has) (b4 := .string (giveW c s x).text) (b5 := .bool (giveW c s x).rmw) (b6 := .int .i64 (giveS c s x V)) k3''
  rw [← hw6] at k6 c6
  have q6 := k6.cell
  exact bodyPost_ret (v := .agg #[.int .u32 (giveW c s x).n, .int .u8 (giveW c s x).b, .int .u8 (giveW c s x).l, .bool (giveW c s x).has, .string (giveW c s x).text, .bool (giveW c s x).rmw, .int .i64 (giveS c s x V)]) (by simp [results, Try.results41, go_sem, q6]) rfl ⟨rfl, by rw [HWB.out]; exact hB5.trans (c6.below (fun j _ e => by omega) hle5)⟩
end Go.Proofs.Ythkphapmnlndbab.CMerges
