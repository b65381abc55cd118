/- LeasePlays: for every pair of numbers and every list of acts the law returns true and leaves its arguments as they were. No condition. -/
import Derived.Test.YthkphapmnlndbaaRows
import Derived.Test.YthkphapmnlndbaaLease4
import Derived.Test.YthkphapmnlndbaaLEnds
namespace Go.Proofs.Ythkphapmnlndbaa.LPlays
open Go.ChangeShapes Go.WideShapes Go.ChangeAt Go.RowKit LEnds
set_option maxHeartbeats 4000000
set_option linter.unusedSimpArgs false
attribute [local irreducible] Flow.wpSeg Flow.wpF Flow.wpG Flow.wpS

/-! ### The plain law -/
structure PInv (k : Nat) (s : Hs) (oe oa : Int) : Prop where
  hold : 1 ≤ s.hold ∧ s.hold ≤ 1000
  renew : 0 ≤ s.renew ∧ s.renew ≤ 1000
  now : 0 ≤ s.now ∧ s.now ≤ k
  made : 0 ≤ s.made ∧ s.made ≤ k
  req : ∀ r, s.req = some r → 0 ≤ r.at_ ∧ r.at_ ≤ s.now ∧ 1 ≤ r.num ∧ r.num ≤ s.made ∧ oe = r.ep ∧ oa = r.at_
  fin : 0 ≤ s.fin ∧ s.fin ≤ s.now + 1000
  oa : 0 ≤ oa ∧ oa ≤ k
section
variable {k : Nat} {s : Hs} {oe oa : Int}
theorem PInv.bnd (h : PInv k s oe oa) (hk : k ≤ 81) : Bnd s := by
  have h3 := h.now; have h4 := h.made; have h5 := h.fin
  exact ⟨h.hold, h.renew, by omega, by omega, fun r e => let ⟨a, b, c, d, _⟩ := h.req r e; ⟨a, b, c, d⟩, by omega⟩
theorem PInv.more (h : PInv k s oe oa) : PInv (k + 1) s oe oa :=
  ⟨h.hold, h.renew, by have := h.now; omega, by have := h.made; omega, h.req, h.fin, by have := h.oa; omega⟩
theorem PInv.tick (h : PInv k s oe oa) : PInv (k + 1) { s with now := s.now + 1 } oe oa := by
  have h3 := h.now; have h4 := h.made; have h5 := h.fin; have h6 := h.oa
  exact ⟨h.hold, h.renew, by show 0 ≤ s.now + 1 ∧ s.now + 1 ≤ ((k + 1 : Nat) : Int); omega, by show 0 ≤ s.made ∧ s.made ≤ ((k + 1 : Nat) : Int); omega, fun r e => let ⟨a, b, c, d, e'⟩ := h.req r e; ⟨a, by show r.at_ ≤ s.now + 1; omega, c, d, e'⟩, by show 0 ≤ s.fin ∧ s.fin ≤ s.now + 1 + 1000; omega, by omega⟩
theorem PInv.void (h : PInv k s oe oa) : PInv (k + 1) { s with req := none, fin := s.now } oe oa := by
  have h3 := h.now; have h4 := h.made; have h5 := h.fin; have h6 := h.oa
  exact ⟨h.hold, h.renew, by show 0 ≤ s.now ∧ s.now ≤ ((k + 1 : Nat) : Int); omega, by show 0 ≤ s.made ∧ s.made ≤ ((k + 1 : Nat) : Int); omega, (fun r e => by cases e), by show 0 ≤ s.now ∧ s.now ≤ s.now + 1000; omega, by omega⟩
theorem PInv.ask (h : PInv k s oe oa) (b : Nat) (ep : Int) : PInv (k + 1) { s with made := s.made + 1, req := some ⟨b, s.made + 1, ep, s.now⟩ } ep s.now := by
  have h3 := h.now; have h4 := h.made; have h5 := h.fin; have h6 := h.oa
  refine ⟨h.hold, h.renew, by show 0 ≤ s.now ∧ s.now ≤ ((k + 1 : Nat) : Int); omega, by show 0 ≤ s.made + 1 ∧ s.made + 1 ≤ ((k + 1 : Nat) : Int); omega, fun r e => ?_, h.fin, by omega⟩
  cases e
  exact ⟨h3.1, Int.le_refl _, by show 1 ≤ s.made + 1; omega, Int.le_refl _, rfl, rfl⟩
theorem PInv.grant (h : PInv k s oe oa) (r : Rq) (hr : s.req = some r) : PInv (k + 1) { s with req := none, epoch := r.ep, fin := r.at_ + s.hold } oe oa := by
  have h3 := h.now; have h4 := h.made; have h5 := h.fin; have h6 := h.oa; have h7 := h.hold
  obtain ⟨a, b, _⟩ := h.req r hr
  exact ⟨h.hold, h.renew, by show 0 ≤ s.now ∧ s.now ≤ ((k + 1 : Nat) : Int); omega, by show 0 ≤ s.made ∧ s.made ≤ ((k + 1 : Nat) : Int); omega, (fun r e => by cases e), by show 0 ≤ r.at_ + s.hold ∧ r.at_ + s.hold ≤ s.now + 1000; omega, by omega⟩
theorem left_iff (s : Hs) (ep : Int) (hr : 0 ≤ s.renew) : s.renew < leftOf s ep ↔ s.epoch = ep ∧ s.now + s.renew < s.fin := by
  unfold leftOf
  split
  · rename_i h; omega
  · rename_i h; simp [h]; omega
theorem PInv.due (h : PInv k s oe oa) (ep : Int) : due s ep = true ↔ ¬ (reqOf s ≠ 0 ∧ s.now - oa < s.hold) ∧ ¬ (s.epoch = ep ∧ s.now + s.renew < s.fin) := by
  have hl := left_iff s ep h.renew.1
  unfold Go.Proofs.Ythkphapmnlndbaa.due reqOf
  cases hr : s.req with
  | none => by_cases hA : s.epoch = ep <;> simp [hl, hA]
  | some r =>
    obtain ⟨a, b, c, d, e, f⟩ := h.req r hr
    subst f
    have : r.num ≠ 0 := by omega
    by_cases hA : s.epoch = ep <;> simp [hl, this, hA]
theorem PInv.grants (h : PInv k s oe oa) (ep rq : Int) (hg : grants s ep rq = false) : reqOf s = 0 ∨ reqOf s ≠ rq ∨ oe ≠ ep := by
  unfold Go.Proofs.Ythkphapmnlndbaa.grants at hg
  unfold reqOf
  cases hr : s.req with
  | none => exact .inl rfl
  | some r =>
    obtain ⟨a, b, c, d, e, f⟩ := h.req r hr
    rw [hr] at hg
    simp only [decide_eq_false_iff_not] at hg
    subst e
    by_cases h1 : r.num = rq
    · exact .inr (.inr (fun h2 => hg ⟨h1, h2⟩))
    · exact .inr (.inl h1)
theorem grants_some (s : Hs) (ep rq : Int) (hg : grants s ep rq = true) : ∃ r, s.req = some r ∧ r.num = rq ∧ r.ep = ep := by
  unfold Go.Proofs.Ythkphapmnlndbaa.grants at hg
  cases hr : s.req with
  | none => rw [hr] at hg; cases hg
  | some r => rw [hr] at hg; exact ⟨r, rfl, by simpa using hg⟩
end

/-! ### The walk -/
theorem rholds_q {s : Hs} {oe oa ep : Int} {w : World} (p : Flow.Rg) : Calls Try.prog 45 #[.agg #[.int .i64 s.hold, .int .i64 s.renew, .int .i64 s.now, .int .u32 s.made, .int .u32 (reqOf s), .int .u32 oe, .int .i64 oa, .int .u32 s.epoch, .int .i64 s.fin], .int .u32 ep] (Flow.rg w p) fun e w' => e = .returned (.bool (holdsOf s ep)) ∧ Below (Flow.rg w p).heap.size (Flow.rg w p) w' :=
  rholds_any s oe oa ep _
theorem holds_q {h : Nat} {s : Hs} {ep : Int} {w : World} (H : IsH w h s) (hb : Bnd s) (p : Flow.Rg) : Calls Try.prog 41 #[hp h, .int .u32 ep] (Flow.rg w p) fun e w' => e = .returned (.bool (holdsOf s ep)) ∧ Below (Flow.rg w p).heap.size (Flow.rg w p) w' :=
  holds_any h s ep _ (H.below (Flow.rg_below w p)) hb
theorem req_q {h : Nat} {s : Hs} {w : World} (H : IsH w h s) (p : Flow.Rg) : Calls Try.prog 38 #[hp h] (Flow.rg w p) fun e w' => e = .returned (.int .u32 (reqOf s)) ∧ Below (Flow.rg w p).heap.size (Flow.rg w p) w' :=
  request_q (H.below (Flow.rg_below w p))
theorem rask_no' (s : Hs) (oe oa ep : Int) (w : World) (h : (reqOf s ≠ 0 ∧ s.now - oa < s.hold) ∨ (s.epoch = ep ∧ s.now + s.renew < s.fin)) (hb : 0 ≤ oa ∧ oa ≤ 200000) (hn : 0 ≤ s.now ∧ s.now ≤ 200000) (hr : 0 ≤ s.renew ∧ s.renew ≤ 200000) :
    Calls Try.prog 42 #[.agg #[.int .i64 s.hold, .int .i64 s.renew, .int .i64 s.now, .int .u32 s.made, .int .u32 (reqOf s), .int .u32 oe, .int .i64 oa, .int .u32 s.epoch, .int .i64 s.fin], .int .u32 ep] w fun e w' => e = .returned (.tuple #[.agg #[.int .i64 s.hold, .int .i64 s.renew, .int .i64 s.now, .int .u32 s.made, .int .u32 (reqOf s), .int .u32 oe, .int .i64 oa, .int .u32 s.epoch, .int .i64 s.fin], .bool false]) ∧ Below w.heap.size w w' := rask_no s oe oa ep w h hb hn hr
theorem rask_yes' (s : Hs) (oe oa ep : Int) (w : World) (h : ¬ (reqOf s ≠ 0 ∧ s.now - oa < s.hold)) (h' : ¬ (s.epoch = ep ∧ s.now + s.renew < s.fin)) (hb : 0 ≤ oa ∧ oa ≤ 200000) (hn : 0 ≤ s.now ∧ s.now ≤ 200000) (hr : 0 ≤ s.renew ∧ s.renew ≤ 200000) (hm : 0 ≤ s.made ∧ s.made ≤ 200000) :
    Calls Try.prog 42 #[.agg #[.int .i64 s.hold, .int .i64 s.renew, .int .i64 s.now, .int .u32 s.made, .int .u32 (reqOf s), .int .u32 oe, .int .i64 oa, .int .u32 s.epoch, .int .i64 s.fin], .int .u32 ep] w fun e w' => e = .returned (.tuple #[.agg #[.int .i64 s.hold, .int .i64 s.renew, .int .i64 s.now, .int .u32 (s.made + 1), .int .u32 (s.made + 1), .int .u32 ep, .int .i64 s.now, .int .u32 s.epoch, .int .i64 s.fin], .bool true]) ∧ Below w.heap.size w w' := rask_yes s oe oa ep 0 w h h' hb hn hr hm
theorem rgrant_no' (s : Hs) (oe oa ep rq : Int) (w : World) (h : reqOf s = 0 ∨ reqOf s ≠ rq ∨ oe ≠ ep) :
    Calls Try.prog 43 #[.agg #[.int .i64 s.hold, .int .i64 s.renew, .int .i64 s.now, .int .u32 s.made, .int .u32 (reqOf s), .int .u32 oe, .int .i64 oa, .int .u32 s.epoch, .int .i64 s.fin], .int .u32 ep, .int .u32 rq] w fun e w' => e = .returned (.tuple #[.agg #[.int .i64 s.hold, .int .i64 s.renew, .int .i64 s.now, .int .u32 s.made, .int .u32 (reqOf s), .int .u32 oe, .int .i64 oa, .int .u32 s.epoch, .int .i64 s.fin], .bool false]) ∧ Below w.heap.size w w' := rgrant_no s oe oa ep rq w h
theorem rgrant_yes' (s : Hs) (oe oa ep rq : Int) (w : World) (h0 : reqOf s ≠ 0) (h1 : reqOf s = rq) (h2 : oe = ep) (hb : 0 ≤ oa ∧ oa ≤ 200000) (hh : 0 ≤ s.hold ∧ s.hold ≤ 200000) :
    Calls Try.prog 43 #[.agg #[.int .i64 s.hold, .int .i64 s.renew, .int .i64 s.now, .int .u32 s.made, .int .u32 (reqOf s), .int .u32 oe, .int .i64 oa, .int .u32 s.epoch, .int .i64 s.fin], .int .u32 ep, .int .u32 rq] w fun e w' => e = .returned (.tuple #[.agg #[.int .i64 s.hold, .int .i64 s.renew, .int .i64 s.now, .int .u32 s.made, .int .u32 0, .int .u32 oe, .int .i64 oa, .int .u32 ep, .int .i64 (oa + s.hold)], .bool true]) ∧ Below w.heap.size w w' := rgrant_yes s oe oa ep rq w h0 h1 h2 hb hh
theorem bne_self (b : Bool) : (b != b) = false := by cases b <;> rfl
theorem bne_int (b : Int) : (b != b) = false := by simp
theorem set_is {w : World} {g : Nat} {t : TypeId} {cs cs' : Array Value} (h : Flow.Blk w g t cs) (i : Nat) (u : Value) (e : cs.setIfInBounds i u = cs') : Flow.Blk (w.setCell ⟨g, i, none⟩ u) g t cs' := e ▸ h.set i u
theorem store9 {w : World} {g : Nat} {t : TypeId} {a0 a1 a2 a3 a4 a5 a6 a7 a8 b0 b1 b2 b3 b4 b5 b6 b7 b8 : Value} (h : Flow.Blk w g t #[a0, a1, a2, a3, a4, a5, a6, a7, a8]) :
    Flow.Blk (((((((((w.setCell ⟨g, 0, none⟩ b0).setCell ⟨g, 1, none⟩ b1).setCell ⟨g, 2, none⟩ b2).setCell ⟨g, 3, none⟩ b3).setCell ⟨g, 4, none⟩ b4).setCell ⟨g, 5, none⟩ b5).setCell ⟨g, 6, none⟩ b6).setCell ⟨g, 7, none⟩ b7).setCell ⟨g, 8, none⟩ b8) g t #[b0, b1, b2, b3, b4, b5, b6, b7, b8] ∧
    Flow.Chg (· = g) w (((((((((w.setCell ⟨g, 0, none⟩ b0).setCell ⟨g, 1, none⟩ b1).setCell ⟨g, 2, none⟩ b2).setCell ⟨g, 3, none⟩ b3).setCell ⟨g, 4, none⟩ b4).setCell ⟨g, 5, none⟩ b5).setCell ⟨g, 6, none⟩ b6).setCell ⟨g, 7, none⟩ b7).setCell ⟨g, 8, none⟩ b8) := by
  refine ⟨?_, ?_⟩
  · have h0 := set_is h 0 b0 (cs' := #[b0, a1, a2, a3, a4, a5, a6, a7, a8]) rfl
    have h1 := set_is h0 1 b1 (cs' := #[b0, b1, a2, a3, a4, a5, a6, a7, a8]) rfl
    have h2 := set_is h1 2 b2 (cs' := #[b0, b1, b2, a3, a4, a5, a6, a7, a8]) rfl
    have h3 := set_is h2 3 b3 (cs' := #[b0, b1, b2, b3, a4, a5, a6, a7, a8]) rfl
    have h4 := set_is h3 4 b4 (cs' := #[b0, b1, b2, b3, b4, a5, a6, a7, a8]) rfl
    have h5 := set_is h4 5 b5 (cs' := #[b0, b1, b2, b3, b4, b5, a6, a7, a8]) rfl
    have h6 := set_is h5 6 b6 (cs' := #[b0, b1, b2, b3, b4, b5, b6, a7, a8]) rfl
    have h7 := set_is h6 7 b7 (cs' := #[b0, b1, b2, b3, b4, b5, b6, b7, a8]) rfl
    have h8 := set_is h7 8 b8 (cs' := #[b0, b1, b2, b3, b4, b5, b6, b7, b8]) rfl
    exact h8
  · refine Flow.Chg.setCell (S := (· = g)) (p := ⟨g, 8, none⟩) ?_ (fun _ => rfl) _
    refine Flow.Chg.setCell (S := (· = g)) (p := ⟨g, 7, none⟩) ?_ (fun _ => rfl) _
    refine Flow.Chg.setCell (S := (· = g)) (p := ⟨g, 6, none⟩) ?_ (fun _ => rfl) _
    refine Flow.Chg.setCell (S := (· = g)) (p := ⟨g, 5, none⟩) ?_ (fun _ => rfl) _
    refine Flow.Chg.setCell (S := (· = g)) (p := ⟨g, 4, none⟩) ?_ (fun _ => rfl) _
    refine Flow.Chg.setCell (S := (· = g)) (p := ⟨g, 3, none⟩) ?_ (fun _ => rfl) _
    refine Flow.Chg.setCell (S := (· = g)) (p := ⟨g, 2, none⟩) ?_ (fun _ => rfl) _
    refine Flow.Chg.setCell (S := (· = g)) (p := ⟨g, 1, none⟩) ?_ (fun _ => rfl) _
    refine Flow.Chg.setCell (S := (· = g)) (p := ⟨g, 0, none⟩) ?_ (fun _ => rfl) _
    exact Flow.Chg.refl _ _
set_option maxRecDepth 100000 in
theorem walk (hold renew : Int) (AA : Option Addr) (len cap : Nat) (q ep rq : Nat → Int) (w : World) (hl : len ≤ maxLen) (hacts : Acts w.heap.size w AA len q ep rq) :
    Calls Try.prog 10 #[.int .i64 hold, .int .i64 renew, .slice AA len cap] w fun e w' => e = .returned (.bool true) ∧ Below w.heap.size w w' := by
  unfold maxLen at hl
  have HA := Flow.hide hacts
  clear hacts
  go_enter Try.func10, Try.ntmps10
  go_wp2_with fail
  refine (speaks21 _).mono ?_
  rintro e w1 ⟨rfl, b1⟩
  go_wp2_with fail
  (with_reducible refine (new_any _ _ _).mono ?_)
  rintro e w2 ⟨rfl, hw2⟩
  have HW2 := Flow.hide hw2
  clear hw2
  have t1 : hold.tmod 1000 < 1000 := Int.tmod_lt_of_pos _ (by decide)
  have t2 : renew.tmod 1000 < 1000 := Int.tmod_lt_of_pos _ (by decide)
  generalize hold.tmod 1000 = hd at *
  generalize renew.tmod 1000 = rn at *
  obtain ⟨s0, hs0⟩ : ∃ s0 : Hs, s0 = ⟨max hd 1, max rn 0, 0, 0, none, 0, 0⟩ := ⟨_, rfl⟩
  obtain ⟨mh, hmh⟩ : ∃ x, x = max hd 1 := ⟨_, rfl⟩
  obtain ⟨mr, hmr⟩ : ∃ x, x = max rn 0 := ⟨_, rfl⟩
  have i1 : (if hd < 1 then 1 else hd) = mh := by rw [hmh]; split <;> omega
  have i2 : (if rn < 0 then 0 else rn) = mr := by rw [hmr]; split <;> omega
  go_wp2_with fail
  have HM := Flow.hide hmh
  have HR := Flow.hide hmr
  rw [← hmh, ← hmr]
  clear hmh hmr i1 i2
  rw [show max hd 1 = mh from HM.out.symm, show max rn 0 = mr from HR.out.symm] at HW2
  have m1 : 1 ≤ mh ∧ mh ≤ 1000 := by have := HM.out; omega
  have m2 : 0 ≤ mr ∧ mr ≤ 1000 := by have := HR.out; omega
  obtain ⟨h, hh'⟩ : ∃ h, h = w1.heap.size := ⟨_, rfl⟩
  obtain ⟨mb, hmb⟩ : ∃ m, m = w2.heap.size := ⟨_, rfl⟩
  obtain ⟨w3, hw3⟩ : ∃ w3, w3 = w2.alloc (.cells (mcells ⟨mh, mr, 0, 0, none, 0, 0⟩ 0 0) 69) := ⟨_, rfl⟩
  have hwh : w.heap.size ≤ h := by rw [hh']; exact b1.size
  have hhb : h < mb := by rw [hmb, HW2.out, hh']; simp
  have H2 : IsH w2 h ⟨mh, mr, 0, 0, none, 0, 0⟩ := by rw [HW2.out, hh']; exact ⟨Flow.Blk.new _ _ _, fun _ e => by cases e⟩
  have H3 : IsH w3 h ⟨mh, mr, 0, 0, none, 0, 0⟩ := H2.below (by rw [hw3]; exact Flow.below_alloc _ _)
  have M3 : Flow.Blk w3 mb 69 (mcells ⟨mh, mr, 0, 0, none, 0, 0⟩ 0 0) := by rw [hw3, hmb]; exact Flow.Blk.new _ _ _
  have b3 : Below w.heap.size w w3 := by
    have b2 : Below w.heap.size w w2 := by rw [HW2.out]; exact b1.alloc b1.size _
    rw [hw3]; exact b2.alloc b2.size _
  have I3 : PInv 0 ⟨mh, mr, 0, 0, none, 0, 0⟩ 0 0 := ⟨m1, m2, by simp, by simp, (fun _ e => by cases e), by simp, by simp⟩
  rw [show w2.alloc (Obj.cells #[.int .i64 mh, .int .i64 mr, .int .i64 0, .int .u32 0, .int .u32 0, .int .u32 0, .int .i64 0, .int .u32 0, .int .i64 0] 69) = w3 from hw3.symm, show w1.heap.size = h from hh'.symm, show w2.heap.size = mb from hmb.symm]
  have HH3 := Flow.hide H3
  have HM3 := Flow.hide M3
  have HB3 := Flow.hide b3
  have HI3 := Flow.hide I3
  clear hh' hmb hw3 H2 H3 M3 b3 I3 HW2 b1 HM HR
  go_loopw [9] (fun t9 wr => ∃ (k : Nat) (s : Hs) (oe oa : Int), k ≤ len ∧ k ≤ 80 ∧ t9 = .int .i64 k ∧ PInv k s oe oa ∧ IsH wr h s ∧ Flow.Blk wr mb 69 (mcells s oe oa) ∧ (∀ r, s.req = some r → mb < r.blk) ∧ Below w.heap.size w wr) (fun t9 _ => len - (intOf t9).toNat)
  case atStart => exact ⟨0, _, 0, 0, by omega, by omega, rfl, HI3.out, HH3.out, HM3.out, (fun _ e => by cases e), HB3.out⟩
  case round =>
    obtain ⟨k, s, oe, oa, hk, hk80, rfl, I0, H0, M0, K0, B0⟩ := hrel
    have I := Flow.hide I0
    have H := Flow.hide H0
    have M := Flow.hide M0
    have K := Flow.hide K0
    have BW := Flow.hide B0
    clear HI3 HH3 HM3 HB3 I0 H0 M0 K0 B0
    by_cases hlt : k < len ∧ k < 80
    · obtain ⟨hlt, hlt80⟩ := hlt
      obtain ⟨ab, aoff, rfl, hab, hcells⟩ := HA.out (by omega)
      obtain ⟨x0, x1, x2, xq, xe, xr⟩ := hcells k hlt
      rw [← BW.out.cell (p := ⟨ab, _, none⟩) hab] at x0 x1 x2
      generalize q k = Q at *
      generalize ep k = EP at *
      generalize rq k = RQ at *
      clear hcells
      have bnd := I.out.bnd (by omega)
      have hnow := I.out.now
      have hmade := I.out.made
      have hoa := I.out.oa
      have hhold := I.out.hold
      have hren := I.out.renew
      by_cases hq2 : Q % 6 = 2
      · have q1 : (Q % 6 == 2) = true := by simp [hq2]
        clear hq2
        have hdue := I.out.due EP
        rcases hd : due s EP with _ | _
        · have hno : (reqOf s ≠ 0 ∧ s.now - oa < s.hold) ∨ (s.epoch = EP ∧ s.now + s.renew < s.fin) := by
            rw [hd] at hdue
            by_cases h1 : reqOf s ≠ 0 ∧ s.now - oa < s.hold
            · exact .inl h1
            · by_cases h2 : s.epoch = EP ∧ s.now + s.renew < s.fin
              · exact .inr h2
              · exact absurd (hdue.2 ⟨h1, h2⟩) (by decide)
          have Hno := Flow.hide hno
          clear hdue hno
          go_wp2_with fail
          (with_reducible refine (ask_no h s EP _ (H.out.below (Flow.below_alloc _ _)) bnd hd).mono ?_)
          rintro e w4 ⟨rfl, c4b⟩
          have H4 : IsH w4 h s := (H.out.below (Flow.below_alloc _ _)).below c4b
          have c4 := (Flow.Chg.of_below c4b).mono (T := (· = h)) (fun _ _ e => e.elim)
          clear c4b hd
          have c4' : Flow.Chg (· = h) wr w4 := (Flow.Chg.of_below (Flow.below_alloc wr _)).mono (fun _ _ e => e.elim) |>.trans c4 (fun _ _ e => e)
          have K4 : Flow.Blk w4 wr.heap.size 63 #[.int .u8 Q, .int .u32 EP, .int .u32 RQ] := (Flow.Blk.new wr 63 _).chg c4 (by have := H.out.1.lt; omega)
          have M4 : Flow.Blk w4 mb 69 (mcells s oe oa) := M.out.chg c4' (by omega)
          have B4 : Below w.heap.size w w4 := Flow.Chg.onto BW.out c4' (fun j e => by omega) BW.out.size
          have hxb : mb < wr.heap.size := M.out.lt
          have hsz4 : wr.heap.size < w4.heap.size := K4.lt
          generalize wr.heap.size = xb at *
          have cx := K4.cell
          clear c4 c4' H M BW x0 x1 x2
          have cm := M4.cell
          simp only [mcells] at cm
          go_wp2_with fail
          (with_reducible refine (rask_no' s oe oa EP _ Hno.out (by omega) (by omega) (by omega)).mono ?_)
          rintro e w5 ⟨rfl, hb5⟩
          have M5 := M4.below hb5
          have fm := M5.frozen
          have cm5 := M5.cell
          simp only [mcells] at cm5
          clear cm
          go_wp2_with fail
          obtain ⟨w6, hw6⟩ : ∃ w6, w6 = (((((((((w5.setCell ⟨mb, 0, none⟩ (.int .i64 s.hold)).setCell ⟨mb, 1, none⟩ (.int .i64 s.renew)).setCell ⟨mb, 2, none⟩ (.int .i64 s.now)).setCell ⟨mb, 3, none⟩ (.int .u32 s.made)).setCell ⟨mb, 4, none⟩ (.int .u32 (reqOf s))).setCell ⟨mb, 5, none⟩ (.int .u32 oe)).setCell ⟨mb, 6, none⟩ (.int .i64 oa)).setCell ⟨mb, 7, none⟩ (.int .u32 s.epoch)).setCell ⟨mb, 8, none⟩ (.int .i64 s.fin)) := ⟨_, rfl⟩
          rw [← hw6]
          obtain ⟨M6', c6'⟩ := store9 (b0 := .int .i64 s.hold) (b1 := .int .i64 s.renew) (b2 := .int .i64 s.now) (b3 := .int .u32 s.made) (b4 := .int .u32 (reqOf s)) (b5 := .int .u32 oe) (b6 := .int .i64 oa) (b7 := .int .u32 s.epoch) (b8 := .int .i64 s.fin) M5
          rw [← hw6] at M6' c6'
          have M6 : Flow.Blk w6 mb 69 (mcells s oe oa) := M6'
          have c6 : Flow.Chg (· = mb) w4 w6 := ((Flow.Chg.of_below hb5).mono (fun _ _ e => e.elim)).trans c6' (fun _ _ e => e)
          have H6 : IsH w6 h s := H4.chg c6 (by omega) (fun r e => by have := K.out r e; omega)
          have I6 := I.out.more
          have K6 : ∀ r, (s : Hs).req = some r → mb < r.blk := K.out
          clear hw6 hb5 M5 M6' c6' cm5
          have B6 : Below w.heap.size w w6 := Flow.Chg.onto B4 c6 (fun j e => by omega) B4.size
          have Kx : Flow.Blk w6 xb 63 #[.int .u8 Q, .int .u32 EP, .int .u32 RQ] := K4.chg c6 (by omega)
          obtain ⟨s1, hs1⟩ : ∃ s1 : Hs, s1 = s := ⟨_, rfl⟩
          obtain ⟨oe1, ho1⟩ : ∃ x : Int, x = oe := ⟨_, rfl⟩
          obtain ⟨oa1, ho2⟩ : ∃ x : Int, x = oa := ⟨_, rfl⟩
          have HS : Hid (IsH w6 h s1) := by rw [hs1]; exact H6
          have HM : Hid (Flow.Blk w6 mb 69 (mcells s1 oe1 oa1)) := by rw [hs1, ho1, ho2]; exact M6
          have I1 : PInv (k + 1) s1 oe1 oa1 := by rw [hs1, ho1, ho2]; exact I6
          have HK : Hid (∀ r, s1.req = some r → mb < r.blk) := by rw [hs1]; exact K6
          have HB := Flow.hide B6
          clear I
          have I := Flow.hide I1
          clear hs1 ho1 ho2 H6 M6 I6 K6 I1 B6 c6 B4 K4 M4 H4 K fm cx bnd
          have bnd := I.out.bnd (by omega)
          have rx := Kx.rg
          have rm := HM.out.rg
          simp only [mcells] at rm
          have n1 := bne_int (reqOf s1)
          have n2 := bne_self (holdsOf s1 EP)
          have n3 := bne_self (holdsOf s1 1)
          refine Flow.wp_region_all (by kernel_rfl) (by kernel_rfl) ?_
          repeat (first
            | (refine Flow.wpSeg_step (fun K' hK' => ?_)
               go_simp
               first
                 | (refine hK' _ ?_; clear hK' K')
                 | (apply Exists.intro
                    refine ⟨fun p => ?_, hK' _ ?_⟩
                    (first | with_reducible exact (req_q HS.out p) | with_reducible exact (holds_q HS.out bnd p) | with_reducible exact (rholds_q p))
                    clear hK' K')))
          refine Flow.wpSeg_nil ?_
          intro w7 hb7
          have HS7 := Flow.hide (HS.out.below hb7)
          have HM7 := Flow.hide (HM.out.below hb7)
          have HB7 : Hid (Below w.heap.size w w7) := HB.out.trans (hb7.mono HB.out.size)
          clear hb7 HS HM HB rx rm n1 n2 n3 Kx bnd
          go_wp2_with fail
          go_roundw
          case rel => exact ⟨k + 1, s1, oe1, oa1, by omega, by omega, by go_num, I.out, HS7.out, HM7.out, HK.out, HB7.out⟩
          case measure => simp [intOf]; omega
        · obtain ⟨d1, d2⟩ := hdue.1 hd
          have D1 := Flow.hide d1
          have D2 := Flow.hide d2
          clear hdue d1 d2
          go_wp2_with fail
          (with_reducible refine (ask_yes h s EP _ (H.out.below (Flow.below_alloc _ _)) bnd hd).mono ?_)
          rintro e w4 ⟨rfl, ⟨rb, H4, hrb⟩, c4⟩
          clear hd
          rw [World.size_alloc] at hrb
          have c4' : Flow.Chg (· = h) wr w4 := (Flow.Chg.of_below (Flow.below_alloc wr _)).mono (fun _ _ e => e.elim) |>.trans c4 (fun _ _ e => e)
          have K4 : Flow.Blk w4 wr.heap.size 63 #[.int .u8 Q, .int .u32 EP, .int .u32 RQ] := (Flow.Blk.new wr 63 _).chg c4 (by have := H.out.1.lt; omega)
          have M4 : Flow.Blk w4 mb 69 (mcells s oe oa) := M.out.chg c4' (by omega)
          have B4 : Below w.heap.size w w4 := Flow.Chg.onto BW.out c4' (fun j e => by omega) BW.out.size
          have hxb : mb < wr.heap.size := M.out.lt
          have hsz4 : wr.heap.size < w4.heap.size := K4.lt
          generalize wr.heap.size = xb at *
          have cx := K4.cell
          clear c4 c4' H M BW x0 x1 x2
          have cm := M4.cell
          simp only [mcells] at cm
          go_wp2_with fail
          (with_reducible refine (rask_yes' s oe oa EP _ D1.out D2.out (by omega) (by omega) (by omega) (by omega)).mono ?_)
          rintro e w5 ⟨rfl, hb5⟩
          have M5 := M4.below hb5
          have fm := M5.frozen
          have cm5 := M5.cell
          simp only [mcells] at cm5
          clear cm
          go_wp2_with fail
          obtain ⟨w6, hw6⟩ : ∃ w6, w6 = (((((((((w5.setCell ⟨mb, 0, none⟩ (.int .i64 s.hold)).setCell ⟨mb, 1, none⟩ (.int .i64 s.renew)).setCell ⟨mb, 2, none⟩ (.int .i64 s.now)).setCell ⟨mb, 3, none⟩ (.int .u32 (s.made + 1))).setCell ⟨mb, 4, none⟩ (.int .u32 (s.made + 1))).setCell ⟨mb, 5, none⟩ (.int .u32 EP)).setCell ⟨mb, 6, none⟩ (.int .i64 s.now)).setCell ⟨mb, 7, none⟩ (.int .u32 s.epoch)).setCell ⟨mb, 8, none⟩ (.int .i64 s.fin)) := ⟨_, rfl⟩
          rw [← hw6]
          obtain ⟨M6', c6'⟩ := store9 (b0 := .int .i64 s.hold) (b1 := .int .i64 s.renew) (b2 := .int .i64 s.now) (b3 := .int .u32 (s.made + 1)) (b4 := .int .u32 (s.made + 1)) (b5 := .int .u32 EP) (b6 := .int .i64 s.now) (b7 := .int .u32 s.epoch) (b8 := .int .i64 s.fin) M5
          rw [← hw6] at M6' c6'
          have M6 : Flow.Blk w6 mb 69 (mcells { s with made := s.made + 1, req := some ⟨rb, s.made + 1, EP, s.now⟩ } EP s.now) := M6'
          have c6 : Flow.Chg (· = mb) w4 w6 := ((Flow.Chg.of_below hb5).mono (fun _ _ e => e.elim)).trans c6' (fun _ _ e => e)
          have H6 : IsH w6 h { s with made := s.made + 1, req := some ⟨rb, s.made + 1, EP, s.now⟩ } := H4.chg c6 (by omega) (fun r e => by cases e; show rb ≠ mb; omega)
          have I6 := I.out.ask rb EP
          have K6 : ∀ r, ({ s with made := s.made + 1, req := some ⟨rb, s.made + 1, EP, s.now⟩ } : Hs).req = some r → mb < r.blk := fun r e => by cases e; show mb < rb; omega
          clear hw6 hb5 M5 M6' c6' cm5
          have B6 : Below w.heap.size w w6 := Flow.Chg.onto B4 c6 (fun j e => by omega) B4.size
          have Kx : Flow.Blk w6 xb 63 #[.int .u8 Q, .int .u32 EP, .int .u32 RQ] := K4.chg c6 (by omega)
          obtain ⟨s1, hs1⟩ : ∃ s1 : Hs, s1 = { s with made := s.made + 1, req := some ⟨rb, s.made + 1, EP, s.now⟩ } := ⟨_, rfl⟩
          obtain ⟨oe1, ho1⟩ : ∃ x : Int, x = EP := ⟨_, rfl⟩
          obtain ⟨oa1, ho2⟩ : ∃ x : Int, x = s.now := ⟨_, rfl⟩
          have HS : Hid (IsH w6 h s1) := by rw [hs1]; exact H6
          have HM : Hid (Flow.Blk w6 mb 69 (mcells s1 oe1 oa1)) := by rw [hs1, ho1, ho2]; exact M6
          have I1 : PInv (k + 1) s1 oe1 oa1 := by rw [hs1, ho1, ho2]; exact I6
          have HK : Hid (∀ r, s1.req = some r → mb < r.blk) := by rw [hs1]; exact K6
          have HB := Flow.hide B6
          clear I
          have I := Flow.hide I1
          clear hs1 ho1 ho2 H6 M6 I6 K6 I1 B6 c6 B4 K4 M4 H4 K fm cx bnd
          have bnd := I.out.bnd (by omega)
          have rx := Kx.rg
          have rm := HM.out.rg
          simp only [mcells] at rm
          have n1 := bne_int (reqOf s1)
          have n2 := bne_self (holdsOf s1 EP)
          have n3 := bne_self (holdsOf s1 1)
          refine Flow.wp_region_all (by kernel_rfl) (by kernel_rfl) ?_
          repeat (first
            | (refine Flow.wpSeg_step (fun K' hK' => ?_)
               go_simp
               first
                 | (refine hK' _ ?_; clear hK' K')
                 | (apply Exists.intro
                    refine ⟨fun p => ?_, hK' _ ?_⟩
                    (first | with_reducible exact (req_q HS.out p) | with_reducible exact (holds_q HS.out bnd p) | with_reducible exact (rholds_q p))
                    clear hK' K')))
          refine Flow.wpSeg_nil ?_
          intro w7 hb7
          have HS7 := Flow.hide (HS.out.below hb7)
          have HM7 := Flow.hide (HM.out.below hb7)
          have HB7 : Hid (Below w.heap.size w w7) := HB.out.trans (hb7.mono HB.out.size)
          clear hb7 HS HM HB rx rm n1 n2 n3 Kx bnd
          go_wp2_with fail
          go_roundw
          case rel => exact ⟨k + 1, s1, oe1, oa1, by omega, by omega, by go_num, I.out, HS7.out, HM7.out, HK.out, HB7.out⟩
          case measure => simp [intOf]; omega
      · have q1 : (Q % 6 == 2) = false := by simp [hq2]
        clear hq2
        by_cases hq3 : Q % 6 = 3 ∨ Q % 6 = 4
        · by_cases hq4 : Q % 6 = 3
          · have q2 : (Q % 6 == 3) = true := by simp [hq4]
            clear hq3 hq4
            rcases hg : grants s EP RQ with _ | _
            · have hno := Flow.hide (I.out.grants EP RQ hg)
              go_wp2_with fail
              (with_reducible refine (grant_no h s EP RQ _ (H.out.below (Flow.below_alloc _ _)) hg).mono ?_)
              rintro e w4 ⟨rfl, c4e⟩
              have H4 : IsH w4 h s := c4e ▸ (H.out.below (Flow.below_alloc _ _))
              have c4 := (c4e ▸ Flow.Chg.refl (· = h) _ : Flow.Chg (· = h) (wr.alloc (Obj.cells #[.int .u8 Q, .int .u32 EP, .int .u32 RQ] 63)) w4)
              clear c4e hg
              have c4' : Flow.Chg (· = h) wr w4 := (Flow.Chg.of_below (Flow.below_alloc wr _)).mono (fun _ _ e => e.elim) |>.trans c4 (fun _ _ e => e)
              have K4 : Flow.Blk w4 wr.heap.size 63 #[.int .u8 Q, .int .u32 EP, .int .u32 RQ] := (Flow.Blk.new wr 63 _).chg c4 (by have := H.out.1.lt; omega)
              have M4 : Flow.Blk w4 mb 69 (mcells s oe oa) := M.out.chg c4' (by omega)
              have B4 : Below w.heap.size w w4 := Flow.Chg.onto BW.out c4' (fun j e => by omega) BW.out.size
              have hxb : mb < wr.heap.size := M.out.lt
              have hsz4 : wr.heap.size < w4.heap.size := K4.lt
              generalize wr.heap.size = xb at *
              have cx := K4.cell
              clear c4 c4' H M BW x0 x1 x2
              have cm := M4.cell
              simp only [mcells] at cm
              go_wp2_with fail
              (with_reducible refine (rgrant_no' s oe oa EP RQ _ hno.out).mono ?_)
              rintro e w5 ⟨rfl, hb5⟩
              have M5 := M4.below hb5
              have fm := M5.frozen
              have cm5 := M5.cell
              simp only [mcells] at cm5
              clear cm
              go_wp2_with fail
              obtain ⟨w6, hw6⟩ : ∃ w6, w6 = (((((((((w5.setCell ⟨mb, 0, none⟩ (.int .i64 s.hold)).setCell ⟨mb, 1, none⟩ (.int .i64 s.renew)).setCell ⟨mb, 2, none⟩ (.int .i64 s.now)).setCell ⟨mb, 3, none⟩ (.int .u32 s.made)).setCell ⟨mb, 4, none⟩ (.int .u32 (reqOf s))).setCell ⟨mb, 5, none⟩ (.int .u32 oe)).setCell ⟨mb, 6, none⟩ (.int .i64 oa)).setCell ⟨mb, 7, none⟩ (.int .u32 s.epoch)).setCell ⟨mb, 8, none⟩ (.int .i64 s.fin)) := ⟨_, rfl⟩
              rw [← hw6]
              obtain ⟨M6', c6'⟩ := store9 (b0 := .int .i64 s.hold) (b1 := .int .i64 s.renew) (b2 := .int .i64 s.now) (b3 := .int .u32 s.made) (b4 := .int .u32 (reqOf s)) (b5 := .int .u32 oe) (b6 := .int .i64 oa) (b7 := .int .u32 s.epoch) (b8 := .int .i64 s.fin) M5
              rw [← hw6] at M6' c6'
              have M6 : Flow.Blk w6 mb 69 (mcells s oe oa) := M6'
              have c6 : Flow.Chg (· = mb) w4 w6 := ((Flow.Chg.of_below hb5).mono (fun _ _ e => e.elim)).trans c6' (fun _ _ e => e)
              have H6 : IsH w6 h s := H4.chg c6 (by omega) (fun r e => by have := K.out r e; omega)
              have I6 := I.out.more
              have K6 : ∀ r, (s : Hs).req = some r → mb < r.blk := K.out
              clear hw6 hb5 M5 M6' c6' cm5
              have B6 : Below w.heap.size w w6 := Flow.Chg.onto B4 c6 (fun j e => by omega) B4.size
              have Kx : Flow.Blk w6 xb 63 #[.int .u8 Q, .int .u32 EP, .int .u32 RQ] := K4.chg c6 (by omega)
              obtain ⟨s1, hs1⟩ : ∃ s1 : Hs, s1 = s := ⟨_, rfl⟩
              obtain ⟨oe1, ho1⟩ : ∃ x : Int, x = oe := ⟨_, rfl⟩
              obtain ⟨oa1, ho2⟩ : ∃ x : Int, x = oa := ⟨_, rfl⟩
              have HS : Hid (IsH w6 h s1) := by rw [hs1]; exact H6
              have HM : Hid (Flow.Blk w6 mb 69 (mcells s1 oe1 oa1)) := by rw [hs1, ho1, ho2]; exact M6
              have I1 : PInv (k + 1) s1 oe1 oa1 := by rw [hs1, ho1, ho2]; exact I6
              have HK : Hid (∀ r, s1.req = some r → mb < r.blk) := by rw [hs1]; exact K6
              have HB := Flow.hide B6
              clear I
              have I := Flow.hide I1
              clear hs1 ho1 ho2 H6 M6 I6 K6 I1 B6 c6 B4 K4 M4 H4 K fm cx bnd
              have bnd := I.out.bnd (by omega)
              have rx := Kx.rg
              have rm := HM.out.rg
              simp only [mcells] at rm
              have n1 := bne_int (reqOf s1)
              have n2 := bne_self (holdsOf s1 EP)
              have n3 := bne_self (holdsOf s1 1)
              refine Flow.wp_region_all (by kernel_rfl) (by kernel_rfl) ?_
              repeat (first
                | (refine Flow.wpSeg_step (fun K' hK' => ?_)
                   go_simp
                   first
                     | (refine hK' _ ?_; clear hK' K')
                     | (apply Exists.intro
                        refine ⟨fun p => ?_, hK' _ ?_⟩
                        (first | with_reducible exact (req_q HS.out p) | with_reducible exact (holds_q HS.out bnd p) | with_reducible exact (rholds_q p))
                        clear hK' K')))
              refine Flow.wpSeg_nil ?_
              intro w7 hb7
              have HS7 := Flow.hide (HS.out.below hb7)
              have HM7 := Flow.hide (HM.out.below hb7)
              have HB7 : Hid (Below w.heap.size w w7) := HB.out.trans (hb7.mono HB.out.size)
              clear hb7 HS HM HB rx rm n1 n2 n3 Kx bnd
              go_wp2_with fail
              go_roundw
              case rel => exact ⟨k + 1, s1, oe1, oa1, by omega, by omega, by go_num, I.out, HS7.out, HM7.out, HK.out, HB7.out⟩
              case measure => simp [intOf]; omega
            · obtain ⟨r, hr, hr1, hr2⟩ := grants_some s EP RQ hg
              obtain ⟨_, _, rn1, _, roe, roa⟩ := I.out.req r hr
              have hrq : reqOf s = r.num := by unfold reqOf; rw [hr]
              have IG := Flow.hide (I.out.grant r hr)
              have Hg0 : Hid (reqOf s ≠ 0) := by rw [hrq]; intro h0; omega
              have Hg1 : Hid (reqOf s = RQ) := Flow.hide (hrq.trans hr1)
              have Hg2 : Hid (oe = EP) := Flow.hide (roe.trans hr2)
              have Hga : Hid (r.at_ = oa) := Flow.hide roa.symm
              have Hr := Flow.hide hr
              have Hr1 := Flow.hide hr1
              have Hr2 := Flow.hide hr2
              clear hr hr1 hr2 roe roa hrq hg
              go_wp2_with fail
              (with_reducible refine (grant_yes h s r EP RQ _ (H.out.below (Flow.below_alloc _ _)) bnd Hr.out Hr1.out Hr2.out).mono ?_)
              rintro e w4 ⟨rfl, H4, c4⟩
              rw [Hga.out] at H4
              rw [Hga.out, Hr2.out] at IG
              have c4' : Flow.Chg (· = h) wr w4 := (Flow.Chg.of_below (Flow.below_alloc wr _)).mono (fun _ _ e => e.elim) |>.trans c4 (fun _ _ e => e)
              have K4 : Flow.Blk w4 wr.heap.size 63 #[.int .u8 Q, .int .u32 EP, .int .u32 RQ] := (Flow.Blk.new wr 63 _).chg c4 (by have := H.out.1.lt; omega)
              have M4 : Flow.Blk w4 mb 69 (mcells s oe oa) := M.out.chg c4' (by omega)
              have B4 : Below w.heap.size w w4 := Flow.Chg.onto BW.out c4' (fun j e => by omega) BW.out.size
              have hxb : mb < wr.heap.size := M.out.lt
              have hsz4 : wr.heap.size < w4.heap.size := K4.lt
              generalize wr.heap.size = xb at *
              have cx := K4.cell
              clear c4 c4' H M BW x0 x1 x2
              have cm := M4.cell
              simp only [mcells] at cm
              go_wp2_with fail
              (with_reducible refine (rgrant_yes' s oe oa EP RQ _ Hg0.out Hg1.out Hg2.out (by omega) (by omega)).mono ?_)
              rintro e w5 ⟨rfl, hb5⟩
              have M5 := M4.below hb5
              have fm := M5.frozen
              have cm5 := M5.cell
              simp only [mcells] at cm5
              clear cm
              go_wp2_with fail
              obtain ⟨w6, hw6⟩ : ∃ w6, w6 = (((((((((w5.setCell ⟨mb, 0, none⟩ (.int .i64 s.hold)).setCell ⟨mb, 1, none⟩ (.int .i64 s.renew)).setCell ⟨mb, 2, none⟩ (.int .i64 s.now)).setCell ⟨mb, 3, none⟩ (.int .u32 s.made)).setCell ⟨mb, 4, none⟩ (.int .u32 0)).setCell ⟨mb, 5, none⟩ (.int .u32 oe)).setCell ⟨mb, 6, none⟩ (.int .i64 oa)).setCell ⟨mb, 7, none⟩ (.int .u32 EP)).setCell ⟨mb, 8, none⟩ (.int .i64 (oa + s.hold))) := ⟨_, rfl⟩
              rw [← hw6]
              obtain ⟨M6', c6'⟩ := store9 (b0 := .int .i64 s.hold) (b1 := .int .i64 s.renew) (b2 := .int .i64 s.now) (b3 := .int .u32 s.made) (b4 := .int .u32 0) (b5 := .int .u32 oe) (b6 := .int .i64 oa) (b7 := .int .u32 EP) (b8 := .int .i64 (oa + s.hold)) M5
              rw [← hw6] at M6' c6'
              have M6 : Flow.Blk w6 mb 69 (mcells { s with req := none, epoch := EP, fin := oa + s.hold } oe oa) := M6'
              have c6 : Flow.Chg (· = mb) w4 w6 := ((Flow.Chg.of_below hb5).mono (fun _ _ e => e.elim)).trans c6' (fun _ _ e => e)
              have H6 : IsH w6 h { s with req := none, epoch := EP, fin := oa + s.hold } := H4.chg c6 (by omega) (fun r e => by cases e)
              have I6 := IG.out
              have K6 : ∀ r, ({ s with req := none, epoch := EP, fin := oa + s.hold } : Hs).req = some r → mb < r.blk := fun r e => by cases e
              clear hw6 hb5 M5 M6' c6' cm5
              have B6 : Below w.heap.size w w6 := Flow.Chg.onto B4 c6 (fun j e => by omega) B4.size
              have Kx : Flow.Blk w6 xb 63 #[.int .u8 Q, .int .u32 EP, .int .u32 RQ] := K4.chg c6 (by omega)
              obtain ⟨s1, hs1⟩ : ∃ s1 : Hs, s1 = { s with req := none, epoch := EP, fin := oa + s.hold } := ⟨_, rfl⟩
              obtain ⟨oe1, ho1⟩ : ∃ x : Int, x = oe := ⟨_, rfl⟩
              obtain ⟨oa1, ho2⟩ : ∃ x : Int, x = oa := ⟨_, rfl⟩
              have HS : Hid (IsH w6 h s1) := by rw [hs1]; exact H6
              have HM : Hid (Flow.Blk w6 mb 69 (mcells s1 oe1 oa1)) := by rw [hs1, ho1, ho2]; exact M6
              have I1 : PInv (k + 1) s1 oe1 oa1 := by rw [hs1, ho1, ho2]; exact I6
              have HK : Hid (∀ r, s1.req = some r → mb < r.blk) := by rw [hs1]; exact K6
              have HB := Flow.hide B6
              clear I
              have I := Flow.hide I1
              clear hs1 ho1 ho2 H6 M6 I6 K6 I1 B6 c6 B4 K4 M4 H4 K fm cx bnd
              have bnd := I.out.bnd (by omega)
              have rx := Kx.rg
              have rm := HM.out.rg
              simp only [mcells] at rm
              have n1 := bne_int (reqOf s1)
              have n2 := bne_self (holdsOf s1 EP)
              have n3 := bne_self (holdsOf s1 1)
              refine Flow.wp_region_all (by kernel_rfl) (by kernel_rfl) ?_
              repeat (first
                | (refine Flow.wpSeg_step (fun K' hK' => ?_)
                   go_simp
                   first
                     | (refine hK' _ ?_; clear hK' K')
                     | (apply Exists.intro
                        refine ⟨fun p => ?_, hK' _ ?_⟩
                        (first | with_reducible exact (req_q HS.out p) | with_reducible exact (holds_q HS.out bnd p) | with_reducible exact (rholds_q p))
                        clear hK' K')))
              refine Flow.wpSeg_nil ?_
              intro w7 hb7
              have HS7 := Flow.hide (HS.out.below hb7)
              have HM7 := Flow.hide (HM.out.below hb7)
              have HB7 : Hid (Below w.heap.size w w7) := HB.out.trans (hb7.mono HB.out.size)
              clear hb7 HS HM HB rx rm n1 n2 n3 Kx bnd
              go_wp2_with fail
              go_roundw
              case rel => exact ⟨k + 1, s1, oe1, oa1, by omega, by omega, by go_num, I.out, HS7.out, HM7.out, HK.out, HB7.out⟩
              case measure => simp [intOf]; omega
          · have q2 : (Q % 6 == 3) = false := by simp [hq4]
            have q3 : (Q % 6 == 4) = true := by simp; omega
            clear hq3 hq4
            rcases hg : grants s EP RQ with _ | _
            · have hno := Flow.hide (I.out.grants EP RQ hg)
              go_wp2_with fail
              (with_reducible refine (grant_no h s EP RQ _ (H.out.below (Flow.below_alloc _ _)) hg).mono ?_)
              rintro e w4 ⟨rfl, c4e⟩
              have H4 : IsH w4 h s := c4e ▸ (H.out.below (Flow.below_alloc _ _))
              have c4 := (c4e ▸ Flow.Chg.refl (· = h) _ : Flow.Chg (· = h) (wr.alloc (Obj.cells #[.int .u8 Q, .int .u32 EP, .int .u32 RQ] 63)) w4)
              clear c4e hg
              have c4' : Flow.Chg (· = h) wr w4 := (Flow.Chg.of_below (Flow.below_alloc wr _)).mono (fun _ _ e => e.elim) |>.trans c4 (fun _ _ e => e)
              have K4 : Flow.Blk w4 wr.heap.size 63 #[.int .u8 Q, .int .u32 EP, .int .u32 RQ] := (Flow.Blk.new wr 63 _).chg c4 (by have := H.out.1.lt; omega)
              have M4 : Flow.Blk w4 mb 69 (mcells s oe oa) := M.out.chg c4' (by omega)
              have B4 : Below w.heap.size w w4 := Flow.Chg.onto BW.out c4' (fun j e => by omega) BW.out.size
              have hxb : mb < wr.heap.size := M.out.lt
              have hsz4 : wr.heap.size < w4.heap.size := K4.lt
              generalize wr.heap.size = xb at *
              have cx := K4.cell
              clear c4 c4' H M BW x0 x1 x2
              have cm := M4.cell
              simp only [mcells] at cm
              go_wp2_with fail
              (with_reducible refine (rgrant_no' s oe oa EP RQ _ hno.out).mono ?_)
              rintro e w5 ⟨rfl, hb5⟩
              have M5 := M4.below hb5
              have fm := M5.frozen
              have cm5 := M5.cell
              simp only [mcells] at cm5
              clear cm
              go_wp2_with fail
              obtain ⟨w6, hw6⟩ : ∃ w6, w6 = (((((((((w5.setCell ⟨mb, 0, none⟩ (.int .i64 s.hold)).setCell ⟨mb, 1, none⟩ (.int .i64 s.renew)).setCell ⟨mb, 2, none⟩ (.int .i64 s.now)).setCell ⟨mb, 3, none⟩ (.int .u32 s.made)).setCell ⟨mb, 4, none⟩ (.int .u32 (reqOf s))).setCell ⟨mb, 5, none⟩ (.int .u32 oe)).setCell ⟨mb, 6, none⟩ (.int .i64 oa)).setCell ⟨mb, 7, none⟩ (.int .u32 s.epoch)).setCell ⟨mb, 8, none⟩ (.int .i64 s.fin)) := ⟨_, rfl⟩
              rw [← hw6]
              obtain ⟨M6', c6'⟩ := store9 (b0 := .int .i64 s.hold) (b1 := .int .i64 s.renew) (b2 := .int .i64 s.now) (b3 := .int .u32 s.made) (b4 := .int .u32 (reqOf s)) (b5 := .int .u32 oe) (b6 := .int .i64 oa) (b7 := .int .u32 s.epoch) (b8 := .int .i64 s.fin) M5
              rw [← hw6] at M6' c6'
              have M6 : Flow.Blk w6 mb 69 (mcells s oe oa) := M6'
              have c6 : Flow.Chg (· = mb) w4 w6 := ((Flow.Chg.of_below hb5).mono (fun _ _ e => e.elim)).trans c6' (fun _ _ e => e)
              have H6 : IsH w6 h s := H4.chg c6 (by omega) (fun r e => by have := K.out r e; omega)
              have I6 := I.out.more
              have K6 : ∀ r, (s : Hs).req = some r → mb < r.blk := K.out
              clear hw6 hb5 M5 M6' c6' cm5
              have B6 : Below w.heap.size w w6 := Flow.Chg.onto B4 c6 (fun j e => by omega) B4.size
              have Kx : Flow.Blk w6 xb 63 #[.int .u8 Q, .int .u32 EP, .int .u32 RQ] := K4.chg c6 (by omega)
              obtain ⟨s1, hs1⟩ : ∃ s1 : Hs, s1 = s := ⟨_, rfl⟩
              obtain ⟨oe1, ho1⟩ : ∃ x : Int, x = oe := ⟨_, rfl⟩
              obtain ⟨oa1, ho2⟩ : ∃ x : Int, x = oa := ⟨_, rfl⟩
              have HS : Hid (IsH w6 h s1) := by rw [hs1]; exact H6
              have HM : Hid (Flow.Blk w6 mb 69 (mcells s1 oe1 oa1)) := by rw [hs1, ho1, ho2]; exact M6
              have I1 : PInv (k + 1) s1 oe1 oa1 := by rw [hs1, ho1, ho2]; exact I6
              have HK : Hid (∀ r, s1.req = some r → mb < r.blk) := by rw [hs1]; exact K6
              have HB := Flow.hide B6
              clear I
              have I := Flow.hide I1
              clear hs1 ho1 ho2 H6 M6 I6 K6 I1 B6 c6 B4 K4 M4 H4 K fm cx bnd
              have bnd := I.out.bnd (by omega)
              have rx := Kx.rg
              have rm := HM.out.rg
              simp only [mcells] at rm
              have n1 := bne_int (reqOf s1)
              have n2 := bne_self (holdsOf s1 EP)
              have n3 := bne_self (holdsOf s1 1)
              refine Flow.wp_region_all (by kernel_rfl) (by kernel_rfl) ?_
              repeat (first
                | (refine Flow.wpSeg_step (fun K' hK' => ?_)
                   go_simp
                   first
                     | (refine hK' _ ?_; clear hK' K')
                     | (apply Exists.intro
                        refine ⟨fun p => ?_, hK' _ ?_⟩
                        (first | with_reducible exact (req_q HS.out p) | with_reducible exact (holds_q HS.out bnd p) | with_reducible exact (rholds_q p))
                        clear hK' K')))
              refine Flow.wpSeg_nil ?_
              intro w7 hb7
              have HS7 := Flow.hide (HS.out.below hb7)
              have HM7 := Flow.hide (HM.out.below hb7)
              have HB7 : Hid (Below w.heap.size w w7) := HB.out.trans (hb7.mono HB.out.size)
              clear hb7 HS HM HB rx rm n1 n2 n3 Kx bnd
              go_wp2_with fail
              go_roundw
              case rel => exact ⟨k + 1, s1, oe1, oa1, by omega, by omega, by go_num, I.out, HS7.out, HM7.out, HK.out, HB7.out⟩
              case measure => simp [intOf]; omega
            · obtain ⟨r, hr, hr1, hr2⟩ := grants_some s EP RQ hg
              obtain ⟨_, _, rn1, _, roe, roa⟩ := I.out.req r hr
              have hrq : reqOf s = r.num := by unfold reqOf; rw [hr]
              have IG := Flow.hide (I.out.grant r hr)
              have Hg0 : Hid (reqOf s ≠ 0) := by rw [hrq]; intro h0; omega
              have Hg1 : Hid (reqOf s = RQ) := Flow.hide (hrq.trans hr1)
              have Hg2 : Hid (oe = EP) := Flow.hide (roe.trans hr2)
              have Hga : Hid (r.at_ = oa) := Flow.hide roa.symm
              have Hr := Flow.hide hr
              have Hr1 := Flow.hide hr1
              have Hr2 := Flow.hide hr2
              clear hr hr1 hr2 roe roa hrq hg
              go_wp2_with fail
              (with_reducible refine (grant_yes h s r EP RQ _ (H.out.below (Flow.below_alloc _ _)) bnd Hr.out Hr1.out Hr2.out).mono ?_)
              rintro e w4 ⟨rfl, H4, c4⟩
              rw [Hga.out] at H4
              rw [Hga.out, Hr2.out] at IG
              have c4' : Flow.Chg (· = h) wr w4 := (Flow.Chg.of_below (Flow.below_alloc wr _)).mono (fun _ _ e => e.elim) |>.trans c4 (fun _ _ e => e)
              have K4 : Flow.Blk w4 wr.heap.size 63 #[.int .u8 Q, .int .u32 EP, .int .u32 RQ] := (Flow.Blk.new wr 63 _).chg c4 (by have := H.out.1.lt; omega)
              have M4 : Flow.Blk w4 mb 69 (mcells s oe oa) := M.out.chg c4' (by omega)
              have B4 : Below w.heap.size w w4 := Flow.Chg.onto BW.out c4' (fun j e => by omega) BW.out.size
              have hxb : mb < wr.heap.size := M.out.lt
              have hsz4 : wr.heap.size < w4.heap.size := K4.lt
              generalize wr.heap.size = xb at *
              have cx := K4.cell
              clear c4 c4' H M BW x0 x1 x2
              have cm := M4.cell
              simp only [mcells] at cm
              go_wp2_with fail
              (with_reducible refine (rgrant_yes' s oe oa EP RQ _ Hg0.out Hg1.out Hg2.out (by omega) (by omega)).mono ?_)
              rintro e w5 ⟨rfl, hb5⟩
              have M5 := M4.below hb5
              have fm := M5.frozen
              have cm5 := M5.cell
              simp only [mcells] at cm5
              clear cm
              go_wp2_with fail
              obtain ⟨w6, hw6⟩ : ∃ w6, w6 = (((((((((w5.setCell ⟨mb, 0, none⟩ (.int .i64 s.hold)).setCell ⟨mb, 1, none⟩ (.int .i64 s.renew)).setCell ⟨mb, 2, none⟩ (.int .i64 s.now)).setCell ⟨mb, 3, none⟩ (.int .u32 s.made)).setCell ⟨mb, 4, none⟩ (.int .u32 0)).setCell ⟨mb, 5, none⟩ (.int .u32 oe)).setCell ⟨mb, 6, none⟩ (.int .i64 oa)).setCell ⟨mb, 7, none⟩ (.int .u32 EP)).setCell ⟨mb, 8, none⟩ (.int .i64 (oa + s.hold))) := ⟨_, rfl⟩
              rw [← hw6]
              obtain ⟨M6', c6'⟩ := store9 (b0 := .int .i64 s.hold) (b1 := .int .i64 s.renew) (b2 := .int .i64 s.now) (b3 := .int .u32 s.made) (b4 := .int .u32 0) (b5 := .int .u32 oe) (b6 := .int .i64 oa) (b7 := .int .u32 EP) (b8 := .int .i64 (oa + s.hold)) M5
              rw [← hw6] at M6' c6'
              have M6 : Flow.Blk w6 mb 69 (mcells { s with req := none, epoch := EP, fin := oa + s.hold } oe oa) := M6'
              have c6 : Flow.Chg (· = mb) w4 w6 := ((Flow.Chg.of_below hb5).mono (fun _ _ e => e.elim)).trans c6' (fun _ _ e => e)
              have H6 : IsH w6 h { s with req := none, epoch := EP, fin := oa + s.hold } := H4.chg c6 (by omega) (fun r e => by cases e)
              have I6 := IG.out
              have K6 : ∀ r, ({ s with req := none, epoch := EP, fin := oa + s.hold } : Hs).req = some r → mb < r.blk := fun r e => by cases e
              clear hw6 hb5 M5 M6' c6' cm5
              have B6 : Below w.heap.size w w6 := Flow.Chg.onto B4 c6 (fun j e => by omega) B4.size
              have Kx : Flow.Blk w6 xb 63 #[.int .u8 Q, .int .u32 EP, .int .u32 RQ] := K4.chg c6 (by omega)
              obtain ⟨s1, hs1⟩ : ∃ s1 : Hs, s1 = { s with req := none, epoch := EP, fin := oa + s.hold } := ⟨_, rfl⟩
              obtain ⟨oe1, ho1⟩ : ∃ x : Int, x = oe := ⟨_, rfl⟩
              obtain ⟨oa1, ho2⟩ : ∃ x : Int, x = oa := ⟨_, rfl⟩
              have HS : Hid (IsH w6 h s1) := by rw [hs1]; exact H6
              have HM : Hid (Flow.Blk w6 mb 69 (mcells s1 oe1 oa1)) := by rw [hs1, ho1, ho2]; exact M6
              have I1 : PInv (k + 1) s1 oe1 oa1 := by rw [hs1, ho1, ho2]; exact I6
              have HK : Hid (∀ r, s1.req = some r → mb < r.blk) := by rw [hs1]; exact K6
              have HB := Flow.hide B6
              clear I
              have I := Flow.hide I1
              clear hs1 ho1 ho2 H6 M6 I6 K6 I1 B6 c6 B4 K4 M4 H4 K fm cx bnd
              have bnd := I.out.bnd (by omega)
              have rx := Kx.rg
              have rm := HM.out.rg
              simp only [mcells] at rm
              have n1 := bne_int (reqOf s1)
              have n2 := bne_self (holdsOf s1 EP)
              have n3 := bne_self (holdsOf s1 1)
              refine Flow.wp_region_all (by kernel_rfl) (by kernel_rfl) ?_
              repeat (first
                | (refine Flow.wpSeg_step (fun K' hK' => ?_)
                   go_simp
                   first
                     | (refine hK' _ ?_; clear hK' K')
                     | (apply Exists.intro
                        refine ⟨fun p => ?_, hK' _ ?_⟩
                        (first | with_reducible exact (req_q HS.out p) | with_reducible exact (holds_q HS.out bnd p) | with_reducible exact (rholds_q p))
                        clear hK' K')))
              refine Flow.wpSeg_nil ?_
              intro w7 hb7
              have HS7 := Flow.hide (HS.out.below hb7)
              have HM7 := Flow.hide (HM.out.below hb7)
              have HB7 : Hid (Below w.heap.size w w7) := HB.out.trans (hb7.mono HB.out.size)
              clear hb7 HS HM HB rx rm n1 n2 n3 Kx bnd
              go_wp2_with fail
              go_roundw
              case rel => exact ⟨k + 1, s1, oe1, oa1, by omega, by omega, by go_num, I.out, HS7.out, HM7.out, HK.out, HB7.out⟩
              case measure => simp [intOf]; omega
        · have q2 : (Q % 6 == 3) = false := by simp; omega
          have q3 : (Q % 6 == 4) = false := by simp; omega
          clear hq3
          by_cases hq5 : Q % 6 = 5
          · have q4 : (Q % 6 == 5) = true := by simp [hq5]
            clear hq5
            by_cases hr4 : RQ % 4 = 0
            · have q5 : (RQ % 4 == 0) = true := by simp [hr4]
              clear hr4
              go_wp2_with fail
              (with_reducible refine (void_any h s _ (H.out.below (Flow.below_alloc _ _))).mono ?_)
              rintro e w4 ⟨rfl, H4, c4⟩
              have c4' : Flow.Chg (· = h) wr w4 := (Flow.Chg.of_below (Flow.below_alloc wr _)).mono (fun _ _ e => e.elim) |>.trans c4 (fun _ _ e => e)
              have K4 : Flow.Blk w4 wr.heap.size 63 #[.int .u8 Q, .int .u32 EP, .int .u32 RQ] := (Flow.Blk.new wr 63 _).chg c4 (by have := H.out.1.lt; omega)
              have M4 : Flow.Blk w4 mb 69 (mcells s oe oa) := M.out.chg c4' (by omega)
              have B4 : Below w.heap.size w w4 := Flow.Chg.onto BW.out c4' (fun j e => by omega) BW.out.size
              have hxb : mb < wr.heap.size := M.out.lt
              have hsz4 : wr.heap.size < w4.heap.size := K4.lt
              generalize wr.heap.size = xb at *
              have cx := K4.cell
              clear c4 c4' H M BW x0 x1 x2
              have cm := M4.cell
              have fm := M4.frozen
              simp only [mcells] at cm
              go_wp2_with fail
              obtain ⟨w6, hw6⟩ : ∃ w6, w6 = (w4.setCell ⟨mb, 4, none⟩ (.int .u32 0)).setCell ⟨mb, 8, none⟩ (.int .i64 s.now) := ⟨_, rfl⟩
              rw [← hw6]
              have M6 : Flow.Blk w6 mb 69 (mcells { s with req := none, fin := s.now } oe oa) := by rw [hw6]; exact (M4.set 4 _).set 8 _
              clear cm
              have c6 : Flow.Chg (· = mb) w4 w6 := by rw [hw6]; exact (Flow.Chg.setAt _ _ _ _).trans (Flow.Chg.setAt _ _ _ _) (fun _ _ e => e)
              have H6 : IsH w6 h { s with req := none, fin := s.now } := H4.chg c6 (by omega) (fun r e => by cases e)
              have I6 := I.out.void
              have K6 : ∀ r, ({ s with req := none, fin := s.now } : Hs).req = some r → mb < r.blk := fun r e => by cases e
              clear hw6
              have B6 : Below w.heap.size w w6 := Flow.Chg.onto B4 c6 (fun j e => by omega) B4.size
              have Kx : Flow.Blk w6 xb 63 #[.int .u8 Q, .int .u32 EP, .int .u32 RQ] := K4.chg c6 (by omega)
              obtain ⟨s1, hs1⟩ : ∃ s1 : Hs, s1 = { s with req := none, fin := s.now } := ⟨_, rfl⟩
              obtain ⟨oe1, ho1⟩ : ∃ x : Int, x = oe := ⟨_, rfl⟩
              obtain ⟨oa1, ho2⟩ : ∃ x : Int, x = oa := ⟨_, rfl⟩
              have HS : Hid (IsH w6 h s1) := by rw [hs1]; exact H6
              have HM : Hid (Flow.Blk w6 mb 69 (mcells s1 oe1 oa1)) := by rw [hs1, ho1, ho2]; exact M6
              have I1 : PInv (k + 1) s1 oe1 oa1 := by rw [hs1, ho1, ho2]; exact I6
              have HK : Hid (∀ r, s1.req = some r → mb < r.blk) := by rw [hs1]; exact K6
              have HB := Flow.hide B6
              clear I
              have I := Flow.hide I1
              clear hs1 ho1 ho2 H6 M6 I6 K6 I1 B6 c6 B4 K4 M4 H4 K fm cx bnd
              have bnd := I.out.bnd (by omega)
              have rx := Kx.rg
              have rm := HM.out.rg
              simp only [mcells] at rm
              have n1 := bne_int (reqOf s1)
              have n2 := bne_self (holdsOf s1 EP)
              have n3 := bne_self (holdsOf s1 1)
              refine Flow.wp_region_all (by kernel_rfl) (by kernel_rfl) ?_
              repeat (first
                | (refine Flow.wpSeg_step (fun K' hK' => ?_)
                   go_simp
                   first
                     | (refine hK' _ ?_; clear hK' K')
                     | (apply Exists.intro
                        refine ⟨fun p => ?_, hK' _ ?_⟩
                        (first | with_reducible exact (req_q HS.out p) | with_reducible exact (holds_q HS.out bnd p) | with_reducible exact (rholds_q p))
                        clear hK' K')))
              refine Flow.wpSeg_nil ?_
              intro w7 hb7
              have HS7 := Flow.hide (HS.out.below hb7)
              have HM7 := Flow.hide (HM.out.below hb7)
              have HB7 : Hid (Below w.heap.size w w7) := HB.out.trans (hb7.mono HB.out.size)
              clear hb7 HS HM HB rx rm n1 n2 n3 Kx bnd
              go_wp2_with fail
              go_roundw
              case rel => exact ⟨k + 1, s1, oe1, oa1, by omega, by omega, by go_num, I.out, HS7.out, HM7.out, HK.out, HB7.out⟩
              case measure => simp [intOf]; omega
            · have q5 : (RQ % 4 == 0) = false := by simp [hr4]
              clear hr4
              go_wp2_with fail
              obtain ⟨w6, hw6⟩ : ∃ w6, w6 = wr.alloc (Obj.cells #[.int .u8 Q, .int .u32 EP, .int .u32 RQ] 63) := ⟨_, rfl⟩
              rw [← hw6]
              have bb : Below wr.heap.size wr w6 := by rw [hw6]; exact Flow.below_alloc _ _
              have Kx : Flow.Blk w6 wr.heap.size 63 #[.int .u8 Q, .int .u32 EP, .int .u32 RQ] := by rw [hw6]; exact Flow.Blk.new _ _ _
              have HB : Hid (Below w.heap.size w w6) := BW.out.trans (bb.mono BW.out.size)
              obtain ⟨s1, hs1⟩ : ∃ s1 : Hs, s1 = s := ⟨_, rfl⟩
              obtain ⟨oe1, ho1⟩ : ∃ x : Int, x = oe := ⟨_, rfl⟩
              obtain ⟨oa1, ho2⟩ : ∃ x : Int, x = oa := ⟨_, rfl⟩
              have HS : Hid (IsH w6 h s1) := by rw [hs1]; exact H.out.below bb
              have HM : Hid (Flow.Blk w6 mb 69 (mcells s1 oe1 oa1)) := by rw [hs1, ho1, ho2]; exact M.out.below bb
              have I1 : PInv (k + 1) s1 oe1 oa1 := by rw [hs1, ho1, ho2]; exact I.out.more
              have HK : Hid (∀ r, s1.req = some r → mb < r.blk) := by rw [hs1]; exact K.out
              clear I bnd
              have I := Flow.hide I1
              generalize wr.heap.size = xb at *
              clear hs1 ho1 ho2 I1 hw6 bb H M K BW x0 x1 x2
              have bnd := I.out.bnd (by omega)
              have rx := Kx.rg
              have rm := HM.out.rg
              simp only [mcells] at rm
              have n1 := bne_int (reqOf s1)
              have n2 := bne_self (holdsOf s1 EP)
              have n3 := bne_self (holdsOf s1 1)
              refine Flow.wp_region_all (by kernel_rfl) (by kernel_rfl) ?_
              repeat (first
                | (refine Flow.wpSeg_step (fun K' hK' => ?_)
                   go_simp
                   first
                     | (refine hK' _ ?_; clear hK' K')
                     | (apply Exists.intro
                        refine ⟨fun p => ?_, hK' _ ?_⟩
                        (first | with_reducible exact (req_q HS.out p) | with_reducible exact (holds_q HS.out bnd p) | with_reducible exact (rholds_q p))
                        clear hK' K')))
              refine Flow.wpSeg_nil ?_
              intro w7 hb7
              have HS7 := Flow.hide (HS.out.below hb7)
              have HM7 := Flow.hide (HM.out.below hb7)
              have HB7 : Hid (Below w.heap.size w w7) := HB.out.trans (hb7.mono HB.out.size)
              clear hb7 HS HM HB rx rm n1 n2 n3 Kx bnd
              go_wp2_with fail
              go_roundw
              case rel => exact ⟨k + 1, s1, oe1, oa1, by omega, by omega, by go_num, I.out, HS7.out, HM7.out, HK.out, HB7.out⟩
              case measure => simp [intOf]; omega
          · have q4 : (Q % 6 == 5) = false := by simp [hq5]
            clear hq5
            go_wp2_with fail
            (with_reducible refine (tick_any h s _ (H.out.below (Flow.below_alloc _ _)) bnd).mono ?_)
            rintro e w4 ⟨rfl, H4, c4⟩
            have c4' : Flow.Chg (· = h) wr w4 := (Flow.Chg.of_below (Flow.below_alloc wr _)).mono (fun _ _ e => e.elim) |>.trans c4 (fun _ _ e => e)
            have K4 : Flow.Blk w4 wr.heap.size 63 #[.int .u8 Q, .int .u32 EP, .int .u32 RQ] := (Flow.Blk.new wr 63 _).chg c4 (by have := H.out.1.lt; omega)
            have M4 : Flow.Blk w4 mb 69 (mcells s oe oa) := M.out.chg c4' (by omega)
            have B4 : Below w.heap.size w w4 := Flow.Chg.onto BW.out c4' (fun j e => by omega) BW.out.size
            have hxb : mb < wr.heap.size := M.out.lt
            have hsz4 : wr.heap.size < w4.heap.size := K4.lt
            generalize wr.heap.size = xb at *
            have cx := K4.cell
            clear c4 c4' H M BW x0 x1 x2
            have cm := M4.cell
            have fm := M4.frozen
            simp only [mcells] at cm
            go_wp2_with fail
            obtain ⟨w6, hw6⟩ : ∃ w6, w6 = w4.setCell ⟨mb, 2, none⟩ (.int .i64 (s.now + 1)) := ⟨_, rfl⟩
            rw [← hw6]
            have M6 : Flow.Blk w6 mb 69 (mcells { s with now := s.now + 1 } oe oa) := by rw [hw6]; exact M4.set 2 _
            clear cm
            have c6 : Flow.Chg (· = mb) w4 w6 := by rw [hw6]; exact Flow.Chg.setAt _ _ _ _
            have H6 : IsH w6 h { s with now := s.now + 1 } := H4.chg c6 (by omega) (fun r e => by have := K.out r e; omega)
            have I6 := I.out.tick
            have K6 := K.out
            clear hw6
            have B6 : Below w.heap.size w w6 := Flow.Chg.onto B4 c6 (fun j e => by omega) B4.size
            have Kx : Flow.Blk w6 xb 63 #[.int .u8 Q, .int .u32 EP, .int .u32 RQ] := K4.chg c6 (by omega)
            obtain ⟨s1, hs1⟩ : ∃ s1 : Hs, s1 = { s with now := s.now + 1 } := ⟨_, rfl⟩
            obtain ⟨oe1, ho1⟩ : ∃ x : Int, x = oe := ⟨_, rfl⟩
            obtain ⟨oa1, ho2⟩ : ∃ x : Int, x = oa := ⟨_, rfl⟩
            have HS : Hid (IsH w6 h s1) := by rw [hs1]; exact H6
            have HM : Hid (Flow.Blk w6 mb 69 (mcells s1 oe1 oa1)) := by rw [hs1, ho1, ho2]; exact M6
            have I1 : PInv (k + 1) s1 oe1 oa1 := by rw [hs1, ho1, ho2]; exact I6
            have HK : Hid (∀ r, s1.req = some r → mb < r.blk) := by rw [hs1]; exact K6
            have HB := Flow.hide B6
            clear I
            have I := Flow.hide I1
            clear hs1 ho1 ho2 H6 M6 I6 K6 I1 B6 c6 B4 K4 M4 H4 K fm cx bnd
            have bnd := I.out.bnd (by omega)
            have rx := Kx.rg
            have rm := HM.out.rg
            simp only [mcells] at rm
            have n1 := bne_int (reqOf s1)
            have n2 := bne_self (holdsOf s1 EP)
            have n3 := bne_self (holdsOf s1 1)
            refine Flow.wp_region_all (by kernel_rfl) (by kernel_rfl) ?_
            repeat (first
              | (refine Flow.wpSeg_step (fun K' hK' => ?_)
                 go_simp
                 first
                   | (refine hK' _ ?_; clear hK' K')
                   | (apply Exists.intro
                      refine ⟨fun p => ?_, hK' _ ?_⟩
                      (first | with_reducible exact (req_q HS.out p) | with_reducible exact (holds_q HS.out bnd p) | with_reducible exact (rholds_q p))
                      clear hK' K')))
            refine Flow.wpSeg_nil ?_
            intro w7 hb7
            have HS7 := Flow.hide (HS.out.below hb7)
            have HM7 := Flow.hide (HM.out.below hb7)
            have HB7 : Hid (Below w.heap.size w w7) := HB.out.trans (hb7.mono HB.out.size)
            clear hb7 HS HM HB rx rm n1 n2 n3 Kx bnd
            go_wp2_with fail
            go_roundw
            case rel => exact ⟨k + 1, s1, oe1, oa1, by omega, by omega, by go_num, I.out, HS7.out, HM7.out, HK.out, HB7.out⟩
            case measure => simp [intOf]; omega
    · by_cases hlen : k < len
      · obtain rfl : k = 80 := by omega
        go_wp2_with fail
        (with_reducible refine ((nil_any _).1).mono ?_)
        rintro e w5 ⟨rfl, rfl⟩
        go_wp2_with fail
        (with_reducible refine ((nil_any _).2.1).mono ?_)
        rintro e w5 ⟨rfl, rfl⟩
        go_wp2_with fail
        (with_reducible refine (asknil_any _ _).mono ?_)
        rintro e w5 ⟨rfl, hb5⟩
        have B5 : Hid (Below w.heap.size w w5) := BW.out.trans (hb5.mono BW.out.size)
        clear hb5
        go_wp2_with fail
        (with_reducible refine ((nil_any _).2.2.1).mono ?_)
        rintro e w6 ⟨rfl, rfl⟩
        go_wp2_with fail
        (with_reducible refine ((nil_any _).2.2.2.2 _ _).mono ?_)
        rintro e w6 ⟨rfl, rfl⟩
        go_wp2_with fail
        (with_reducible refine ((nil_any _).2.2.2.1 _).mono ?_)
        rintro e w6 ⟨rfl, rfl⟩
        go_wp2_with fail
        go_ret
        exact ⟨rfl, B5.out⟩
      · skip
        go_wp2_with fail
        (with_reducible refine ((nil_any _).1).mono ?_)
        rintro e w5 ⟨rfl, rfl⟩
        go_wp2_with fail
        (with_reducible refine ((nil_any _).2.1).mono ?_)
        rintro e w5 ⟨rfl, rfl⟩
        go_wp2_with fail
        (with_reducible refine (asknil_any _ _).mono ?_)
        rintro e w5 ⟨rfl, hb5⟩
        have B5 : Hid (Below w.heap.size w w5) := BW.out.trans (hb5.mono BW.out.size)
        clear hb5
        go_wp2_with fail
        (with_reducible refine ((nil_any _).2.2.1).mono ?_)
        rintro e w6 ⟨rfl, rfl⟩
        go_wp2_with fail
        (with_reducible refine ((nil_any _).2.2.2.2 _ _).mono ?_)
        rintro e w6 ⟨rfl, rfl⟩
        go_wp2_with fail
        (with_reducible refine ((nil_any _).2.2.2.1 _).mono ?_)
        rintro e w6 ⟨rfl, rfl⟩
        go_wp2_with fail
        go_ret
        exact ⟨rfl, B5.out⟩

theorem own : ownKnob Try.prog.godebug = none := by kernel_rfl
theorem laidOut : laidOutB Try.prog = true := by kernel_rfl

set_option maxRecDepth 100000 in
theorem lifted (os : Os) (started : os.Started) (H : Type) (enc : TypeId × Value → H) :
    ReturnsInHanded {} Try.checked os 10 .any (Rows.leasePlaysSpec.pre6 enc Try.prog Try.f10 Rows.leasePlaysRow.domain false) (Rows.leasePlaysSpec.post enc Try.prog Try.f10 false true false false) := by
  refine returnsInHanded_of_change (C := Try.checked) own started (by kernel_rfl) Try.func10
    (ChangeSpec.witness6 (enc := enc) (C := Try.checked) false ⟨#[], #[.int .i64 0, .int .i64 0, .slice none 0 0], []⟩ 8 (by kernel_rfl) (by kernel_rfl) (by kernel_rfl) (by kernel_rfl)) ?_
  intro W base args ds gs before hval0 hW hcnd _
  have hval : ∀ (j : Nat) t v, Try.f10.params[j]? = some t → args[j]? = some v → Value.okWide Try.prog W .any base t v := hval0
  have hW' := hW
  obtain ⟨p, q, hA0, hV, rfl, hfz, hnd⟩ := hW
  have hA : DataW.TrodAll enc Try.prog W 0 (fun _ => true) true Try.f10.params.toList args.toList ds p := hA0
  rw [Try.params10] at hA hval
  obtain ⟨v0, v1, v2, d0, d1, d2, p0, p1, p2, hargs, rfl, rfl, h0, h1, h2⟩ := trodAll_three hA
  obtain ⟨rfl, rfl⟩ := trodVars_none hV
  subst hargs
  obtain ⟨x0, rfl, rfl, rfl, wx0⟩ := open_int Try.underlying3 (hval 0 3 v0 rfl rfl) h0
  obtain ⟨x1, rfl, rfl, rfl, wx1⟩ := open_int Try.underlying3 (hval 1 3 v1 rfl rfl) h1
  obtain ⟨A2, n2, c2, rfl, hl2, _, hr2⟩ := Open.open_rows_arg 30 (ss := [.int .u8, .int .u32, .int .u32]) Try.underlying57 (by kernel_rfl) (by decide) (by kernel_rfl) (hval 2 57 v2 rfl rfl) h2
  obtain ⟨q2, e2, r2, ha2⟩ := acts_of hr2
  clear hA0 hval0
  refine (walk x0 x1 A2 n2 c2 q2 e2 r2 W hl2 ha2).mono fun e W' ⟨he, hb⟩ => ?_
  subst he
  exact ⟨_, rfl, Open.law_post laidOut (by kernel_rfl) (by kernel_rfl) Try.underlying4 rfl rfl hW' hb⟩

theorem over : Rows.leasePlaysRow.holds Try.pinned (OpenSpec.ofChange Rows.leasePlaysSpec) :=
  OpenClaim.holds_of_wide 10 Try.f10 rfl rfl rfl rfl rfl rfl rfl ⟨rfl, rfl, rfl, rfl, rfl⟩ rfl rfl rfl rfl rfl (by kernel_rfl) Try.func10 (by kernel_rfl)
    (of_decide_eq_true (by kernel_rfl)) (by unfold Func.isWrapper; first | (rw [if_pos (by decide +kernel)]; kernel_rfl) | (rw [if_neg (by decide +kernel)]; exact ⟨rfl, rfl⟩))
    (fun os started H enc _ => lifted os started H enc)

theorem proved : Rows.LeasePlaysSaid := over
#print axioms proved
end Go.Proofs.Ythkphapmnlndbaa.LPlays
