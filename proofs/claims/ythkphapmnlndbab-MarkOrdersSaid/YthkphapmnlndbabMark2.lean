/- More contracts of package mark and of its reference. -/
import Derived.Test.YthkphapmnlndbabCell
import Derived.Test.YthkphapmnlndbabOwn
import Derived.Deep.Cut
namespace Go.Proofs.Ythkphapmnlndbab
open Go.RowKit
set_option maxHeartbeats 2000000
set_option linter.unusedSimpArgs false
attribute [local irreducible] Flow.wpSeg Flow.wpF Flow.wpG Flow.wpS Flow.wpT
/-- The numbers of a stamp fit their kinds. -/
def St.ok (s : St) : Prop := (0 ≤ s.1 ∧ s.1 ≤ 4294967295) ∧ (0 ≤ s.2.1 ∧ s.2.1 ≤ 255) ∧ (0 ≤ s.2.2 ∧ s.2.2 ≤ 255)
theorem rless_st (a b c d e f : Int) (w : World) (h1 : St.ok (a, b, c)) (h2 : St.ok (d, e, f)) :
    Calls Try.prog 22 #[.agg #[.int .u32 a, .int .u8 b, .int .u8 c], .agg #[.int .u32 d, .int .u8 e, .int .u8 f]] w fun e' w' => e' = .returned (.bool (slt a b c d e f)) ∧ Below w.heap.size w w' :=
  rless_any ⟨a, b, c, false, ⟨#[]⟩, false⟩ ⟨d, e, f, false, ⟨#[]⟩, false⟩ w h1 h2
theorem none_any (n b : Int) (w : World) : Calls Try.prog 23 #[.agg #[.int .u32 n, .int .u8 b]] w fun e w' => e = .returned (.bool (decide (n = 0 ∧ b = 0))) ∧ Below w.heap.size w w' := by
  by_cases h1 : n = 0
  · by_cases h2 : b = 0
    · subst h1 h2
      go_enter Try.func23, Try.ntmps23
      go_wp2
      go_returns
      exact ⟨rfl, by go_grown⟩
    · have e2 : (b == 0) = false := by simp [h2]
      subst h1
      rw [decide_eq_false (fun h => h2 h.2)]
      clear h2
      go_enter Try.func23, Try.ntmps23
      go_wp2
      go_returns
      exact ⟨rfl, by go_grown⟩
  · have e1 : (n == 0) = false := by simp [h1]
    rw [decide_eq_false (fun h => h1 h.1)]
    clear h1
    go_enter Try.func23, Try.ntmps23
    go_wp2
    go_returns
    exact ⟨rfl, by go_grown⟩
theorem great_ok {m : St} {l : List St} (hm : m.ok) (h : ∀ s ∈ l, s.ok) : (great m l).ok := by
  induction l generalizing m with
  | nil => exact hm
  | cons x l ih =>
    refine ih ?_ (fun s hs => h s (by simp [hs]))
    split
    · exact h x (by simp)
    · exact hm
theorem rgreatest_any (A : Option Addr) (n c : Nat) (xs : List St) (w : World) (hr : RdSt w.heap.size w A n xs) (hn : n ≤ 1000) (hok : ∀ s ∈ xs, s.ok) :
    Calls Try.prog 24 #[.slice A n c] w fun e w' => e = .returned (.agg (St.cells (great (0,0,0) xs)).toArray) ∧ Below w.heap.size w w' := by
  have HOK := Flow.hide hok
  clear hok
  go_enter Try.func24, Try.ntmps24
  go_wp2_with fail
  obtain ⟨W0, hW0⟩ : ∃ W0, W0 = (w.alloc (Obj.cells #[Value.int IntKind.u32 0, Value.int IntKind.u8 0, Value.int IntKind.u8 0] 34)).alloc (Obj.cells #[Value.int IntKind.u32 0, Value.int IntKind.u8 0, Value.int IntKind.u8 0] 34) := ⟨_, rfl⟩
  rw [← hW0]
  have b0 : Below w.heap.size w W0 := by rw [hW0]; go_grown
  have k1 : Flow.Blk W0 w.heap.size 34 #[.int .u32 0, .int .u8 0, .int .u8 0] := by rw [hW0]; exact (Flow.Blk.new _ _ _).alloc _
  have k2 : Flow.Blk W0 (w.heap.size + 1) 34 #[.int .u32 0, .int .u8 0, .int .u8 0] := by
    have := Flow.Blk.new (w.alloc (Obj.cells #[Value.int IntKind.u32 0, Value.int IntKind.u8 0, Value.int IntKind.u8 0] 34)) 34 #[Value.int IntKind.u32 0, Value.int IntKind.u8 0, Value.int IntKind.u8 0]
    rw [hW0]; simpa using this
  have Hx := Flow.hide hr.1
  clear hW0
  go_loopw [4] (fun i wr => ∃ k : Nat, k ≤ n ∧ i = .int .i64 k ∧ Below w.heap.size w wr ∧ Flow.Blk wr w.heap.size 34 #[.int .u32 0, .int .u8 0, .int .u8 0] ∧ Flow.Blk wr (w.heap.size + 1) 34 (St.cells (great (0,0,0) (xs.take k))).toArray) (fun i _ => n - (intOf i).toNat)
  case atStart => exact ⟨0, Nat.zero_le _, rfl, b0, k1, k2⟩
  case round =>
    obtain ⟨k, hk, rfl, b1, kk1, kk2⟩ := hrel
    have z1 := kk2.lt
    by_cases hlt : k < n
    · obtain ⟨g, off, N, Y, L, rfl, hg, hxk, hc0, hc1, hc2⟩ := (hr.under b1).at_ hlt
      have hgw : g < wr.heap.size := Nat.lt_of_lt_of_le hg b1.size
      obtain ⟨mN, mY, mL, hm⟩ : ∃ mN mY mL, (mN, mY, mL) = great (0,0,0) (xs.take k) := ⟨_, _, _, rfl⟩
      rw [← hm] at kk2
      have ok1 : St.ok (mN, mY, mL) := by rw [hm]; exact great_ok ⟨by simp, by simp, by simp⟩ (fun s hs => HOK.out s (List.mem_of_mem_take hs))
      have ok2 : St.ok (N, Y, L) := HOK.out _ (List.mem_of_getElem? hxk)
      have OK1 := Flow.hide ok1
      have OK2 := Flow.hide ok2
      have c2 := kk2.rg
      simp only [St.cells] at c2
      have r0 : ∀ p : Flow.Rg, (Flow.rg wr p).cell? ⟨g, off + k * 3, none⟩ = some (.int .u32 N) := fun p => ((Flow.rg_below wr p).cell (p := ⟨g, off + k * 3, none⟩) hgw).trans hc0
      have r1 : ∀ p : Flow.Rg, (Flow.rg wr p).cell? ⟨g, off + k * 3 + 1, none⟩ = some (.int .u8 Y) := fun p => ((Flow.rg_below wr p).cell (p := ⟨g, off + k * 3 + 1, none⟩) hgw).trans hc1
      have r2 : ∀ p : Flow.Rg, (Flow.rg wr p).cell? ⟨g, off + k * 3 + 2, none⟩ = some (.int .u8 L) := fun p => ((Flow.rg_below wr p).cell (p := ⟨g, off + k * 3 + 2, none⟩) hgw).trans hc2
      have hlti : (k : Int) < (n : Int) := by omega
      have Hm := Flow.hide hm
      have Hxk := Flow.hide hxk
      clear hm hxk ok1 ok2
      go_upto_region 5 with fail
      refine Flow.wp_region_all (by kernel_rfl) (by kernel_rfl) ?_
      repeat (first
        | (refine Flow.wpSeg_step (fun K' hK' => ?_)
           go_simp
           first
             | (refine hK' _ ?_; clear hK' K')
             | (apply Exists.intro
                refine ⟨fun p => ?_, hK' _ ?_⟩
                (first | with_reducible exact (rless_st mN mY mL N Y L _ OK1.out OK2.out))
                clear hK' K')))
      refine Flow.wpSeg_nil ?_
      intro w' hb'
      have y0 := (hb'.cell (p := ⟨g, off + k * 3, none⟩) hgw).trans hc0
      have y1 := (hb'.cell (p := ⟨g, off + k * 3 + 1, none⟩) hgw).trans hc1
      have y2 := (hb'.cell (p := ⟨g, off + k * 3 + 2, none⟩) hgw).trans hc2
      have d1 := kk1.below hb'
      have d2 := kk2.below hb'
      have b2 : Below w.heap.size w w' := b1.trans (hb'.mono b1.size)
      clear c2 r0 r1 r2 hc0 hc1 hc2 hb'
      rcases hbl : slt mN mY mL N Y L with _ | _
      · have Hbl := Flow.hide hbl
        clear hbl
        go_wp2_with fail
        go_roundw
        case rel =>
          refine ⟨k + 1, by omega, by go_num, b2, d1, ?_⟩
          rw [take_snoc xs k _ Hxk.out, great_snoc, ← Hm.out, if_neg (by unfold sless; rw [Hbl.out]; decide)]
          exact d2
        case measure => simp [intOf]; omega
      · have Hbl := Flow.hide hbl
        have e2 := d2.cell
        have g2 := d2.frozen
        simp only [St.cells] at e2
        have hz2 := d2.lt
        clear hbl
        go_wp2_with fail
        go_roundw
        case rel =>
          refine ⟨k + 1, by omega, by go_num, b2.setCell (by simp) _ |>.setCell (by simp) _ |>.setCell (by simp) _, ?_, ?_⟩
          · exact ((d1.far (by simp) _).far (by simp) _).far (by simp) _
          rw [take_snoc xs k _ Hxk.out, great_snoc, ← Hm.out, if_pos (by unfold sless; rw [Hbl.out])]
          exact (((d2.set 0 _).set 1 _).set 2 _)
        case measure => simp [intOf]; omega
    · obtain rfl : k = n := by omega
      have c2 := kk2.cell
      have c1 := kk1.cell
      have f1 := kk1.frozen
      have q0 := kk1.same 0 (by decide)
      have q1 := fun v => (kk1.set 0 v).same 1 (by simp)
      have q2 := fun v u => ((kk1.set 0 v).set 1 u).same 2 (by simp)
      have hxs : xs.take k = xs := List.take_of_length_le (by have := Hx.out; omega)
      rw [hxs] at c2
      obtain ⟨mN, mY, mL, hm⟩ : ∃ mN mY mL, (mN, mY, mL) = great (0,0,0) xs := ⟨_, _, _, rfl⟩
      rw [← hm] at c2
      simp only [St.cells] at c2
      have Hm := Flow.hide hm
      clear hm hxs
      go_wp2_with fail
      try simp only [Exit.inBlock, Exit.then]
      refine bodyPost_ret (v := .agg #[.int .u32 mN, .int .u8 mY, .int .u8 mL]) (by simp [results, Try.results24, go_sem, q0, q1, q2]) rfl ?_
      exact ⟨by rw [← Hm.out]; rfl, b1.setCell (by simp) _ |>.setCell (by simp) _ |>.setCell (by simp) _⟩
def St.cells2 (s : St) : List Value := [.int .u32 s.1, .int .u8 s.2.1]
theorem mlt_slt (n b n' b' : Int) : mlt n b n' b' = slt n b 0 n' b' 0 := by
  unfold mlt slt
  exact decide_eq_decide.2 (by omega)
theorem great_zero {m : St} {l : List St} (hm : m.2.2 = 0) (h : ∀ s ∈ l, s.2.2 = 0) : ((great m l).1, (great m l).2.1, (0 : Int)) = great m l := by
  induction l generalizing m with
  | nil => obtain ⟨a, b, c⟩ := m; simp only at hm; subst hm; rfl
  | cons x l ih =>
    refine ih ?_ (fun s hs => h s (by simp [hs]))
    split
    · exact h x (by simp)
    · exact hm
/-- A slice that reads as ballots, in memory below B. -/
def RdB (B : Nat) (w : World) (A : Option Addr) (n : Nat) (xs : List St) : Prop :=
  xs.length = n ∧ (0 < n → ∃ g off, A = some ⟨g, off, none⟩ ∧ g < B ∧ ∀ i s, xs[i]? = some s → ∀ j, j < 2 → w.cell? ⟨g, off + (i * 2 + j), none⟩ = (St.cells2 s)[j]?)
theorem RdB.under {B : Nat} {w w' : World} {A : Option Addr} {n : Nat} {xs : List St} (h : RdB B w A n xs) (hb : Below B w w') : RdB B w' A n xs := by
  refine ⟨h.1, fun hn => ?_⟩
  obtain ⟨g, off, e, hg, hc⟩ := h.2 hn
  refine ⟨g, off, e, hg, fun i s hs j hj => ?_⟩
  rw [hb.cell (p := ⟨g, _, none⟩) hg]
  exact hc i s hs j hj
theorem RdB.at_ {B : Nat} {w : World} {A : Option Addr} {n k : Nat} {xs : List St} (h : RdB B w A n xs) (h0 : ∀ s ∈ xs, s.2.2 = 0) (hk : k < n) :
    ∃ g off N Y, A = some ⟨g, off, none⟩ ∧ g < B ∧ xs[k]? = some (N, Y, 0) ∧ w.cell? ⟨g, off + k * 2, none⟩ = some (.int .u32 N) ∧ w.cell? ⟨g, off + k * 2 + 1, none⟩ = some (.int .u8 Y) := by
  obtain ⟨g, off, e, hg, hc⟩ := h.2 (by omega)
  have hl := h.1
  have hx : xs[k]? = some (xs[k]'(by omega)) := List.getElem?_eq_getElem (by omega)
  obtain ⟨⟨N, Y, L⟩, hs⟩ : ∃ s, s = xs[k]'(by omega) := ⟨_, rfl⟩
  rw [← hs] at hx
  have hL : L = 0 := h0 _ (List.mem_of_getElem? hx)
  subst hL
  exact ⟨g, off, N, Y, e, hg, hx, hc k _ hx 0 (by omega), hc k _ hx 1 (by omega)⟩
theorem highest_any (A : Option Addr) (n c : Nat) (xs : List St) (w : World) (h0 : ∀ s ∈ xs, s.2.2 = 0) (hr : RdB w.heap.size w A n xs) (hn : n ≤ 1000) :
    Calls Try.prog 25 #[.slice A n c] w fun e w' => e = .returned (.agg (St.cells2 (great (0,0,0) xs)).toArray) ∧ Below w.heap.size w w' := by
  go_enter Try.func25, Try.ntmps25
  go_wp2
  obtain ⟨W0, hW0⟩ : ∃ W0, W0 = (w.alloc (Obj.cells #[Value.int IntKind.u32 0, Value.int IntKind.u8 0] 38)).alloc (Obj.cells #[Value.int IntKind.u32 0, Value.int IntKind.u8 0] 38) := ⟨_, rfl⟩
  rw [← hW0]
  have b0 : Below w.heap.size w W0 := by rw [hW0]; go_grown
  have k1 : Flow.Blk W0 w.heap.size 38 #[.int .u32 0, .int .u8 0] := by rw [hW0]; exact (Flow.Blk.new _ _ _).alloc _
  have k2 : Flow.Blk W0 (w.heap.size + 1) 38 #[.int .u32 0, .int .u8 0] := by
    have := Flow.Blk.new (w.alloc (Obj.cells #[Value.int IntKind.u32 0, Value.int IntKind.u8 0] 38)) 38 #[Value.int IntKind.u32 0, Value.int IntKind.u8 0]
    rw [hW0]; simpa using this
  have Hx := Flow.hide hr.1
  clear hW0
  go_loopw [8] (fun i wr => ∃ k : Nat, k ≤ n ∧ i = .int .i64 k ∧ Below w.heap.size w wr ∧ Flow.Blk wr w.heap.size 38 #[.int .u32 0, .int .u8 0] ∧ Flow.Blk wr (w.heap.size + 1) 38 (St.cells2 (great (0,0,0) (xs.take k))).toArray) (fun i _ => n - (intOf i).toNat)
  case atStart => exact ⟨0, Nat.zero_le _, rfl, b0, k1, k2⟩
  case round =>
    obtain ⟨k, hk, rfl, b1, kk1, kk2⟩ := hrel
    have z1 := kk2.lt
    by_cases hlt : k < n
    · obtain ⟨g, off, N, Y, rfl, hg, hxk, hc0, hc1⟩ := (hr.under b1).at_ h0 hlt
      obtain ⟨mN, mY, hm⟩ : ∃ mN mY, (mN, mY, 0) = great (0,0,0) (xs.take k) := ⟨_, _, by rw [← great_zero rfl (fun s hs => h0 s (List.mem_of_mem_take hs))]⟩
      rw [← hm] at kk2
      have c2 := kk2.cell
      have f2 := kk2.frozen
      simp only [St.cells2] at c2
      have Hm := Flow.hide hm
      have Hxk := Flow.hide hxk
      clear hm hxk
      go_wp2_with fail
      refine (below_any _ _ _ _ _).mono ?_
      rintro e w1 ⟨rfl, hb1⟩
      have hsz := hb1.size
      simp only [World.size_alloc] at hsz
      have hbw : Below wr.heap.size wr w1 := (Flow.below_alloc _ _).trans (hb1.mono (by simp))
      have d1 := kk1.below hbw
      have d2 := kk2.below hbw
      have d5 : Flow.Blk w1 wr.heap.size 38 #[.int .u32 N, .int .u8 Y] := (Flow.Blk.new _ _ _).below hb1
      have b2 : Below w.heap.size w w1 := b1.trans (hbw.mono (by omega))
      have e2 := d2.cell
      have g2 := d2.frozen
      have e5 := d5.cell
      simp only [St.cells2] at e2
      clear c2 f2 hc0 hc1 hb1
      rcases hbl : mlt mN mY N Y with _ | _
      · have Hbl := Flow.hide hbl
        clear hbl
        go_wp2_with fail
        go_roundw
        case rel => 
          refine ⟨k + 1, by omega, by go_num, b2, d1, ?_⟩
          rw [take_snoc xs k _ Hxk.out, great_snoc, ← Hm.out, if_neg (by unfold sless; rw [← mlt_slt, Hbl.out]; decide)]
          exact d2
        case measure => simp [intOf]; omega
      · have Hbl := Flow.hide hbl
        clear hbl
        go_wp2_with fail
        go_roundw
        case rel => 
          refine ⟨k + 1, by omega, by go_num, b2.setCell (by simp) _ |>.setCell (by simp) _, ?_, ?_⟩
          · exact (d1.far (by simp) _).far (by simp) _
          rw [take_snoc xs k _ Hxk.out, great_snoc, ← Hm.out, if_pos (by unfold sless; rw [← mlt_slt, Hbl.out])]
          exact ((d2.set 0 _).set 1 _)
        case measure => simp [intOf]; omega
    · obtain rfl : k = n := by omega
      have c2 := kk2.cell
      have c1 := kk1.cell
      have f1 := kk1.frozen
      have q0 := kk1.same 0 (by decide)
      have q1 := fun v => (kk1.set 0 v).same 1 (by simp)
      have hxs : xs.take k = xs := List.take_of_length_le (by have := Hx.out; omega)
      rw [hxs] at c2
      obtain ⟨mN, mY, hm⟩ : ∃ mN mY, (mN, mY, 0) = great (0,0,0) xs := ⟨_, _, by rw [← great_zero rfl h0]⟩
      rw [← hm] at c2
      simp only [St.cells2] at c2
      have Hm := Flow.hide hm
      clear hm hxs
      go_wp2_with fail
      try simp only [Exit.inBlock, Exit.then]
      refine bodyPost_ret (v := .agg #[.int .u32 mN, .int .u8 mY]) (by simp [results, Try.results25, go_sem, q0, q1]) rfl ?_
      exact ⟨by rw [← Hm.out]; rfl, b1.setCell (by simp) _ |>.setCell (by simp) _⟩
theorem RdSt.mono {B C : Nat} {w : World} {A : Option Addr} {n : Nat} {xs : List St} (h : RdSt B w A n xs) (hB : B ≤ C) : RdSt C w A n xs :=
  ⟨h.1, fun hn => by obtain ⟨g, off, e, hg, hc⟩ := h.2 hn; exact ⟨g, off, e, by omega, hc⟩⟩
theorem RdB.mono {B C : Nat} {w : World} {A : Option Addr} {n : Nat} {xs : List St} (h : RdB B w A n xs) (hB : B ≤ C) : RdB C w A n xs :=
  ⟨h.1, fun hn => by obtain ⟨g, off, e, hg, hc⟩ := h.2 hn; exact ⟨g, off, e, by omega, hc⟩⟩
end Go.Proofs.Ythkphapmnlndbab
