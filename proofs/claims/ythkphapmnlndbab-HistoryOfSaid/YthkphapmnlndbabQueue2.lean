/- The contract of queue.Take. -/
import Derived.Test.YthkphapmnlndbabQueue
import Derived.Deep.CutBlock
namespace Go.Proofs.Ythkphapmnlndbab
open Go.RowKit
set_option maxHeartbeats 1000000
set_option linter.unusedSimpArgs false
attribute [local irreducible] Flow.wpSeg Flow.wpF Flow.wpG Flow.wpS Flow.wpT
set_option maxRecDepth 20000 in
theorem take_nil (key : Int) (w : World) :
    Calls Try.prog 53 #[.pointer none, .int .i64 key] w fun e w' => e = .returned (.tuple #[.agg #[.int .u32 0, .int .u32 0, .int .i64 0, .int .i64 0, .string ⟨#[]⟩, .bool false, .string ⟨#[]⟩, .int .i64 0], .bool false]) ∧ Below w.heap.size w w' := by
  go_enter Try.func53, Try.ntmps53
  go_wp2_with fail
  (with_reducible refine (first_nil key _).mono ?_)
  rintro e w1 ⟨rfl, hb⟩
  obtain ⟨K1, q1, z1⟩ := Flow.laid1 hb
  have Q1 := Flow.hide q1
  obtain ⟨tb, htb⟩ : ∃ t, t = w.heap.size := ⟨_, rfl⟩
  have HTB : Hid (w.heap.size ≤ tb) := by rw [htb]; exact Nat.le_refl _
  rw [← htb] at K1 ⊢
  clear hb q1 z1 htb
  go_upto_region 2 with fail
  obtain ⟨K2, hh2, z2⟩ := Flow.laid1 (w := w1) (w1 := w1.alloc (.cells #[.int .u32 0, .int .u32 0, .int .i64 0, .int .i64 0, .string ⟨#[]⟩, .bool false, .string ⟨#[]⟩, .int .i64 0] 125)) (Below.refl _ _)
  have K3 := K1.alloc (.cells #[.int .u32 0, .int .u32 0, .int .i64 0, .int .i64 0, .string ⟨#[]⟩, .bool false, .string ⟨#[]⟩, .int .i64 0] 125)
  have Q2 := Flow.hide (Q1.out.alloc Q1.out.size (.cells #[.int .u32 0, .int .u32 0, .int .i64 0, .int .i64 0, .string ⟨#[]⟩, .bool false, .string ⟨#[]⟩, .int .i64 0] 125))
  clear K1 Q1 hh2
  revert K2 K3 Q2 z2
  generalize w1.alloc (.cells #[.int .u32 0, .int .u32 0, .int .i64 0, .int .i64 0, .string ⟨#[]⟩, .bool false, .string ⟨#[]⟩, .int .i64 0] 125) = w2
  generalize w1.heap.size = sb
  intro K2 z2 K3 Q2
  have c2 := K2.cell
  have f2 := K2.frozen
  have c3 := K3.cell
  have f3 := K3.frozen
  have l3 := K3.lt
  go_wp2_with fail
  obtain ⟨w4, hw4⟩ : ∃ w4, w4 = ((((((((w2.setCell ⟨tb, 0, none⟩ (.int .u32 0)).setCell ⟨tb, 1, none⟩ (.int .u32 0)).setCell ⟨tb, 2, none⟩ (.int .i64 0)).setCell ⟨tb, 3, none⟩ (.int .i64 0)).setCell ⟨tb, 4, none⟩ (.string ⟨#[]⟩)).setCell ⟨tb, 5, none⟩ (.bool false)).setCell ⟨tb, 6, none⟩ (.string ⟨#[]⟩)).setCell ⟨tb, 7, none⟩ (.int .i64 0)) := ⟨_, rfl⟩
  obtain ⟨K4, C4⟩ := Flow.store8 (b0 := .int .u32 0) (b1 := .int .u32 0) (b2 := .int .i64 0) (b3 := .int .i64 0) (b4 := .string ⟨#[]⟩) (b5 := .bool false) (b6 := .string ⟨#[]⟩) (b7 := .int .i64 0) K3
  rw [← hw4] at K4 C4 ⊢
  have q4 := K4.cell
  exact bodyPost_ret (v := .tuple #[.agg #[.int .u32 0, .int .u32 0, .int .i64 0, .int .i64 0, .string ⟨#[]⟩, .bool false, .string ⟨#[]⟩, .int .i64 0], .bool false]) (by simp [results, Try.results53, go_sem, q4]) rfl ⟨rfl, Q2.out.trans (C4.below (fun j _ e => by subst e; exact HTB.out) Q2.out.size)⟩
set_option maxRecDepth 20000 in
theorem take_no (g B : Nat) (l : List Cl) (key : Int) (w : World) (hq : IsQ w B g l) (hn : l.length ≤ 1000) (hr : Non l key) :
    Calls Try.prog 53 #[.pointer (some ⟨g, 0, none⟩), .int .i64 key] w fun e w' => e = .returned (.tuple #[.agg #[.int .u32 0, .int .u32 0, .int .i64 0, .int .i64 0, .string ⟨#[]⟩, .bool false, .string ⟨#[]⟩, .int .i64 0], .bool false]) ∧ Below w.heap.size w w' := by
  have HQ := Flow.hide (hq.below (Flow.below_alloc w (.cells #[.int .u32 0, .int .u32 0, .int .i64 0, .int .i64 0, .string ⟨#[]⟩, .bool false, .string ⟨#[]⟩, .int .i64 0] 125)))
  have HR := Flow.hide hr
  clear hq hr
  go_enter Try.func53, Try.ntmps53
  go_wp2_with fail
  (with_reducible refine (first_no g B l key _ HQ.out hn HR.out).mono ?_)
  rintro e w1 ⟨rfl, hb⟩
  obtain ⟨K1, q1, z1⟩ := Flow.laid1 hb
  have Q1 := Flow.hide q1
  obtain ⟨tb, htb⟩ : ∃ t, t = w.heap.size := ⟨_, rfl⟩
  have HTB : Hid (w.heap.size ≤ tb) := by rw [htb]; exact Nat.le_refl _
  rw [← htb] at K1 ⊢
  clear hb q1 z1 htb
  go_upto_region 2 with fail
  obtain ⟨K2, hh2, z2⟩ := Flow.laid1 (w := w1) (w1 := w1.alloc (.cells #[.int .u32 0, .int .u32 0, .int .i64 0, .int .i64 0, .string ⟨#[]⟩, .bool false, .string ⟨#[]⟩, .int .i64 0] 125)) (Below.refl _ _)
  have K3 := K1.alloc (.cells #[.int .u32 0, .int .u32 0, .int .i64 0, .int .i64 0, .string ⟨#[]⟩, .bool false, .string ⟨#[]⟩, .int .i64 0] 125)
  have Q2 := Flow.hide (Q1.out.alloc Q1.out.size (.cells #[.int .u32 0, .int .u32 0, .int .i64 0, .int .i64 0, .string ⟨#[]⟩, .bool false, .string ⟨#[]⟩, .int .i64 0] 125))
  clear K1 Q1 hh2
  revert K2 K3 Q2 z2
  generalize w1.alloc (.cells #[.int .u32 0, .int .u32 0, .int .i64 0, .int .i64 0, .string ⟨#[]⟩, .bool false, .string ⟨#[]⟩, .int .i64 0] 125) = w2
  generalize w1.heap.size = sb
  intro K2 z2 K3 Q2
  have c2 := K2.cell
  have f2 := K2.frozen
  have c3 := K3.cell
  have f3 := K3.frozen
  have l3 := K3.lt
  go_wp2_with fail
  obtain ⟨w4, hw4⟩ : ∃ w4, w4 = ((((((((w2.setCell ⟨tb, 0, none⟩ (.int .u32 0)).setCell ⟨tb, 1, none⟩ (.int .u32 0)).setCell ⟨tb, 2, none⟩ (.int .i64 0)).setCell ⟨tb, 3, none⟩ (.int .i64 0)).setCell ⟨tb, 4, none⟩ (.string ⟨#[]⟩)).setCell ⟨tb, 5, none⟩ (.bool false)).setCell ⟨tb, 6, none⟩ (.string ⟨#[]⟩)).setCell ⟨tb, 7, none⟩ (.int .i64 0)) := ⟨_, rfl⟩
  obtain ⟨K4, C4⟩ := Flow.store8 (b0 := .int .u32 0) (b1 := .int .u32 0) (b2 := .int .i64 0) (b3 := .int .i64 0) (b4 := .string ⟨#[]⟩) (b5 := .bool false) (b6 := .string ⟨#[]⟩) (b7 := .int .i64 0) K3
  rw [← hw4] at K4 C4 ⊢
  have q4 := K4.cell
  exact bodyPost_ret (v := .tuple #[.agg #[.int .u32 0, .int .u32 0, .int .i64 0, .int .i64 0, .string ⟨#[]⟩, .bool false, .string ⟨#[]⟩, .int .i64 0], .bool false]) (by simp [results, Try.results53, go_sem, q4]) rfl ⟨rfl, Q2.out.trans (C4.below (fun j _ e => by subst e; exact HTB.out) Q2.out.size)⟩
theorem IsQ.of {w : World} {B g : Nat} {l : List Cl} {v : Value} (h1 : Flow.Blk w g 156 #[v]) (h2 : w.ownsRow B 125 8 v l.length (xsC l)) (h3 : B ≤ g) : IsQ w B g l := ⟨v, h1, h2, h3⟩
/-- The blocks of a queue: its own, and a row of calls. -/
def OnQ (w : World) (g : Nat) (j : Nat) : Prop := j = g ∨ ∃ cur, w.heap[j]? = some (.cells cur 125 (0, 0))
theorem own_on {w : World} {B n : Nat} {v : Value} {x : List Value} (h : w.ownsRow B 125 8 v n x) : ∀ j, some j = v.ownBlock → ∃ cur, w.heap[j]? = some (.cells cur 125 (0, 0)) := by
  intro j hj
  rcases h.2 with ⟨rfl, _⟩ | ⟨g1, c1, cur1, rfl, _, hg1, _⟩
  · cases hj
  · simp only [Value.ownBlock, Option.some.injEq] at hj
    subst hj
    exact ⟨_, hg1⟩
theorem own_lt {w : World} {B n : Nat} {v : Value} {x : List Value} (h : w.ownsRow B 125 8 v n x) : ∀ j, v.ownBlock = some j → j < w.heap.size := by
  intro j hj
  rcases h.2 with ⟨rfl, _⟩ | ⟨g1, c1, cur1, rfl, _, hg1, _⟩
  · cases hj
  · simp only [Value.ownBlock, Option.some.injEq] at hj
    subst hj
    exact (Array.getElem?_eq_some_iff.1 hg1).1
set_option maxRecDepth 20000 in
theorem take_a (g B : Nat) (a : Option Nat) (l : List Cl) (key : Int) (i : Nat) (c : Cl) (w : World) (hqa : IsQA w B g a l) (hn : l.length ≤ 1000) (hr : Fst l key i) (hc : l[i]? = some c) (hB : B ≤ w.heap.size) :
    Calls Try.prog 53 #[.pointer (some ⟨g, 0, none⟩), .int .i64 key] w fun e w' => e = .returned (.tuple #[.agg #[.int .u32 c.n, .int .u32 c.m, .int .i64 c.kind, .int .i64 c.key, .string c.text, .bool c.has, .string c.old, .int .i64 c.num], .bool true]) ∧ IsQA w' B g a (l.eraseIdx i) ∧ Below B w w' ∧ Flow.Chg (fun j => j = g ∨ some j = a) w w' := by
  obtain ⟨v, h1, h2, h3, h4⟩ := hqa
  have HVA := Flow.hide h4
  clear h4
  have HO := Flow.hide (own_lt h2)
  have HGL := Flow.hide h1.lt
  have HGB := Flow.hide h3
  have HN := Flow.hide hn
  have b0 := Flow.below_alloc w (.cells #[.int .u32 0, .int .u32 0, .int .i64 0, .int .i64 0, .string ⟨#[]⟩, .bool false, .string ⟨#[]⟩, .int .i64 0] 125)
  have HG0 := Flow.hide (h1.below b0)
  have HR0 := Flow.hide (Flow.ownsRow_chg h2 (Flow.Chg.of_below b0) (fun _ _ e => e))
  have HR := Flow.hide hr
  have HC := Flow.hide hc
  have hil : i < l.length := (List.getElem?_eq_some_iff.1 hc).1
  have HIL := Flow.hide hil
  have HB := Flow.hide hB
  have hiI : (i : Int) < (l.length : Int) := by omega
  have hnI : (l.length : Int) ≤ 1000 := by omega
  clear hr hc h1 h2 h3 hn b0 hil hB
  go_enter Try.func53, Try.ntmps53
  go_wp2_with fail
  (with_reducible refine (first_yes g B l key i c _ (IsQ.of HG0.out HR0.out HGB.out) HN.out HR.out HC.out).mono ?_)
  rintro e w1 ⟨rfl, hb⟩
  obtain ⟨K1, q1, z1⟩ := Flow.laid1 hb
  have HG1 := HG0.out.below hb
  have HR1 := Flow.hide (Flow.ownsRow_chg HR0.out (Flow.Chg.of_below hb) (fun _ _ e => e))
  have Q1 := Flow.hide q1
  obtain ⟨tb, htb⟩ : ∃ t, t = w.heap.size := ⟨_, rfl⟩
  have HTB : Hid (w.heap.size ≤ tb) := by rw [htb]; exact Nat.le_refl _
  rw [← htb] at K1 ⊢
  clear hb q1 z1 htb HG0 HR0
  go_upto_region 3 with fail
  obtain ⟨K2, hh2, z2⟩ := Flow.laid1 (w := w1) (w1 := w1.alloc (.cells #[.int .u32 c.n, .int .u32 c.m, .int .i64 c.kind, .int .i64 c.key, .string c.text, .bool c.has, .string c.old, .int .i64 c.num] 125)) (Below.refl _ _)
  have K3 := K1.alloc (.cells #[.int .u32 c.n, .int .u32 c.m, .int .i64 c.kind, .int .i64 c.key, .string c.text, .bool c.has, .string c.old, .int .i64 c.num] 125)
  have Q2 := Flow.hide (Q1.out.alloc Q1.out.size (.cells #[.int .u32 c.n, .int .u32 c.m, .int .i64 c.kind, .int .i64 c.key, .string c.text, .bool c.has, .string c.old, .int .i64 c.num] 125))
  have HG2 := Flow.hide (HG1.below hh2)
  have HR2 := Flow.hide (Flow.ownsRow_chg HR1.out (Flow.Chg.of_below hh2) (fun _ _ e => e))
  have HSB : Hid (w.heap.size ≤ w1.heap.size) := Q1.out.size
  clear K1 Q1 hh2 HG1 HR1
  revert K2 K3 Q2 z2 HG2 HR2 HSB
  generalize w1.alloc (.cells #[.int .u32 c.n, .int .u32 c.m, .int .i64 c.kind, .int .i64 c.key, .string c.text, .bool c.has, .string c.old, .int .i64 c.num] 125) = w2
  generalize w1.heap.size = sb
  intro K2 z2 K3 Q2 HG2 HR2 HSB
  clear w1 z2
  go_wp2_with fail
  (with_reducible refine (at_any g B l key i _ (IsQ.of HG2.out HR2.out HGB.out) HN.out (.inl ⟨i, rfl, HR.out⟩)).mono ?_)
  rintro e w3 ⟨rfl, hb3⟩
  have K33 := Flow.hide (K3.below hb3)
  have K23 := Flow.hide (K2.below hb3)
  have G3 := HG2.out.below hb3
  have R3 := Flow.hide (Flow.ownsRow_chg HR2.out (Flow.Chg.of_below hb3) (fun _ _ e => e))
  have Q3 := Flow.hide (Q2.out.trans (hb3.mono Q2.out.size))
  have c3 := G3.cell
  have l3 := G3.lt
  obtain ⟨A, cap, hv, _⟩ := Flow.ownsRow_form R3.out
  subst hv
  clear hb3 K3 K2 HG2 HR2 Q2 w2
  go_wp2_with fail
  (with_reducible refine (delete_any _ l B l.length i _ R3.out rfl HN.out HIL.out).mono ?_)
  rintro e w4 ⟨⟨v', rfl, hR4, hO4⟩, hC4⟩
  have N3 := q_ne R3.out G3
  have G4 := G3.chg hC4 (fun e => N3 _ e.symm rfl)
  have K34 := Flow.hide (K33.out.chg hC4 (fun e => by have := HO.out _ e.symm; have := HTB.out; omega))
  have K24 := Flow.hide (K23.out.chg hC4 (fun e => by have := HO.out _ e.symm; have := HSB.out; omega))
  have Q4 := Flow.hide ((Q3.out.mono HB.out).trans (hC4.below (B := B) (fun j _ e => by
    rcases R3.out.2 with ⟨h, _⟩ | ⟨g1, c1, cur1, h, hb, _⟩
    · rw [h] at e; cases e
    · rw [h] at e; simp only [Value.ownBlock, Option.some.injEq] at e; omega) (Nat.le_trans HB.out Q3.out.size)))
  have CQ4 := Flow.hide (((Flow.Chg.of_below Q3.out).mono (T := fun j => j = g ∨ some j = a) (fun _ _ e => e.elim)).trans hC4 (fun j _ e => .inr (e.trans HVA.out)))
  have HVA4 := Flow.hide (hO4.trans HVA.out)
  have HO4 : Hid (∀ j, v'.ownBlock = some j → j < w.heap.size) := by rw [hO4]; exact HO.out
  obtain ⟨A', cap', hv', _⟩ := Flow.ownsRow_form hR4
  subst hv'
  have R4 := Flow.hide hR4
  have c4 := G4.cell
  have l4 := G4.lt
  have f4 := G4.frozen
  clear hR4 hC4 hO4 N3 G3 K33 K23 R3 Q3 c3 l3 HO w3
  go_upto_region 5 with fail
  have C5 := Flow.Chg.setAt w4 g 0 (.slice A' (l.length - 1) cap')
  have N5 := q_ne R4.out G4
  have HLE : (l.eraseIdx i).length = l.length - 1 := List.length_eraseIdx_of_lt HIL.out
  have G5 := Flow.hide (Flow.Blk.set_is G4 0 (.slice A' (l.length - 1) cap') (cs' := #[.slice A' (l.length - 1) cap']) rfl)
  have R5 := Flow.hide (Flow.ownsRow_chg R4.out C5 (fun j hj e => N5 j hj e))
  have K35 := K34.out.chg C5 (fun e => by have := HGL.out; have := HTB.out; omega)
  have K25 := K24.out.chg C5 (fun e => by have := HGL.out; have := HSB.out; omega)
  have Q5 := Flow.hide (Q4.out.trans (C5.below (B := B) (fun j _ e => by subst e; exact HGB.out) (Nat.le_trans HB.out Q4.out.size)))
  have CQ5 := Flow.hide (CQ4.out.trans C5 (fun j _ e => .inl e))
  clear C5 N5 c4 l4 f4 K34 K24 Q4 R4 G4 CQ4
  revert G5 R5 K35 K25 Q5 CQ5
  generalize w4.setCell ⟨g, 0, none⟩ (.slice A' (l.length - 1) cap') = w5
  intro G5 R5 K35 K25 Q5 CQ5
  clear w4
  have c5 := K35.cell
  have f5 := K35.frozen
  have l5 := K35.lt
  have d5 := K25.cell
  have HLE' := Flow.hide HLE
  clear HLE
  go_wp2_with fail
  obtain ⟨w6, hw6⟩ : ∃ w6, w6 = ((((((((w5.setCell ⟨tb, 0, none⟩ (.int .u32 c.n)).setCell ⟨tb, 1, none⟩ (.int .u32 c.m)).setCell ⟨tb, 2, none⟩ (.int .i64 c.kind)).setCell ⟨tb, 3, none⟩ (.int .i64 c.key)).setCell ⟨tb, 4, none⟩ (.string c.text)).setCell ⟨tb, 5, none⟩ (.bool c.has)).setCell ⟨tb, 6, none⟩ (.string c.old)).setCell ⟨tb, 7, none⟩ (.int .i64 c.num)) := ⟨_, rfl⟩
  obtain ⟨K6, C6⟩ := Flow.store8 (b0 := .int .u32 c.n) (b1 := .int .u32 c.m) (b2 := .int .i64 c.kind) (b3 := .int .i64 c.key) (b4 := .string c.text) (b5 := .bool c.has) (b6 := .string c.old) (b7 := .int .i64 c.num) K35
  rw [← hw6] at K6 C6 ⊢
  have q6 := K6.cell
  have G6 := G5.out.chg C6 (fun e => by have := HGL.out; have := HTB.out; omega)
  have R6 := Flow.ownsRow_chg R5.out C6 (fun j hj e => by have := HO4.out j hj; have := HTB.out; omega)
  rw [← HLE'.out] at G6 R6
  exact bodyPost_ret (v := .tuple #[.agg #[.int .u32 c.n, .int .u32 c.m, .int .i64 c.kind, .int .i64 c.key, .string c.text, .bool c.has, .string c.old, .int .i64 c.num], .bool true]) (by simp [results, Try.results53, go_sem, q6]) rfl ⟨rfl, ⟨_, G6, R6, HGB.out, (by rw [HLE'.out]; exact HVA4.out)⟩, Q5.out.trans (C6.below (fun j _ e => by subst e; have := HB.out; have := HTB.out; omega) (Nat.le_trans HB.out Q5.out.size)), CQ5.out.trans C6 (fun j hj e => by subst e; have := HTB.out; omega)⟩
theorem take_yes (g B : Nat) (l : List Cl) (key : Int) (i : Nat) (c : Cl) (w : World) (hq : IsQ w B g l) (hn : l.length ≤ 1000) (hr : Fst l key i) (hc : l[i]? = some c) (hB : B ≤ w.heap.size) :
    Calls Try.prog 53 #[.pointer (some ⟨g, 0, none⟩), .int .i64 key] w fun e w' => e = .returned (.tuple #[.agg #[.int .u32 c.n, .int .u32 c.m, .int .i64 c.kind, .int .i64 c.key, .string c.text, .bool c.has, .string c.old, .int .i64 c.num], .bool true]) ∧ IsQ w' B g (l.eraseIdx i) ∧ Below B w w' ∧ Flow.Chg (OnQ w g) w w' := by
  obtain ⟨v, h1, h2, h3⟩ := hq
  have hs := own_on h2
  exact (take_a g B _ l key i c w ⟨v, h1, h2, h3, rfl⟩ hn hr hc hB).mono fun e w' ⟨he, hq, hb, hcg⟩ => ⟨he, hq.isQ, hb, hcg.mono (fun j _ e => e.elim .inl (fun e => .inr (hs j e)))⟩
end Go.Proofs.Ythkphapmnlndbab
