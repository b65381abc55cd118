/- The contracts of package transfer. -/
import Derived.Test.YthkphapmnlndbabProg
import Derived.Test.YthkphapmnlndbabSteps
import Derived.WalkKit
import Derived.WalkLawsBesides
import Derived.WalkSpells
import Derived.Handy
namespace Go.Proofs.Ythkphapmnlndbab
open Go.RowKit
set_option maxHeartbeats 1000000
/-- A transfer's cells. -/
def tc (h : Nat → Bool) (c : Int) : Array Value := #[.bool (h 0), .bool (h 1), .bool (h 2), .bool (h 3), .bool (h 4), .bool (h 5), .int .i64 c]
theorem tc_get (h : Nat → Bool) (c : Int) {k : Nat} (hk : k < 6) : (tc h c)[k]? = some (.bool (h k)) := by
  match k, hk with
  | 0, _ => rfl
  | 1, _ => rfl
  | 2, _ => rfl
  | 3, _ => rfl
  | 4, _ => rfl
  | 5, _ => rfl
theorem tc_set (h h' : Nat → Bool) (c : Int) {k : Nat} (b : Bool) (hk : k < 6) (he : ∀ j, j < 6 → h' j = if j = k then b else h j) : (tc h c).setIfInBounds k (.bool b) = tc h' c := by
  unfold tc
  rw [he 0 (by omega), he 1 (by omega), he 2 (by omega), he 3 (by omega), he 4 (by omega), he 5 (by omega)]
  match k, hk with
  | 0, _ => rfl
  | 1, _ => rfl
  | 2, _ => rfl
  | 3, _ => rfl
  | 4, _ => rfl
  | 5, _ => rfl
theorem new_any (b : Bool) (w : World) : Calls Try.prog 27 #[.bool b] w fun e w' => e = .returned (.pointer (some ⟨w.heap.size, 0, none⟩)) ∧ Flow.Blk w' w.heap.size 144 (tc (fun _ => b) 0) ∧ Below w.heap.size w w' := by
  go_enter Try.func27, Try.ntmps27
  go_wp2_with fail
  go_loopw [7] (fun i wr => ∃ k : Nat, k ≤ 6 ∧ i = .int .i64 k ∧ Flow.Blk wr w.heap.size 144 (tc (fun j => b && decide (j < k)) 0) ∧ Below w.heap.size w wr) (fun i _ => 6 - (intOf i).toNat)
  case atStart => exact ⟨0, by omega, rfl, by simpa [tc] using Flow.Blk.new w 144 (tc (fun j => b && decide (j < 0)) 0), Flow.below_alloc _ _⟩
  case round =>
    obtain ⟨k, hk, rfl, hB, hb⟩ := hrel
    by_cases hlt : k < 6
    · have hcell := (hB.cell k).trans (tc_get _ _ hlt)
      have hfr := hB.frozen k
      have HB := Flow.hide hB
      have Hb := Flow.hide hb
      clear hB hb
      go_wp2_with fail
      go_roundw
      case rel =>
        refine ⟨k + 1, by omega, by go_num, ?_, Hb.out.setCell (Nat.le_refl _) _⟩
        have := HB.out.set k (.bool b)
        rwa [tc_set _ (fun j => b && decide (j < k + 1)) _ b hlt (by
          intro j hj
          by_cases h1 : j = k
          · subst h1; simp
          · rw [if_neg h1]
            exact congrArg _ (decide_eq_decide.2 (by omega)))] at this
      case measure => simp [intOf]; omega
    · obtain rfl : k = 6 := by omega
      have HB := Flow.hide hB
      have Hb := Flow.hide hb
      clear hB hb
      go_wp2_with fail
      go_ret
      exact ⟨rfl, by simpa [tc] using HB.out, Hb.out⟩

/-- The pointer to the transfer in block g. -/
abbrev tp (g : Nat) : Value := .pointer (some ⟨g, 0, none⟩)
def hasOf (h : Nat → Bool) (k : Nat) : Bool := decide (k < 6) && h k
theorem has_any (h : Nat → Bool) (c : Int) (g k : Nat) (w : World) (hB : Flow.Blk w g 144 (tc h c)) :
    Calls Try.prog 29 #[tp g, .int .u8 k] w fun e w' => e = .returned (.bool (hasOf h k)) ∧ w = w' := by
  by_cases hlt : k < 6
  · have hcell := (hB.cell k).trans (tc_get _ _ hlt)
    clear hB
    go_enter Try.func29, Try.ntmps29
    go_wp2_with fail
    go_ret
    exact ⟨by simp [hasOf, hlt], rfl⟩
  · clear hB
    go_enter Try.func29, Try.ntmps29
    go_wp2_with fail
    go_ret
    exact ⟨by simp [hasOf, hlt], rfl⟩
theorem has_nil (k : Nat) (w : World) : Calls Try.prog 29 #[.pointer none, .int .u8 k] w fun e w' => e = .returned (.bool false) ∧ w = w' := by
  go_enter Try.func29, Try.ntmps29
  go_wp2_with fail
  go_ret
  exact ⟨rfl, rfl⟩
def got (h : Nat → Bool) (k : Nat) : Nat → Bool := fun j => h j || decide (j = k)
theorem got_any (h : Nat → Bool) (c : Int) (g k : Nat) (w : World) (hB : Flow.Blk w g 144 (tc h c)) :
    Calls Try.prog 30 #[tp g, .int .u8 k] w fun e w' => e = .returned (.tuple #[]) ∧ Flow.Blk w' g 144 (tc (got h k) c) ∧ w.grownBy w' (some g) := by
  by_cases hlt : k < 6
  · have hcell := (hB.cell k).trans (tc_get _ _ hlt)
    have hfr := hB.frozen k
    have HB := Flow.hide hB
    clear hB
    go_enter Try.func30, Try.ntmps30
    go_wp2_with fail
    refine bodyPost_end (results_none rfl _ _ _) rfl ?_
    refine ⟨rfl, ?_, ⟨rfl, rfl, rfl, by rw [World.size_setCell]; exact Nat.le_refl _, fun j _ hj => Below.heap_setCell _ _ _ _ (fun e => hj (by rw [e]))⟩⟩
    rw [← tc_set h (got h k) c true hlt (fun j _ => by by_cases h1 : j = k <;> simp [got, h1])]
    exact HB.out.set k _
  · have HB := Flow.hide hB
    clear hB
    go_enter Try.func30, Try.ntmps30
    go_wp2_with fail
    refine bodyPost_end (results_none rfl _ _ _) rfl ?_
    refine ⟨rfl, ?_, World.grownBy.refl _ _⟩
    have : ∀ j, j < 6 → got h k j = h j := fun j hj => by simp [got, show j ≠ k by omega]
    unfold tc
    rw [this 0 (by omega), this 1 (by omega), this 2 (by omega), this 3 (by omega), this 4 (by omega), this 5 (by omega)]
    exact HB.out
theorem got_nil (k : Nat) (w : World) : Calls Try.prog 30 #[.pointer none, .int .u8 k] w fun e w' => e = .returned (.tuple #[]) ∧ w = w' := by
  go_enter Try.func30, Try.ntmps30
  go_wp2_with fail
  refine bodyPost_end (results_none rfl _ _ _) rfl ?_
  exact ⟨rfl, rfl⟩
def allOf (h : Nat → Bool) : Nat → Bool
  | 0 => true
  | k + 1 => allOf h k && h k
theorem allOf_upto (h : Nat → Bool) : ∀ n k, k < n → h k = false → allOf h n = false
  | n + 1, k, hk, hf => by
    unfold allOf
    by_cases h1 : k = n
    · subst h1; rw [hf, Bool.and_false]
    · rw [allOf_upto h n k (by omega) hf, Bool.false_and]
theorem complete_any (h : Nat → Bool) (c : Int) (g : Nat) (w : World) (hB : Flow.Blk w g 144 (tc h c)) :
    Calls Try.prog 31 #[tp g] w fun e w' => e = .returned (.bool (allOf h 6)) ∧ w = w' := by
  have HB := Flow.hide hB
  clear hB
  go_enter Try.func31, Try.ntmps31
  go_wp2_with fail
  go_loop [4] (fun i => ∃ k : Nat, k ≤ 6 ∧ i = .int .u8 k ∧ allOf h k = true) (fun i => 6 - (intOf i).toNat)
  case atStart => exact ⟨0, by omega, rfl, rfl⟩
  case round =>
    obtain ⟨k, hk, rfl, ha⟩ := hrel
    have HA := Flow.hide ha
    clear ha
    by_cases hlt : k < 6
    · go_wp2_with fail
      refine (has_any h c g k _ HB.out).mono ?_
      rintro e w1 ⟨rfl, rfl⟩
      have hh : hasOf h k = h k := by simp [hasOf, hlt]
      rw [hh]
      clear hh
      cases hv : h k
      · have HV := Flow.hide hv
        clear hv
        go_wp2_with fail
        go_ret
        exact ⟨by rw [allOf_upto h 6 k hlt HV.out]; rfl, rfl⟩
      · have HV := Flow.hide hv
        clear hv
        go_wp2_with fail
        go_round
        case rel => exact ⟨k + 1, by omega, by go_num, by unfold allOf; rw [HA.out, HV.out]; rfl⟩
        case measure => simp [intOf]; omega
    · obtain rfl : k = 6 := by omega
      go_wp2_with fail
      go_ret
      exact ⟨by rw [HA.out]; rfl, rfl⟩
theorem complete_nil (w : World) : Calls Try.prog 31 #[.pointer none] w fun e w' => e = .returned (.bool false) ∧ w = w' := by
  go_enter Try.func31, Try.ntmps31
  go_wp2_with fail
  go_loop [4] (fun i => i = .int .u8 0) (fun i => 6 - (intOf i).toNat)
  case atStart => rfl
  case round =>
    subst hrel
    go_wp2_with fail
    refine (has_nil 0 _).mono ?_
    rintro e w1 ⟨rfl, rfl⟩
    go_wp2_with fail
    go_ret
    exact ⟨rfl, rfl⟩
theorem Flow.Blk.grown {w w' : World} {b : Nat} {t : TypeId} {cs : Array Value} {row : Option Nat} (h : Flow.Blk w b t cs) (hg : w.grownBy w' row) (hne : some b ≠ row) : Flow.Blk w' b t cs := (hg.block b h.lt hne).trans h
theorem _root_.Go.World.grownBy.more {w w1 w2 : World} {g : Nat} {row : Option Nat} (h : w.grownBy w1 (some g)) (k : w1.grownBy w2 row) (hr : ∀ j, row = some j → j = g ∨ w.heap.size ≤ j) : w.grownBy w2 (some g) :=
  ⟨k.os.trans h.os, k.tape.trans h.tape, k.output.trans h.output, Nat.le_trans h.size k.size, fun j hj hne => (k.block j (Nat.lt_of_lt_of_le hj h.size) (fun e => by
    rcases hr j e.symm with r | r
    · exact hne (by rw [r])
    · omega)).trans (h.block j hj hne)⟩
/-- The keys below k that are not there. -/
def keys (h : Nat → Bool) : Nat → List Nat
  | 0 => []
  | k + 1 => if h k then keys h k else keys h k ++ [k]
def needC (nd : Nat → Int) (c n : Nat) (l : List Nat) : List Value := l.flatMap fun (j : Nat) => [.int .u8 (j : Int), .int .u8 (nd ((c + j) % n))]
theorem needC_snoc (nd : Nat → Int) (c n : Nat) (l : List Nat) (k : Nat) : needC nd c n (l ++ [k]) = needC nd c n l ++ [.int .u8 (k : Int), .int .u8 (nd ((c + k) % n))] := by simp [needC]
theorem needC_length (nd : Nat → Int) (c n : Nat) (l : List Nat) : (needC nd c n l).length = l.length * 2 := by
  induction l with
  | nil => simp [needC]
  | cons x l ih => simp [needC] at ih ⊢; omega
theorem keys_length (h : Nat → Bool) : ∀ k, (keys h k).length ≤ k
  | 0 => Nat.le_refl _
  | k + 1 => by unfold keys; have := keys_length h k; split <;> simp <;> omega
def ta (h : Nat → Bool) : Array Value := #[.bool (h 0), .bool (h 1), .bool (h 2), .bool (h 3), .bool (h 4), .bool (h 5)]
/-- A slice of nodes that reads as nd, away from block g. -/
def Nodes (w : World) (g : Nat) (A : Option Addr) (n : Nat) (nd : Nat → Int) : Prop :=
  n = 0 ∨ ∃ b off, A = some ⟨b, off, none⟩ ∧ b ≠ g ∧ b < w.heap.size ∧ ∀ i, i < n → w.cell? ⟨b, off + i, none⟩ = some (.int .u8 (nd i))
theorem info64 : (Try.prog.info? 64).map (fun i => (i.zero, i.size, i.bytes)) = some (some (.agg #[.int .u8 0, .int .u8 0]), 2, 2) := by kernel_rfl
theorem index142 (h : Nat → Bool) {k : Nat} (hk : k < 6) (w : World) : (Instr.index 142 (.agg (ta h)) (.int .i64 (k : Int))).run Try.prog w = .ok (.bool (h k)) w := by
  have e0 : (Instr.index 142 (.agg (ta h)) (.int .i64 0)).run Try.prog w = .ok (.bool (h 0)) w := by kernel_rfl
  have e1 : (Instr.index 142 (.agg (ta h)) (.int .i64 1)).run Try.prog w = .ok (.bool (h 1)) w := by kernel_rfl
  have e2 : (Instr.index 142 (.agg (ta h)) (.int .i64 2)).run Try.prog w = .ok (.bool (h 2)) w := by kernel_rfl
  have e3 : (Instr.index 142 (.agg (ta h)) (.int .i64 3)).run Try.prog w = .ok (.bool (h 3)) w := by kernel_rfl
  have e4 : (Instr.index 142 (.agg (ta h)) (.int .i64 4)).run Try.prog w = .ok (.bool (h 4)) w := by kernel_rfl
  have e5 : (Instr.index 142 (.agg (ta h)) (.int .i64 5)).run Try.prog w = .ok (.bool (h 5)) w := by kernel_rfl
  match k, hk with
  | 0, _ => exact e0
  | 1, _ => exact e1
  | 2, _ => exact e2
  | 3, _ => exact e3
  | 4, _ => exact e4
  | 5, _ => exact e5
set_option maxRecDepth 100000 in
theorem needs_any (h : Nat → Bool) (c g : Nat) (A : Option Addr) (n cap : Nat) (nd : Nat → Int) (w : World) (hB : Flow.Blk w g 144 (tc h c)) (hA : Nodes w g A n nd) (hn : n ≤ 1000000000) (hc : c ≤ 1000000) :
    Calls Try.prog 28 #[tp g, .slice A n cap] w fun e w' => ∃ v, e = .returned v ∧ w'.ownsRow w.heap.size 64 2 v (if n = 0 then [] else keys h 6).length (needC nd c n (if n = 0 then [] else keys h 6)) ∧ Flow.Blk w' g 144 (tc h (c + 1)) ∧ w.grownBy w' (some g) := by
  have HB := Flow.hide hB
  have h6 : w.cell? ⟨g, 6, none⟩ = some (.int .i64 c) := hB.cell 6
  have f6 := hB.frozen 6
  have HA := Flow.hide hA
  have hset := hB.set 6 (.int .i64 ((c : Int) + 1))
  rw [show (tc h (c : Int)).setIfInBounds 6 (.int .i64 ((c : Int) + 1)) = tc h (c + 1) from rfl] at hset
  have HS := Flow.hide hset
  clear hB hA hset
  obtain ⟨w1, hw1⟩ : ∃ w1, w1 = w.setCell ⟨g, 6, none⟩ (.int .i64 ((c : Int) + 1)) := ⟨_, rfl⟩
  have hg1 : w.grownBy w1 (some g) := by
    subst hw1
    exact ⟨rfl, rfl, rfl, by rw [World.size_setCell]; exact Nat.le_refl _, fun j _ hj => Below.heap_setCell _ _ _ _ (fun e => hj (by rw [e]))⟩
  have HG := Flow.hide hg1
  have hs1 : w1.heap.size = w.heap.size := by rw [hw1]; simp
  have HS1 := Flow.hide hs1
  rw [← hw1] at HS
  clear hg1 hs1
  by_cases hn0 : n = 0
  · subst hn0
    go_enter Try.func28, Try.ntmps28
    go_wp2_with fail
    go_ret
    simp only [← hw1]
    exact ⟨.slice none 0 0, rfl, World.ownsRow_nil _ _ _ _, HS.out, HG.out⟩
  · have hpos : 0 < n := by omega
    have l0 := HS.out.cell 0
    have l1 := HS.out.cell 1
    have l2 := HS.out.cell 2
    have l3 := HS.out.cell 3
    have l4 := HS.out.cell 4
    have l5 := HS.out.cell 5
    simp only [tc, List.getElem?_toArray, List.getElem?_cons_zero, List.getElem?_cons_succ] at l0 l1 l2 l3 l4 l5
    rw [hw1] at l0 l1 l2 l3 l4 l5
    have HW1 := Flow.hide hw1
    clear hw1
    go_enter Try.func28, Try.ntmps28
    go_wp2_with fail
    clear l0 l1 l2 l3 l4 l5 h6 f6
    rw [← HW1.out]
    rw [show (#[Value.bool (h 0), .bool (h 1), .bool (h 2), .bool (h 3), .bool (h 4), .bool (h 5)] : Array Value) = ta h from rfl]
    rw [show ((n : Int) == 0) = false from by simp; omega]
    go_loopw [6, 29] (fun v i wr => ∃ k : Nat, k ≤ 6 ∧ i = .int .i64 k ∧ wr.ownsRow w.heap.size 64 2 v (keys h k).length (needC nd c n (keys h k)) ∧ Flow.Blk wr g 144 (tc h (c + 1)) ∧ w.grownBy wr (some g)) (fun _ i _ => 6 - (intOf i).toNat)
    case atStart => exact ⟨0, by omega, rfl, World.ownsRow_nil _ _ _ _, HS.out, HG.out⟩
    case round =>
      obtain ⟨k, hk, rfl, hown, hB, hgr⟩ := hrel
      by_cases hlt : k < 6
      · have hix := index142 h hlt
        have HO := Flow.hide hown
        have HB1 := Flow.hide hB
        have HG1 := Flow.hide hgr
        clear hown hB hgr
        cases hv : h k
        · have hrem : ((c : Int) + k).tmod n = (((c + k) % n : Nat) : Int) := by rw [← Int.natCast_add, Int.ofNat_tmod]
          have hml : (c + k) % n < n := Nat.mod_lt _ hpos
          obtain ⟨b, off, rfl, hbg, hbw, hcells⟩ := HA.out.resolve_left hn0
          have hc0 := hcells _ hml
          rw [← World.cell?_of_block (w := w) (w' := wr) (a := ⟨b, off + (c + k) % n, none⟩) (HG1.out.block b hbw (fun e => hbg (Option.some.inj e)))] at hc0
          obtain ⟨r, hr⟩ : ∃ r, r = (c + k) % n := ⟨_, rfl⟩
          rw [← hr] at hc0 hrem hml
          have HR := Flow.hide hr
          clear hr hcells hbg
          obtain ⟨i0, hi, hz0, hz1, hz2⟩ := info_parts info64
          go_wp2_with (at_builtin; refine wpList_append_own _ rfl _ _ 61 rfl w.heap.size 64 i0 _ 2 2 Try.underlying61 hi hz0 hz1 hz2 rfl (by decide) _ _ _ rfl (HO.out.alloc _) ⟨wr.heap.size, 0, none⟩ 1 1 [.int .u8 k, .int .u8 (nd r)] rfl rfl ?c1 ?c2 ?c3 ?c4 ?c5 ?_)
          case c1 =>
            intro j u hj
            match j, hj with
            | 0, hj => simp at hj; subst hj; simp [Addr.add]
            | 1, hj => simp at hj; subst hj; simp [Addr.add]
          case c2 => intro u hu; simp at hu; rcases hu with rfl | rfl <;> rfl
          case c3 => have := keys_length h k; unfold maxLen; omega
          case c4 => have := keys_length h k; omega
          case c5 => have := HG1.out.size; simp; omega
          · intro v' w2 hown' hgrow _
            have hne : ∀ j, u6.ownBlock = some j → w.heap.size ≤ j := fun j hj => (HO.out.lt j hj).1
            have hgw : g < w.heap.size := HB.out.lt
            have hO2 : w2.ownsRow w.heap.size 64 2 v' (keys h (k + 1)).length (needC nd c n (keys h (k + 1))) := by
              unfold keys
              rw [hv, if_neg (by decide), needC_snoc, ← HR.out, List.length_append]
              exact hown'
            have hB2 : Flow.Blk w2 g 144 (tc h (c + 1)) := (HB1.out.alloc _).grown hgrow (fun e => by have := hne g e.symm; omega)
            have hG2 : w.grownBy w2 (some g) := (HG1.out.more (World.grownBy_alloc _ _ none) (fun j hj => by cases hj)).more hgrow (fun j hj => .inr (hne j hj))
            have HO2 := Flow.hide hO2
            have HB2 := Flow.hide hB2
            have HG2 := Flow.hide hG2
            clear hown' hgrow hO2 hB2 hG2 hne
            go_wp2_with fail
            go_roundw
            case rel => exact ⟨k + 1, by omega, by go_num, HO2.out, HB2.out, HG2.out⟩
            case measure => simp [intOf]; omega
        · have hv2 := Flow.hide hv
          go_wp2_with fail
          go_roundw
          case rel => exact ⟨k + 1, by omega, by go_num, by unfold keys; rw [hv2.out, if_pos rfl]; exact HO.out, HB1.out, HG1.out⟩
          case measure => simp [intOf]; omega
      · obtain rfl : k = 6 := by omega
        have HO := Flow.hide hown
        have HB1 := Flow.hide hB
        have HG1 := Flow.hide hgr
        clear hown hB hgr
        go_wp2_with fail
        go_ret
        exact ⟨_, rfl, HO.out, HB1.out, HG1.out⟩
end Go.Proofs.Ythkphapmnlndbab
