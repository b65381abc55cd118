/- The contracts of package mark and of talarialaw03's helpers: what each function returns for any arguments; nothing that lay in memory turns. -/
import Derived.Test.YthkphapmnlndbabProg
import Derived.Test.YthkphapmnlndbabBoxes
import Derived.WalkKit
import Derived.WalkLawsBesides
import Derived.WalkSpells
import Derived.Handy
namespace Go.Proofs.Ythkphapmnlndbab
open Go.RowKit
set_option maxHeartbeats 1000000
set_option linter.unusedSimpArgs false
theorem told_any (n b l : Int) (w : World) :
    Calls Try.prog 15 #[.agg #[.int .u32 n, .int .u8 b, .int .u8 l]] w fun e w' => e = .returned (.agg #[.int .u32 n, .int .u8 b, .int .u8 l]) ∧ Below w.heap.size w w' := by
  go_enter Try.func15, Try.ntmps15
  go_wp2
  go_returns
  exact ⟨rfl, by go_grown⟩
theorem more_yes (n b d k : Int) (w : World) (hn : 0 ≤ n) (hk : 0 ≤ k) (h : k + n ≤ 4294967295) :
    Calls Try.prog 57 #[.agg #[.int .u32 n, .int .u8 b], .int .u32 k, .int .u8 d] w fun e w' => e = .returned (.tuple #[.agg #[.int .u32 (n + k), .int .u8 d], .bool true]) ∧ Below w.heap.size w w' := by
  go_enter Try.func57, Try.ntmps57
  go_wp2
  go_returns
  exact ⟨rfl, by go_grown⟩
theorem more_no (n b d k : Int) (w : World) (hn : 0 ≤ n) (hn' : n ≤ 4294967295) (h : 4294967295 < k + n) :
    Calls Try.prog 57 #[.agg #[.int .u32 n, .int .u8 b], .int .u32 k, .int .u8 d] w fun e w' => e = .returned (.tuple #[.agg #[.int .u32 0, .int .u8 0], .bool false]) ∧ Below w.heap.size w w' := by
  go_enter Try.func57, Try.ntmps57
  go_wp2
  go_returns
  exact ⟨rfl, by go_grown⟩
theorem next_yes (n b l d f k : Int) (w : World) (hn : 0 ≤ n) (hk : 0 < k) (h : k + n ≤ 4294967295) :
    Calls Try.prog 16 #[.agg #[.int .u32 n, .int .u8 b, .int .u8 l], .int .u32 k, .int .u8 d, .int .u8 f] w fun e w' => e = .returned (.tuple #[.agg #[.int .u32 (n + k), .int .u8 d, .int .u8 f], .bool true]) ∧ Below w.heap.size w w' := by
  have hk0 : (k == 0) = false := by simp; omega
  go_enter Try.func16, Try.ntmps16
  go_wp2
  go_returns
  exact ⟨rfl, by go_grown⟩
theorem next_zero (n b l d f : Int) (w : World) (hn : 0 ≤ n) (hn' : n ≤ 4294967295) :
    Calls Try.prog 16 #[.agg #[.int .u32 n, .int .u8 b, .int .u8 l], .int .u32 0, .int .u8 d, .int .u8 f] w fun e w' => e = .returned (.tuple #[.agg #[.int .u32 0, .int .u8 0, .int .u8 0], .bool false]) ∧ Below w.heap.size w w' := by
  go_enter Try.func16, Try.ntmps16
  go_wp2
  go_returns
  exact ⟨rfl, by go_grown⟩
theorem next_no (n b l d f k : Int) (w : World) (hn : 0 ≤ n) (hn' : n ≤ 4294967295) (h : 4294967295 < k + n) :
    Calls Try.prog 16 #[.agg #[.int .u32 n, .int .u8 b, .int .u8 l], .int .u32 k, .int .u8 d, .int .u8 f] w fun e w' => e = .returned (.tuple #[.agg #[.int .u32 0, .int .u8 0, .int .u8 0], .bool false]) ∧ Below w.heap.size w w' := by
  go_enter Try.func16, Try.ntmps16
  go_wp2
  go_returns
  exact ⟨rfl, by go_grown⟩
theorem rnext_yes (n b l d f k : Int) (w : World) (hn : 0 ≤ n) (hk : 0 < k) (h : k + n ≤ 4294967295) :
    Calls Try.prog 17 #[.agg #[.int .u32 n, .int .u8 b, .int .u8 l], .int .u32 k, .int .u8 d, .int .u8 f] w fun e w' => e = .returned (.tuple #[.agg #[.int .u32 (n + k), .int .u8 d, .int .u8 f], .bool true]) ∧ Below w.heap.size w w' := by
  have hk0 : (k == 0) = false := by simp; omega
  go_enter Try.func17, Try.ntmps17
  go_wp2
  go_returns
  exact ⟨rfl, by go_grown⟩
theorem rnext_zero (n b l d f : Int) (w : World) (hn : 0 ≤ n) (hn' : n ≤ 4294967295) :
    Calls Try.prog 17 #[.agg #[.int .u32 n, .int .u8 b, .int .u8 l], .int .u32 0, .int .u8 d, .int .u8 f] w fun e w' => e = .returned (.tuple #[.agg #[.int .u32 0, .int .u8 0, .int .u8 0], .bool false]) ∧ Below w.heap.size w w' := by
  go_enter Try.func17, Try.ntmps17
  go_wp2
  go_returns
  exact ⟨rfl, by go_grown⟩
theorem rnext_no (n b l d f k : Int) (w : World) (hn : 0 ≤ n) (hn' : n ≤ 4294967295) (hk' : k ≤ 4294967295) (hk : 0 ≤ k) (h : 4294967295 < k + n) :
    Calls Try.prog 17 #[.agg #[.int .u32 n, .int .u8 b, .int .u8 l], .int .u32 k, .int .u8 d, .int .u8 f] w fun e w' => e = .returned (.tuple #[.agg #[.int .u32 0, .int .u8 0, .int .u8 0], .bool false]) ∧ Below w.heap.size w w' := by
  go_enter Try.func17, Try.ntmps17
  go_wp2
  go_returns
  exact ⟨rfl, by go_grown⟩
theorem bnext_yes (n b d : Int) (w : World) (hn : 0 ≤ n) (h : n < 4294967295) :
    Calls Try.prog 18 #[.agg #[.int .u32 n, .int .u8 b], .int .u8 d] w fun e w' => e = .returned (.tuple #[.agg #[.int .u32 (n + 1), .int .u8 d], .bool true]) ∧ Below w.heap.size w w' := by
  go_enter Try.func18, Try.ntmps18
  go_wp2
  go_returns
  exact ⟨rfl, by go_grown⟩
theorem bnext_no (b d : Int) (w : World) :
    Calls Try.prog 18 #[.agg #[.int .u32 4294967295, .int .u8 b], .int .u8 d] w fun e w' => e = .returned (.tuple #[.agg #[.int .u32 0, .int .u8 0], .bool false]) ∧ Below w.heap.size w w' := by
  go_enter Try.func18, Try.ntmps18
  go_wp2
  go_returns
  exact ⟨rfl, by go_grown⟩
def mlt (n b n' b' : Int) : Bool := decide (n < n' ∨ n = n' ∧ b < b')
def slt (n b l n' b' l' : Int) : Bool := decide (n < n' ∨ n = n' ∧ (b < b' ∨ b = b' ∧ l < l'))
theorem ret_bool {a b : Bool} (h : a = b) : Ending.returned (.bool a) = .returned (.bool b) := by rw [h]
theorem below_any (n b n' b' : Int) (w : World) :
    Calls Try.prog 20 #[.agg #[.int .u32 n, .int .u8 b], .agg #[.int .u32 n', .int .u8 b']] w fun e w' => e = .returned (.bool (mlt n b n' b')) ∧ Below w.heap.size w w' := by
  go_enter Try.func20, Try.ntmps20
  go_wp2
  all_goals (go_returns; refine ⟨ret_bool ?_, by go_grown⟩; simp_all [mlt])
theorem less_any (n b l n' b' l' : Int) (w : World) :
    Calls Try.prog 19 #[.agg #[.int .u32 n, .int .u8 b, .int .u8 l], .agg #[.int .u32 n', .int .u8 b', .int .u8 l']] w fun e w' => e = .returned (.bool (slt n b l n' b' l')) ∧ Below w.heap.size w w' := by
  by_cases h1 : n < n'
  · go_enter Try.func19, Try.ntmps19
    go_wp2
    go_returns
    refine ⟨ret_bool ?_, by go_grown⟩; simp [slt, h1]
  by_cases h2 : n = n'
  · subst h2
    by_cases h3 : b < b'
    · go_enter Try.func19, Try.ntmps19
      go_wp2
      all_goals (go_returns; refine ⟨ret_bool ?_, by go_grown⟩; simp_all [slt])
    by_cases h4 : b = b'
    · subst h4
      go_enter Try.func19, Try.ntmps19
      go_wp2
      all_goals (go_returns; refine ⟨ret_bool ?_, by go_grown⟩; simp_all [slt])
    · have h5 : (b == b') = false := by simp [h4]
      go_enter Try.func19, Try.ntmps19
      go_wp2
      all_goals (go_returns; refine ⟨ret_bool ?_, by go_grown⟩; simp_all [slt])
  · have h5 : (n == n') = false := by simp [h2]
    go_enter Try.func19, Try.ntmps19
    go_wp2
    all_goals (go_returns; refine ⟨ret_bool ?_, by go_grown⟩; simp_all [slt])
theorem less_yes (n b l n' b' l' : Int) (w : World) (h : slt n b l n' b' l' = true) :
    Calls Try.prog 19 #[.agg #[.int .u32 n, .int .u8 b, .int .u8 l], .agg #[.int .u32 n', .int .u8 b', .int .u8 l']] w fun e w' => e = .returned (.bool true) ∧ Below w.heap.size w w' := by rw [← h]; exact less_any _ _ _ _ _ _ _
theorem less_no (n b l n' b' l' : Int) (w : World) (h : slt n b l n' b' l' = false) :
    Calls Try.prog 19 #[.agg #[.int .u32 n, .int .u8 b, .int .u8 l], .agg #[.int .u32 n', .int .u8 b', .int .u8 l']] w fun e w' => e = .returned (.bool false) ∧ Below w.heap.size w w' := by rw [← h]; exact less_any _ _ _ _ _ _ _
theorem below_yes (n b n' b' : Int) (w : World) (h : mlt n b n' b' = true) :
    Calls Try.prog 20 #[.agg #[.int .u32 n, .int .u8 b], .agg #[.int .u32 n', .int .u8 b']] w fun e w' => e = .returned (.bool true) ∧ Below w.heap.size w w' := by rw [← h]; exact below_any _ _ _ _ _
theorem none_no (n b : Int) (w : World) (h : 0 < n) :
    Calls Try.prog 23 #[.agg #[.int .u32 n, .int .u8 b]] w fun e w' => e = .returned (.bool false) ∧ Below w.heap.size w w' := by
  have h0 : (n == 0) = false := by simp; omega
  go_enter Try.func23, Try.ntmps23
  go_wp2
  go_returns
  exact ⟨rfl, by go_grown⟩

/-- a stamp's three numbers -/
abbrev St := Int × Int × Int
def St.cells (s : St) : List Value := [.int .u32 s.1, .int .u8 s.2.1, .int .u8 s.2.2]
def sless (a b : St) : Bool := slt a.1 a.2.1 a.2.2 b.1 b.2.1 b.2.2
def great : St → List St → St
  | m, [] => m
  | m, x :: l => great (if sless m x then x else m) l
theorem great_snoc (m : St) (l : List St) (x : St) : great m (l ++ [x]) = if sless (great m l) x then x else great m l := by
  induction l generalizing m with
  | nil => rfl
  | cons y l ih => exact ih _
/-- A slice that reads as stamps, in memory below B. -/
def RdSt (B : Nat) (w : World) (A : Option Addr) (n : Nat) (xs : List St) : Prop :=
  xs.length = n ∧ (0 < n → ∃ g off, A = some ⟨g, off, none⟩ ∧ g < B ∧ ∀ i s, xs[i]? = some s → ∀ j, j < 3 → w.cell? ⟨g, off + (i * 3 + j), none⟩ = (St.cells s)[j]?)
theorem RdSt.under {B : Nat} {w w' : World} {A : Option Addr} {n : Nat} {xs : List St} (h : RdSt B w A n xs) (hb : Below B w w') : RdSt B w' A n xs := by
  refine ⟨h.1, fun hn => ?_⟩
  obtain ⟨g, off, e, hg, hc⟩ := h.2 hn
  refine ⟨g, off, e, hg, fun i s hs j hj => ?_⟩
  rw [hb.cell (p := ⟨g, _, none⟩) hg]
  exact hc i s hs j hj
theorem RdSt.at_ {B : Nat} {w : World} {A : Option Addr} {n k : Nat} {xs : List St} (h : RdSt B w A n xs) (hk : k < n) :
    ∃ g off N Y L, A = some ⟨g, off, none⟩ ∧ g < B ∧ xs[k]? = some (N, Y, L) ∧ w.cell? ⟨g, off + k * 3, none⟩ = some (.int .u32 N) ∧ w.cell? ⟨g, off + k * 3 + 1, none⟩ = some (.int .u8 Y) ∧ w.cell? ⟨g, off + k * 3 + 2, none⟩ = some (.int .u8 L) := by
  obtain ⟨g, off, e, hg, hc⟩ := h.2 (by omega)
  have hl := h.1
  have hx : xs[k]? = some (xs[k]'(by omega)) := List.getElem?_eq_getElem (by omega)
  obtain ⟨⟨N, Y, L⟩, hs⟩ : ∃ s, s = xs[k]'(by omega) := ⟨_, rfl⟩
  rw [← hs] at hx
  exact ⟨g, off, N, Y, L, e, hg, hx, hc k _ hx 0 (by omega), hc k _ hx 1 (by omega), hc k _ hx 2 (by omega)⟩
theorem take_snoc {α : Type} (l : List α) (k : Nat) (x : α) (h : l[k]? = some x) : l.take (k + 1) = l.take k ++ [x] := by
  rw [List.take_add_one, h]; rfl
theorem greatest_any (A : Option Addr) (n c : Nat) (xs : List St) (w : World) (hr : RdSt w.heap.size w A n xs) (hn : n ≤ 1000) :
    Calls Try.prog 21 #[.slice A n c] w fun e w' => e = .returned (.agg (St.cells (great (0,0,0) xs)).toArray) ∧ Below w.heap.size w w' := by
  go_enter Try.func21, Try.ntmps21
  go_wp2
  obtain ⟨W0, hW0⟩ : ∃ W0, W0 = (w.alloc (Obj.cells #[Value.int IntKind.u32 0, Value.int IntKind.u8 0, Value.int IntKind.u8 0] 30)).alloc (Obj.cells #[Value.int IntKind.u32 0, Value.int IntKind.u8 0, Value.int IntKind.u8 0] 30) := ⟨_, rfl⟩
  rw [← hW0]
  have b0 : Below w.heap.size w W0 := by rw [hW0]; go_grown
  have k1 : Flow.Blk W0 w.heap.size 30 #[.int .u32 0, .int .u8 0, .int .u8 0] := by rw [hW0]; exact (Flow.Blk.new _ _ _).alloc _
  have k2 : Flow.Blk W0 (w.heap.size + 1) 30 #[.int .u32 0, .int .u8 0, .int .u8 0] := by
    have := Flow.Blk.new (w.alloc (Obj.cells #[Value.int IntKind.u32 0, Value.int IntKind.u8 0, Value.int IntKind.u8 0] 30)) 30 #[Value.int IntKind.u32 0, Value.int IntKind.u8 0, Value.int IntKind.u8 0]
    rw [hW0]; simpa using this
  have Hx := Flow.hide hr.1
  clear hW0
  go_loopw [8] (fun i wr => ∃ k : Nat, k ≤ n ∧ i = .int .i64 k ∧ Below w.heap.size w wr ∧ Flow.Blk wr w.heap.size 30 #[.int .u32 0, .int .u8 0, .int .u8 0] ∧ Flow.Blk wr (w.heap.size + 1) 30 (St.cells (great (0,0,0) (xs.take k))).toArray) (fun i _ => n - (intOf i).toNat)
  case atStart => exact ⟨0, Nat.zero_le _, rfl, b0, k1, k2⟩
  case round =>
    obtain ⟨k, hk, rfl, b1, kk1, kk2⟩ := hrel
    have z1 := kk2.lt
    by_cases hlt : k < n
    · obtain ⟨g, off, N, Y, L, rfl, hg, hxk, hc0, hc1, hc2⟩ := (hr.under b1).at_ hlt
      obtain ⟨mN, mY, mL, hm⟩ : ∃ mN mY mL, (mN, mY, mL) = great (0,0,0) (xs.take k) := ⟨_, _, _, rfl⟩
      rw [← hm] at kk2
      have c2 := kk2.cell
      have f2 := kk2.frozen
      simp only [St.cells] at c2
      have Hm := Flow.hide hm
      have Hxk := Flow.hide hxk
      clear hm hxk
      go_wp2_with fail
      refine (less_any _ _ _ _ _ _ _).mono ?_
      rintro e w1 ⟨rfl, hb1⟩
      have hsz := hb1.size
      simp only [World.size_alloc] at hsz
      have hbw : Below wr.heap.size wr w1 := (Flow.below_alloc _ _).trans (hb1.mono (by simp))
      have d1 := kk1.below hbw
      have d2 := kk2.below hbw
      have d5 : Flow.Blk w1 wr.heap.size 30 #[.int .u32 N, .int .u8 Y, .int .u8 L] := (Flow.Blk.new _ _ _).below hb1
      have b2 : Below w.heap.size w w1 := b1.trans (hbw.mono (by omega))
      have e2 := d2.cell
      have g2 := d2.frozen
      have e5 := d5.cell
      simp only [St.cells] at e2
      clear c2 f2 hc0 hc1 hc2 hb1
      rcases hbl : slt mN mY mL N Y L with _ | _
      · have Hbl := Flow.hide hbl
        clear hbl
        go_wp2_with fail
        go_roundw
        case rel => 
          refine ⟨k + 1, by omega, by go_num, b2, d1, ?_⟩
          rw [take_snoc xs k _ Hxk.out, great_snoc, ← Hm.out, if_neg (by unfold sless; rw [Hbl.out]; decide)]
          exact d2
        case measure => simp [intOf]; omega
      · have Hbl := Flow.hide hbl
        clear hbl
        go_wp2_with fail
        go_roundw
        case rel => 
          refine ⟨k + 1, by omega, by go_num, b2.setCell (by simp) _ |>.setCell (by simp) _ |>.setCell (by simp) _, ?_, ?_⟩
          · exact ((d1.far (by simp) _).far (by simp) _).far (by simp) _
          rw [take_snoc xs k _ Hxk.out, great_snoc, ← Hm.out, if_pos (by unfold sless; rw [Hbl.out])]
          exact (((d2.set 0 _).set 1 _).set 2 _)
        case measure => simp [intOf]; omega
    · obtain rfl : k = n := by omega
      have c2 := kk2.cell
      have c1 := kk1.cell
      have f1 := kk1.frozen
      have q0 := kk1.same 0 (by decide)
      have q1 := fun v => (kk1.set 0 v).same 1 (by simp)
      have q2 := fun v u => ((kk1.set 0 v).set 1 u).same 2 (by simp)
      have hxs : xs.take k = xs := List.take_of_length_le (by have := Hx.out; omega)
      rw [hxs] at c2
      obtain ⟨mN, mY, mL, hm⟩ : ∃ mN mY mL, (mN, mY, mL) = great (0,0,0) xs := ⟨_, _, _, rfl⟩
      rw [← hm] at c2
      simp only [St.cells] at c2
      have Hm := Flow.hide hm
      clear hm hxs
      go_wp2_with fail
      try simp only [Exit.inBlock, Exit.then]
      refine bodyPost_ret (v := .agg #[.int .u32 mN, .int .u8 mY, .int .u8 mL]) (by simp [results, Try.results21, go_sem, q0, q1, q2]) rfl ?_
      exact ⟨by rw [← Hm.out]; rfl, b1.setCell (by simp) _ |>.setCell (by simp) _ |>.setCell (by simp) _⟩
theorem great3 (a b c d e f x y z : Int) (g : Nat) (w : World) (h : w.heap[g]? = some (.cells #[.int .u32 a, .int .u8 b, .int .u8 c, .int .u32 d, .int .u8 e, .int .u8 f, .int .u32 x, .int .u8 y, .int .u8 z] 30)) :
    Calls Try.prog 21 #[.slice (some ⟨g, 0, none⟩) 3 3] w fun e' w' => e' = .returned (.agg (St.cells (great (0,0,0) [(a,b,c),(d,e,f),(x,y,z)])).toArray) ∧ Below w.heap.size w w' := by
  have hk : Flow.Blk w g 30 #[.int .u32 a, .int .u8 b, .int .u8 c, .int .u32 d, .int .u8 e, .int .u8 f, .int .u32 x, .int .u8 y, .int .u8 z] := h
  refine greatest_any _ 3 3 [(a,b,c),(d,e,f),(x,y,z)] w ⟨rfl, fun _ => ⟨g, 0, rfl, hk.lt, fun i s hs j hj => ?_⟩⟩ (by omega)
  rw [hk.cell]
  match i, hs with
  | 0, hs => cases hs; match j, hj with | 0, _ => rfl | 1, _ => rfl | 2, _ => rfl
  | 1, hs => cases hs; match j, hj with | 0, _ => rfl | 1, _ => rfl | 2, _ => rfl
  | 2, hs => cases hs; match j, hj with | 0, _ => rfl | 1, _ => rfl | 2, _ => rfl
theorem great3_is (a b c d e f x y z p q r : Int) (g : Nat) (w : World) (h : w.heap[g]? = some (.cells #[.int .u32 a, .int .u8 b, .int .u8 c, .int .u32 d, .int .u8 e, .int .u8 f, .int .u32 x, .int .u8 y, .int .u8 z] 30))
    (hm : great (0,0,0) [(a,b,c),(d,e,f),(x,y,z)] = (p, q, r)) :
    Calls Try.prog 21 #[.slice (some ⟨g, 0, none⟩) 3 3] w fun e' w' => e' = .returned (.agg #[.int .u32 p, .int .u8 q, .int .u8 r]) ∧ Below w.heap.size w w' := by
  have := great3 a b c d e f x y z g w h
  rw [hm] at this
  exact this
theorem speaks03 (w : World) :
    Calls Try.prog 14 #[] w fun e w' => e = .returned (.bool true) ∧ Below w.heap.size w w' := by
  go_enter Try.func14, Try.ntmps14
  go_wp2_with fail

  refine (next_yes 3 2 1 1 1 1 _ (by decide) (by decide) (by decide)).mono ?_
  rintro e w1 ⟨rfl, hb1⟩
  go_wp2_with fail
  refine (bnext_yes 0 0 4 _ (by decide) (by decide)).mono ?_
  rintro e w2 ⟨rfl, hb2⟩
  go_wp2_with fail
  have k1 : Flow.Blk (w2.alloc (Obj.cells #[Value.int IntKind.u32 1, Value.int IntKind.u8 4] 38)) w.heap.size 30 #[.int .u32 3, .int .u8 2, .int .u8 1] := ((((Flow.Blk.new _ _ _).below hb1).alloc _).below hb2).alloc _
  have k2 : Flow.Blk (w2.alloc (Obj.cells #[Value.int IntKind.u32 1, Value.int IntKind.u8 4] 38)) w1.heap.size 30 #[.int .u32 4, .int .u8 1, .int .u8 1] := (((Flow.Blk.new _ _ _)).below hb2).alloc _
  have k3 : Flow.Blk (w2.alloc (Obj.cells #[Value.int IntKind.u32 1, Value.int IntKind.u8 4] 38)) w2.heap.size 38 #[.int .u32 1, .int .u8 4] := Flow.Blk.new _ _ _
  have hb : Below w.heap.size w (w2.alloc (Obj.cells #[Value.int IntKind.u32 1, Value.int IntKind.u8 4] 38)) :=
    ((((Below.refl _ _).alloc (Nat.le_refl _) _).trans (hb1.mono (by simp))).alloc (by have := hb1.size; simp at this; omega) _ |>.trans (hb2.mono (by have := hb1.size; simp at this ⊢; omega))).alloc (by have := hb1.size; have := hb2.size; simp at *; omega) _
  generalize w2.alloc (Obj.cells #[Value.int IntKind.u32 1, Value.int IntKind.u8 4] 38) = W at *
  generalize hg1 : w.heap.size = g1 at *
  have Hg1 := Flow.hide hg1
  clear hg1
  generalize w1.heap.size = g2 at *
  generalize w2.heap.size = g3 at *
  clear hb1 hb2
  refine Flow.wp_region_flow (by kernel_rfl) 49 rfl ?_
  refine Flow.wpF_seg [0,1,2,3,4,5,6,7,8,9,10,11,12,13,14,15,16,17,18,19,20,21,22,23,24,25,26,27,28,29,30,31,32,33,34,35,36,37,38,39,40,41,42,45] 5 rfl (by kernel_rfl) ?_
  dsimp only [Flow.pickOps, List.getElem?_cons_zero, List.getElem?_cons_succ]
  repeat (first
    | (apply Flow.wpSeg_off rfl)
    | (apply Flow.wpSeg_on rfl
       · (intro w1 hw1; have c1 := (k1.below hw1.below).cell; have c2 := (k2.below hw1.below).cell; have c3 := (k3.below hw1.below).cell; clear hw1; go_simp; first | exact Flow.q_value | exact Flow.q_call (less_yes _ _ _ _ _ _ _ (by decide)) | exact Flow.q_call (less_no _ _ _ _ _ _ _ (by decide)) | exact Flow.q_call (none_no _ _ _ (by decide)))
       simp only [Act.put, List.setIfInBounds_toArray, List.set_cons_succ, List.set_cons_zero]))
  refine Flow.wpSeg_nil ?_
  refine Flow.wpF_next 43 (by kernel_rfl) ?_
  refine Flow.fOp_lay rfl rfl (fun g => .slice (some ⟨g, 0, none⟩) 3 3) (.cells #[.int .u32 3, .int .u8 2, .int .u8 1, .int .u32 4, .int .u8 1, .int .u8 1, .int .u32 3, .int .u8 2, .int .u8 1] 30) (fun w1 _ => by go_simp) (fun gl hgl _ _ => ?_)
  simp only [Act.put, List.setIfInBounds_toArray, List.set_cons_succ, List.set_cons_zero]
  refine Flow.wpF_seg [44,46,47,48] 0 rfl (by kernel_rfl) ?_
  dsimp only [Flow.pickOps, List.getElem?_cons_zero, List.getElem?_cons_succ]
  repeat (first
    | (apply Flow.wpSeg_off rfl)
    | (apply Flow.wpSeg_on rfl
       · (intro w1 hw1; have kl := (hw1.perm _ List.mem_cons_self).2; go_simp; first | exact Flow.q_value | exact Flow.q_call (great3_is 3 2 1 4 1 1 3 2 1 4 1 1 _ _ kl (by decide)))
       simp only [Act.put, List.setIfInBounds_toArray, List.set_cons_succ, List.set_cons_zero]))
  refine Flow.wpSeg_nil ?_
  refine Flow.wpF_done (by kernel_rfl) ?_
  intro w1 hw1 _
  have hb1 := hb.trans (hw1.below.mono (by have := k1.lt; omega))
  clear hw1
  go_wp2_with fail
  go_returns
  refine ⟨?_, by rw [Hg1.out]; exact hb1⟩
  simp
end Go.Proofs.Ythkphapmnlndbab
