/- The statements' first helper of package crc; a sealed text opened. -/
import Derived.Test.YthkphapmnlndbaaTurn
namespace Go.Proofs.Ythkphapmnlndbaa
open Go.RowKit CrcPlain
set_option maxHeartbeats 1000000
set_option linter.unusedSimpArgs false
theorem extract_all (s : ByteArray) : s.extract 0 s.size = s := bs_inj (by rw [bs_extract s _ (Nat.le_refl _), List.take_of_length_le (by rw [bs_length]; exact Nat.le_refl _)])
theorem sealed_is {s y : ByteArray} (h : bs y = sealed (bs s)) : isSealed y = true ∧ y.extract 0 (y.size - 4) = s ∧ y.size = s.size + 4 := by
  have hz : y.size = s.size + 4 := by rw [← bs_length y, h, sealed_length, bs_length]
  have ht : (bs y).take (y.size - 4) = bs s := by
    rw [h, hz, show s.size + 4 - 4 = (bs s).length by rw [bs_length]; omega]
    unfold sealed
    exact List.take_left
  refine ⟨?_, bs_inj ?_, hz⟩
  · unfold isSealed
    rw [ht]
    exact decide_eq_true (bs_inj (by rw [bs_txt (sealed_lt (bs_lt s)), h]))
  · rw [bs_extract y _ (by omega), ht]
/-- a sealed text opened -/
theorem open_sealed (s y : ByteArray) (w : World) (h : bs y = sealed (bs s)) (hm : s.size ≤ 1000) :
    Calls Try.prog 20 #[.string y] w fun e w' => e = .returned (.tuple #[.string s, .int .i64 0]) ∧ Below w.heap.size w w' := by
  obtain ⟨h1, h2, h3⟩ := sealed_is h
  have := open_yes y w (by omega) (by omega) h1
  rw [h2] at this
  exact this
/-- a sealed text with bits turned, another one, opened -/
theorem open_turned (s x y : ByteArray) (at_ : Int) (b : Nat) (w : World) (hx : bs x = sealed (bs s)) (hm : s.size ≤ 1000) (ht : Turned (msk x.size at_ b) (bs x) (bs y)) (hne : x ≠ y) :
    Calls Try.prog 20 #[.string y] w fun e w' => e = .returned (.tuple #[.string ⟨#[]⟩, .int .i64 5]) ∧ Below w.heap.size w w' := by
  obtain ⟨_, _, h3⟩ := sealed_is hx
  have hyz : y.size = s.size + 4 := by rw [← bs_length y, ht.len, bs_length]; exact h3
  refine open_no y w (by omega) (by omega) ?_
  unfold isSealed
  refine decide_eq_false (fun e => ?_)
  rw [hx, ← bs_length x, hx] at ht
  have h1 := not_sealed (bs_lt s) ht (fun h => hne (bs_inj (by rw [hx, h])))
  apply h1
  have h2 := congrArg bs e
  rw [bs_txt (sealed_lt (fun c hc => bs_lt y c (List.mem_of_mem_take hc))), hyz] at h2
  rw [bs_length]
  exact h2
def t9a : ByteArray := ⟨#[49, 50, 51, 52]⟩
def t9b : ByteArray := ⟨#[53, 54, 55, 56, 57]⟩
theorem crc9 : crc (cat [t9a, t9b]) = 3421780262 := by decide +kernel
theorem sum9 (g : Nat) (w : World) (h : Flow.Blk w g 9 #[.string ⟨#[49, 50, 51, 52]⟩, .string ⟨#[53, 54, 55, 56, 57]⟩]) :
    Calls Try.prog 16 #[.slice (some ⟨g, 0, none⟩) 2 2] w fun e w' => e = .returned (.int .u32 3421780262) ∧ w = w' := by
  have := sum_any (some ⟨g, 0, none⟩) 2 2 [t9a, t9b] w ⟨rfl, fun _ => ⟨g, 0, rfl, h.lt, fun i t ht => ?_⟩⟩ (by omega) (fun t ht => by simp at ht; rcases ht with rfl | rfl <;> decide)
  · rw [crc9] at this
    exact this
  · match i, ht with
    | 0, ht => cases ht; rw [h.cell]; rfl
    | 1, ht => cases ht; rw [h.cell]; rfl
theorem turned1 : Turned (msk 1 1 1) [97] [99] := by
  refine ⟨rfl, fun c hc => by simp at hc; omega, fun i => ?_⟩
  by_cases h : i < 8
  · match i, h with
    | 0, _ => decide
    | 1, _ => decide
    | 2, _ => decide
    | 3, _ => decide
    | 4, _ => decide
    | 5, _ => decide
    | 6, _ => decide
    | 7, _ => decide
  · have h8 : i / 8 ≠ 0 := by omega
    obtain ⟨j, hj⟩ := Nat.exists_eq_succ_of_ne_zero h8
    unfold tb msk
    rw [hj, decide_eq_false (by omega)]
    simp
theorem turn1 (w : World) : Calls Try.prog 21 #[.string ⟨#[97]⟩, .int .i64 1, .int .u32 1] w fun e w' => e = .returned (.string ⟨#[99]⟩) ∧ Below w.heap.size w w' := by
  refine (turn_any ⟨#[97]⟩ 1 1 w (by decide) (by decide) (by decide)).mono ?_
  rintro e w' ⟨⟨y, rfl, hy⟩, hb⟩
  refine ⟨?_, hb⟩
  have : bs y = [99] := Turned.unique hy turned1
  rw [show y = ⟨#[99]⟩ from bs_inj (by rw [this]; rfl)]
set_option maxRecDepth 20000 in
theorem speaks02 (w : World) : Calls Try.prog 15 #[] w fun e w' => e = .returned (.bool true) ∧ Below w.heap.size w w' := by
  obtain ⟨x, hx⟩ : ∃ x, x = txt (sealed (bs ⟨#[97, 98]⟩)) := ⟨_, rfl⟩
  have hbx : bs x = sealed (bs ⟨#[97, 98]⟩) := by rw [hx]; exact bs_txt (sealed_lt (bs_lt _))
  have HX := Flow.hide hx
  have HBX := Flow.hide hbx
  clear hx hbx
  go_enter Try.func15, Try.ntmps15
  go_wp2_with fail
  refine (seal_any _ _ (by decide)).mono ?_
  rintro e w1 ⟨rfl, hb1⟩
  rw [← HX.out]
  have B1 := Flow.hide hb1
  clear hb1
  go_wp2_with fail
  refine (open_sealed _ x _ HBX.out (by decide)).mono ?_
  rintro e w2 ⟨rfl, hb2⟩
  have B2 := Flow.hide (B1.out.trans (hb2.mono B1.out.size))
  clear hb2 B1
  go_wp2_with fail
  refine (sum9 _ _ (Flow.Blk.new _ _ _)).mono ?_
  rintro e w3 ⟨rfl, rfl⟩
  go_wp2_with fail
  refine (turn1 _).mono ?_
  rintro e w4 ⟨rfl, hb4⟩
  have B4 : Hid (Below w.heap.size w w4) := (B2.out.alloc B2.out.size _).trans (hb4.mono (by have := B2.out.size; simp; omega))
  clear hb4 B2
  go_wp2_with fail
  go_ret
  exact ⟨rfl, B4.out⟩
end Go.Proofs.Ythkphapmnlndbaa
