/- The contracts of package crc. -/
import Derived.Test.YthkphapmnlndbaaProg
import Derived.Test.YthkphapmnlndbaaSteps
import Derived.Test.YthkphapmnlndbaaCrcPlain
import Derived.Test.YthkphapmnlndbaaBytes
import Derived.WalkKit
import Derived.WalkLawsBesides
import Derived.WalkSpells
import Derived.Handy
namespace Go.Proofs.Ythkphapmnlndbaa
open Go.RowKit CrcPlain
set_option maxHeartbeats 1000000
theorem step_any (r c : Nat) (w : World) (hr : r < 4294967296) (hc : c < 256) :
    Calls Try.prog 54 #[.int .u32 (r : Int), .int .u8 (c : Int)] w fun e w' => e = .returned (.int .u32 (stp r c : Nat)) ∧ w = w' := by
  go_enter Try.func54, Try.ntmps54
  go_wp2_with fail
  have hx0 : r ^^^ c < 4294967296 := Nat.xor_lt_two_pow (n := 32) (by omega) (by omega)
  go_loop [0, 9] (fun v i => ∃ k : Nat, k ≤ 8 ∧ i = .int .i64 k ∧ v = .int .u32 (feed k (r ^^^ c) : Nat)) (fun _ i => 8 - (intOf i).toNat)
  case atStart => exact ⟨0, by omega, rfl, by rw [u32_xor_nat r c (by omega) (by omega)]; rfl⟩
  case round =>
    obtain ⟨k, hk, rfl, rfl⟩ := hrel
    have hx : feed k (r ^^^ c) < 4294967296 := feed_lt k hx0
    have hs := feed_succ' k (r ^^^ c)
    have HS := Flow.hide hs
    clear hs
    rw [show feed k (r ^^^ c) = feed k (r ^^^ c) from rfl]
    obtain ⟨x, hxe⟩ : ∃ x, x = feed k (r ^^^ c) := ⟨_, rfl⟩
    rw [← hxe] at hx ⊢
    have HX := Flow.hide hxe
    clear hxe
    have hand : bits .and .u32 (x : Int) 1 = ((x % 2 : Nat) : Int) := by
      have := u32_and_nat x 1 hx (by omega)
      rw [nat_mask1] at this
      exact this
    by_cases hlt : k < 8
    · rcases Nat.mod_two_eq_zero_or_one x with hp | hp
      · rw [hp] at hand
        have HP := Flow.hide hp
        clear hp
        go_wp2
        go_round
        case rel => exact ⟨k + 1, by omega, by go_num, by rw [HS.out, ← HX.out]; unfold F; rw [if_neg (by rw [HP.out]; decide)]; go_num⟩
        case measure => simp [intOf]; omega
      · rw [hp] at hand
        have HP := Flow.hide hp
        clear hp
        have hxor : bits .xor .u32 ((x / 2 : Nat) : Int) 3988292384 = ((x / 2 ^^^ 3988292384 : Nat) : Int) := u32_xor_nat (x / 2) 3988292384 (by omega) (by omega)
        go_wp2
        go_round
        case rel => exact ⟨k + 1, by omega, by go_num, by rw [HS.out, ← HX.out]; unfold F; rw [if_pos HP.out, ← hxor]; rfl⟩
        case measure => simp [intOf]; omega
    · obtain rfl : k = 8 := by omega
      go_wp2
      go_ret
      exact ⟨by rw [HX.out]; rfl, rfl⟩

theorem compl {r : Nat} (hr : r < 4294967296) : 4294967295 ^^^ r = 4294967295 - r := by
  apply Nat.eq_of_testBit_eq
  intro i
  rw [Nat.testBit_xor, show 4294967295 - r = 2 ^ 32 - (r + 1) by omega, Nat.testBit_two_pow_sub_succ (by omega : r < 2 ^ 32), show (4294967295 : Nat) = 2 ^ 32 - 1 by rfl, Nat.testBit_two_pow_sub_one]
  by_cases hi : i < 32
  · simp [hi]
  · have : r.testBit i = false := Nat.testBit_lt_two_pow (Nat.lt_of_lt_of_le (by omega : r < 2 ^ 32) (Nat.pow_le_pow_right (by omega) (by omega)))
    simp [hi, this]
/-- A slice that reads as texts, in memory below B. -/
def RdStr (B : Nat) (w : World) (A : Option Addr) (n : Nat) (ss : List ByteArray) : Prop :=
  ss.length = n ∧ (0 < n → ∃ g off, A = some ⟨g, off, none⟩ ∧ g < B ∧ ∀ (i : Nat) (s : ByteArray), ss[i]? = some s → w.cell? ⟨g, off + i, none⟩ = some (.string s))
def cat (ss : List ByteArray) : List Nat := (ss.map bs).flatten
theorem cat_snoc (l : List ByteArray) (x : ByteArray) : cat (l ++ [x]) = cat l ++ bs x := by simp [cat]
theorem cat_lt (l : List ByteArray) : ∀ c ∈ cat l, c < 256 := by
  intro c hc
  unfold cat at hc
  rw [List.mem_flatten] at hc
  obtain ⟨x, hx, hc⟩ := hc
  obtain ⟨s, _, rfl⟩ := List.mem_map.1 hx
  exact bs_lt s c hc
theorem take_snoc {α : Type} (l : List α) (k : Nat) (x : α) (h : l[k]? = some x) : l.take (k + 1) = l.take k ++ [x] := by
  rw [List.take_add_one, h]; rfl
theorem sum_any (A : Option Addr) (n c : Nat) (ss : List ByteArray) (w : World) (hr : RdStr w.heap.size w A n ss) (hn : n ≤ 100000) (hs : ∀ s ∈ ss, s.size ≤ 100000) :
    Calls Try.prog 16 #[.slice A n c] w fun e w' => e = .returned (.int .u32 (crc (cat ss) : Nat)) ∧ w = w' := by
  have Hr := Flow.hide hr
  have Hs := Flow.hide hs
  clear hr hs
  go_enter Try.func16, Try.ntmps16
  go_wp2_with fail
  go_loop [3, 9] (fun v i => ∃ k : Nat, k ≤ n ∧ i = .int .i64 k ∧ v = .int .u32 (run 4294967295 (cat (ss.take k)) : Nat)) (fun _ i => n - (intOf i).toNat)
  case atStart => exact ⟨0, by omega, rfl, rfl⟩
  case round =>
    obtain ⟨k, hk, rfl, rfl⟩ := hrel
    obtain ⟨R, hR⟩ : ∃ R, R = run 4294967295 (cat (ss.take k)) := ⟨_, rfl⟩
    have hRl : R < 4294967296 := by rw [hR]; exact run_lt (by omega) (cat_lt _)
    rw [← hR]
    have HR := Flow.hide hR
    clear hR
    by_cases hlt : k < n
    · obtain ⟨g, off, rfl, hg, hc⟩ := Hr.out.2 (by omega)
      have hlen := Hr.out.1
      have hsk : ss[k]? = some (ss[k]'(by omega)) := List.getElem?_eq_getElem (by omega)
      obtain ⟨s, hse⟩ : ∃ s, s = ss[k]'(by omega) := ⟨_, rfl⟩
      rw [← hse] at hsk
      have hcell := hc k s hsk
      have hsz : s.size ≤ 100000 := Hs.out s (List.mem_of_getElem? hsk)
      have Hsk := Flow.hide hsk
      clear hc hse hsk hlen
      go_wp2_with fail
      go_loop [3, 15] (fun v i => ∃ j : Nat, j ≤ s.size ∧ i = .int .i64 j ∧ v = .int .u32 (run R ((bs s).take j) : Nat)) (fun _ i => s.size - (intOf i).toNat)
      case atStart => exact ⟨0, by omega, rfl, rfl⟩
      case round =>
        obtain ⟨j, hj, rfl, rfl⟩ := hrel
        obtain ⟨T, hT⟩ : ∃ T, T = run R ((bs s).take j) := ⟨_, rfl⟩
        have hTl : T < 4294967296 := by rw [hT]; exact run_lt hRl (fun c hc => bs_lt s c (List.mem_of_mem_take hc))
        rw [← hT]
        have HT := Flow.hide hT
        clear hT
        by_cases hjl : j < s.size
        · have hb := bs_get s j hjl
          have HB := Flow.hide hb
          clear hb
          go_wp2_with fail
          refine (step_any T (s[j]).toNat _ hTl (s[j]).toNat_lt).mono ?_
          rintro e w' ⟨rfl, rfl⟩
          go_wp2_with fail
          go_round
          case rel => exact ⟨j + 1, by omega, by go_num, by rw [take_snoc _ _ _ HB.out, run_append, ← HT.out, run_cons]; rfl⟩
          case measure => simp [intOf]; omega
        · obtain rfl : j = s.size := by omega
          go_wp2_with fail
          go_round
          case rel => exact ⟨k + 1, by omega, by go_num, by rw [take_snoc _ _ _ Hsk.out, cat_snoc, run_append, ← HR.out, HT.out, List.take_of_length_le (by rw [bs_length]; omega)]⟩
          case measure => simp [intOf]; omega
    · obtain rfl : k = n := by omega
      go_wp2_with fail
      go_ret
      refine ⟨?_, rfl⟩
      have h1 : bits .xor .u32 IntKind.u32.max (R : Int) = ((4294967295 - R : Nat) : Int) := by
        have := u32_xor_nat 4294967295 R (by omega) hRl
        rw [compl hRl] at this
        exact this
      show Ending.returned (.int .u32 (bits .xor .u32 IntKind.u32.max (R : Int))) = _
      rw [h1, HR.out, List.take_of_length_le (by rw [Hr.out.1]; exact Nat.le_refl _)]
      rfl
end Go.Proofs.Ythkphapmnlndbaa
