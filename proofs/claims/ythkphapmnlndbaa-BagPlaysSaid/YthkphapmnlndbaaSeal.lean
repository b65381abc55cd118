/- The contracts of crc.Seal, crc.Open and crc.Turn. -/
import Derived.Test.YthkphapmnlndbaaCrc
import Derived.Test.YthkphapmnlndbaaCrcRef
namespace Go.Proofs.Ythkphapmnlndbaa
open Go.RowKit CrcPlain
set_option maxHeartbeats 1000000
set_option linter.unusedSimpArgs false
theorem info5 : (Try.prog.info? 5).map (fun i => (i.zero, i.size, i.bytes)) = some (some (.int .u8 0), 1, 1) := by kernel_rfl
theorem sum_one (s : ByteArray) (g : Nat) (N : Nat) (w : World) (hs : s.size ≤ 100000) (h : Flow.Blk w g 9 #[.string s]) (hN : N = crc (bs s)) :
    Calls Try.prog 16 #[.slice (some ⟨g, 0, none⟩) 1 1] w fun e w' => e = .returned (.int .u32 (N : Int)) ∧ w = w' := by
  have := sum_any (some ⟨g, 0, none⟩) 1 1 [s] w ⟨rfl, fun _ => ⟨g, 0, rfl, h.lt, fun i t ht => ?_⟩⟩ (by omega) (fun t ht => by simp at ht; subst ht; exact hs)
  · rw [hN]
    have e : cat [s] = bs s := by simp [cat]
    rw [e] at this
    exact this
  · match i, ht with
    | 0, ht => cases ht; rw [h.cell]; rfl
set_option maxRecDepth 20000 in
theorem seal_any (s : ByteArray) (w : World) (hs : s.size ≤ 1000) :
    Calls Try.prog 18 #[.string s] w fun e w' => e = .returned (.string (txt (sealed (bs s)))) ∧ Below w.heap.size w w' := by
  obtain ⟨N, hN⟩ : ∃ N, N = crc (bs s) := ⟨_, rfl⟩
  have hNl : N < 4294967296 := by rw [hN]; exact crc_lt _
  have hbl := bs_length s
  have HL := Flow.hide hbl
  have HN := Flow.hide hN
  clear hN hbl
  obtain ⟨i0, hi, hz0, hz1, hz2⟩ := info_parts info5
  go_enter Try.func18, Try.ntmps18
  go_wp2_with fail
  refine (sum_one s _ N _ (by omega) (Flow.Blk.new _ _ _) HN.out).mono ?_
  rintro e w1 ⟨rfl, rfl⟩
  go_wp2_with (with_reducible refine Flow.wpList_bytes_of rfl 9 34 5 _ rfl Try.underlying9 Try.underlying34 Try.underlying5 s rfl (by omega) ?_)
  intro v2 w2 hB hb
  obtain ⟨g2, hg2⟩ : ∃ g, g = w.heap.size + 1 := ⟨_, rfl⟩
  rw [← hg2] at hB hb
  have hgw : w.heap.size ≤ g2 := by omega
  have b2 : Below w.heap.size w w2 := (Flow.below_alloc _ _).trans (hb.mono hgw)
  have HB := Flow.hide hB
  have B2 := Flow.hide b2
  clear hg2 hB b2 hb
  go_wp2_with fail
  go_loopw [4, 11] (fun v i wr => ∃ (k g : Nat), k ≤ 4 ∧ i = .int .i64 k ∧ Flow.Bytes wr 5 v g (bs s ++ (le4 N).take k) ∧ w.heap.size ≤ g ∧ Below w.heap.size w wr) (fun _ i _ => 4 - (intOf i).toNat)
  case atStart => exact ⟨0, g2, by omega, rfl, by simpa using HB.out, hgw, B2.out⟩
  case round =>
    obtain ⟨k, g, hk, rfl, hB0, hg0, hb0⟩ := hrel
    have HB0 := Flow.hide hB0
    have B0 := Flow.hide hb0
    obtain ⟨cap, hv, hcap⟩ := hB0.val
    subst hv
    clear hB0 hb0 HB B2 hgw
    by_cases hlt : k < 4
    · obtain ⟨L, hL⟩ : ∃ L, L = bs s ++ (le4 N).take k := ⟨_, rfl⟩
      rw [← hL] at HB0 hcap ⊢
      have hlen : L.length ≤ 1004 := by rw [hL, List.length_append, HL.out, List.length_take]; omega
      have LL := Flow.hide hL
      have hce : ((N / 256 ^ k % 256 : Nat) : Int) = (N : Int) / 2 ^ (8 * k) % 256 := by
        rw [show 256 ^ k = 2 ^ (8 * k) by rw [show 256 = 2 ^ 8 from rfl, ← Nat.pow_mul]]
        push_cast
        rfl
      have HC := Flow.hide hce
      have HB1 : Hid (Flow.Bytes (wr.alloc (.cells #[.int .u8 ((N : Int) / 2 ^ (8 * k) % 256)] 5)) 5 (.slice (some ⟨g, 0, none⟩) L.length cap) g L) := HB0.out.below (Flow.below_alloc _ _)
      have hz : w.heap.size ≤ wr.heap.size := B0.out.size
      clear hcap hL hce
      go_wp2_with (at_builtin; refine Flow.wpList_append_byte rfl _ _ 34 rfl 5 i0 Try.underlying34 hi hz0 hz1 hz2 _ g L rfl HB1.out ⟨wr.heap.size, 0, none⟩ 1 (N / 256 ^ k % 256) rfl ?c1 ?c2 ?_)
      case c1 => exact ((Flow.Blk.new wr 5 _).cell 0).trans (by rw [HC.out]; rfl)
      case c2 => omega
      intro v' w' g' hB' hc' hg'
      have b1 : Hid (Below w.heap.size w w') := (B0.out.alloc hz _).trans (hc'.below (fun j _ e => by omega) (by simp; omega))
      have hgg : w.heap.size ≤ g' := by
        rcases hg' with rfl | h
        · exact hg0
        · first | omega | (simp at h; omega)
      rw [LL.out, List.append_assoc, ← le4_take N k hlt] at hB'
      have HB2 := Flow.hide hB'
      clear hB' hc' hg' HB0 HB1 B0
      go_wp2_with fail
      go_roundw
      case rel => exact ⟨k + 1, g', by omega, by go_num, HB2.out, hgg, b1.out⟩
      case measure => simp [intOf]; omega
    · obtain rfl : k = 4 := by omega
      have hfull : bs s ++ (le4 N).take 4 = sealed (bs s) := by rw [HN.out]; rfl
      have hlt4 : ∀ c ∈ bs s ++ (le4 N).take 4, c < 256 := by rw [hfull]; exact sealed_lt (bs_lt s)
      have HF := Flow.hide hfull
      have H4 := Flow.hide hlt4
      obtain ⟨L, hL⟩ : ∃ L, L = bs s ++ (le4 N).take 4 := ⟨_, rfl⟩
      rw [← hL] at HB0 H4 ⊢
      have LL := Flow.hide hL
      clear hfull hlt4 hcap hL
      have hback := HB0.out.back (P := Try.prog) 34 9 Try.underlying34 Try.underlying5 Try.underlying9 H4.out
      go_wp2_with fail
      go_ret
      exact ⟨by rw [LL.out, HF.out]; rfl, B0.out⟩
theorem txt_size (l : List Nat) : (txt l).size = l.length := by simp [txt, ByteArray.size]
theorem bs_size (s : ByteArray) : s.size = (bs s).length := (bs_length s).symm
/-- A text of at least four bytes: all but the last four. -/
def body (s : ByteArray) : ByteArray := s.extract 0 (s.size - 4)
theorem bs_extract (s : ByteArray) (n : Nat) (_ : n ≤ s.size) : bs (s.extract 0 n) = (bs s).take n := by
  unfold bs
  rw [← List.map_take]
  congr 1
  simp [ByteArray.data_extract]
theorem open_short (s : ByteArray) (w : World) (hs : s.size < 4) :
    Calls Try.prog 20 #[.string s] w fun e w' => e = .returned (.tuple #[.string ⟨#[]⟩, .int .i64 2]) ∧ Below w.heap.size w w' := by
  go_enter Try.func20, Try.ntmps20
  go_wp2_with fail
  go_ret2
  exact ⟨rfl, Below.refl _ _⟩
/-- Is a text of at least four bytes sealed? -/
def isSealed (s : ByteArray) : Bool := decide (txt (sealed ((bs s).take (s.size - 4))) = s)
theorem open_yes (s : ByteArray) (w : World) (hs : 4 ≤ s.size) (hm : s.size ≤ 1004) (h : isSealed s = true) :
    Calls Try.prog 20 #[.string s] w fun e w' => e = .returned (.tuple #[.string (s.extract 0 (s.size - 4)), .int .i64 0]) ∧ Below w.heap.size w w' := by
  have he : txt (sealed (bs (s.extract 0 (s.size - 4)))) = s := by
    rw [bs_extract s _ (by omega)]
    exact of_decide_eq_true h
  have HE := Flow.hide he
  clear he h
  go_enter Try.func20, Try.ntmps20
  go_wp2_with fail
  refine (seal_any (s.extract 0 (s.size - 4)) _ (by rw [ByteArray.size_extract]; omega)).mono ?_
  rintro e w1 ⟨rfl, hb⟩
  rw [HE.out]
  have HB := Flow.hide hb
  clear hb
  go_wp2_with fail
  go_ret2
  exact ⟨rfl, HB.out⟩
theorem open_no (s : ByteArray) (w : World) (hs : 4 ≤ s.size) (hm : s.size ≤ 1004) (h : isSealed s = false) :
    Calls Try.prog 20 #[.string s] w fun e w' => e = .returned (.tuple #[.string ⟨#[]⟩, .int .i64 5]) ∧ Below w.heap.size w w' := by
  have he : ¬ txt (sealed (bs (s.extract 0 (s.size - 4)))) = s := by
    rw [bs_extract s _ (by omega)]
    exact of_decide_eq_false h
  have HE := Flow.hide he
  clear he h
  go_enter Try.func20, Try.ntmps20
  go_wp2_with fail
  refine (seal_any (s.extract 0 (s.size - 4)) _ (by rw [ByteArray.size_extract]; omega)).mono ?_
  rintro e w1 ⟨rfl, hb⟩
  obtain ⟨t, ht⟩ : ∃ t, t = txt (sealed (bs (s.extract 0 (s.size - 4)))) := ⟨_, rfl⟩
  have hne : (t.toList == s.toList) = false := by rw [ht, str_beq]; exact decide_eq_false HE.out
  rw [← ht]
  have HB := Flow.hide hb
  clear hb ht HE
  go_wp2_with fail
  go_ret2
  exact ⟨rfl, HB.out⟩
end Go.Proofs.Ythkphapmnlndbaa
