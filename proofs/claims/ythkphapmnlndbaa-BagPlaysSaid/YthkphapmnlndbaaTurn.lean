/- The contract of crc.Turn. -/
import Derived.Test.YthkphapmnlndbaaSeal
import Derived.Test.YthkphapmnlndbaaTurnPlain
import Derived.Test.YthkphapmnlndbaaChain
import Derived.Deep.Cut
namespace Go.Proofs.Ythkphapmnlndbaa
open Go.RowKit CrcPlain
set_option maxHeartbeats 1000000
set_option linter.unusedSimpArgs false
attribute [local irreducible] Flow.wpSeg Flow.wpF Flow.wpG Flow.wpS Flow.wpT
/-- the bits turned by the first k rounds -/
def mskK (len : Nat) (at_ : Int) (b k : Nat) (i : Nat) : Bool := decide (i < 8 * len ∧ at_ ≤ (i : Int) ∧ (i : Int) - at_ < k) && b.testBit ((i : Int) - at_).toNat
theorem mskK0 (len : Nat) (at_ : Int) (b : Nat) (i : Nat) : mskK len at_ b 0 i = false := by
  unfold mskK
  rw [decide_eq_false (by omega)]; rfl
theorem mskK_all (len : Nat) (at_ : Int) (b : Nat) (i : Nat) : mskK len at_ b 32 i = msk len at_ b i := rfl
theorem mskK_same (len : Nat) (at_ : Int) (b k : Nat) (h : b.testBit k = false ∨ at_ < -(k : Int) ∨ 8 * (len : Int) - k ≤ at_) (i : Nat) : mskK len at_ b (k + 1) i = mskK len at_ b k i := by
  unfold mskK
  by_cases he : (i : Int) - at_ = k
  · rcases h with h | h
    · have : ((i : Int) - at_).toNat = k := by omega
      rw [this, h, Bool.and_false, Bool.and_false]
    · rw [decide_eq_false (by omega), decide_eq_false (by omega)]
  · congr 1
    exact decide_eq_decide.2 (by omega)
theorem mskK_next (len : Nat) (at_ : Int) (b k p : Nat) (h : b.testBit k = true) (hp : (p : Int) = at_ + k) (hl : p < 8 * len) (i : Nat) : mskK len at_ b (k + 1) i = Bool.xor (mskK len at_ b k i) (decide (i = 8 * (p / 8) + p % 8)) := by
  unfold mskK
  by_cases he : i = p
  · subst he
    have e1 : ((i : Int) - at_).toNat = k := by omega
    rw [e1, h, decide_eq_true (by omega), decide_eq_false (by omega), decide_eq_true (by omega)]
    rfl
  · rw [decide_eq_false (p := i = 8 * (p / 8) + p % 8) (by omega), Bool.xor_false]
    congr 1
    exact decide_eq_decide.2 (by omega)
theorem and_bit (b k : Nat) (hb : b < 4294967296) (x : Bool) (h : b.testBit k = x) : bits .and .u32 ((b : Int) / 2 ^ k) 1 = if x then 1 else 0 := by
  have h1 : b / 2 ^ k < 4294967296 := Nat.lt_of_le_of_lt (Nat.div_le_self _ _) hb
  have h2 := u32_and_nat (b / 2 ^ k) 1 h1 (by omega)
  rw [nat_mask1] at h2
  rw [Nat.testBit_eq_decide_div_mod_eq] at h
  have h3 : ((b / 2 ^ k : Nat) : Int) = (b : Int) / 2 ^ k := by push_cast; rfl
  rw [← h3]
  refine h2.trans ?_
  subst h
  rcases Nat.mod_two_eq_zero_or_one (b / 2 ^ k) with h4 | h4 <;> rw [h4] <;> rfl
theorem pow_u8 {q : Nat} (h : q < 8) : IntKind.u8.wrap (2 ^ q) = ((2 ^ q : Nat) : Int) := by
  match q, h with
  | 0, _ => rfl
  | 1, _ => rfl
  | 2, _ => rfl
  | 3, _ => rfl
  | 4, _ => rfl
  | 5, _ => rfl
  | 6, _ => rfl
  | 7, _ => rfl
set_option maxRecDepth 20000 in
theorem turn_any (s : ByteArray) (at_ : Int) (b : Nat) (w : World) (hs : s.size ≤ 1004) (ha : -9223372036854775808 ≤ at_ ∧ at_ ≤ 9223372036854775807) (hb : b < 4294967296) :
    Calls Try.prog 21 #[.string s, .int .i64 at_, .int .u32 (b : Int)] w fun e w' => (∃ y : ByteArray, e = .returned (.string y) ∧ Turned (msk s.size at_ b) (bs s) (bs y)) ∧ Below w.heap.size w w' := by
  have hbl := bs_length s
  have HL := Flow.hide hbl
  clear hbl
  obtain ⟨ha1, ha2⟩ := ha
  go_enter Try.func21, Try.ntmps21
  go_wp2_with (with_reducible refine Flow.wpList_bytes_of rfl 9 34 5 _ rfl Try.underlying9 Try.underlying34 Try.underlying5 s rfl (by omega) ?_)
  intro v2 w2 hB hb2
  obtain ⟨g, hg⟩ : ∃ g, g = w.heap.size := ⟨_, rfl⟩
  rw [← hg] at hB
  obtain ⟨cap, rfl, hcap⟩ := hB.val
  rw [HL.out] at hB hcap ⊢
  have HG : Hid (w.heap.size ≤ g) := by rw [hg]; exact Nat.le_refl _
  have HB := Flow.hide hB
  have B2 := Flow.hide hb2
  clear hB hb2 hg
  go_wp2_with fail
  go_loopw [11] (fun i wr => ∃ (k : Nat) (l : List Nat), k ≤ 32 ∧ i = .int .i64 k ∧ Flow.Bytes wr 5 (.slice (some ⟨g, 0, none⟩) s.size cap) g l ∧ Turned (mskK s.size at_ b k) (bs s) l ∧ Below w.heap.size w wr) (fun i _ => 32 - (intOf i).toNat)
  case atStart => exact ⟨0, bs s, by omega, rfl, HB.out, (Turned.refl (bs_lt s)).congr (fun i => (mskK0 _ _ _ i).symm), B2.out⟩
  case round =>
    obtain ⟨k, l, hk, rfl, hB, hT, hb0⟩ := hrel
    have HB := Flow.hide hB
    have HT := Flow.hide hT
    have B0 := Flow.hide hb0
    have hll : l.length = s.size := by rw [hT.len, HL.out]
    have HLL := Flow.hide hll
    clear hB hT hb0 B2 hll
    by_cases hlt : k < 32
    · by_cases hbit : b.testBit k = true
      · have hand := and_bit b k hb true hbit
        simp only [if_true] at hand
        by_cases hlo : at_ < -(k : Int)
        · have T1 : Hid (Turned (mskK s.size at_ b (k + 1)) (bs s) l) := HT.out.congr (fun i => (mskK_same _ _ _ _ (.inr (.inl hlo)) i).symm)
          clear hbit HT
          go_wp2_with fail
          go_roundw
          case rel => exact ⟨k + 1, l, by omega, by go_num, HB.out, T1.out, B0.out⟩
          case measure => simp [intOf]; omega
        · by_cases hhi : 8 * (s.size : Int) - k ≤ at_
          · have T1 : Hid (Turned (mskK s.size at_ b (k + 1)) (bs s) l) := HT.out.congr (fun i => (mskK_same _ _ _ _ (.inr (.inr hhi)) i).symm)
            clear hbit HT
            go_wp2_with fail
            go_roundw
            case rel => exact ⟨k + 1, l, by omega, by go_num, HB.out, T1.out, B0.out⟩
            case measure => simp [intOf]; omega
          · obtain ⟨p, hp⟩ := Int.eq_ofNat_of_zero_le (show 0 ≤ at_ + k by omega)
            have hpl : p < 8 * s.size := by omega
            obtain ⟨c, hc⟩ : ∃ c, l[p / 8]? = some c := ⟨_, List.getElem?_eq_getElem (by rw [HLL.out]; omega)⟩
            have hc256 : c < 256 := HT.out.lt c (List.mem_of_getElem? hc)
            have T1 : Hid (Turned (mskK s.size at_ b (k + 1)) (bs s) (l.set (p / 8) (l.getD (p / 8) 0 ^^^ 2 ^ (p % 8)))) := (HT.out.set (j := p / 8) (q := p % 8) (by rw [HLL.out]; omega) (by omega)).congr (fun i => (mskK_next _ _ _ _ p hbit (by omega) hpl i).symm)
            have hcd : l.getD (p / 8) 0 = c := by rw [List.getD_eq_getElem?_getD, hc]; rfl
            rw [hcd] at T1
            have hcell := HB.out.cell hc
            have hfro := HB.out.frozen (j := p / 8) (by rw [HLL.out]; omega)
            have hcl := HB.out.lt
            clear hbit HT hc hcd
            go_upto_region 6 with fail
            obtain ⟨CS, hCS⟩ : ∃ C : World → Prop, C = fun w' => Below (wr).heap.size (wr) w' := ⟨_, rfl⟩
            obtain ⟨CW, hCW⟩ : ∃ C : World → Prop, C = fun _ => True := ⟨_, rfl⟩
            have hS : ∀ w', Below (wr).heap.size (wr) w' → CS w' := by rw [hCS]; exact fun _ h => h
            have uS : ∀ w', CS w' → Below (wr).heap.size (wr) w' := by rw [hCS]; exact fun _ h => h
            have hSW : ∀ w', CS w' → CW w' := by rw [hCW]; exact fun _ _ => True.intro
            have hW : ∀ w1 w2, CW w1 → Below w1.heap.size w1 w2 → CW w2 := by rw [hCW]; exact fun _ _ _ _ => True.intro
            have uW : ∀ w', CW w' := by rw [hCW]; exact fun _ => True.intro
            have ne1 : Nonempty (Flow.Wd CS) := ⟨⟨_, hS _ (Below.refl _ _)⟩⟩
            have ne2 : Nonempty (Flow.Wd CW) := ⟨⟨wr, uW _⟩⟩
            clear hCS hCW
            have rc : ∀ p' : Flow.Wd CS, p'.w.cell? ⟨g, p / 8, none⟩ = some (.int .u8 (c : Int)) := fun p' => ((uS _ p'.ok).cell (p := ⟨g, p / 8, none⟩) hcl).trans hcell
            have hs1 : IntKind.i64.wrap (at_ + (k : Int)) = (p : Int) := by rw [hp]; exact IntWalk.i64_in _ (by omega)
            have hq1 : (p : Int).tdiv 8 = ((p / 8 : Nat) : Int) := by rw [show (8 : Int) = ((8 : Nat) : Int) from rfl, Int.ofNat_tdiv]
            have hq2 : (p : Int).tmod 8 = ((p % 8 : Nat) : Int) := by rw [show (8 : Int) = ((8 : Nat) : Int) from rfl, Int.ofNat_tmod]
            have hp8 : p / 8 < s.size := by omega
            have hp8' : ((p / 8 : Nat) : Int) < (s.size : Int) := by omega
            have hp88 : p % 8 < 8 := by omega
            have HC8 := Flow.hide hcell
            clear hcell
            obtain ⟨P8, hP8⟩ : ∃ P8, P8 = p / 8 := ⟨_, rfl⟩
            obtain ⟨Q8, hQ8⟩ : ∃ Q8, Q8 = p % 8 := ⟨_, rfl⟩
            rw [← hP8] at rc hq1 hp8 hp8' hfro T1 HC8
            rw [← hQ8] at hq2 hp88 T1
            have hw1 : IntKind.i64.wrap (P8 : Int) = (P8 : Int) := IntWalk.i64_in _ (by omega)
            have hw2 : IntKind.i64.wrap (Q8 : Int) = (Q8 : Int) := IntWalk.i64_in _ (by omega)
            clear hP8 hQ8 hp
            refine Flow.wp_region_chain 14 CS CW [0, 1, 2, 3, 4, 5, 6, 7, 8, 9, 10, 11, 12, 13] [14] (by kernel_rfl) (by kernel_rfl) (.inr ⟨rfl, by decide⟩) hS hSW hW ?_
            dsimp only [Flow.pickIdx, List.getElem?_cons_zero, List.getElem?_cons_succ]
            iterate 14 (
                (refine Flow.wpS_strong (by kernel_rfl) (fun K' hK' => ?_)
                 go_simp
                 first
                   | (refine hK' _ ?_; clear hK' K')
                   | (apply Exists.intro
                      refine ⟨fun p => ?_, hK' _ ?_⟩
                      (first | fail)
                      clear hK' K')))
            refine Flow.wpS_nil ?_
            dsimp only [Flow.pickOps, List.getElem?_cons_zero, List.getElem?_cons_succ]
            clear rc hs1 hq1 hq2 hw1 hw2
            intro w5 hb5
            have k5 := HB.out.below hb5
            have B5 := B0.out.trans (hb5.mono B0.out.size)
            have q5 : w5.cell? ⟨g, P8, none⟩ = some (.int .u8 (c : Int)) := by
              have h := hb5.cell (p := ⟨g, P8, none⟩) hcl
              rw [h]; exact HC8.out
            have f5 : w5.frozen? ⟨g, P8, none⟩ = false := by
              have h := hb5.frozen (p := ⟨g, P8, none⟩) hcl
              rw [h]; exact hfro
            have hx1 := pow_u8 hp88
            have hx2 : bits .xor .u8 (c : Int) (2 ^ Q8) = ((c ^^^ 2 ^ Q8 : Nat) : Int) := by
              have h := u8_xor_nat c (2 ^ Q8) hc256 (Nat.pow_lt_pow_right (a := 2) (n := 8) (by omega) hp88)
              rwa [Int.natCast_pow] at h
            refine Flow.wpT_on rfl ?_
            go_simp
            refine ⟨uW _, fun w6 hb6 => Flow.wpT_nil ?_⟩
            have k6 := k5.store P8 (c ^^^ 2 ^ Q8)
            have z6 : (w5.setCell ⟨g, P8, none⟩ (.int .u8 ((c ^^^ 2 ^ Q8 : Nat) : Int))).heap.size = w5.heap.size := by simp
            have B6 : Hid (Below w.heap.size w w6) := (B5.setCell (p := ⟨g, P8, none⟩) HG.out _).trans (hb6.mono B5.size)
            have K6 := Flow.hide (k6.below (by rw [z6]; exact hb6))
            clear hb5 k5 B5 q5 f5 hx1 hx2 hb6 k6 z6 HB B0 hfro hS uS hSW hW uW ne1 ne2 CS CW w5 hcl
            go_wp2_with fail
            go_roundw
            case rel => exact ⟨k + 1, _, by omega, by go_num, K6.out, T1.out, B6.out⟩
            case measure => simp [intOf]; omega
      · have hand := and_bit b k hb false (by simpa using hbit)
        simp only [Bool.false_eq_true, if_false] at hand
        have T1 : Hid (Turned (mskK s.size at_ b (k + 1)) (bs s) l) := HT.out.congr (fun i => (mskK_same _ _ _ _ (.inl (by simpa using hbit)) i).symm)
        clear hbit HT
        go_wp2_with fail
        go_roundw
        case rel => exact ⟨k + 1, l, by omega, by go_num, HB.out, T1.out, B0.out⟩
        case measure => simp [intOf]; omega
    · obtain rfl : k = 32 := by omega
      have hback := HB.out.back (P := Try.prog) 34 9 Try.underlying34 Try.underlying5 Try.underlying9 HT.out.lt
      go_wp2_with fail
      go_ret
      exact ⟨⟨txt l, rfl, by rw [bs_txt HT.out.lt]; exact HT.out⟩, B0.out⟩
end Go.Proofs.Ythkphapmnlndbaa
