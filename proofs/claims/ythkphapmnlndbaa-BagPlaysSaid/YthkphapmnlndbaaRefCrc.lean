/- The contracts of package talariaref02. -/
import Derived.Test.YthkphapmnlndbaaTurn
import Derived.Test.YthkphapmnlndbaaCrcRef
import Derived.Outline
namespace Go.Proofs.Ythkphapmnlndbaa
open Go.RowKit CrcPlain
set_option maxHeartbeats 1000000
set_option linter.unusedSimpArgs false
theorem bit_any (s : ByteArray) (n B : Nat) (w : World) (hs : s.size ≤ 100000) (hn : n < 8 * s.size) (hB : B = (bs s).getD (n / 8) 0 / 2 ^ (n % 8) % 2) :
    Calls Try.prog 55 #[.string s, .int .i64 (n : Int)] w fun e w' => e = .returned (.int .i64 (B : Int)) ∧ w = w' := by
  have HB := Flow.hide hB
  clear hB
  obtain ⟨p, hp⟩ : ∃ p, p = n / 8 := ⟨_, rfl⟩
  obtain ⟨q, hq⟩ : ∃ q, q = n % 8 := ⟨_, rfl⟩
  have hps : p < s.size := by omega
  have hps' : (p : Int) < (s.size : Int) := by omega
  have hq8 : q < 8 := by omega
  have hd : (n : Int) / 8 = (p : Int) := by omega
  have hr : (n : Int) % 8 = (q : Int) := by omega
  have hg := bs_get s p hps
  have hcl := (s[p]).toNat_lt
  have HC : Hid ((bs s).getD (n / 8) 0 = (s[p]).toNat) := by
    show _ = _
    rw [← hp, List.getD_eq_getElem?_getD, hg]; rfl
  have HQ := Flow.hide hq
  have HR := Flow.hide hr
  clear hg hp hq hr
  go_enter Try.func55, Try.ntmps55
  go_wp2_with fail
  generalize (s[p]).toNat = c at *
  have hr := HR.out
  go_loop [5, 6] (fun v i => ∃ k : Nat, k ≤ q ∧ i = .int .i64 k ∧ v = .int .i64 ((c / 2 ^ k : Nat) : Int)) (fun _ i => q - (intOf i).toNat)
  case atStart => exact ⟨0, by omega, rfl, by simp⟩
  case round =>
    obtain ⟨k, hk, rfl, rfl⟩ := hrel
    have h1 : c / 2 ^ k ≤ c := Nat.div_le_self _ _
    have h2 : c / 2 ^ (k + 1) = c / 2 ^ k / 2 := by rw [Nat.pow_succ, Nat.div_div_eq_div_mul]
    obtain ⟨d, hd'⟩ : ∃ d, d = c / 2 ^ k := ⟨_, rfl⟩
    rw [← hd'] at h1 h2 ⊢
    have HD := Flow.hide hd'
    have H2 := Flow.hide h2
    clear hd' h2
    by_cases hlt : k < q
    · go_wp2_with fail
      go_round
      case rel => exact ⟨k + 1, by omega, by go_num, by rw [H2.out]; go_num⟩
      case measure => simp [intOf]; omega
    · obtain rfl : k = q := by omega
      go_wp2_with fail
      go_ret
      refine ⟨?_, rfl⟩
      show Ending.returned (.int .i64 ((d : Int) % 2)) = _
      rw [HB.out, HC.out, ← HQ.out, ← HD.out]
      go_num
theorem rsum_any (s : ByteArray) (w : World) (hs : s.size ≤ 100000) :
    Calls Try.prog 17 #[.string s] w fun e w' => e = .returned (.int .u32 (crc (bs s) : Nat)) ∧ w = w' := by
  go_enter Try.func17, Try.ntmps17
  go_wp2_with fail
  go_loop [3, 4] (fun v i => ∃ k : Nat, k ≤ 8 * s.size ∧ i = .int .i64 k ∧ v = .int .u32 (gun (bs s) k : Nat)) (fun _ i => 8 * s.size - (intOf i).toNat)
  case atStart => exact ⟨0, by omega, rfl, rfl⟩
  case round =>
    obtain ⟨k, hk, rfl, rfl⟩ := hrel
    have h1 := gun_lt (bs s) k
    obtain ⟨r, hr⟩ : ∃ r, r = gun (bs s) k := ⟨_, rfl⟩
    rw [← hr] at h1 ⊢
    have HR := Flow.hide hr
    clear hr
    by_cases hlt : k < 8 * s.size
    · obtain ⟨B, hB⟩ : ∃ B, B = (bs s).getD (k / 8) 0 / 2 ^ (k % 8) % 2 := ⟨_, rfl⟩
      have hB2 : B < 2 := by rw [hB]; exact Nat.mod_lt _ (by omega)
      have hG : gun (bs s) (k + 1) = G r B := by rw [hB, HR.out]; rfl
      have HG := Flow.hide hG
      have HB := Flow.hide hB
      clear hG hB
      by_cases hrB : r % 2 = B
      · have e1 : ((r : Int) % 2 != (B : Int)) = false := by simp; omega
        have HRB := Flow.hide hrB
        clear hrB
        go_wp2_with fail
        refine (bit_any s k B _ hs hlt HB.out).mono ?_
        rintro e w' ⟨rfl, rfl⟩
        go_wp2_with fail
        go_round
        case rel => exact ⟨k + 1, by omega, by go_num, by rw [HG.out]; unfold G; rw [if_pos HRB.out]; go_num⟩
        case measure => simp [intOf]; omega
      · have e1 : ((r : Int) % 2 != (B : Int)) = true := by simp; omega
        have HRB := Flow.hide hrB
        have hx : bits .xor .u32 ((r / 2 : Nat) : Int) 3988292384 = ((r / 2 ^^^ 3988292384 : Nat) : Int) := u32_xor_nat (r / 2) 3988292384 (by omega) (by omega)
        clear hrB
        go_wp2_with fail
        refine (bit_any s k B _ hs hlt HB.out).mono ?_
        rintro e w' ⟨rfl, rfl⟩
        go_wp2_with fail
        go_round
        case rel => exact ⟨k + 1, by omega, by go_num, by rw [HG.out]; unfold G; rw [if_neg HRB.out, ← hx]; rfl⟩
        case measure => simp [intOf]; omega
    · obtain rfl : k = 8 * s.size := by omega
      go_wp2_with fail
      go_ret
      refine ⟨?_, rfl⟩
      have h2 := gun_all (bs s) (bs_lt s)
      rw [bs_length, ← HR.out] at h2
      rw [← h2]
      show Ending.returned (.int .u32 (4294967295 - (r : Int))) = _
      go_num
theorem bs_append (s t : ByteArray) : bs (s ++ t) = bs s ++ bs t := by
  unfold bs
  rw [ByteArray.data_append, Array.toList_append, List.map_append]
theorem bytes_one (w : World) (c : Nat) : Flow.Bytes (w.alloc (.cells #[.int .u8 (c : Int)] 5)) 5 (.slice (some ⟨w.heap.size, 0, none⟩) 1 1) w.heap.size [c] :=
  ⟨1, #[.int .u8 (c : Int)], (0, 0), rfl, heap_alloc_new w _, .inl rfl, rfl, Nat.le_refl _, by unfold maxLen; omega, fun j d hd => by
    match j, hd with
    | 0, hd => cases hd; rfl⟩
set_option maxRecDepth 20000 in
theorem rseal_any (s : ByteArray) (w : World) (hs : s.size ≤ 1000) :
    Calls Try.prog 19 #[.string s] w fun e w' => e = .returned (.string (txt (sealed (bs s)))) ∧ Below w.heap.size w w' := by
  obtain ⟨N, hN⟩ : ∃ N, N = crc (bs s) := ⟨_, rfl⟩
  have hNl : N < 4294967296 := by rw [hN]; exact crc_lt _
  have HN := Flow.hide hN
  clear hN
  go_enter Try.func19, Try.ntmps19
  go_wp2_with fail
  refine (rsum_any s _ (by omega)).mono ?_
  rintro e w1 ⟨rfl, rfl⟩
  rw [← HN.out]
  go_wp2_with fail
  go_loopw [0, 3, 4] (fun t0 v i wr => ∃ (k : Nat) (t : ByteArray), k ≤ 4 ∧ i = .int .i64 k ∧ v = .int .u32 ((N / 256 ^ k : Nat) : Int) ∧ t0 = .string t ∧ bs t = bs s ++ (le4 N).take k ∧ Below w.heap.size w wr) (fun _ _ i _ => 4 - (intOf i).toNat)
  case atStart => exact ⟨0, s, by omega, rfl, by simp, rfl, by simp, Below.refl _ _⟩
  case round =>
    obtain ⟨k, t, hk, rfl, rfl, rfl, ht, hb⟩ := hrel
    have HT := Flow.hide ht
    have HB := Flow.hide hb
    have hD : N / 256 ^ k ≤ N := Nat.div_le_self _ _
    have h2 : N / 256 ^ (k + 1) = N / 256 ^ k / 256 := by rw [Nat.pow_succ, Nat.div_div_eq_div_mul]
    obtain ⟨D, hDe⟩ : ∃ D, D = N / 256 ^ k := ⟨_, rfl⟩
    rw [← hDe] at hD h2 ⊢
    have HD := Flow.hide hDe
    have H2 := Flow.hide h2
    clear ht hb hDe h2
    by_cases hlt : k < 4
    · have hback := (bytes_one wr (D % 256)).back (P := Try.prog) 34 9 Try.underlying34 Try.underlying5 Try.underlying9 (by intro c hc; simp at hc; omega)
      have hm : ((D % 256 : Nat) : Int) = (D : Int) % 256 := by omega
      rw [hm] at hback
      have hc256 : ∀ c ∈ [D % 256], c < 256 := by intro c hc; simp at hc; omega
      obtain ⟨u, hu⟩ : ∃ u, u = txt [D % 256] := ⟨_, rfl⟩
      have hub : bs u = [D % 256] := by rw [hu]; exact bs_txt hc256
      have hus : u.size ≤ 1 := by rw [← bs_length, hub]; exact Nat.le_refl _
      have hts : t.size ≤ 1004 := by rw [← bs_length, HT.out, List.length_append, bs_length, List.length_take]; omega
      rw [← hu] at hback
      have HU := Flow.hide hub
      have hk4 := le4_take N k hlt
      have HK4 := Flow.hide hk4
      clear hm hc256 hu hub hk4
      go_wp2_with fail
      go_roundw
      case rel => exact ⟨k + 1, t ++ u, by omega, by go_num, by rw [H2.out]; go_num, rfl, by rw [bs_append, HT.out, HU.out, HK4.out, List.append_assoc, HD.out], HB.out.alloc HB.out.size _⟩
      case measure => simp [intOf]; omega
    · obtain rfl : k = 4 := by omega
      go_wp2_with fail
      go_ret
      have hfin : t = txt (sealed (bs s)) := bs_inj (by rw [bs_txt (sealed_lt (bs_lt s)), HT.out]; unfold sealed; rw [← HN.out]; rfl)
      exact ⟨by rw [← hfin]; rfl, HB.out⟩
/-- the bits of the mask ahead of n -/
def mskN (len : Nat) (at_ : Int) (b n : Nat) (i : Nat) : Bool := decide (i < n) && msk len at_ b i
theorem mskN0 (len : Nat) (at_ : Int) (b : Nat) (i : Nat) : mskN len at_ b 0 i = false := by unfold mskN; rw [decide_eq_false (by omega)]; rfl
theorem mskN_all (len : Nat) (at_ : Int) (b : Nat) (i : Nat) : mskN len at_ b (8 * len) i = msk len at_ b i := by
  unfold mskN
  by_cases h : i < 8 * len
  · rw [decide_eq_true h, Bool.true_and]
  · rw [decide_eq_false h, Bool.false_and]
    unfold msk
    rw [decide_eq_false (by omega), Bool.false_and]
theorem mskN_same (len : Nat) (at_ : Int) (b n : Nat) (h : msk len at_ b n = false) (i : Nat) : mskN len at_ b (n + 1) i = mskN len at_ b n i := by
  unfold mskN
  by_cases he : i = n
  · rw [he, h, Bool.and_false, Bool.and_false]
  · congr 1; exact decide_eq_decide.2 (by omega)
theorem mskN_next (len : Nat) (at_ : Int) (b n : Nat) (h : msk len at_ b n = true) (i : Nat) : mskN len at_ b (n + 1) i = Bool.xor (mskN len at_ b n i) (decide (i = 8 * (n / 8) + n % 8)) := by
  unfold mskN
  by_cases he : i = n
  · subst he
    rw [h, decide_eq_true (by omega), decide_eq_false (by omega), decide_eq_true (by omega)]
    rfl
  · rw [decide_eq_false (p := i = 8 * (n / 8) + n % 8) (by omega), Bool.xor_false]
    congr 1; exact decide_eq_decide.2 (by omega)
theorem msk_off (len : Nat) (at_ : Int) (b n : Nat) (h : (n : Int) < at_ ∨ at_ < (n : Int) - 31) : msk len at_ b n = false := by
  unfold msk; rw [decide_eq_false (by omega)]; rfl
theorem msk_on (len : Nat) (at_ : Int) (b n d : Nat) (hn : n < 8 * len) (hd : (n : Int) - at_ = d) (hd2 : d ≤ 31) : msk len at_ b n = b.testBit d := by
  unfold msk; rw [decide_eq_true (by omega), Bool.true_and, hd]; rfl
set_option maxRecDepth 20000 in
theorem rturn_any (s : ByteArray) (at_ : Int) (b : Nat) (w : World) (hs : s.size ≤ 1004) (ha : -9223372036854775808 ≤ at_ ∧ at_ ≤ 9223372036854775807) (hb : b < 4294967296) :
    Calls Try.prog 22 #[.string s, .int .i64 at_, .int .u32 (b : Int)] w fun e w' => (∃ y : ByteArray, e = .returned (.string y) ∧ Turned (msk s.size at_ b) (bs s) (bs y)) ∧ Below w.heap.size w w' := by
  have hbl := bs_length s
  have HL := Flow.hide hbl
  clear hbl
  obtain ⟨ha1, ha2⟩ := ha
  go_enter Try.func22, Try.ntmps22
  go_wp2_with (with_reducible refine Flow.wpList_bytes_of rfl 9 34 5 _ rfl Try.underlying9 Try.underlying34 Try.underlying5 s rfl (by omega) ?_)
  intro v2 w2 hB hb2
  obtain ⟨g, hg⟩ : ∃ g, g = w.heap.size := ⟨_, rfl⟩
  rw [← hg] at hB
  obtain ⟨cap, rfl, hcap⟩ := hB.val
  rw [HL.out] at hB hcap ⊢
  have HG : Hid (w.heap.size ≤ g) := by rw [hg]; exact Nat.le_refl _
  have HB := Flow.hide hB
  have B2 := Flow.hide hb2
  clear hB hb2 hg
  go_wp2_with fail
  go_loopw [8] (fun i wr => ∃ (n : Nat) (l : List Nat), n ≤ 8 * s.size ∧ i = .int .i64 n ∧ Flow.Bytes wr 5 (.slice (some ⟨g, 0, none⟩) s.size cap) g l ∧ Turned (mskN s.size at_ b n) (bs s) l ∧ Below w.heap.size w wr) (fun i _ => 8 * s.size - (intOf i).toNat)
  case atStart => exact ⟨0, bs s, by omega, rfl, HB.out, (Turned.refl (bs_lt s)).congr (fun i => (mskN0 _ _ _ i).symm), B2.out⟩
  case round =>
    obtain ⟨n, l, hn, rfl, hB, hT, hb0⟩ := hrel
    have HB := Flow.hide hB
    have HT := Flow.hide hT
    have B0 := Flow.hide hb0
    have hll : l.length = s.size := by rw [hT.len, HL.out]
    have HLL := Flow.hide hll
    clear hB hT hb0 B2 hll
    by_cases hlt : n < 8 * s.size
    · by_cases hin : (n : Int) < at_ ∨ at_ < (n : Int) - 31
      · have T1 : Hid (Turned (mskN s.size at_ b (n + 1)) (bs s) l) := HT.out.congr (fun i => (mskN_same _ _ _ _ (msk_off _ _ _ _ hin) i).symm)
        clear HT
        rcases hin with h1 | h1
        · go_wp2_with fail
          go_roundw
          case rel => exact ⟨n + 1, l, by omega, by go_num, HB.out, T1.out, B0.out⟩
          case measure => simp [intOf]; omega
        · have h0 : ¬ (n : Int) < at_ := by omega
          go_wp2_with fail
          go_roundw
          case rel => exact ⟨n + 1, l, by omega, by go_num, HB.out, T1.out, B0.out⟩
          case measure => simp [intOf]; omega
      · have i1 : at_ ≤ (n : Int) := by omega
        have i2 : (n : Int) - 31 ≤ at_ := by omega
        clear hin
        obtain ⟨d, hd⟩ := Int.eq_ofNat_of_zero_le (show 0 ≤ (n : Int) - at_ by omega)
        have hd31 : d ≤ 31 := by omega
        have hm := msk_on s.size at_ b n d hlt hd hd31
        have HM := Flow.hide hm
        have HD := Flow.hide hd
        have hd1 : (n : Int) - at_ ≤ (d : Int) := by omega
        have hd2 : (d : Int) ≤ (n : Int) - at_ := by omega
        clear hm hd
        go_wp2_with fail
        go_loop [9, 10] (fun v i => ∃ k : Nat, k ≤ d ∧ i = .int .i64 k ∧ v = .int .u32 ((b / 2 ^ k : Nat) : Int)) (fun _ i => d - (intOf i).toNat)
        case atStart => exact ⟨0, by omega, rfl, by simp⟩
        case round =>
          obtain ⟨k, hk, rfl, rfl⟩ := hrel
          have h1 : b / 2 ^ k ≤ b := Nat.div_le_self _ _
          have h2 : b / 2 ^ (k + 1) = b / 2 ^ k / 2 := by rw [Nat.pow_succ, Nat.div_div_eq_div_mul]
          obtain ⟨c, hc⟩ : ∃ c, c = b / 2 ^ k := ⟨_, rfl⟩
          rw [← hc] at h1 h2 ⊢
          have HC := Flow.hide hc
          have H2 := Flow.hide h2
          clear hc h2
          by_cases hkd : k < d
          · have hkd' : (k : Int) < (n : Int) - at_ := by omega
            go_wp2_with fail
            go_round
            case rel => exact ⟨k + 1, by omega, by go_num, by rw [H2.out]; go_num⟩
            case measure => simp [intOf]; omega
          · obtain rfl : k = d := by omega
            have hkd' : ¬ (k : Int) < (n : Int) - at_ := by omega
            have htb := Nat.testBit_eq_decide_div_mod_eq (x := b) (i := k)
            rw [← HC.out] at htb
            by_cases hodd : c % 2 = 1
            · have hon : msk s.size at_ b n = true := by rw [HM.out, htb]; exact decide_eq_true hodd
              have hcc : ((c : Int) % 2 == 0) = false := by simp; omega
              obtain ⟨p, hp⟩ : ∃ p, p = n / 8 := ⟨_, rfl⟩
              obtain ⟨q, hq⟩ : ∃ q, q = n % 8 := ⟨_, rfl⟩
              have hps : p < s.size := by omega
              have hps' : (p : Int) < (s.size : Int) := by omega
              have hq8 : q < 8 := by omega
              have hdv : (n : Int) / 8 = (p : Int) := by omega
              have hr : (n : Int) % 8 = (q : Int) := by omega
              obtain ⟨z, hz⟩ : ∃ z, l[p]? = some z := ⟨_, List.getElem?_eq_getElem (by rw [HLL.out]; omega)⟩
              have hz256 : z < 256 := HT.out.lt z (List.mem_of_getElem? hz)
              have T1 : Hid (Turned (mskN s.size at_ b (n + 1)) (bs s) (l.set (n / 8) (l.getD (n / 8) 0 ^^^ 2 ^ (n % 8)))) := (HT.out.set (j := n / 8) (q := n % 8) (by rw [HLL.out]; omega) (by omega)).congr (fun i => (mskN_next _ _ _ _ hon i).symm)
              rw [← hp, ← hq, show l.getD p 0 = z by rw [List.getD_eq_getElem?_getD, hz]; rfl] at T1
              have hcell := HB.out.cell hz
              have hfro := HB.out.frozen (j := p) (by rw [HLL.out]; omega)
              have hcl := HB.out.lt
              clear hz htb hon hp hq hodd HT
              go_wp2_with fail
              go_loop [11, 12] (fun v i => ∃ j : Nat, j ≤ q ∧ i = .int .i64 j ∧ v = .int .u8 ((2 ^ j : Nat) : Int)) (fun _ i => q - (intOf i).toNat)
              case atStart => exact ⟨0, by omega, rfl, by simp⟩
              case round =>
                obtain ⟨j, hj, rfl, rfl⟩ := hrel
                have hpj : 2 ^ j ≤ 2 ^ q := Nat.pow_le_pow_right (by omega) hj
                have hpq : 2 ^ q ≤ 2 ^ 7 := Nat.pow_le_pow_right (by omega) (by omega)
                have hps1 : 2 ^ (j + 1) = 2 ^ j * 2 := Nat.pow_succ 2 j
                have hpl : j < q → 2 ^ j ≤ 64 := fun h => by
                  have : 2 ^ (j + 1) ≤ 2 ^ 7 := Nat.pow_le_pow_right (by omega) (by omega)
                  omega
                obtain ⟨e, he⟩ : ∃ e, e = 2 ^ j := ⟨_, rfl⟩
                rw [← he] at hpj hps1 hpl ⊢
                have HE := Flow.hide he
                have HP := Flow.hide hps1
                by_cases hjq : j < q
                · have he64 := hpl hjq
                  clear hpl hpj hpq he hps1
                  go_wp2_with fail
                  go_round
                  case rel => exact ⟨j + 1, by omega, by go_num, by rw [HP.out]; go_num⟩
                  case measure => simp [intOf]; omega
                · obtain rfl : j = q := by omega
                  have he256 : e < 256 := by omega
                  have hx2 : bits .xor .u8 (z : Int) (e : Int) = ((z ^^^ e : Nat) : Int) := u8_xor_nat z e hz256 he256
                  clear hpl hpj hpq he hps1
                  go_wp2_with fail
                  go_roundw
                  case rel => exact ⟨n + 1, l.set p (z ^^^ e), by omega, by go_num, HB.out.store p (z ^^^ e), by rw [HE.out]; exact T1.out, B0.out.setCell (p := ⟨g, p, none⟩) HG.out _⟩
                  case measure => simp [intOf]; omega
            · have hon : msk s.size at_ b n = false := by rw [HM.out, htb]; exact decide_eq_false hodd
              have hcc : ((c : Int) % 2 == 0) = true := by simp; omega
              have T1 : Hid (Turned (mskN s.size at_ b (n + 1)) (bs s) l) := HT.out.congr (fun i => (mskN_same _ _ _ _ hon i).symm)
              clear HT hodd htb hon
              go_wp2_with fail
              go_roundw
              case rel => exact ⟨n + 1, l, by omega, by go_num, HB.out, T1.out, B0.out⟩
              case measure => simp [intOf]; omega
    · obtain rfl : n = 8 * s.size := by omega
      have hback := HB.out.back (P := Try.prog) 34 9 Try.underlying34 Try.underlying5 Try.underlying9 HT.out.lt
      go_wp2_with fail
      go_ret
      exact ⟨⟨txt l, rfl, by rw [bs_txt HT.out.lt]; exact HT.out.congr (fun i => mskN_all _ _ _ i)⟩, B0.out⟩
end Go.Proofs.Ythkphapmnlndbaa
