/- TransferEnds: for every pair of numbers the law returns true and leaves its arguments as they were. No condition. -/
import Derived.Test.YthkphapmnlndbabRows
import Derived.Test.YthkphapmnlndbabTSpeaks
import Derived.Test.YthkphapmnlndbabOpen
namespace Go.Proofs.Ythkphapmnlndbab.TEnds
open Go.ChangeShapes Go.WideShapes Go.ChangeAt Go.RowKit
set_option maxHeartbeats 4000000
attribute [local irreducible] Flow.wpSeg Flow.wpF

/-! ### The plain law -/
/-- Which keys are there ahead of a turn. -/
def H (n a : Nat) : Nat → Nat → Bool
  | 0, _ => false
  | c + 1, k => H n a c k || decide ((c + k) % n = a)
theorem H_mono (n a : Nat) (k : Nat) : ∀ c d, H n a c k = true → H n a (c + d) k = true
  | c, 0, h => h
  | c, d + 1, h => by
    show (H n a (c + d) k || _) = true
    rw [H_mono n a k c d h, Bool.true_or]
theorem H_hit (n a k c : Nat) (h : (c + k) % n = a) : H n a (c + 1) k = true := by
  show (H n a c k || _) = true
  rw [decide_eq_true h, Bool.or_true]
theorem H_end (n a : Nat) (ha : a < n) (k : Nat) (hk : k < 6) : H n a (2 * n) k = true := by
  obtain ⟨c, hc, hm⟩ : ∃ c, c < n ∧ (c + k) % n = a := by
    refine ⟨(a + 6 * n - k) % n, Nat.mod_lt _ (by omega), ?_⟩
    rw [Nat.mod_add_mod, show a + 6 * n - k + k = a + n * 6 by omega, Nat.add_mul_mod_self_left, Nat.mod_eq_of_lt ha]
  have := H_mono n a k (c + 1) (2 * n - (c + 1)) (H_hit n a k c hm)
  rwa [show c + 1 + (2 * n - (c + 1)) = 2 * n by omega] at this
theorem allOf_all (h : Nat → Bool) : ∀ n, (∀ k, k < n → h k = true) → allOf h n = true
  | 0, _ => rfl
  | n + 1, hh => by unfold allOf; rw [allOf_all h n (fun k hk => hh k (by omega)), hh n (by omega)]; rfl
/-- .. in the midst of a turn: behind the first i of the keys that are asked for. -/
def Hm (n a c i : Nat) (k : Nat) : Bool := H n a c k || (decide ((c + k) % n = a) && decide (k ∈ (keys (H n a c) 6).take i))
theorem mem_keys (h : Nat → Bool) : ∀ n k, k ∈ keys h n ↔ k < n ∧ h k = false
  | 0, k => by simp [keys]
  | n + 1, k => by
    unfold keys
    split
    · rename_i hn
      rw [mem_keys h n k]
      constructor
      · rintro ⟨h1, h2⟩; exact ⟨by omega, h2⟩
      · rintro ⟨h1, h2⟩
        refine ⟨?_, h2⟩
        rcases Nat.lt_or_ge k n with h3 | h3
        · exact h3
        · obtain rfl : k = n := by omega
          rw [hn] at h2; cases h2
    · rename_i hn
      simp only [List.mem_append, mem_keys h n k, List.mem_singleton]
      constructor
      · rintro (⟨h1, h2⟩ | rfl)
        · exact ⟨by omega, h2⟩
        · exact ⟨by omega, by simpa using hn⟩
      · rintro ⟨h1, h2⟩
        by_cases h3 : k = n
        · exact .inr h3
        · exact .inl ⟨by omega, h2⟩
theorem keys_lt (h : Nat → Bool) (n : Nat) : (keys h n).Pairwise (· < ·) := by
  induction n with
  | zero => exact List.Pairwise.nil
  | succ n ih =>
    unfold keys
    split
    · exact ih
    · rw [List.pairwise_append]
      exact ⟨ih, List.pairwise_singleton _ _, fun a ha b hb => by simp at hb; rw [hb]; exact ((mem_keys h n a).1 ha).1⟩
theorem Hm_zero (n a c : Nat) (k : Nat) : Hm n a c 0 k = H n a c k := by simp [Hm]
theorem Hm_end (n a c : Nat) (k : Nat) (hk : k < 6) : Hm n a c (keys (H n a c) 6).length k = H n a (c + 1) k := by
  show Hm n a c (keys (H n a c) 6).length k = (H n a c k || decide ((c + k) % n = a))
  unfold Hm
  rw [List.take_length]
  cases h : H n a c k
  · rw [decide_eq_true ((mem_keys _ _ _).2 ⟨hk, h⟩), Bool.and_true]
  · rfl
/-- The key that is asked for next is not there yet. -/
theorem Hm_next (n a c i x : Nat) (hx : (keys (H n a c) 6)[i]? = some x) : Hm n a c i x = false := by
  have hm := (mem_keys _ _ _).1 (List.mem_of_getElem? hx)
  unfold Hm
  rw [hm.2, Bool.false_or]
  have hnot : x ∉ (keys (H n a c) 6).take i := by
    intro hin
    obtain ⟨j, hj, hjx⟩ := List.mem_take_iff_getElem.1 hin
    have hp := List.pairwise_iff_getElem.1 (keys_lt (H n a c) 6) j i (by omega) (List.getElem?_eq_some_iff.1 hx).1 (by omega)
    rw [hjx] at hp
    rw [(List.getElem?_eq_some_iff.1 hx).2] at hp
    omega
  rw [decide_eq_false hnot, Bool.and_false]
theorem keys_up (h : Nat → Bool) (i x y : Nat) (hx : (keys h 6)[i + 1]? = some x) (hy : (keys h 6)[i]? = some y) : y < x := by
  have hp := List.pairwise_iff_getElem.1 (keys_lt h 6) i (i + 1) (List.getElem?_eq_some_iff.1 hy).1 (List.getElem?_eq_some_iff.1 hx).1 (by omega)
  rwa [(List.getElem?_eq_some_iff.1 hx).2, (List.getElem?_eq_some_iff.1 hy).2] at hp
theorem Hm_got (n a c i x : Nat) (hx : (keys (H n a c) 6)[i]? = some x) (hm : (c + x) % n = a) : ∀ k, got (Hm n a c i) x k = Hm n a c (i + 1) k := by
  intro k
  unfold got Hm
  rw [List.take_add_one, hx]
  by_cases hk : k = x
  · subst hk; simp [hm]
  · simp [hk]
theorem Hm_kept (n a c i x : Nat) (hx : (keys (H n a c) 6)[i]? = some x) (hm : (c + x) % n ≠ a) : ∀ k, Hm n a c (i + 1) k = Hm n a c i k := by
  intro k
  unfold Hm
  rw [List.take_add_one, hx]
  by_cases hk : k = x
  · subst hk; simp [hm]
  · simp [hk]

/-! ### The walk -/
theorem has_q {h : Nat → Bool} {c : Int} {g : Nat} {w : World} (hB : Flow.Blk w g 144 (tc h c)) (k : Nat) (p : Flow.Rg) :
    Calls Try.prog 29 #[tp g, .int .u8 k] (Flow.rg w p) fun e w' => e = .returned (.bool (hasOf h k)) ∧ Below (Flow.rg w p).heap.size (Flow.rg w p) w' :=
  (has_any h c g k _ (hB.below (Flow.rg_below w p))).mono fun _ _ ⟨h1, h2⟩ => ⟨h1, h2 ▸ Below.refl _ _⟩
theorem needC_get (nd : Nat → Int) (c n : Nat) (l : List Nat) (i x : Nat) (hx : l[i]? = some x) :
    (needC nd c n l)[i * 2]? = some (.int .u8 (x : Int)) ∧ (needC nd c n l)[i * 2 + 1]? = some (.int .u8 (nd ((c + x) % n))) := by
  induction l generalizing i with
  | nil => simp at hx
  | cons y l ih =>
    match i, hx with
    | 0, hx => simp at hx; subst hx; simp [needC]
    | i + 1, hx =>
      have := ih i (by simpa using hx)
      rw [show (i + 1) * 2 = i * 2 + 1 + 1 by omega]
      simpa [needC] using this

theorem info5 : (Try.prog.info? 5).map (fun i => (i.zero, i.size, i.bytes)) = some (some (.int .u8 0), 1, 1) := by kernel_rfl
set_option maxRecDepth 100000 in
theorem walk (nodes deaf : Int) (w : World) (h1 : 0 ≤ nodes ∧ nodes ≤ 255) (h2 : 0 ≤ deaf ∧ deaf ≤ 65535) :
    Calls Try.prog 7 #[.int .u8 nodes, .int .u16 deaf] w fun e w' => e = .returned (.bool true) ∧ Below w.heap.size w w' := by
  obtain ⟨n, hn⟩ : ∃ n : Nat, (n : Int) = 1 + nodes % 6 := ⟨(1 + nodes % 6).toNat, by omega⟩
  have hd := Int.emod_nonneg deaf (show (n : Int) ≠ 0 by omega)
  obtain ⟨a, ha⟩ : ∃ a : Nat, (a : Int) = deaf % n := ⟨(deaf % n).toNat, by omega⟩
  clear hd
  have hn1 : 0 < n := by omega
  have hn6 : n ≤ 6 := by omega
  have han : a < n := by
    have := Int.emod_lt_of_pos deaf (show (0 : Int) < n by omega)
    omega
  have HN := Flow.hide hn
  have HA := Flow.hide ha
  clear hn ha
  go_enter Try.func7, Try.ntmps7
  go_wp2_with fail
  refine (speaks19 _).mono ?_
  rintro e w1 ⟨rfl, b1⟩
  go_wp2_with fail
  rw [← HN.out]
  -- the nodes' names
  obtain ⟨i0, hi, hz0, hz1, hz2⟩ := info_parts info5
  go_loopw [6, 7] (fun v i wr => ∃ k : Nat, k ≤ n ∧ i = .int .i64 k ∧ wr.ownsRow w.heap.size 5 1 v k ((List.range k).map fun (j : Nat) => Value.int .u8 ((j : Int) + 1)) ∧ Below w.heap.size w wr) (fun _ i _ => n - (intOf i).toNat)
  case atStart => exact ⟨0, by omega, rfl, World.ownsRow_nil _ _ _ _, b1⟩
  case round =>
    obtain ⟨k, hk, rfl, hown, hb⟩ := hrel
    have HO := Flow.hide hown
    have HB := Flow.hide hb
    clear hown hb b1
    by_cases hlt : k < n
    · go_wp2_with (at_builtin; refine wpList_append_own _ rfl _ _ 58 rfl w.heap.size 5 i0 _ 1 1 Try.underlying58 hi hz0 hz1 hz2 rfl (by decide) _ _ _ rfl (HO.out.alloc _) ⟨wr.heap.size, 0, none⟩ 1 1 [.int .u8 ((k : Int) + 1)] rfl rfl (cell_one_new _ _ _) (fun u hu => by simp at hu; subst hu; rfl) (by unfold maxLen; omega) (by omega) (by have := HB.out.size; simp; omega) ?_)
      intro v' w2 hown' hgrow _
      have hne : ∀ j, u6.ownBlock = some j → w.heap.size ≤ j := fun j hj => (HO.out.lt j hj).1
      have hB2 : Below w.heap.size w w2 := (HB.out.alloc HB.out.size _).grown hgrow (by have := HB.out.size; simp; omega) hne
      have hO2 : w2.ownsRow w.heap.size 5 1 v' (k + 1) ((List.range (k + 1)).map fun (j : Nat) => Value.int .u8 ((j : Int) + 1)) := by
        rw [List.range_succ, List.map_append]; exact hown'
      have HO2 := Flow.hide hO2
      have HB2 := Flow.hide hB2
      clear hown' hgrow hO2 hB2 hne
      go_wp2_with fail
      go_roundw
      case rel => exact ⟨k + 1, by omega, by go_num, HO2.out, HB2.out⟩
      case measure => simp [intOf]; omega
    · obtain rfl : k = n := by omega
      clear hi hz0 hz1 hz2 i0
      obtain ⟨lb, lcap, rfl, lb1, lb2, lb3, lcell, _⟩ := Flow.ownsRow_at HO.out hn1
      have hnodes : ∀ (i : Nat), i < k → wr.cell? ⟨lb, 0 + i, none⟩ = some (.int .u8 ((fun (i : Nat) => (i : Int) + 1) i)) := by
        intro i hi
        rw [Nat.zero_add, lcell i (by omega)]
        simp [hi]
      have HNo := Flow.hide hnodes
      have HLb := Flow.hide lb2
      clear lb1 lb2 lb3 lcell hnodes
      go_wp2_with fail
      refine (new_any false _).mono ?_
      rintro e w2 ⟨rfl, hB, hb⟩
      obtain ⟨g, hg⟩ : ∃ g, g = wr.heap.size := ⟨_, rfl⟩
      rw [← hg] at hB hb ⊢
      have hlg : lb < g := by rw [hg]; exact HLb.out
      have hwg : w.heap.size ≤ g := by rw [hg]; exact HB.out.size
      have HB0 := Flow.hide hB
      have Hb2 : Hid (Below w.heap.size w w2) := HB.out.trans (hb.mono hwg)
      have HNo2 : Hid (∀ (i : Nat), i < k → w2.cell? ⟨lb, 0 + i, none⟩ = some (.int .u8 ((fun (i : Nat) => (i : Int) + 1) i))) := fun i hi => by
        rw [hb.cell (p := ⟨lb, _, none⟩) hlg]; exact HNo.out i hi
      have Hlg2 := Flow.hide hb.size
      clear hB hb hg
      clear HO HB HNo HLb
      have hm0 := Int.emod_nonneg deaf (show (k : Int) ≠ 0 by omega)
      have hm1 := Int.emod_lt_of_pos deaf (show (0 : Int) < k by omega)
      go_wp2_with fail
      rw [← HA.out]
      clear hm0 hm1
      go_loopw [10] (fun i wr => ∃ c : Nat, c ≤ 2 * k ∧ i = .int .i64 c ∧ Flow.Blk wr g 144 (tc (H k a c) c) ∧ Below g w2 wr) (fun i _ => 2 * k - (intOf i).toNat)
      case atStart => exact ⟨0, by omega, rfl, HB0.out, Below.refl _ _⟩
      case round =>
        obtain ⟨c, hc, rfl, hB, hb⟩ := hrel
        have HB := Flow.hide hB
        have Hb := Flow.hide hb
        clear hB hb
        by_cases hlt : c < 2 * k
        · go_wp2_with fail
          refine (needs_any _ c g _ k lcap (fun (i : Nat) => (i : Int) + 1) _ HB.out (.inr ⟨lb, 0, rfl, by omega, by have := HB.out.lt; omega, fun i hi => ?_⟩) (by omega) (by omega)).mono ?_
          · rw [Hb.out.cell (p := ⟨lb, _, none⟩) hlg]; exact HNo2.out i hi
          rintro e w3 ⟨v, rfl, hown, hB3, hg3⟩
          rw [if_neg (by omega)] at hown
          obtain ⟨A, cap, rfl, hcap, _⟩ := Flow.ownsRow_form hown
          have hb3 : Below g w2 w3 := Hb.out.grown hg3 (by have := HB.out.lt; omega) (fun j hj => by cases hj; exact Nat.le_refl _)
          have HO3 := Flow.hide hown
          have HB3 := Flow.hide hB3
          have Hb3 := Flow.hide hb3
          have hgw : g < wr.heap.size := HB.out.lt
          have hll := keys_length (H k a c) 6
          clear hown hB3 hb3 hg3 hcap
          obtain ⟨L, hL⟩ : ∃ L, L = keys (H k a c) 6 := ⟨_, rfl⟩
          rw [← hL] at HO3 hll ⊢
          have HL := Flow.hide hL
          clear hL
          go_wp2_with fail
          go_loopw [12] (fun i wr => ∃ j : Nat, j ≤ L.length ∧ i = .int .i64 j ∧ Flow.Blk wr g 144 (tc (Hm k a c j) (c + 1)) ∧ w3.grownBy wr (some g)) (fun i _ => L.length - (intOf i).toNat)
          case atStart => exact ⟨0, by omega, rfl, by rw [tc_congr _ (fun j _ => Hm_zero k a c j)]; exact HB3.out, World.grownBy.refl _ _⟩
          case round =>
            obtain ⟨j, hj, rfl, hB, hg⟩ := hrel
            have HB := Flow.hide hB
            have Hg := Flow.hide hg
            clear hB hg
            by_cases hlt2 : j < L.length
            · obtain ⟨x, hx⟩ : ∃ x, L[j]? = some x := ⟨L[j], List.getElem?_eq_getElem hlt2⟩
              have hx6 : x < 6 := ((mem_keys (H k a c) 6 x).1 (HL.out ▸ List.mem_of_getElem? hx)).1
              obtain ⟨nb, ncap, hA, nb1, nb2, nb3, ncell, _⟩ := Flow.ownsRow_at HO3.out (by omega)
              cases hA
              have n0 := ncell (j * 2) (by omega)
              have n1 := ncell (j * 2 + 1) (by omega)
              rw [(needC_get _ _ _ _ _ _ hx).1] at n0
              rw [(needC_get _ _ _ _ _ _ hx).2] at n1
              have hng : nb ≠ g := by omega
              have m0 : ∀ p, (Flow.rg wr p).cell? ⟨nb, j * 2, none⟩ = some (.int .u8 (x : Int)) := fun p => (Flow.bcell (Flow.rg_below wr p) nb _ (by have := Hg.out.size; omega)).trans (Hg.out.cell n0 (by simpa using hng))
              have hasno : hasOf (Hm k a c j) x = false := by unfold hasOf; rw [Hm_next k a c j x (HL.out ▸ hx), Bool.and_false]
              by_cases hj0 : j = 0
              · subst hj0
                clear ncell nb3
                go_wp2_with fail
                refine Flow.wp_region_all (by kernel_rfl) (by kernel_rfl) ?_
                repeat (first
                  | (refine Flow.wpSeg_step (fun K' hK' => ?_)
                     go_simp
                     first
                       | (refine hK' _ ?_; clear hK' K')
                       | (apply Exists.intro
                          refine ⟨fun p => ?_, hK' _ ?_⟩
                          (first | with_reducible exact (has_q HB.out x p))
                          clear hK' K')))
                refine Flow.wpSeg_nil ?_
                intro w4 hb4
                have HB4 := Flow.hide (HB.out.below hb4)
                have Hg4 : Hid (w3.grownBy w4 (some g)) := Hg.out.more ((Flow.Chg.of_below hb4).grown0 none) (fun j hj => by cases hj)
                have z0 := Hg4.out.cell n0 (by simpa using hng)
                have z1 := Hg4.out.cell n1 (by simpa using hng)
                obtain ⟨r, hr⟩ : ∃ r, r = (c + x) % k := ⟨_, rfl⟩
                have hrl : r < k := by rw [hr]; exact Nat.mod_lt _ hn1
                rw [← hr] at z1
                have HR := Flow.hide hr
                clear hb4 m0 n0 n1 HB Hg hasno hr 
                by_cases hm : r = a
                · have Hm' := Flow.hide (HR.out.symm.trans hm)
                  have hmb : ((r : Int) + 1 == 1 + (a : Int)) = true := by rw [beq_iff_eq]; omega
                  clear hm
                  go_wp2_with fail
                  refine (got_any _ _ g x _ HB4.out).mono ?_
                  rintro e w5 ⟨rfl, HB5, hg5⟩
                  have Hg5 : Hid (w3.grownBy w5 (some g)) := Hg4.out.more hg5 (fun j hj => by cases hj; exact .inl rfl)
                  have HB5 := Flow.hide HB5
                  clear hg5 HB4 Hg4 z0 z1
                  have Hx := Flow.hide hx
                  clear hx
                  go_wp2_with fail
                  go_roundw
                  case rel => exact ⟨0 + 1, by omega, by go_num, by rw [tc_congr _ (fun q _ => (Hm_got k a c 0 x (HL.out ▸ Hx.out) Hm'.out q).symm)]; exact HB5.out, Hg5.out⟩
                  case measure => simp [intOf]; omega
                · have Hm' : Hid ((c + x) % k ≠ a) := by rw [← HR.out]; exact hm
                  have hmb : ((r : Int) + 1 == 1 + (a : Int)) = false := by rw [beq_eq_false_iff_ne]; omega
                  clear hm
                  have Hx := Flow.hide hx
                  clear hx
                  go_wp2_with fail
                  go_roundw
                  case rel => exact ⟨0 + 1, by omega, by go_num, by rw [tc_congr _ (fun q _ => Hm_kept k a c 0 x (HL.out ▸ Hx.out) Hm'.out q)]; exact HB4.out, Hg4.out⟩
                  case measure => simp [intOf]; omega
              · obtain ⟨y, hy⟩ : ∃ y, L[j - 1]? = some y := ⟨L[j - 1], List.getElem?_eq_getElem (by omega)⟩
                have hyx : y < x := keys_up (H k a c) (j - 1) x y (by rw [← HL.out, show j - 1 + 1 = j by omega]; exact hx) (by rw [← HL.out]; exact hy)
                have o0 := ncell ((j - 1) * 2) (by omega)
                rw [(needC_get _ _ _ _ _ _ hy).1] at o0
                have p0 : ∀ p, (Flow.rg wr p).cell? ⟨nb, (j - 1) * 2, none⟩ = some (.int .u8 (y : Int)) := fun p => (Flow.bcell (Flow.rg_below wr p) nb _ (by have := Hg.out.size; omega)).trans (Hg.out.cell o0 (by simpa using hng))
                have hj1 : 0 < j := by omega
                clear ncell nb3 o0 hy hj0
                go_wp2_with fail
                have s1 : IntKind.i64.wrap ((j : Int) - 1) = (j : Int) - 1 := IntWalk.i64_in _ (by omega)
                have s2 : 0 ≤ (j : Int) - 1 := by omega
                have s3 : ((j : Int) - 1).toNat = j - 1 := by omega
                have s5 : 1 ≤ (j : Int) := by omega
                have s4 : ((j : Int) - 1 < (L.length : Int)) := by omega
                refine Flow.wp_region_all (by kernel_rfl) (by kernel_rfl) ?_
                repeat (first
                  | (refine Flow.wpSeg_step (fun K' hK' => ?_)
                     go_simp
                     first
                       | (refine hK' _ ?_; clear hK' K')
                       | (apply Exists.intro
                          refine ⟨fun p => ?_, hK' _ ?_⟩
                          (first | with_reducible exact (has_q HB.out x p))
                          clear hK' K')))
                refine Flow.wpSeg_nil ?_
                intro w4 hb4
                have HB4 := Flow.hide (HB.out.below hb4)
                have Hg4 : Hid (w3.grownBy w4 (some g)) := Hg.out.more ((Flow.Chg.of_below hb4).grown0 none) (fun j hj => by cases hj)
                have z0 := Hg4.out.cell n0 (by simpa using hng)
                have z1 := Hg4.out.cell n1 (by simpa using hng)
                obtain ⟨r, hr⟩ : ∃ r, r = (c + x) % k := ⟨_, rfl⟩
                have hrl : r < k := by rw [hr]; exact Nat.mod_lt _ hn1
                rw [← hr] at z1
                have HR := Flow.hide hr
                clear hb4 m0 n0 n1 HB Hg hasno hr p0 s1 s2 s3 s4 s5
                by_cases hm : r = a
                · have Hm' := Flow.hide (HR.out.symm.trans hm)
                  have hmb : ((r : Int) + 1 == 1 + (a : Int)) = true := by rw [beq_iff_eq]; omega
                  clear hm
                  go_wp2_with fail
                  refine (got_any _ _ g x _ HB4.out).mono ?_
                  rintro e w5 ⟨rfl, HB5, hg5⟩
                  have Hg5 : Hid (w3.grownBy w5 (some g)) := Hg4.out.more hg5 (fun j hj => by cases hj; exact .inl rfl)
                  have HB5 := Flow.hide HB5
                  clear hg5 HB4 Hg4 z0 z1
                  have Hx := Flow.hide hx
                  clear hx
                  go_wp2_with fail
                  go_roundw
                  case rel => exact ⟨j + 1, by omega, by go_num, by rw [tc_congr _ (fun q _ => (Hm_got k a c j x (HL.out ▸ Hx.out) Hm'.out q).symm)]; exact HB5.out, Hg5.out⟩
                  case measure => simp [intOf]; omega
                · have Hm' : Hid ((c + x) % k ≠ a) := by rw [← HR.out]; exact hm
                  have hmb : ((r : Int) + 1 == 1 + (a : Int)) = false := by rw [beq_eq_false_iff_ne]; omega
                  clear hm
                  have Hx := Flow.hide hx
                  clear hx
                  go_wp2_with fail
                  go_roundw
                  case rel => exact ⟨j + 1, by omega, by go_num, by rw [tc_congr _ (fun q _ => Hm_kept k a c j x (HL.out ▸ Hx.out) Hm'.out q)]; exact HB4.out, Hg4.out⟩
                  case measure => simp [intOf]; omega
            · obtain rfl : j = L.length := by omega
              go_wp2_with fail
              go_roundw
              case rel => 
                refine ⟨c + 1, by omega, by go_num, ?_, Hb3.out.grown Hg.out (by have := HB3.out.lt; omega) (fun j hj => by cases hj; exact Nat.le_refl _)⟩
                have := HB.out
                rw [HL.out, tc_congr _ (fun j hj => Hm_end k a c j hj)] at this
                exact this
              case measure => simp [intOf]; omega
        · obtain rfl : c = 2 * k := by omega
          go_wp2_with fail
          refine (complete_any _ _ _ _ HB.out).mono ?_
          rintro e w4 ⟨rfl, rfl⟩
          go_wp2_with fail
          go_ret
          exact ⟨by rw [allOf_all _ _ (fun j hj => H_end k a han j hj)]; rfl, Hb2.out.trans (Hb.out.mono hwg)⟩

theorem own : ownKnob Try.prog.godebug = none := by kernel_rfl
theorem laidOut : laidOutB Try.prog = true := by kernel_rfl

set_option maxRecDepth 100000 in
theorem lifted (os : Os) (started : os.Started) (H : Type) (enc : TypeId × Value → H) :
    ReturnsInHanded {} Try.checked os 7 .any (Rows.transferEndsSpec.pre6 enc Try.prog Try.f7 Rows.transferEndsRow.domain false) (Rows.transferEndsSpec.post enc Try.prog Try.f7 false true false false) := by
  refine returnsInHanded_of_change (C := Try.checked) own started (by kernel_rfl) Try.func7
    (ChangeSpec.witness6 (enc := enc) (C := Try.checked) false ⟨#[], #[.int .u8 0, .int .u16 0], []⟩ 8 (by kernel_rfl) (by kernel_rfl) (by kernel_rfl) (by kernel_rfl)) ?_
  intro W base args ds gs before hval0 hW hcnd _
  have hval : ∀ (j : Nat) t v, Try.f7.params[j]? = some t → args[j]? = some v → Value.okWide Try.prog W .any base t v := hval0
  have hW' := hW
  obtain ⟨p, q, hA0, hV, rfl, hfz, hnd⟩ := hW
  have hA : DataW.TrodAll enc Try.prog W 0 (fun _ => true) true Try.f7.params.toList args.toList ds p := hA0
  rw [Try.params7] at hA hval
  obtain ⟨v0, v1, d0, d1, p0, p1, hargs, rfl, rfl, h0, h1⟩ := trodAll_two hA
  obtain ⟨rfl, rfl⟩ := trodVars_none hV
  subst hargs
  obtain ⟨x0, rfl, rfl, rfl, wx0⟩ := open_int Try.underlying5 (hval 0 5 v0 rfl rfl) h0
  obtain ⟨x1, rfl, rfl, rfl, wx1⟩ := open_int Try.underlying68 (hval 1 68 v1 rfl rfl) h1
  clear hA0 hval0
  refine (walk x0 x1 W (bounds_u8 wx0) (bounds_u16 wx1)).mono fun e W' ⟨he, hb⟩ => ?_
  subst he
  exact ⟨_, rfl, Open.law_post laidOut (by kernel_rfl) (by kernel_rfl) Try.underlying4 rfl rfl hW' hb⟩

theorem over : Rows.transferEndsRow.holds Try.pinned (OpenSpec.ofChange Rows.transferEndsSpec) :=
  OpenClaim.holds_of_wide 7 Try.f7 rfl rfl rfl rfl rfl rfl rfl ⟨rfl, rfl, rfl, rfl, rfl⟩ rfl rfl rfl rfl rfl (by kernel_rfl) Try.func7 (by kernel_rfl)
    (of_decide_eq_true (by kernel_rfl)) (by unfold Func.isWrapper; first | (rw [if_pos (by decide +kernel)]; kernel_rfl) | (rw [if_neg (by decide +kernel)]; exact ⟨rfl, rfl⟩))
    (fun os started H enc _ => lifted os started H enc)

theorem proved : Rows.TransferEndsSaid := over
#print axioms proved
end Go.Proofs.Ythkphapmnlndbab.TEnds
