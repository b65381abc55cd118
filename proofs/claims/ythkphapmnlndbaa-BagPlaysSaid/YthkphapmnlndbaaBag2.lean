/- The contracts of package bag: put, Put, Again, Take, First. -/
import Derived.Test.YthkphapmnlndbaaBag1
import Derived.Test.YthkphapmnlndbaaChain
namespace Go.Proofs.Ythkphapmnlndbaa
open Go.RowKit
set_option maxHeartbeats 800000
set_option linter.unusedSimpArgs false
attribute [local irreducible] Flow.wpSeg Flow.wpF Flow.wpG Flow.wpS Flow.wpT Flow.wpK
theorem tput_yes (g B : Nat) (room : Int) (l : List Th) (c : Th) (w : World) (hq : IsBag w B g room l) (hn : (l.length : Int) < room) (h9 : l.length ≤ 1000) (hB : B ≤ w.heap.size) :
    Calls Try.prog 58 #[.pointer (some ⟨g, 0, none⟩), .agg #[.int .u8 c.to, .string c.text, .bool c.sp]] w fun e w' => e = .returned (.bool true) ∧ IsBag w' B g room (l ++ [c]) ∧ Below B w w' ∧ Flow.Chg (BF w) w w' := by
  obtain ⟨w1, hw1⟩ : ∃ w1, w1 = w.alloc (.cells #[.int .u8 c.to, .string c.text, .bool c.sp] 100) := ⟨_, rfl⟩
  obtain ⟨tb, htb⟩ : ∃ tb, tb = w.heap.size := ⟨_, rfl⟩
  have K1 : Flow.Blk w1 tb 100 #[.int .u8 c.to, .string c.text, .bool c.sp] := by rw [hw1, htb]; exact Flow.Blk.new _ _ _
  have B1 : Below w.heap.size w w1 := by rw [hw1]; exact Flow.below_alloc _ _
  obtain ⟨v, h1, h2, h3⟩ := hq
  obtain ⟨A0, cap0, hv0, _⟩ := Flow.ownsRow_form h2
  have hft := Flow.hide (show ∀ w', Flow.Chg (fun j => j = g ∨ some j = v.ownBlock) w w' → Flow.Chg (BF w) w w' from fun w' hc => hc.mono (fun j _ e => e.elim (fun e => by rw [e]; exact ⟨_, _, h1, by decide⟩) (Ft.row h2 (by decide))))
  have hfb := Flow.hide (show ∀ j, j < w.heap.size → (j = g ∨ some j = v.ownBlock) → B ≤ j from fun j _ e => e.elim (fun e => by rw [e]; exact h3) (fun e => (h2.lt j e.symm).1))
  have N1 : Hid (∀ j, v.ownBlock = some j → j ≠ tb) := fun j hj e => by have := (h2.lt j hj).2; omega
  have N2 : Hid (∀ j, v.ownBlock = some j → j ≠ g) := Bag.row_ne h2 h1 (by decide)
  have G1 := h1.below B1
  have R1 := Flow.hide (Flow.ownsRow_chg h2 (Flow.Chg.of_below B1) (fun _ _ e => e))
  have HGB := Flow.hide h3
  have CC1 := Flow.hide ((Flow.Chg.of_below B1).mono (T := fun j => j = g ∨ some j = v.ownBlock) (fun _ _ e => e.elim))
  have q1 := G1.rg
  subst hv0
  clear h1 h2 h3
  go_enter Try.func58, Try.ntmps58
  go_upto_region 1 with fail
  rw [← hw1, ← htb]
  clear hw1 htb
  refine Flow.wp_region_all (by kernel_rfl) (by kernel_rfl) ?_
  repeat (first
    | (refine Flow.wpSeg_step (fun K' hK' => ?_)
       go_simp
       first
         | (refine hK' _ ?_; clear hK' K')
         | (apply Exists.intro
            refine ⟨fun p => ?_, hK' _ ?_⟩
            (first | fail)
            clear hK' K')))
  refine Flow.wpSeg_nil ?_
  intro w2 hb2
  have G2 := G1.below hb2
  have K2 := K1.below hb2
  have R2 := Flow.hide (Flow.ownsRow_chg R1.out (Flow.Chg.of_below hb2) (fun _ _ e => e))
  have CC2 := Flow.hide (CC1.out.trans (Flow.Chg.of_below hb2) (fun _ _ e => e.elim))
  clear hb2 G1 K1 R1 CC1 q1 B1
  go_upto_region 3 with fail
  obtain ⟨v, hv⟩ : ∃ v, v = Value.slice A0 l.length cap0 := ⟨_, rfl⟩
  rw [← hv] at G2
  have HVV := Flow.hide hv
  clear hv
  obtain ⟨CS, hCS⟩ : ∃ C : World → Prop, C = fun w' => Flow.Blk w' g 97 #[.int .i64 room, v] ∧ Flow.Blk w' tb 100 #[.int .u8 c.to, .string c.text, .bool c.sp] := ⟨_, rfl⟩
  obtain ⟨CW, hCW⟩ : ∃ C : World → Prop, C = fun _ => True := ⟨_, rfl⟩
  have kS : ∀ w', Flow.Blk w' g 97 #[.int .i64 room, v] → Flow.Blk w' tb 100 #[.int .u8 c.to, .string c.text, .bool c.sp] → CS w' := by rw [hCS]; exact fun _ a b => ⟨a, b⟩
  have r1 : ∀ (p : Flow.Wd CS) (i : Nat), p.w.cell? ⟨g, i, none⟩ = (#[.int .i64 room, v] : Array Value)[i]? := fun p => (Eq.mp (congrFun hCS p.w) p.ok).1.cell
  have r2 : ∀ (p : Flow.Wd CS) (i : Nat), p.w.cell? ⟨tb, i, none⟩ = (#[.int .u8 c.to, .string c.text, .bool c.sp] : Array Value)[i]? := fun p => (Eq.mp (congrFun hCS p.w) p.ok).2.cell
  have hS : ∀ w', Below w2.heap.size w2 w' → CS w' := fun w' h => kS w' (G2.below h) (K2.below h)
  have hSW : ∀ w', CS w' → CW w' := by rw [hCW]; exact fun _ _ => True.intro
  have hcS : ∀ w1 w2, CS w1 → Below w1.heap.size w1 w2 → CS w2 := by rw [hCS]; exact fun _ _ h k => ⟨h.1.below k, h.2.below k⟩
  have hW : ∀ w1 w2, CW w1 → Below w1.heap.size w1 w2 → CW w2 := by rw [hCW]; exact fun _ _ _ _ => True.intro
  have uW : ∀ w', CW w' := by rw [hCW]; exact fun _ => True.intro
  have ne1 : Nonempty (Flow.Wd CS) := ⟨⟨_, hS _ (Below.refl _ _)⟩⟩
  have ne2 : Nonempty (Flow.Wd CW) := ⟨⟨w2, uW _⟩⟩
  clear hCS hCW
  refine Flow.wp_region_switch 10 CS CW [0, 1, 2, 3, 4, 5] [6, 7, 8, 9, 10] (by kernel_rfl) (by kernel_rfl) hS hSW hcS hW ?_
  dsimp only [Flow.pickIdx, List.getElem?_cons_zero, List.getElem?_cons_succ]
  iterate 6 (
      (refine Flow.wpS_strong (by kernel_rfl) (fun K' hK' => ?_)
       go_simp
       first
         | (refine hK' _ ?_; clear hK' K')
         | (apply Exists.intro
            refine ⟨fun p => ?_, hK' _ ?_⟩
            (first | fail)
            clear hK' K')))
  refine Flow.wpS_nil ?_
  clear r1 r2
  intro w3 hb3
  have G3 := G2.below hb3
  have K3 := K2.below hb3
  have R3 := Flow.hide (Flow.ownsRow_chg R2.out (Flow.Chg.of_below hb3) (fun _ _ e => e))
  have CC3 := Flow.hide (CC2.out.trans (Flow.Chg.of_below hb3) (fun _ _ e => e.elim))
  clear hb3 G2 K2 R2 CC2 hS
  refine Flow.wpK_pre rfl rfl ?_
  go_simp
  refine ⟨kS _ (G3.alloc _) (K3.alloc _), fun w4 hb4 => ?_⟩
  obtain ⟨KL, q4, z4⟩ := Flow.laid1 (by simpa using hb4)
  have G4 := G3.below q4
  have K4 := K3.below q4
  have R4 := Flow.hide (Flow.ownsRow_chg R3.out (Flow.Chg.of_below q4) (fun _ _ e => e))
  have CC4 := Flow.hide (CC3.out.trans (Flow.Chg.of_below q4) (fun _ _ e => e.elim))
  have hB4 : B ≤ w4.heap.size := Nat.le_trans hB CC4.out.size
  clear hb4 q4 z4 G3 K3 R3 CC3
  obtain ⟨v5, w5, hr5, ho5, hb5, hc5, hw5⟩ := Flow.append_row R4.out 95 Try.underlying95 info100 rfl (by decide) c.cells rfl ⟨w3.heap.size, 0, none⟩ 1 KL.news (fun u hu => xsT_one [c] u (by simpa [xsT] using hu)) (by omega) (by omega) hB4
  rw [← xsT_snoc] at ho5
  obtain ⟨A5, cap5, e5, _⟩ := Flow.ownsRow_form ho5
  subst e5
  have CC5 := Flow.hide (CC4.out.trans hc5 (fun j _ e => .inr e))
  have G5 := G4.chg hc5 (fun e => N2.out _ e.symm rfl)
  have K5 := K4.chg hc5 (fun e => N1.out _ e.symm rfl)
  rw [HVV.out]
  have hkS : CS w5 := kS _ G5 K5
  refine Flow.wpK_pre rfl rfl (Flow.nUpon_append _ _ 95 rfl rfl rfl hr5 ⟨hkS, fun w6 hb6 => ?_⟩)
  simp only [Act.put, List.setIfInBounds_toArray, List.set_cons_succ, List.set_cons_zero]
  have G6 := G5.below hb6
  have K6 := K5.below hb6
  have R6 := Flow.hide (Flow.ownsRow_chg ho5 (Flow.Chg.of_below hb6) (fun _ _ e => e))
  have CC6 := Flow.hide (CC5.out.trans (Flow.Chg.of_below hb6) (fun _ _ e => e.elim))
  clear CC4 CC5 hr5 ho5 hb5 hc5 hw5 hb6 KL G4 K4 R4 hB4 G5 K5 hkS w4 w5
  refine Flow.wpK_pre rfl rfl ?_
  go_simp
  refine ⟨kS _ G6 K6, fun w7 hb7 => ?_⟩
  refine Flow.wpK_pre rfl rfl ?_
  go_simp
  refine ⟨kS _ (G6.below hb7) (K6.below hb7), fun w8 hb8 => ?_⟩
  have b68 := hb7.trans (hb8.mono hb7.size)
  have G8 := G6.below b68
  have R8 := Flow.ownsRow_chg R6.out (Flow.Chg.of_below b68) (fun _ _ e => e)
  have CC8 := Flow.hide (CC6.out.trans (Flow.Chg.of_below b68) (fun _ _ e => e.elim))
  have q8 := G8.cell
  have f8 := G8.frozen
  refine Flow.wpK_at rfl rfl ?_
  go_simp
  refine ⟨uW _, fun w9 hb9 => Flow.wpK_nil ?_⟩
  have c8 : Flow.Chg (· = g) w8 (w8.setCell ⟨g, 1, none⟩ (.slice A5 (l.length + 1) cap5)) := Flow.Chg.setAt _ _ _ _
  have K9 := Flow.Blk.set_is G8 1 (.slice A5 (l.length + 1) cap5) (cs' := #[.int .i64 room, .slice A5 (l.length + 1) cap5]) rfl
  have z9 : (w8.setCell ⟨g, 1, none⟩ (.slice A5 (l.length + 1) cap5)).heap.size = w8.heap.size := by simp
  have hb9' : Below (w8.setCell ⟨g, 1, none⟩ (.slice A5 (l.length + 1) cap5)).heap.size (w8.setCell ⟨g, 1, none⟩ (.slice A5 (l.length + 1) cap5)) w9 := by rw [z9]; exact hb9
  have C9 : Flow.Chg (· = g) w8 w9 := c8.trans (Flow.Chg.of_below hb9') (fun _ _ e => e.elim)
  have CC9 := CC8.out.trans C9 (fun _ _ e => .inl e)
  have N8 := Bag.row_ne R8 G8 (by decide)
  have HQ9 := Flow.hide (show IsBag w9 B g room (l ++ [c]) from ⟨.slice A5 (l.length + 1) cap5, K9.below hb9', by rw [List.length_append]; exact Flow.ownsRow_chg R8 C9 (fun j hj e => N8 j hj e), HGB.out⟩)
  have BB9 := Flow.hide (CC9.below hfb.out hB)
  have CC9' := Flow.hide (hft.out _ CC9)
  clear CC6 CC8 hb7 hb8 b68 G6 K6 R6 G8 R8 q8 f8 c8 K9 z9 hb9 hb9' C9 CC9 N8 hft hfb N1 N2 kS hSW hcS hW uW ne1 ne2 CS CW w6 w7 w8
  go_wp2_with fail
  go_ret
  exact ⟨rfl, HQ9.out, BB9.out, CC9'.out⟩
theorem tput_no (g B : Nat) (room : Int) (l : List Th) (c : Th) (w : World) (hq : IsBag w B g room l) (hn : ¬ (l.length : Int) < room) :
    Calls Try.prog 58 #[.pointer (some ⟨g, 0, none⟩), .agg #[.int .u8 c.to, .string c.text, .bool c.sp]] w fun e w' => e = .returned (.bool false) ∧ Below w.heap.size w w' := by
  obtain ⟨w1, hw1⟩ : ∃ w1, w1 = w.alloc (.cells #[.int .u8 c.to, .string c.text, .bool c.sp] 100) := ⟨_, rfl⟩
  have B1 : Below w.heap.size w w1 := by rw [hw1]; exact Flow.below_alloc _ _
  obtain ⟨v, h1, h2, h3⟩ := hq
  obtain ⟨A0, cap0, rfl, _⟩ := Flow.ownsRow_form h2
  have q1 := (h1.below B1).rg
  have BB1 := Flow.hide B1
  clear h1 h2 h3 B1
  have hn' : room ≤ (l.length : Int) := by omega
  clear hn
  go_enter Try.func58, Try.ntmps58
  go_upto_region 1 with fail
  rw [← hw1]
  clear hw1
  refine Flow.wp_region_all (by kernel_rfl) (by kernel_rfl) ?_
  repeat (first
    | (refine Flow.wpSeg_step (fun K' hK' => ?_)
       go_simp
       first
         | (refine hK' _ ?_; clear hK' K')
         | (apply Exists.intro
            refine ⟨fun p => ?_, hK' _ ?_⟩
            (first | fail)
            clear hK' K')))
  refine Flow.wpSeg_nil ?_
  intro w2 hb2
  have B2 := Flow.hide (BB1.out.trans (hb2.mono BB1.out.size))
  clear hb2 q1
  go_wp2_with fail
  go_ret
  exact ⟨rfl, B2.out⟩
theorem tput_nil (c : Th) (w : World) : Calls Try.prog 58 #[.pointer none, .agg #[.int .u8 c.to, .string c.text, .bool c.sp]] w fun e w' => e = .returned (.bool false) ∧ Below w.heap.size w w' := by
  go_enter Try.func58, Try.ntmps58
  go_upto_region 1 with fail
  refine Flow.wp_region_all (by kernel_rfl) (by kernel_rfl) ?_
  repeat (first
    | (refine Flow.wpSeg_step (fun K' hK' => ?_)
       go_simp
       first
         | (refine hK' _ ?_; clear hK' K')
         | (apply Exists.intro
            refine ⟨fun p => ?_, hK' _ ?_⟩
            (first | fail)
            clear hK' K')))
  refine Flow.wpSeg_nil ?_
  intro w2 hb2
  have B2 := Flow.hide ((Flow.below_alloc w (.cells #[.int .u8 c.to, .string c.text, .bool c.sp] 100)).trans (hb2.mono (by simp)))
  clear hb2
  go_wp2_with fail
  go_ret
  exact ⟨rfl, B2.out⟩
theorem bput_yes (g B : Nat) (room : Int) (l : List Th) (to : Int) (s : ByteArray) (w : World) (hq : IsBag w B g room l) (hn : (l.length : Int) < room) (h9 : l.length ≤ 1000) (hB : B ≤ w.heap.size) :
    Calls Try.prog 32 #[.pointer (some ⟨g, 0, none⟩), .int .u8 to, .string s] w fun e w' => e = .returned (.bool true) ∧ IsBag w' B g room (l ++ [⟨to, s, false⟩]) ∧ Below B w w' ∧ Flow.Chg (BF w) w w' := by
  have H := Flow.hide hq
  have HN := Flow.hide hn
  clear hq hn
  go_enter Try.func32, Try.ntmps32
  go_wp2_with fail
  (with_reducible refine (tput_yes g B room l ⟨to, s, false⟩ _ H.out HN.out h9 hB).mono ?_)
  rintro e w1 ⟨rfl, h1, h2, h3⟩
  have H1 := Flow.hide h1
  have H2 := Flow.hide h2
  have H3 := Flow.hide h3
  clear h1 h2 h3
  go_wp2_with fail
  go_ret
  exact ⟨rfl, H1.out, H2.out, H3.out⟩
theorem bput_no (g B : Nat) (room : Int) (l : List Th) (to : Int) (s : ByteArray) (w : World) (hq : IsBag w B g room l) (hn : ¬ (l.length : Int) < room) :
    Calls Try.prog 32 #[.pointer (some ⟨g, 0, none⟩), .int .u8 to, .string s] w fun e w' => e = .returned (.bool false) ∧ Below w.heap.size w w' := by
  have H := Flow.hide hq
  have HN := Flow.hide hn
  clear hq hn
  go_enter Try.func32, Try.ntmps32
  go_wp2_with fail
  (with_reducible refine (tput_no g B room l ⟨to, s, false⟩ _ H.out (by have := HN.out; omega)).mono ?_)
  rintro e w1 ⟨rfl, h1⟩
  have H1 := Flow.hide h1
  clear h1
  go_wp2_with fail
  go_ret
  exact ⟨rfl, H1.out⟩
theorem bput_nil (to : Int) (s : ByteArray) (w : World) : Calls Try.prog 32 #[.pointer none, .int .u8 to, .string s] w fun e w' => e = .returned (.bool false) ∧ Below w.heap.size w w' := by
  go_enter Try.func32, Try.ntmps32
  go_wp2_with fail
  (with_reducible refine (tput_nil ⟨to, s, false⟩ _).mono ?_)
  rintro e w1 ⟨rfl, h1⟩
  have H1 := Flow.hide h1
  clear h1
  go_wp2_with fail
  go_ret
  exact ⟨rfl, H1.out⟩
theorem bagain_yes (g B : Nat) (room : Int) (l : List Th) (i : Nat) (c : Th) (w : World) (hq : IsBag w B g room l) (hc : l[i]? = some c) (hn : (l.length : Int) < room) (h9 : l.length ≤ 1000) (hB : B ≤ w.heap.size) :
    Calls Try.prog 27 #[.pointer (some ⟨g, 0, none⟩), .int .i64 (i : Int)] w fun e w' => e = .returned (.bool true) ∧ IsBag w' B g room (l ++ [c]) ∧ Below B w w' ∧ Flow.Chg (BF w) w w' := by
  have H := Flow.hide hq
  have HN := Flow.hide hn
  have hi : i < l.length := (List.getElem?_eq_some_iff.1 hc).1
  have hiI : (i : Int) < (l.length : Int) := by omega
  obtain ⟨v, h1, h2, h3⟩ := hq
  obtain ⟨gr, cap, rfl, _, hgr, _, y0, y1, y2⟩ := RowT.at_ h2 rfl hc
  have c1 := h1.cell
  clear h1 h2 h3 hn hc
  go_enter Try.func27, Try.ntmps27
  go_wp2_with fail
  (with_reducible refine (has_yes g B room l i _ H.out hi).mono ?_)
  rintro e w1 ⟨rfl, rfl⟩
  go_wp2_with fail
  (with_reducible refine (tput_yes g B room l c _ H.out HN.out h9 hB).mono ?_)
  rintro e w1 ⟨rfl, h1, h2, h3⟩
  have H1 := Flow.hide h1
  have H2 := Flow.hide h2
  have H3 := Flow.hide h3
  clear h1 h2 h3 c1 y0 y1 y2
  go_wp2_with fail
  go_ret
  exact ⟨rfl, H1.out, H2.out, H3.out⟩
theorem bagain_full (g B : Nat) (room : Int) (l : List Th) (i : Nat) (c : Th) (w : World) (hq : IsBag w B g room l) (hc : l[i]? = some c) (hn : ¬ (l.length : Int) < room) :
    Calls Try.prog 27 #[.pointer (some ⟨g, 0, none⟩), .int .i64 (i : Int)] w fun e w' => e = .returned (.bool false) ∧ Below w.heap.size w w' := by
  have H := Flow.hide hq
  have HN := Flow.hide hn
  have hi : i < l.length := (List.getElem?_eq_some_iff.1 hc).1
  have hiI : (i : Int) < (l.length : Int) := by omega
  obtain ⟨v, h1, h2, h3⟩ := hq
  obtain ⟨gr, cap, rfl, _, hgr, _, y0, y1, y2⟩ := RowT.at_ h2 rfl hc
  have c1 := h1.cell
  clear h1 h2 h3 hn hc
  go_enter Try.func27, Try.ntmps27
  go_wp2_with fail
  (with_reducible refine (has_yes g B room l i _ H.out hi).mono ?_)
  rintro e w1 ⟨rfl, rfl⟩
  go_wp2_with fail
  (with_reducible refine (tput_no g B room l c _ H.out (by have := HN.out; omega)).mono ?_)
  rintro e w1 ⟨rfl, h1⟩
  have H1 := Flow.hide h1
  clear h1 c1 y0 y1 y2
  go_wp2_with fail
  go_ret
  exact ⟨rfl, H1.out⟩
theorem bagain_no (g B : Nat) (room : Int) (l : List Th) (i : Int) (w : World) (hq : IsBag w B g room l) (hi : ¬ (0 ≤ i ∧ i < l.length)) :
    Calls Try.prog 27 #[.pointer (some ⟨g, 0, none⟩), .int .i64 i] w fun e w' => e = .returned (.bool false) ∧ w = w' := by
  have H := Flow.hide hq
  have HI := Flow.hide hi
  clear hq hi
  go_enter Try.func27, Try.ntmps27
  go_wp2_with fail
  (with_reducible refine (has_no g B room l i _ H.out HI.out).mono ?_)
  rintro e w1 ⟨rfl, rfl⟩
  go_wp2_with fail
  go_ret
  exact ⟨rfl, rfl⟩
theorem bagain_nil (w : World) : Calls Try.prog 27 #[.pointer none, .int .i64 0] w fun e w' => e = .returned (.bool false) ∧ w = w' := by
  go_enter Try.func27, Try.ntmps27
  go_wp2_with fail
  (with_reducible refine (has_nil _).mono ?_)
  rintro e w1 ⟨rfl, rfl⟩
  go_wp2_with fail
  go_ret
  exact ⟨rfl, rfl⟩
theorem btake_yes (g B : Nat) (room : Int) (l : List Th) (i : Nat) (c : Th) (w : World) (hq : IsBag w B g room l) (hc : l[i]? = some c) (h9 : l.length ≤ 1000) (hB : B ≤ w.heap.size) :
    Calls Try.prog 25 #[.pointer (some ⟨g, 0, none⟩), .int .i64 (i : Int)] w fun e w' => e = .returned (.tuple #[.int .u8 c.to, .string c.text, .bool true]) ∧ IsBag w' B g room (l.eraseIdx i) ∧ Below B w w' ∧ Flow.Chg (BF w) w w' := by
  have H := Flow.hide hq
  have HC := Flow.hide hc
  have hi : i < l.length := (List.getElem?_eq_some_iff.1 hc).1
  have hiI : (i : Int) < (l.length : Int) := by omega
  have hi5 : (i : Int) ≤ 1000 := by omega
  clear hc
  go_enter Try.func25, Try.ntmps25
  go_wp2_with fail
  (with_reducible refine (bat_yes g B room l i c _ H.out HC.out).mono ?_)
  rintro e w1 ⟨rfl, hb1⟩
  obtain ⟨v, h1, h2, h3⟩ := H.out.below hb1
  have hft := Flow.hide (show ∀ w', Flow.Chg (fun j => j = g ∨ some j = v.ownBlock) w1 w' → Flow.Chg (BF w1) w1 w' from fun w' hc => hc.mono (fun j _ e => e.elim (fun e => by rw [e]; exact ⟨_, _, h1, by decide⟩) (Ft.row h2 (by decide))))
  have hfb := Flow.hide (show ∀ j, j < w1.heap.size → (j = g ∨ some j = v.ownBlock) → B ≤ j from fun j _ e => e.elim (fun e => by rw [e]; exact h3) (fun e => (h2.lt j e.symm).1))
  have HB1 := Flow.hide hb1
  have c1 := h1.cell
  have K1 := Flow.hide h1
  have R1 := Flow.hide h2
  have HG := Flow.hide h3
  clear h1 h2 h3 hb1
  go_wp2_with fail
  (with_reducible refine (tdelete_any v l B l.length i _ R1.out rfl h9 hi).mono ?_)
  rintro e w2 ⟨⟨v', rfl, hr2, ho2⟩, hc2⟩
  obtain ⟨A', cap', hv', _⟩ := Flow.ownsRow_form hr2
  subst hv'
  have N1 := Bag.row_ne R1.out K1.out (by decide)
  have K2 := Flow.hide (K1.out.chg hc2 (fun e => N1 _ e.symm rfl))
  have c2 := K2.out.cell
  have f2 := K2.out.frozen
  have l2 := K2.out.lt
  have CC2 := Flow.hide (hc2.mono (T := fun j => j = g ∨ some j = v.ownBlock) (fun _ _ e => .inr e))
  have R2 := Flow.hide hr2
  have HLE := Flow.hide (show (l.eraseIdx i).length = l.length - 1 from List.length_eraseIdx_of_lt hi)
  clear hr2 hc2 N1 c1 R1 K1
  go_wp2_with fail
  have C3 := Flow.Chg.setAt w2 g 1 (.slice A' (l.length - 1) cap')
  have K3 := Flow.Blk.set_is K2.out 1 (.slice A' (l.length - 1) cap') (cs' := #[.int .i64 room, .slice A' (l.length - 1) cap']) rfl
  have N2 := Bag.row_ne R2.out K2.out (by decide)
  have CC3 := CC2.out.trans C3 (fun _ _ e => .inl e)
  go_ret3
  refine ⟨rfl, ⟨_, K3, ?_, HG.out⟩, (HB1.out.mono hB).trans (CC3.below hfb.out (Nat.le_trans hB HB1.out.size)), Flow.Chg.trans ((Flow.Chg.of_below HB1.out).mono (fun _ _ e => e.elim)) (hft.out _ CC3) (fun j hj e => Ft.back ((Flow.Chg.of_below HB1.out).mono (fun _ _ e => e.elim)) hj e)⟩
  rw [HLE.out]
  exact Flow.ownsRow_chg R2.out C3 (fun j hj e => N2 j hj e)
theorem btake_no (g B : Nat) (room : Int) (l : List Th) (i : Int) (w : World) (hq : IsBag w B g room l) (hi : ¬ (0 ≤ i ∧ i < l.length)) :
    Calls Try.prog 25 #[.pointer (some ⟨g, 0, none⟩), .int .i64 i] w fun e w' => e = .returned (.tuple #[.int .u8 0, .string ⟨#[]⟩, .bool false]) ∧ w = w' := by
  have H := Flow.hide hq
  have HI := Flow.hide hi
  clear hq hi
  go_enter Try.func25, Try.ntmps25
  go_wp2_with fail
  (with_reducible refine (bat_no g B room l i _ H.out HI.out).mono ?_)
  rintro e w1 ⟨rfl, rfl⟩
  go_wp2_with fail
  go_ret3
  exact ⟨rfl, rfl⟩
theorem btake_nil (w : World) : Calls Try.prog 25 #[.pointer none, .int .i64 0] w fun e w' => e = .returned (.tuple #[.int .u8 0, .string ⟨#[]⟩, .bool false]) ∧ w = w' := by
  go_enter Try.func25, Try.ntmps25
  go_wp2_with fail
  (with_reducible refine (bat_nil _).mono ?_)
  rintro e w1 ⟨rfl, rfl⟩
  go_wp2_with fail
  go_ret3
  exact ⟨rfl, rfl⟩
theorem bfirst_any (g B : Nat) (room : Int) (l : List Th) (to r : Int) (w : World) (hq : IsBag w B g room l) (h9 : l.length ≤ 1000) (hr : firstT l to r) :
    Calls Try.prog 30 #[.pointer (some ⟨g, 0, none⟩), .int .u8 to] w fun e w' => e = .returned (.int .i64 r) ∧ Below w.heap.size w w' := by
  obtain ⟨v, h1, h2, h3⟩ := hq
  have c1 := (h1.alloc (.cells #[.int .u8 to] 5)).cell
  have hgl : g < w.heap.size + 1 := by have := h1.lt; omega
  have H2 := Flow.hide h2
  have HR := Flow.hide hr
  clear h1 h2 hr
  go_enter Try.func30, Try.ntmps30
  go_wp2_with fail
  refine (tindex_any v l.length l B w.heap.size to r _ (H2.out.alloc _) rfl h9 (by simp) (by simp) HR.out).mono ?_
  rintro e w1 ⟨rfl, hb⟩
  have HB : Hid (Below w.heap.size w w1) := (Flow.below_alloc _ _).trans (hb.mono (by simp))
  clear hb c1
  go_wp2_with fail
  go_ret
  exact ⟨rfl, HB.out⟩
theorem bfirst_nil (to : Int) (w : World) : Calls Try.prog 30 #[.pointer none, .int .u8 to] w fun e w' => e = .returned (.int .i64 (-1)) ∧ Below w.heap.size w w' := by
  go_enter Try.func30, Try.ntmps30
  go_wp2_with fail
  go_ret
  exact ⟨rfl, Flow.below_alloc _ _⟩
end Go.Proofs.Ythkphapmnlndbaa
