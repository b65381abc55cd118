/- CrcSplits: for every text and all cuts the law returns true. No condition. -/
import Derived.Test.YthkphapmnlndbaaRows
import Derived.Test.YthkphapmnlndbaaCrcSpeaks
import Derived.Test.YthkphapmnlndbaaStrs
import Derived.Deep.DeepCutAuto
namespace Go.Proofs.Ythkphapmnlndbaa.CSplits
open Go.ChangeShapes Go.WideShapes Go.ChangeAt Go.RowKit Go.ChangeMaps CrcPlain
set_option maxHeartbeats 1000000
set_option linter.unusedSimpArgs false
attribute [local irreducible] Flow.wpSeg Flow.wpF Flow.wpG Flow.wpS Flow.wpT
theorem bs_from (s : ByteArray) (n : Nat) (_ : n ≤ s.size) : bs (s.extract n s.size) = (bs s).drop n := by
  unfold bs
  rw [← List.map_drop]
  congr 1
  rw [ByteArray.data_extract, Array.toList_extract]
  simp
  rw [List.take_of_length_le (by simp)]
set_option maxRecDepth 20000 in
theorem walk (s : ByteArray) (AT : Option Addr) (tl tc : Nat) (ts : Nat → Int) (w : World) (hs : s.size ≤ maxLen) (htl : tl ≤ maxLen) (hts : BytesIn w AT tl ts) :
    Calls Try.prog 6 #[.string s, .slice AT tl tc] w fun e w' => e = .returned (.bool true) ∧ Below w.heap.size w w' := by
  unfold maxLen at hs htl
  have HT := Flow.hide hts
  clear hts
  go_enter Try.func6, Try.ntmps6
  go_upto_region 3 with ((refine (speaks02 _).mono ?_; rintro e w1 ⟨rfl, b1⟩))
  have B1 := Flow.hide b1
  clear b1
  go_cut [0] (fun s0 wx => ∃ t : ByteArray, s0 = .string t ∧ t.size ≤ 100 ∧ Below w.heap.size w wx)
  case first =>
    by_cases h : 100 < s.size
    · go_wp2_with fail
      go_meet
      exact ⟨_, rfl, by rw [ByteArray.size_extract]; omega, B1.out⟩
    · go_wp2_with fail
      go_meet
      exact ⟨_, rfl, by omega, B1.out⟩
  case rest =>
    obtain ⟨t, rfl, ht, hb0⟩ := hcut
    have B0 := Flow.hide hb0
    clear hb0 B1 hs
    go_wp2_with fail
    go_loopw [5, 6, 7] (fun t5 t6 t7 wr => ∃ (k : Nat) (l : List ByteArray) (r : ByteArray), k ≤ tl ∧ k ≤ 12 ∧ t7 = .int .i64 k ∧ t6 = .string r ∧ bs t = cat l ++ bs r ∧ l.length = k ∧ (∀ s ∈ l, s.size ≤ 100) ∧ r.size ≤ 100 ∧ wr.ownsRow w.heap.size 9 1 t5 k (l.map Value.string) ∧ Below w.heap.size w wr) (fun _ _ t7 _ => tl - (intOf t7).toNat)
    case atStart => exact ⟨0, [], t, by omega, by omega, rfl, rfl, rfl, rfl, by simp, ht, World.ownsRow_nil _ _ _ _, B0.out⟩
    case round =>
      obtain ⟨k, l, r, hk, hk12, rfl, rfl, hall, hll, hl100, hr100, hown, hb⟩ := hrel
      have HALL := Flow.hide hall
      have HL := Flow.hide hll
      have H100 := Flow.hide hl100
      have HO := Flow.hide hown
      have HB := Flow.hide hb
      clear hall hll hl100 hown hb B0
      by_cases hgo : k < tl ∧ k < 12
      · obtain ⟨hkt, hk1⟩ := hgo
        obtain ⟨tb, tof, rfl, htb, htc⟩ := HT.out (by omega)
        obtain ⟨z0, z1, z2⟩ := htc k hkt
        obtain ⟨T, hT⟩ := Int.eq_ofNat_of_zero_le z1
        rw [hT] at z0 z2
        have z3 : wr.cell? ⟨tb, tof + k, none⟩ = some (.int .u8 (T : Int)) := (HB.out.cell (p := ⟨tb, tof + k, none⟩) htb).trans z0
        clear z0 z1 hT htc
        obtain ⟨R, hRR⟩ : ∃ R, R = T % (r.size + 1) := ⟨_, rfl⟩
        have hRl : R ≤ r.size := by rw [hRR]; have := Nat.mod_lt T (show 0 < r.size + 1 by omega); omega
        have hRl' : (R : Int) ≤ (r.size : Int) := by omega
        have hrem : (T : Int) % ((r.size : Int) + 1) = (R : Int) := by rw [hRR]; push_cast; rfl
        have hwb : w.heap.size ≤ wr.heap.size := HB.out.size
        clear hRR
        go_upto_region 10 with fail
        obtain ⟨a, ha⟩ : ∃ a, a = r.extract 0 R := ⟨_, rfl⟩
        obtain ⟨c, hc⟩ : ∃ c, c = r.extract R r.size := ⟨_, rfl⟩
        have hbr : bs r = bs a ++ bs c := by rw [ha, hc, bs_extract _ _ hRl, bs_from _ _ hRl, List.take_append_drop]
        have ha100 : a.size ≤ 100 := by rw [ha, ByteArray.size_extract]; omega
        have hc100 : c.size ≤ 100 := by rw [hc, ByteArray.size_extract]; omega
        have HBR := Flow.hide hbr
        have HA := Flow.hide ha
        have HC := Flow.hide hc
        clear hbr ha hc z3
        obtain ⟨CS, hCS⟩ : ∃ C : World → Prop, C = fun w' => Below (wr).heap.size (wr) w' := ⟨_, rfl⟩
        obtain ⟨CW, hCW⟩ : ∃ C : World → Prop, C = fun _ => True := ⟨_, rfl⟩
        have hS : ∀ w', Below (wr).heap.size (wr) w' → CS w' := by rw [hCS]; exact fun _ h => h
        have uS : ∀ w', CS w' → Below (wr).heap.size (wr) w' := by rw [hCS]; exact fun _ h => h
        have hSW : ∀ w', CS w' → CW w' := by rw [hCW]; exact fun _ _ => True.intro
        have hW : ∀ w1 w2, CW w1 → Below w1.heap.size w1 w2 → CW w2 := by rw [hCW]; exact fun _ _ _ _ => True.intro
        have uW : ∀ w', CW w' := by rw [hCW]; exact fun _ => True.intro
        have ne1 : Nonempty (Flow.Wd CS) := ⟨⟨_, hS _ (Below.refl _ _)⟩⟩
        have ne2 : Nonempty (Flow.Wd CW) := ⟨⟨wr, uW _⟩⟩
        clear hCS hCW
        refine Flow.wp_region_chain 1000 CW CW [0, 1, 2, 3, 6, 7, 8] [4, 5, 9, 10] (by kernel_rfl) (by kernel_rfl) (.inl rfl) (fun w' h => uW _) (fun _ h => h) hW ?_
        dsimp only [Flow.pickIdx, List.getElem?_cons_zero, List.getElem?_cons_succ]
        iterate 7 (
            (refine Flow.wpS_weak (by kernel_rfl) (fun K' hK' => ?_)
             go_simp
             first
               | (refine hK' _ ?_; clear hK' K')
               | (apply Exists.intro
                  refine ⟨fun p => ?_, hK' _ ?_⟩
                  fail
                  clear hK' K')))
        refine Flow.wpS_nil ?_
        dsimp only [Flow.pickOps, List.getElem?_cons_zero, List.getElem?_cons_succ]
        rw [← HA.out, ← HC.out]
        clear hrem
        intro w2 hb2
        refine Flow.wpT_on rfl ?_
        go_simp
        refine ⟨uW _, fun w3 hb3 => ?_⟩
        have hz3 : w3.cell? ⟨w2.heap.size, 0, none⟩ = some (.string a) := (hb3.cell (p := ⟨w2.heap.size, 0, none⟩) (Nat.lt_succ_self _)).trans (by simp)
        have c3 : Flow.Same wr w3 := ((Flow.Chg.of_below hb2).alloc _).trans (Flow.Chg.of_below (by simpa using hb3)) (fun _ _ e => e)
        have hown3 := Flow.ownsRow_chg HO.out c3 (fun _ _ e => e)
        have hb03 : Below w.heap.size w w3 := HB.out.trans (c3.same.mono hwb)
        have hbs2 : w.heap.size ≤ w3.heap.size := hb03.size
        obtain ⟨v4, w4, hr4, hown4, hb4, hc4⟩ := append_str hown3 ⟨w2.heap.size, 0, none⟩ 1 a hz3 (by omega) hbs2
        refine Flow.wpT_on rfl (Flow.nUpon_append _ _ 22 rfl rfl rfl hr4 ⟨uW _, fun w5 hb5 => ?_⟩)
        simp only [Act.put, List.setIfInBounds_toArray, List.set_cons_succ, List.set_cons_zero]
        have hb05 := hb03.trans (hb4.trans (hb5.mono (by have := hb4.size; omega)))
        have hown5 := Flow.ownsRow_chg hown4 (Flow.Chg.of_below hb5) (fun _ _ e => e)
        have H5 := Flow.hide hown5
        have B5 := Flow.hide hb05
        clear hz3 c3 hown3 hb03 hbs2 hr4 hown4 hb4 hc4 hb5 hb05 hown5 hb3 hb2 HO HB w3 w4
        refine Flow.wpT_on rfl ?_
        go_simp
        refine ⟨uW _, fun w6 hb6 => ?_⟩
        refine Flow.wpT_on rfl ?_
        go_simp
        refine ⟨uW _, fun w7 hb7 => Flow.wpT_nil ?_⟩
        have c7 := hb6.trans (hb7.mono hb6.size)
        have H7 := Flow.hide (Flow.ownsRow_chg H5.out (Flow.Chg.of_below c7) (fun _ _ e => e))
        have B7 := Flow.hide (B5.out.trans (c7.mono B5.out.size))
        clear c7 hb6 hb7 H5 B5 w5 w6 hS uS hSW hW uW ne1 ne2 CS CW
        go_wp2_with fail
        go_roundw
        case rel =>
          refine ⟨k + 1, l ++ [a], c, by omega, by omega, by go_num, rfl, ?_, by rw [List.length_append, HL.out]; rfl, ?_, hc100, H7.out, B7.out⟩
          · rw [HALL.out, cat_snoc, HBR.out, List.append_assoc]
          · intro q hq
            rcases List.mem_append.1 hq with hq | hq
            · exact H100.out q hq
            · simp at hq; subst hq; exact ha100
        case measure => simp [intOf]; omega
      · by_cases hkt : k < tl
        · have hk1 : ¬ k < 12 := fun h => hgo ⟨hkt, h⟩
          clear hgo
          go_upto_region 11 with fail
          have hwb : w.heap.size ≤ wr.heap.size := HB.out.size
          have hz : (wr.alloc (.cells #[.string r] 9)).cell? ⟨wr.heap.size, 0, none⟩ = some (.string r) := by simp
          obtain ⟨v2, w2, hr2, hown2, hb2, hc2⟩ := append_str (HO.out.alloc (.cells #[.string r] 9)) ⟨wr.heap.size, 0, none⟩ 1 r hz (by omega) (by simp; omega)
          obtain ⟨m, hm⟩ : ∃ m, m = l ++ [r] := ⟨_, rfl⟩
          rw [← hm] at hown2
          have hbt : cat m = bs t := by rw [hm, cat_snoc]; exact HALL.out.symm
          have hml : m.length = k + 1 := by rw [hm, List.length_append, HL.out]; rfl
          have hm100 : ∀ s ∈ m, s.size ≤ 100000 := by
            intro q hq
            rw [hm] at hq
            rcases List.mem_append.1 hq with hq | hq
            · have := H100.out q hq; omega
            · simp at hq; subst hq; omega
          have HR2 := Flow.hide hr2
          have B2 : Hid (Below w.heap.size w w2) := (HB.out.alloc hwb _).trans hb2
          obtain ⟨A, cp, hv2, hcp, hrd⟩ := rd_of_own hown2 hml
          subst hv2
          have HO2 := Flow.hide hown2
          have HRD := Flow.hide hrd
          have HBT := Flow.hide hbt
          have HML := Flow.hide hml
          have HM := Flow.hide hm100
          clear hr2 hown2 hb2 hc2 hm hbt hml hm100 hrd hz HO HB HALL HL H100
          go_wp2_with (at_builtin; refine Flow.wpList_append_run _ _ 22 rfl rfl rfl rfl HR2.out ?_)
          go_wp2_with fail
          refine (sum_any A (k + 1) cp m _ HRD.out (by omega) HM.out).mono ?_
          rintro e w3 ⟨rfl, rfl⟩
          rw [HBT.out]
          obtain ⟨N, hN⟩ : ∃ N, N = crc (bs t) := ⟨_, rfl⟩
          rw [← hN]
          have HN := Flow.hide hN
          have e1 : ((N : Int) == (N : Int)) = true := by simp
          clear hN HR2
          go_wp2_with fail
          refine (sum_one t _ N _ (by omega) (Flow.Blk.new _ _ _) HN.out).mono ?_
          rintro e w3 ⟨rfl, rfl⟩
          obtain ⟨w3, hw3⟩ : ∃ w3, w3 = w2.alloc (.cells #[.string t] 9) := ⟨_, rfl⟩
          rw [← hw3]
          have B3 : Hid (Below w.heap.size w w3) := by rw [hw3]; exact B2.out.alloc B2.out.size _
          have hown3 := HO2.out.alloc (.cells #[.string t] 9)
          rw [← hw3] at hown3
          obtain ⟨v5, w5, hr5, hown5, hb5⟩ := append_strs (own_lit w3 w.heap.size ⟨#[]⟩ B3.out.size) (hown3.alloc (.cells #[.string ⟨#[]⟩] 9)) (by omega) (by omega) (by have := B3.out.size; simp; omega)
          obtain ⟨A5, cp5, hv5, hcp5, hrd5⟩ := rd_of_own hown5 (by rw [List.length_append, HML.out]; rfl)
          subst hv5
          have B5 : Hid (Below w.heap.size w w5) := (B3.out.alloc B3.out.size _).trans hb5
          have HR5 := Flow.hide hr5
          have HRD5 := Flow.hide hrd5
          have hc5 : cat ([⟨#[]⟩] ++ m) = bs t := by rw [← HBT.out]; simp [cat, bs]
          have HC5 := Flow.hide hc5
          have hm5 : ∀ s ∈ ([⟨#[]⟩] ++ m), s.size ≤ 100000 := by
            intro q hq
            rcases List.mem_append.1 hq with hq | hq
            · simp at hq; subst hq; decide
            · exact HM.out q hq
          have HM5 := Flow.hide hm5
          clear hr5 hrd5 hown5 hb5 hw3 hown3 HO2 HRD B2 hc5 hm5
          go_wp2_with (at_builtin; refine Flow.wpList_append_run _ _ 22 rfl rfl rfl rfl HR5.out ?_)
          go_wp2_with fail
          refine (sum_any A5 (1 + (k + 1)) cp5 _ _ HRD5.out (by omega) HM5.out).mono ?_
          rintro e w6 ⟨rfl, rfl⟩
          rw [HC5.out, ← HN.out]
          clear HR5
          go_wp2_with fail
          refine (sum_one t _ N _ (by omega) (Flow.Blk.new _ _ _) HN.out).mono ?_
          rintro e w7 ⟨rfl, rfl⟩
          go_wp2_with fail
          go_ret
          exact ⟨rfl, B5.out.alloc B5.out.size _⟩
        · clear hgo
          go_upto_region 11 with fail
          have hwb : w.heap.size ≤ wr.heap.size := HB.out.size
          have hz : (wr.alloc (.cells #[.string r] 9)).cell? ⟨wr.heap.size, 0, none⟩ = some (.string r) := by simp
          obtain ⟨v2, w2, hr2, hown2, hb2, hc2⟩ := append_str (HO.out.alloc (.cells #[.string r] 9)) ⟨wr.heap.size, 0, none⟩ 1 r hz (by omega) (by simp; omega)
          obtain ⟨m, hm⟩ : ∃ m, m = l ++ [r] := ⟨_, rfl⟩
          rw [← hm] at hown2
          have hbt : cat m = bs t := by rw [hm, cat_snoc]; exact HALL.out.symm
          have hml : m.length = k + 1 := by rw [hm, List.length_append, HL.out]; rfl
          have hm100 : ∀ s ∈ m, s.size ≤ 100000 := by
            intro q hq
            rw [hm] at hq
            rcases List.mem_append.1 hq with hq | hq
            · have := H100.out q hq; omega
            · simp at hq; subst hq; omega
          have HR2 := Flow.hide hr2
          have B2 : Hid (Below w.heap.size w w2) := (HB.out.alloc hwb _).trans hb2
          obtain ⟨A, cp, hv2, hcp, hrd⟩ := rd_of_own hown2 hml
          subst hv2
          have HO2 := Flow.hide hown2
          have HRD := Flow.hide hrd
          have HBT := Flow.hide hbt
          have HML := Flow.hide hml
          have HM := Flow.hide hm100
          clear hr2 hown2 hb2 hc2 hm hbt hml hm100 hrd hz HO HB HALL HL H100
          go_wp2_with (at_builtin; refine Flow.wpList_append_run _ _ 22 rfl rfl rfl rfl HR2.out ?_)
          go_wp2_with fail
          refine (sum_any A (k + 1) cp m _ HRD.out (by omega) HM.out).mono ?_
          rintro e w3 ⟨rfl, rfl⟩
          rw [HBT.out]
          obtain ⟨N, hN⟩ : ∃ N, N = crc (bs t) := ⟨_, rfl⟩
          rw [← hN]
          have HN := Flow.hide hN
          have e1 : ((N : Int) == (N : Int)) = true := by simp
          clear hN HR2
          go_wp2_with fail
          refine (sum_one t _ N _ (by omega) (Flow.Blk.new _ _ _) HN.out).mono ?_
          rintro e w3 ⟨rfl, rfl⟩
          obtain ⟨w3, hw3⟩ : ∃ w3, w3 = w2.alloc (.cells #[.string t] 9) := ⟨_, rfl⟩
          rw [← hw3]
          have B3 : Hid (Below w.heap.size w w3) := by rw [hw3]; exact B2.out.alloc B2.out.size _
          have hown3 := HO2.out.alloc (.cells #[.string t] 9)
          rw [← hw3] at hown3
          obtain ⟨v5, w5, hr5, hown5, hb5⟩ := append_strs (own_lit w3 w.heap.size ⟨#[]⟩ B3.out.size) (hown3.alloc (.cells #[.string ⟨#[]⟩] 9)) (by omega) (by omega) (by have := B3.out.size; simp; omega)
          obtain ⟨A5, cp5, hv5, hcp5, hrd5⟩ := rd_of_own hown5 (by rw [List.length_append, HML.out]; rfl)
          subst hv5
          have B5 : Hid (Below w.heap.size w w5) := (B3.out.alloc B3.out.size _).trans hb5
          have HR5 := Flow.hide hr5
          have HRD5 := Flow.hide hrd5
          have hc5 : cat ([⟨#[]⟩] ++ m) = bs t := by rw [← HBT.out]; simp [cat, bs]
          have HC5 := Flow.hide hc5
          have hm5 : ∀ s ∈ ([⟨#[]⟩] ++ m), s.size ≤ 100000 := by
            intro q hq
            rcases List.mem_append.1 hq with hq | hq
            · simp at hq; subst hq; decide
            · exact HM.out q hq
          have HM5 := Flow.hide hm5
          clear hr5 hrd5 hown5 hb5 hw3 hown3 HO2 HRD B2 hc5 hm5
          go_wp2_with (at_builtin; refine Flow.wpList_append_run _ _ 22 rfl rfl rfl rfl HR5.out ?_)
          go_wp2_with fail
          refine (sum_any A5 (1 + (k + 1)) cp5 _ _ HRD5.out (by omega) HM5.out).mono ?_
          rintro e w6 ⟨rfl, rfl⟩
          rw [HC5.out, ← HN.out]
          clear HR5
          go_wp2_with fail
          refine (sum_one t _ N _ (by omega) (Flow.Blk.new _ _ _) HN.out).mono ?_
          rintro e w7 ⟨rfl, rfl⟩
          go_wp2_with fail
          go_ret
          exact ⟨rfl, B5.out.alloc B5.out.size _⟩
theorem own : ownKnob Try.prog.godebug = none := by kernel_rfl
theorem laidOut : laidOutB Try.prog = true := by kernel_rfl

set_option maxRecDepth 100000 in
theorem lifted (os : Os) (started : os.Started) (H : Type) (enc : TypeId × Value → H) :
    ReturnsInHanded {} Try.checked os 6 .any (Rows.crcSplitsSpec.pre6 enc Try.prog Try.f6 Rows.crcSplitsRow.domain false) (Rows.crcSplitsSpec.post enc Try.prog Try.f6 false true false false) := by
  refine returnsInHanded_of_change (C := Try.checked) own started (by kernel_rfl) Try.func6
    (ChangeSpec.witness6 (enc := enc) (C := Try.checked) false ⟨#[], #[.string ⟨#[]⟩, .slice none 0 0], []⟩ 8 (by kernel_rfl) (by kernel_rfl) (by kernel_rfl) (by kernel_rfl)) ?_
  intro W base args ds gs before hval0 hW hcnd _
  have hval : ∀ (j : Nat) t v, Try.f6.params[j]? = some t → args[j]? = some v → Value.okWide Try.prog W .any base t v := hval0
  have hW' := hW
  obtain ⟨p, q, hA0, hV, rfl, hfz, hnd⟩ := hW
  have hA : DataW.TrodAll enc Try.prog W 0 (fun _ => true) true Try.f6.params.toList args.toList ds p := hA0
  rw [Try.params6] at hA hval
  obtain ⟨v0, v1, d0, d1, p0, p1, hargs, rfl, rfl, h0, h1⟩ := trodAll_two hA
  obtain ⟨rfl, rfl⟩ := trodVars_none hV
  subst hargs
  obtain ⟨s0, rfl, rfl, rfl, hls0⟩ := open_string Try.underlying9 (hval 0 9 v0 rfl rfl) h0
  obtain ⟨A1, n1, cp1, rfl, hl1, _, hr1⟩ := Open.open_rows_arg 30 (ss := [.int .u8]) Try.underlying34 (by kernel_rfl) (by decide) (by kernel_rfl) (hval 1 34 v1 rfl rfl) h1
  obtain ⟨ts1, ht1⟩ := bytes_of hr1
  clear hA0 hval0
  refine (walk s0 A1 n1 cp1 ts1 W hls0 hl1 ht1).mono fun e W' ⟨he, hb⟩ => ?_
  subst he
  exact ⟨_, rfl, Open.law_post laidOut (by kernel_rfl) (by kernel_rfl) Try.underlying4 rfl rfl hW' hb⟩

theorem over : Rows.crcSplitsRow.holds Try.pinned (OpenSpec.ofChange Rows.crcSplitsSpec) :=
  OpenClaim.holds_of_wide 6 Try.f6 rfl rfl rfl rfl rfl rfl rfl ⟨rfl, rfl, rfl, rfl, rfl⟩ rfl rfl rfl rfl rfl (by kernel_rfl) Try.func6 (by kernel_rfl)
    (of_decide_eq_true (by kernel_rfl)) (by unfold Func.isWrapper; first | (rw [if_pos (by decide +kernel)]; kernel_rfl) | (rw [if_neg (by decide +kernel)]; exact ⟨rfl, rfl⟩))
    (fun os started H enc _ => lifted os started H enc)

theorem proved : Rows.CrcSplitsSaid := over
#print axioms proved
end Go.Proofs.Ythkphapmnlndbaa.CSplits
