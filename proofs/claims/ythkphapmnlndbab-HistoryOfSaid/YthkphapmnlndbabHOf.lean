/- history.Of: for any records and any key it gives the operations that refOf tells (its contract, f44). -/
import Derived.Test.YthkphapmnlndbabHMem
import Derived.Test.YthkphapmnlndbabOwn3
namespace Go.Proofs.Ythkphapmnlndbab
open Go.RowKit
set_option maxHeartbeats 40000000
set_option linter.unusedSimpArgs false
attribute [local irreducible] Flow.wpSeg Flow.wpF Flow.wpG Flow.wpS Flow.wpT Flow.wpK
set_option maxRecDepth 20000 in
theorem of44 (v : Value) (n B : Nat) (l : List Rc) (key : Int) (w : World) (hrow : w.ownsRow B 111 18 v n (rowsOf Rc.wcells l)) (hl : l.length = n) (hn : n ≤ 30) (hwf : ∀ r ∈ l, r.wf) :
    Calls Try.prog 44 #[v, .int .i64 key] w fun e w' => (∃ v', e = .returned v' ∧ w'.ownsRow w.heap.size 118 15 v' (refOf l key).length (rowsOf Rc.ecells (refOf l key))) ∧ Below w.heap.size w w' := by
  obtain ⟨A, cap, hv, _⟩ := Flow.ownsRow_form hrow
  subst hv
  have HR := Flow.hide hrow
  have HL := Flow.hide hl
  have HN := Flow.hide hn
  have HW := Flow.hide hwf
  have hn30 : (n : Int) ≤ 30 := by omega
  clear hrow hl hn hwf
  have hmm := @run_makeMap Try.prog
  go_enter Try.func44, Try.ntmps44
  go_wp2_with fail
  clear hmm
  go_loopw [5, 18] (fun t5 t18 wr => ∃ (k : Nat) (ads : List Nat), k ≤ n ∧ t18 = .int .i64 k ∧ wr.ownsRow w.heap.size 151 1 t5 (refFrom [] (l.take k)).length (ptrs ads) ∧ PM wr w.heap.size (refFrom [] (l.take k)) ads ∧ Ents wr w.heap.size (refFrom [] (l.take k)) ads ∧ Below w.heap.size w wr) (fun _ t18 _ => 30 - (intOf t18).toNat)
  case atStart => exact ⟨0, [], by omega, rfl, World.ownsRow_nil _ _ _ _, PM.made w, Ents.nil _ _, Flow.below_alloc _ _⟩
  case round =>
    obtain ⟨k, ads, hkn, rfl, hrow5, hpm, hents, hb⟩ := hrel
    have hap := refFrom_apart l k
    generalize hall : refFrom [] (l.take k) = all at hrow5 hpm hents hap
    obtain ⟨A5, cap5, hv5, _⟩ := Flow.ownsRow_form hrow5
    subst hv5
    have HO := Flow.hide hrow5
    have HP := Flow.hide hpm
    have HE := Flow.hide hents
    have HB := Flow.hide hb
    have HALL := Flow.hide hall
    have HAP := Flow.hide hap
    clear hrow5 hpm hents hb hall hap
    by_cases hlt : k < n
    · have hltI : (k : Int) < (n : Int) := by omega
      obtain ⟨r, hr⟩ : ∃ r, l[k]? = some r := ⟨_, List.getElem?_eq_getElem (by have := HL.out; omega)⟩
      have HX := Flow.hide hr
      have R1 := Flow.hide (Flow.ownsRow_chg HR.out (Flow.Chg.of_below HB.out) (fun _ _ e => e))
      obtain ⟨g, cap', e1, _, hg, _, zz⟩ := at111f R1.out HL.out hr
      simp only [Value.slice.injEq] at e1
      obtain ⟨rfl, _, rfl⟩ := e1
      clear hr
      go_upto_region 5 with fail
      have e1 : (#[.int .u8 r.nd, .int .u32 r.ss, .int .u32 r.sq, .int .i64 5, .int .i64 r.ky, .string ⟨#[]⟩, .bool false, .string ⟨#[]⟩, .int .i64 r.op, .int .i64 r.st, .int .i64 r.en, .int .i64 r.er, .bool false, .string ⟨#[]⟩, .int .u32 r.an, .int .u8 0, .int .u8 0, .bool r.wr] : Array Value).all (·.oneCell') = true := by first | kernel_rfl | simp [Value.oneCell']
      have e2 : (Try.prog.info? 111).map (·.size) = some (#[.int .u8 r.nd, .int .u32 r.ss, .int .u32 r.sq, .int .i64 5, .int .i64 r.ky, .string ⟨#[]⟩, .bool false, .string ⟨#[]⟩, .int .i64 r.op, .int .i64 r.st, .int .i64 r.en, .int .i64 r.er, .bool false, .string ⟨#[]⟩, .int .u32 r.an, .int .u8 0, .int .u8 0, .bool r.wr] : Array Value).size := by kernel_rfl
      have HZ := Flow.hide zz
      clear zz
      iterate 5 go_step
      refine wp_load_at 111 _ rfl g (k * 18) rfl #[.int .u8 r.nd, .int .u32 r.ss, .int .u32 r.sq, .int .i64 5, .int .i64 r.ky, .string ⟨#[]⟩, .bool false, .string ⟨#[]⟩, .int .i64 r.op, .int .i64 r.st, .int .i64 r.en, .int .i64 r.er, .bool false, .string ⟨#[]⟩, .int .u32 r.an, .int .u8 0, .int .u8 0, .bool r.wr] _ HZ.out Try.underlying111 rfl e2 ?_
      iterate 5 go_step
      refine wp_store_row 111 _ _ rfl wr.heap.size #[.int .u8 r.nd, .int .u32 r.ss, .int .u32 r.sq, .int .i64 5, .int .i64 r.ky, .string ⟨#[]⟩, .bool false, .string ⟨#[]⟩, .int .i64 r.op, .int .i64 r.st, .int .i64 r.en, .int .i64 r.er, .bool false, .string ⟨#[]⟩, .int .u32 r.an, .int .u8 0, .int .u8 0, .bool r.wr] rfl rfl 111 #[.int .u8 0, .int .u32 0, .int .u32 0, .int .i64 0, .int .i64 0, .string ⟨#[]⟩, .bool false, .string ⟨#[]⟩, .int .i64 0, .int .i64 0, .int .i64 0, .int .i64 0, .bool false, .string ⟨#[]⟩, .int .u32 0, .int .u8 0, .int .u8 0, .bool false] (Flow.Blk.new wr 111 #[.int .u8 0, .int .u32 0, .int .u32 0, .int .i64 0, .int .i64 0, .string ⟨#[]⟩, .bool false, .string ⟨#[]⟩, .int .i64 0, .int .i64 0, .int .i64 0, .int .i64 0, .bool false, .string ⟨#[]⟩, .int .u32 0, .int .u8 0, .int .u8 0, .bool false]) e2 rfl e1 ?_
      have K2 := blk_setRow (cs := #[.int .u8 r.nd, .int .u32 r.ss, .int .u32 r.sq, .int .i64 5, .int .i64 r.ky, .string ⟨#[]⟩, .bool false, .string ⟨#[]⟩, .int .i64 r.op, .int .i64 r.st, .int .i64 r.en, .int .i64 r.er, .bool false, .string ⟨#[]⟩, .int .u32 r.an, .int .u8 0, .int .u8 0, .bool r.wr]) (Flow.Blk.new wr 111 #[.int .u8 0, .int .u32 0, .int .u32 0, .int .i64 0, .int .i64 0, .string ⟨#[]⟩, .bool false, .string ⟨#[]⟩, .int .i64 0, .int .i64 0, .int .i64 0, .int .i64 0, .bool false, .string ⟨#[]⟩, .int .u32 0, .int .u8 0, .int .u8 0, .bool false])
      have C2 := chg_setRow (cs := #[.int .u8 r.nd, .int .u32 r.ss, .int .u32 r.sq, .int .i64 5, .int .i64 r.ky, .string ⟨#[]⟩, .bool false, .string ⟨#[]⟩, .int .i64 r.op, .int .i64 r.st, .int .i64 r.en, .int .i64 r.er, .bool false, .string ⟨#[]⟩, .int .u32 r.an, .int .u8 0, .int .u8 0, .bool r.wr]) (Flow.Blk.new wr 111 #[.int .u8 0, .int .u32 0, .int .u32 0, .int .i64 0, .int .i64 0, .string ⟨#[]⟩, .bool false, .string ⟨#[]⟩, .int .i64 0, .int .i64 0, .int .i64 0, .int .i64 0, .bool false, .string ⟨#[]⟩, .int .u32 0, .int .u8 0, .int .u8 0, .bool false])
      have hh2 := (Flow.below_alloc wr (.cells #[.int .u8 0, .int .u32 0, .int .u32 0, .int .i64 0, .int .i64 0, .string ⟨#[]⟩, .bool false, .string ⟨#[]⟩, .int .i64 0, .int .i64 0, .int .i64 0, .int .i64 0, .bool false, .string ⟨#[]⟩, .int .u32 0, .int .u8 0, .int .u8 0, .bool false] 111)).trans (C2.below (B := wr.heap.size) (fun j _ e => by omega) (by simp))
      clear C2 e1 HZ
      have R2 := Flow.hide (Flow.ownsRow_chg R1.out (Flow.Chg.of_below hh2) (fun _ _ e => e))
      have HO2 := Flow.hide (Flow.ownsRow_chg HO.out (Flow.Chg.of_below hh2) (fun _ _ e => e))
      have HP2 := Flow.hide (HP.out.below hh2)
      have HE2 := Flow.hide (HE.out.below hh2)
      have HB2 := Flow.hide (HB.out.trans (hh2.mono HB.out.size))
      have hm8 := Flow.hide (show w.heap.size ≠ wr.heap.size by have := HP.out.lt; omega)
      have ha8 := Flow.hide (show ∀ a ∈ ads, a ≠ wr.heap.size from fun a ha => by have := (HE.out.2.2.1 a ha).2; omega)
      clear hh2 R1 HO HP HE HB hg
      revert K2 R2 HO2 HP2 HE2 HB2 hm8 ha8
      generalize (wr.alloc (.cells #[.int .u8 0, .int .u32 0, .int .u32 0, .int .i64 0, .int .i64 0, .string ⟨#[]⟩, .bool false, .string ⟨#[]⟩, .int .i64 0, .int .i64 0, .int .i64 0, .int .i64 0, .bool false, .string ⟨#[]⟩, .int .u32 0, .int .u8 0, .int .u8 0, .bool false] 111)).setRow wr.heap.size #[.int .u8 r.nd, .int .u32 r.ss, .int .u32 r.sq, .int .i64 5, .int .i64 r.ky, .string ⟨#[]⟩, .bool false, .string ⟨#[]⟩, .int .i64 r.op, .int .i64 r.st, .int .i64 r.en, .int .i64 r.er, .bool false, .string ⟨#[]⟩, .int .u32 r.an, .int .u8 0, .int .u8 0, .bool r.wr] = w2
      generalize wr.heap.size = g8
      intro K2 R2 HO2 HP2 HE2 HB2 hm8 ha8
      have KK2 := Flow.hide K2
      have q8 := K2.cell
      have z8 := K2.lt
      clear K2
      rcases hr : r.refused with _ | _
      · have HRF := Flow.hide hr
        clear hr
        go_upto_region 6 with fail
        iterate 2 go_step
        refine wp_load_row 111 _ rfl g8 rfl 111 #[.int .u8 r.nd, .int .u32 r.ss, .int .u32 r.sq, .int .i64 5, .int .i64 r.ky, .string ⟨#[]⟩, .bool false, .string ⟨#[]⟩, .int .i64 r.op, .int .i64 r.st, .int .i64 r.en, .int .i64 r.er, .bool false, .string ⟨#[]⟩, .int .u32 r.an, .int .u8 0, .int .u8 0, .bool r.wr] (0, 0) _ KK2.out Try.underlying111 rfl e2 ?_
        clear e2
        go_wp2_with fail
        (with_reducible refine (refused60 r _).mono ?_)
        rw [HRF.out]
        rintro e w3 ⟨rfl, hb3⟩
        have KK3 := Flow.hide (KK2.out.below hb3)
        have R3 := Flow.hide (Flow.ownsRow_chg R2.out (Flow.Chg.of_below hb3) (fun _ _ e => e))
        have HO3 := Flow.hide (Flow.ownsRow_chg HO2.out (Flow.Chg.of_below hb3) (fun _ _ e => e))
        have HP3 := Flow.hide (HP2.out.below hb3)
        have HE3 := Flow.hide (HE2.out.below hb3)
        have HB3 := Flow.hide (HB2.out.trans (hb3.mono HB2.out.size))
        clear hb3 q8 z8 KK2 R2 HO2 HP2 HE2 HB2
        have q8 := KK3.out.cell
        have z8 := KK3.out.lt
        have bd := build150
        go_upto_region 8 with fail
        clear q8 z8 bd
        obtain ⟨K9, hh4, _⟩ := Flow.laid1 (w := w3) (w1 := w3.alloc (.cells #[.int .u8 r.nd, .int .u32 r.ss, .int .u32 r.sq] 150)) (Below.refl _ _)
        have KK4 := Flow.hide (KK3.out.below hh4)
        have R4 := Flow.hide (Flow.ownsRow_chg R3.out (Flow.Chg.of_below hh4) (fun _ _ e => e))
        have HO4 := Flow.hide (Flow.ownsRow_chg HO3.out (Flow.Chg.of_below hh4) (fun _ _ e => e))
        have HP4 := Flow.hide (HP3.out.below hh4)
        have HE4 := Flow.hide (HE3.out.below hh4)
        have HB4 := Flow.hide (HB3.out.trans (hh4.mono HB3.out.size))
        clear hh4 KK3 R3 HO3 HP3 HE3 HB3
        revert K9 KK4 R4 HO4 HP4 HE4 HB4
        generalize w3.alloc (.cells #[.int .u8 r.nd, .int .u32 r.ss, .int .u32 r.sq] 150) = w4
        generalize w3.heap.size = g9
        intro K9 KK4 R4 HO4 HP4 HE4 HB4
        have KK9 := Flow.hide K9
        have q9 := K9.cell
        have z9 := K9.lt
        have q8 := KK4.out.cell
        have z8 := KK4.out.lt
        clear K9
        have HRW := Flow.hide (HW.out r (List.mem_of_getElem? HX.out))
        rcases PM.look HP4.out HE4.out.1 r HRW.out with ⟨hrun, habs⟩ | ⟨i, e, a, he, ha, hs, hrun⟩
        · have HA := Flow.hide habs
          clear habs
          have bd := build118
          go_upto_region 11 with fail
          clear hrun bd q8 z8 q9 z9
          obtain ⟨K5, hh5, _⟩ := Flow.laid1 (w := w4) (w1 := w4.alloc (.cells #[.int .i64 5, .int .i64 r.ky, .string ⟨#[]⟩, .bool false, .string ⟨#[]⟩, .int .i64 r.op, .int .i64 r.st, .int .i64 0, .int .i64 0, .bool false, .string ⟨#[]⟩, .int .u32 0, .int .u8 0, .int .u8 0, .bool false] 118)) (Below.refl _ _)
          have KK5 := Flow.hide (KK4.out.below hh5)
          have KN5 := Flow.hide (KK9.out.below hh5)
          have R5 := Flow.hide (Flow.ownsRow_chg R4.out (Flow.Chg.of_below hh5) (fun _ _ e => e))
          have HO5 := Flow.hide (Flow.ownsRow_chg HO4.out (Flow.Chg.of_below hh5) (fun _ _ e => e))
          have HP5 := Flow.hide (HP4.out.below hh5)
          have HE5 := Flow.hide (HE4.out.below hh5)
          have HB5 := Flow.hide (HB4.out.trans (hh5.mono HB4.out.size))
          have hnin := Flow.hide (show w4.heap.size ∉ ads from fun h => by have := (HE4.out.2.2.1 _ h).2; omega)
          have hwa5 := Flow.hide (show w.heap.size ≤ w4.heap.size from HB4.out.size)
          clear hh5 KK4 KK9 R4 HO4 HP4 HE4 HB4
          revert K5 KK5 KN5 R5 HO5 HP5 HE5 HB5 hnin hwa5
          generalize w4.alloc (.cells #[.int .i64 5, .int .i64 r.ky, .string ⟨#[]⟩, .bool false, .string ⟨#[]⟩, .int .i64 r.op, .int .i64 r.st, .int .i64 0, .int .i64 0, .bool false, .string ⟨#[]⟩, .int .u32 0, .int .u8 0, .int .u8 0, .bool false] 118) = w5
          generalize w4.heap.size = a
          intro K5 KK5 KN5 R5 HO5 HP5 HE5 HB5 hnin hwa5
          have hlen : all.length ≤ 30 := by
            have h1 := refFrom_length (l.take k) []
            rw [HALL.out, List.length_take] at h1
            have h2 := HN.out
            omega
          have HLEN := Flow.hide hlen
          obtain ⟨w6, hput, hpm6, hc6⟩ := PM.put HP5.out HE5.out.1 (by omega) r HRW.out HA.out a
          have K6 := K5.chg hc6 (blk_ne_map K5 HP5.out)
          have KK6 := Flow.hide (KK5.out.chg hc6 (blk_ne_map KK5.out HP5.out))
          have R6 := Flow.hide (Flow.ownsRow_chg R5.out hc6 (fun j hj e => own_ne_map R5.out HP5.out (by rw [hj, e])))
          have HO6 := Flow.hide (Flow.ownsRow_chg HO5.out hc6 (fun j hj e => own_ne_map HO5.out HP5.out (by rw [hj, e])))
          have HE6 := Flow.hide (HE5.out.chg hc6 (fun b hb e => by
            obtain ⟨j, hj, rfl⟩ := List.getElem_of_mem hb
            have hja := HE5.out.1
            exact blk_ne_map (HE5.out.2.2.2 j _ _ (List.getElem?_eq_getElem (by omega)) (List.getElem?_eq_getElem hj)) HP5.out e))
          have HE6' := Flow.hide (HE6.out.push hwa5.out hnin.out (e := r.new) K6)
          have HB6 := Flow.hide (HB5.out.trans (hc6.below (B := w.heap.size) (fun j _ e => by omega) HB5.out.size))
          have hpm6' := Flow.hide (hpm6.upd (all' := all ++ [r.new]) (by simp) (fun j x x' hx hx' => by
            by_cases hj : j < all.length
            · rw [List.getElem?_append_left hj] at hx hx'
              rw [hx] at hx'
              cases hx'
              exact ⟨rfl, rfl, rfl⟩
            · rw [List.getElem?_append_right (by omega)] at hx hx'
              have h0 : j - all.length = 0 := by have := (List.getElem?_eq_some_iff.1 hx).1; simp at this; omega
              rw [h0] at hx hx'
              cases hx
              cases hx'
              exact ⟨rfl, rfl, rfl⟩))
          have q9 := KN5.out.cell
          have z9 := KN5.out.lt
          go_upto_region 12 with fail
          clear hput hpm6 hc6 q9 z9 HO5 HP5 HE5 HB5 R5 KK5 KN5 K5 HE6 K6 hlen
          obtain ⟨K7, hh7, _⟩ := Flow.laid1 (w := w6) (w1 := w6.alloc (.cells #[.pointer (some ⟨a, 0, none⟩)] 151)) (Below.refl _ _)
          obtain ⟨v8, w8, hr8, ho8, hb8, hc8⟩ := append_ptr (cp := 1) (Flow.ownsRow_chg HO6.out (Flow.Chg.of_below hh7) (fun _ _ e => e)) a _ K7 (by have := HLEN.out; omega) (Nat.le_trans HB6.out.size hh7.size)
          have HO7 := Flow.ownsRow_chg HO6.out (Flow.Chg.of_below hh7) (fun _ _ e => e)
          have KK7 := KK6.out.below hh7
          have HE7 := HE6'.out.below hh7
          have HP7 := hpm6'.out.below hh7
          have R7 := Flow.ownsRow_chg R6.out (Flow.Chg.of_below hh7) (fun _ _ e => e)
          have KG := Flow.hide (KK7.chg hc8 (fun e => own_ne_blk HO7 KK7 (by decide) e.symm))
          have RR := Flow.hide (Flow.ownsRow_chg R7 hc8 (fun j hj e => Flow.own_ne R7 HO7 (by decide) j hj e.symm))
          have PP := Flow.hide (HP7.chg hc8 (fun e => own_ne_map HO7 HP7 e.symm))
          have EE := Flow.hide (HE7.chg hc8 (fun b hb e => by
            obtain ⟨j, hj, rfl⟩ := List.getElem_of_mem hb
            have hja := HE7.1
            exact own_ne_blk HO7 (HE7.2.2.2 j _ _ (List.getElem?_eq_getElem (by omega)) (List.getElem?_eq_getElem hj)) (by decide) e.symm))
          have BB := Flow.hide ((HB6.out.trans (hh7.mono HB6.out.size)).trans hb8)
          obtain ⟨A8, cap8, hv8, _⟩ := Flow.ownsRow_form ho8
          subst hv8
          have RO := Flow.hide (show w8.ownsRow w.heap.size 151 1 (.slice A8 (all.length + 1) cap8) (all ++ [r.new]).length (ptrs (ads ++ [a])) by rw [List.length_append]; exact ho8)
          have HR8 := Flow.hide hr8
          have HI := Flow.hide (show (all ++ [r.new])[all.length]? = some r.new by simp)
          have HIa := Flow.hide (show (ads ++ [a])[all.length]? = some a by have h1 := HE7.1; simp at h1; rw [← h1]; simp)
          have HST := Flow.hide (show refFrom [] (l.take (k + 1)) = (all ++ [r.new]).set all.length (r.new.upd r) by rw [set_snoc, refFrom_at HX.out, HALL.out, stepE_new HRF.out HA.out])
          clear HO7 KK7 HE7 HP7 R7 K7 hh7 hr8 ho8 hb8 hc8 KK6 R6 HO6 HE6' HB6 hpm6' hnin hwa5 HA
          go_upto_region 13 with (at_builtin; refine Flow.wpList_append_run _ _ 146 rfl rfl rfl rfl HR8.out ?_)
          clear HR8
          generalize r.new = e at RO PP EE HI HST
          obtain ⟨i, hi⟩ : ∃ i, i = all.length := ⟨_, rfl⟩
          rw [← hi] at HI HIa HST
          have HII := Flow.hide hi
          clear hi
          have KA := Flow.hide (EE.out.2.2.2 i e a HI.out HIa.out)
          have HAG := Flow.hide (show a ≠ g8 from fun e1 => by
            have h1 := KA.out
            have h2 := KG.out
            unfold Flow.Blk at h1 h2
            rw [e1, h2] at h1
            simp at h1)
          have rG := KG.out.rg
          have rA := KA.out.rg
          by_cases hen : 0 < r.en
          · by_cases he0 : e.en = 0
            · have HQ := Flow.hide (show 0 < r.en ∧ (e.en = 0 ∨ r.en < e.en) from ⟨hen, .inl he0⟩)
              refine Flow.wp_region_all (by kernel_rfl) (by kernel_rfl) ?_
              repeat (first
                | (refine Flow.wpSeg_step (fun K' hK' => ?_)
                   go_simp
                   first
                     | (refine hK' _ ?_; clear hK' K')
                     | (apply Exists.intro
                        refine ⟨fun p => ?_, hK' _ ?_⟩
                        (first | fail)
                        clear hK' K')))
              refine Flow.wpSeg_nil ?_
              intro w20 hb20
              clear rG rA
              have KG20 := Flow.hide (KG.out.below hb20)
              have KA20 := Flow.hide (KA.out.below hb20)
              have HB20 := Flow.hide hb20
              clear hb20
              have hgl := KG20.out.lt
              have hgc := KG20.out.cell
              obtain ⟨CW, hCW⟩ : ∃ C : World → Prop, C = fun w' => Flow.Chg (· = a) w20 w' := ⟨_, rfl⟩
              have kW : ∀ w', Flow.Chg (· = a) w20 w' → CW w' := by rw [hCW]; exact fun _ h => h
              have uW : ∀ w', CW w' → Flow.Chg (· = a) w20 w' := by rw [hCW]; exact fun _ h => h
              have hW : ∀ w1 w2, CW w1 → Below w1.heap.size w1 w2 → CW w2 := by rw [hCW]; exact fun _ _ h k => h.trans (Flow.Chg.of_below k) (fun _ _ e => e.elim)
              have b8 : ∀ (p : Flow.Wd CW) (j : Nat), p.w.cell? ⟨g8, j, none⟩ = (#[.int .u8 r.nd, .int .u32 r.ss, .int .u32 r.sq, .int .i64 5, .int .i64 r.ky, .string ⟨#[]⟩, .bool false, .string ⟨#[]⟩, .int .i64 r.op, .int .i64 r.st, .int .i64 r.en, .int .i64 r.er, .bool false, .string ⟨#[]⟩, .int .u32 r.an, .int .u8 0, .int .u8 0, .bool r.wr] : Array Value)[j]? := fun p j => (chg_cellH (uW _ p.ok) hgl (fun e => HAG.out e.symm) j).trans (hgc j)
              have ne1 : Nonempty (Flow.Wd CW) := ⟨⟨w20, kW _ (Flow.Chg.refl _ _)⟩⟩
              clear hCW hgc hgl
              go_upto_region 14 with fail
              refine Flow.wp_region_chain 1000 CW CW [0, 1, 2, 3, 4, 5, 6, 7, 8, 9, 10, 11, 12, 13] [14, 15, 16, 17, 18, 19, 20, 21, 22, 23] (by kernel_rfl) (by kernel_rfl) (.inl rfl) (fun w' h => kW _ ((Flow.Chg.of_below h).mono (fun _ _ e => e.elim))) (fun _ h => h) hW ?_
              dsimp only [Flow.pickIdx, List.getElem?_cons_zero, List.getElem?_cons_succ]
              iterate 14 (
                  (refine Flow.wpS_weak (by kernel_rfl) (fun K' hK' => ?_)
                   go_simp
                   first
                     | (refine hK' _ ?_; clear hK' K')
                     | (apply Exists.intro
                        refine ⟨fun p => ?_, hK' _ ?_⟩
                        (first | fail)
                        clear hK' K')))
              refine Flow.wpS_nil ?_
              dsimp only [Flow.pickOps, List.getElem?_cons_zero, List.getElem?_cons_succ]
              clear b8
              intro w21 hb21
              have G21 := KA20.out.below hb21
              have C21 : Flow.Chg (· = a) w20 w21 := (Flow.Chg.of_below hb21).mono (fun _ _ e => e.elim)
              clear hb21
              have q8 := G21.cell
              have f8 := G21.frozen
              refine Flow.wpT_on rfl ?_
              go_simp
              refine ⟨kW _ (C21.setCell (p := ⟨a, 7, none⟩) (fun _ => rfl) _), fun w22 hb22 => ?_⟩
              obtain ⟨G22, C22⟩ := st_one G21 C21 rfl 7 (.int .i64 r.en) (cs' := #[.int .i64 5, .int .i64 e.ky, .string ⟨#[]⟩, .bool false, .string ⟨#[]⟩, .int .i64 e.op, .int .i64 e.st, .int .i64 r.en, .int .i64 e.er, .bool false, .string ⟨#[]⟩, .int .u32 e.an, .int .u8 0, .int .u8 0, .bool e.wr]) rfl hb22
              clear hb22 q8 f8 G21 C21
              refine Flow.wpT_on rfl ?_
              go_simp
              refine ⟨kW _ C22, fun w23 hb23 => ?_⟩
              have G23 := G22.below hb23
              have C23 := C22.trans (Flow.Chg.of_below hb23) (fun _ _ e => e.elim)
              clear hb23 G22 C22
              refine Flow.wpT_on rfl ?_
              go_simp
              refine ⟨kW _ C23, fun w24 hb24 => ?_⟩
              have G24 := G23.below hb24
              have C24 := C23.trans (Flow.Chg.of_below hb24) (fun _ _ e => e.elim)
              clear hb24 G23 C23
              have q8 := G24.cell
              have f8 := G24.frozen
              refine Flow.wpT_on rfl ?_
              go_simp
              refine ⟨kW _ (((C24.setCell (p := ⟨a, 8, none⟩) (fun _ => rfl) _).setCell (p := ⟨a, 9, none⟩) (fun _ => rfl) _).setCell (p := ⟨a, 10, none⟩) (fun _ => rfl) _), fun w25 hb25 => ?_⟩
              obtain ⟨G25, C25⟩ := st_three G24 C24 rfl 8 9 10 (.int .i64 r.er) (.bool false) (.string ⟨#[]⟩) (cs' := #[.int .i64 5, .int .i64 e.ky, .string ⟨#[]⟩, .bool false, .string ⟨#[]⟩, .int .i64 e.op, .int .i64 e.st, .int .i64 r.en, .int .i64 r.er, .bool false, .string ⟨#[]⟩, .int .u32 e.an, .int .u8 0, .int .u8 0, .bool e.wr]) rfl hb25
              clear hb25 q8 f8 G24 C24
              refine Flow.wpT_on rfl ?_
              go_simp
              refine ⟨kW _ C25, fun w26 hb26 => ?_⟩
              have G26 := G25.below hb26
              have C26 := C25.trans (Flow.Chg.of_below hb26) (fun _ _ e => e.elim)
              clear hb26 G25 C25
              refine Flow.wpT_on rfl ?_
              go_simp
              refine ⟨kW _ C26, fun w27 hb27 => ?_⟩
              have G27 := G26.below hb27
              have C27 := C26.trans (Flow.Chg.of_below hb27) (fun _ _ e => e.elim)
              clear hb27 G26 C26
              have q8 := G27.cell
              have f8 := G27.frozen
              refine Flow.wpT_on rfl ?_
              go_simp
              refine ⟨kW _ (((C27.setCell (p := ⟨a, 11, none⟩) (fun _ => rfl) _).setCell (p := ⟨a, 12, none⟩) (fun _ => rfl) _).setCell (p := ⟨a, 13, none⟩) (fun _ => rfl) _), fun w28 hb28 => ?_⟩
              obtain ⟨G28, C28⟩ := st_three G27 C27 rfl 11 12 13 (.int .u32 r.an) (.int .u8 0) (.int .u8 0) (cs' := #[.int .i64 5, .int .i64 e.ky, .string ⟨#[]⟩, .bool false, .string ⟨#[]⟩, .int .i64 e.op, .int .i64 e.st, .int .i64 r.en, .int .i64 r.er, .bool false, .string ⟨#[]⟩, .int .u32 r.an, .int .u8 0, .int .u8 0, .bool e.wr]) rfl hb28
              clear hb28 q8 f8 G27 C27
              refine Flow.wpT_on rfl ?_
              go_simp
              refine ⟨kW _ C28, fun w29 hb29 => ?_⟩
              have G29 := G28.below hb29
              have C29 := C28.trans (Flow.Chg.of_below hb29) (fun _ _ e => e.elim)
              clear hb29 G28 C28
              refine Flow.wpT_on rfl ?_
              go_simp
              refine ⟨kW _ C29, fun w30 hb30 => ?_⟩
              have G30 := G29.below hb30
              have C30 := C29.trans (Flow.Chg.of_below hb30) (fun _ _ e => e.elim)
              clear hb30 G29 C29
              have q8 := G30.cell
              have f8 := G30.frozen
              refine Flow.wpT_on rfl ?_
              go_simp
              refine ⟨kW _ (C30.setCell (p := ⟨a, 14, none⟩) (fun _ => rfl) _), fun w31 hb31 => Flow.wpT_nil ?_⟩
              obtain ⟨G31, C31⟩ := st_one G30 C30 rfl 14 (.bool r.wr) (cs' := #[.int .i64 5, .int .i64 e.ky, .string ⟨#[]⟩, .bool false, .string ⟨#[]⟩, .int .i64 e.op, .int .i64 e.st, .int .i64 r.en, .int .i64 r.er, .bool false, .string ⟨#[]⟩, .int .u32 r.an, .int .u8 0, .int .u8 0, .bool r.wr]) rfl hb31
              clear hb31 q8 f8 G30 C30
              have GG := Flow.hide G31
              have CC := Flow.hide C31
              clear G31 C31 kW uW hW ne1
              go_wp2_with fail
              go_roundw
              case rel =>
                have hst : refFrom [] (l.take (k + 1)) = (all ++ [e]).set i { e with en := r.en, er := r.er, an := r.an, wr := r.wr } := by rw [HST.out, upd_now _ _ HQ.out]
                have hC : Flow.Chg (· = a) w8 w31 := ((Flow.Chg.of_below HB20.out).mono (fun _ _ e => e.elim)).trans CC.out (fun _ _ e => e)
                have hwa : w.heap.size ≤ a := (EE.out.2.2.1 a (List.mem_of_getElem? HIa.out)).1
                have hEE := Ents.set EE.out HIa.out hC (e := { e with en := r.en, er := r.er, an := r.an, wr := r.wr }) GG.out
                have hPP : PM w31 w.heap.size ((all ++ [e]).set i { e with en := r.en, er := r.er, an := r.an, wr := r.wr }) (ads ++ [a]) := by
                  refine (PM.chg PP.out hC (fun e1 => blk_ne_map KA.out PP.out e1.symm)).upd (by simp) (fun j x x' hx hx' => ?_)
                  by_cases hij : i = j
                  · subst hij
                    rw [HI.out] at hx
                    cases hx
                    rw [List.getElem?_set_self (List.getElem?_eq_some_iff.1 HI.out).1] at hx'
                    cases hx'
                    exact ⟨rfl, rfl, rfl⟩
                  · rw [List.getElem?_set_ne hij, hx] at hx'
                    cases hx'
                    exact ⟨rfl, rfl, rfl⟩
                exact ⟨k + 1, (ads ++ [a]), by omega, by go_num, by rw [hst, List.length_set]; exact Flow.ownsRow_chg RO.out hC (fun j hj e1 => own_ne_blk RO.out KA.out (by decide) (by rw [hj, e1])), by rw [hst]; exact hPP, by rw [hst]; exact hEE, BB.out.trans (hC.below (fun j _ e1 => by omega) BB.out.size)⟩
              case measure => simp [intOf]; omega
            · by_cases hlt4 : r.en < e.en
              · have HQ := Flow.hide (show 0 < r.en ∧ (e.en = 0 ∨ r.en < e.en) from ⟨hen, .inr hlt4⟩)
                refine Flow.wp_region_all (by kernel_rfl) (by kernel_rfl) ?_
                repeat (first
                  | (refine Flow.wpSeg_step (fun K' hK' => ?_)
                     go_simp
                     first
                       | (refine hK' _ ?_; clear hK' K')
                       | (apply Exists.intro
                          refine ⟨fun p => ?_, hK' _ ?_⟩
                          (first | fail)
                          clear hK' K')))
                refine Flow.wpSeg_nil ?_
                intro w20 hb20
                clear rG rA
                have KG20 := Flow.hide (KG.out.below hb20)
                have KA20 := Flow.hide (KA.out.below hb20)
                have HB20 := Flow.hide hb20
                clear hb20
                have hgl := KG20.out.lt
                have hgc := KG20.out.cell
                obtain ⟨CW, hCW⟩ : ∃ C : World → Prop, C = fun w' => Flow.Chg (· = a) w20 w' := ⟨_, rfl⟩
                have kW : ∀ w', Flow.Chg (· = a) w20 w' → CW w' := by rw [hCW]; exact fun _ h => h
                have uW : ∀ w', CW w' → Flow.Chg (· = a) w20 w' := by rw [hCW]; exact fun _ h => h
                have hW : ∀ w1 w2, CW w1 → Below w1.heap.size w1 w2 → CW w2 := by rw [hCW]; exact fun _ _ h k => h.trans (Flow.Chg.of_below k) (fun _ _ e => e.elim)
                have b8 : ∀ (p : Flow.Wd CW) (j : Nat), p.w.cell? ⟨g8, j, none⟩ = (#[.int .u8 r.nd, .int .u32 r.ss, .int .u32 r.sq, .int .i64 5, .int .i64 r.ky, .string ⟨#[]⟩, .bool false, .string ⟨#[]⟩, .int .i64 r.op, .int .i64 r.st, .int .i64 r.en, .int .i64 r.er, .bool false, .string ⟨#[]⟩, .int .u32 r.an, .int .u8 0, .int .u8 0, .bool r.wr] : Array Value)[j]? := fun p j => (chg_cellH (uW _ p.ok) hgl (fun e => HAG.out e.symm) j).trans (hgc j)
                have ne1 : Nonempty (Flow.Wd CW) := ⟨⟨w20, kW _ (Flow.Chg.refl _ _)⟩⟩
                clear hCW hgc hgl
                go_upto_region 14 with fail
                refine Flow.wp_region_chain 1000 CW CW [0, 1, 2, 3, 4, 5, 6, 7, 8, 9, 10, 11, 12, 13] [14, 15, 16, 17, 18, 19, 20, 21, 22, 23] (by kernel_rfl) (by kernel_rfl) (.inl rfl) (fun w' h => kW _ ((Flow.Chg.of_below h).mono (fun _ _ e => e.elim))) (fun _ h => h) hW ?_
                dsimp only [Flow.pickIdx, List.getElem?_cons_zero, List.getElem?_cons_succ]
                iterate 14 (
                    (refine Flow.wpS_weak (by kernel_rfl) (fun K' hK' => ?_)
                     go_simp
                     first
                       | (refine hK' _ ?_; clear hK' K')
                       | (apply Exists.intro
                          refine ⟨fun p => ?_, hK' _ ?_⟩
                          (first | fail)
                          clear hK' K')))
                refine Flow.wpS_nil ?_
                dsimp only [Flow.pickOps, List.getElem?_cons_zero, List.getElem?_cons_succ]
                clear b8
                intro w21 hb21
                have G21 := KA20.out.below hb21
                have C21 : Flow.Chg (· = a) w20 w21 := (Flow.Chg.of_below hb21).mono (fun _ _ e => e.elim)
                clear hb21
                have q8 := G21.cell
                have f8 := G21.frozen
                refine Flow.wpT_on rfl ?_
                go_simp
                refine ⟨kW _ (C21.setCell (p := ⟨a, 7, none⟩) (fun _ => rfl) _), fun w22 hb22 => ?_⟩
                obtain ⟨G22, C22⟩ := st_one G21 C21 rfl 7 (.int .i64 r.en) (cs' := #[.int .i64 5, .int .i64 e.ky, .string ⟨#[]⟩, .bool false, .string ⟨#[]⟩, .int .i64 e.op, .int .i64 e.st, .int .i64 r.en, .int .i64 e.er, .bool false, .string ⟨#[]⟩, .int .u32 e.an, .int .u8 0, .int .u8 0, .bool e.wr]) rfl hb22
                clear hb22 q8 f8 G21 C21
                refine Flow.wpT_on rfl ?_
                go_simp
                refine ⟨kW _ C22, fun w23 hb23 => ?_⟩
                have G23 := G22.below hb23
                have C23 := C22.trans (Flow.Chg.of_below hb23) (fun _ _ e => e.elim)
                clear hb23 G22 C22
                refine Flow.wpT_on rfl ?_
                go_simp
                refine ⟨kW _ C23, fun w24 hb24 => ?_⟩
                have G24 := G23.below hb24
                have C24 := C23.trans (Flow.Chg.of_below hb24) (fun _ _ e => e.elim)
                clear hb24 G23 C23
                have q8 := G24.cell
                have f8 := G24.frozen
                refine Flow.wpT_on rfl ?_
                go_simp
                refine ⟨kW _ (((C24.setCell (p := ⟨a, 8, none⟩) (fun _ => rfl) _).setCell (p := ⟨a, 9, none⟩) (fun _ => rfl) _).setCell (p := ⟨a, 10, none⟩) (fun _ => rfl) _), fun w25 hb25 => ?_⟩
                obtain ⟨G25, C25⟩ := st_three G24 C24 rfl 8 9 10 (.int .i64 r.er) (.bool false) (.string ⟨#[]⟩) (cs' := #[.int .i64 5, .int .i64 e.ky, .string ⟨#[]⟩, .bool false, .string ⟨#[]⟩, .int .i64 e.op, .int .i64 e.st, .int .i64 r.en, .int .i64 r.er, .bool false, .string ⟨#[]⟩, .int .u32 e.an, .int .u8 0, .int .u8 0, .bool e.wr]) rfl hb25
                clear hb25 q8 f8 G24 C24
                refine Flow.wpT_on rfl ?_
                go_simp
                refine ⟨kW _ C25, fun w26 hb26 => ?_⟩
                have G26 := G25.below hb26
                have C26 := C25.trans (Flow.Chg.of_below hb26) (fun _ _ e => e.elim)
                clear hb26 G25 C25
                refine Flow.wpT_on rfl ?_
                go_simp
                refine ⟨kW _ C26, fun w27 hb27 => ?_⟩
                have G27 := G26.below hb27
                have C27 := C26.trans (Flow.Chg.of_below hb27) (fun _ _ e => e.elim)
                clear hb27 G26 C26
                have q8 := G27.cell
                have f8 := G27.frozen
                refine Flow.wpT_on rfl ?_
                go_simp
                refine ⟨kW _ (((C27.setCell (p := ⟨a, 11, none⟩) (fun _ => rfl) _).setCell (p := ⟨a, 12, none⟩) (fun _ => rfl) _).setCell (p := ⟨a, 13, none⟩) (fun _ => rfl) _), fun w28 hb28 => ?_⟩
                obtain ⟨G28, C28⟩ := st_three G27 C27 rfl 11 12 13 (.int .u32 r.an) (.int .u8 0) (.int .u8 0) (cs' := #[.int .i64 5, .int .i64 e.ky, .string ⟨#[]⟩, .bool false, .string ⟨#[]⟩, .int .i64 e.op, .int .i64 e.st, .int .i64 r.en, .int .i64 r.er, .bool false, .string ⟨#[]⟩, .int .u32 r.an, .int .u8 0, .int .u8 0, .bool e.wr]) rfl hb28
                clear hb28 q8 f8 G27 C27
                refine Flow.wpT_on rfl ?_
                go_simp
                refine ⟨kW _ C28, fun w29 hb29 => ?_⟩
                have G29 := G28.below hb29
                have C29 := C28.trans (Flow.Chg.of_below hb29) (fun _ _ e => e.elim)
                clear hb29 G28 C28
                refine Flow.wpT_on rfl ?_
                go_simp
                refine ⟨kW _ C29, fun w30 hb30 => ?_⟩
                have G30 := G29.below hb30
                have C30 := C29.trans (Flow.Chg.of_below hb30) (fun _ _ e => e.elim)
                clear hb30 G29 C29
                have q8 := G30.cell
                have f8 := G30.frozen
                refine Flow.wpT_on rfl ?_
                go_simp
                refine ⟨kW _ (C30.setCell (p := ⟨a, 14, none⟩) (fun _ => rfl) _), fun w31 hb31 => Flow.wpT_nil ?_⟩
                obtain ⟨G31, C31⟩ := st_one G30 C30 rfl 14 (.bool r.wr) (cs' := #[.int .i64 5, .int .i64 e.ky, .string ⟨#[]⟩, .bool false, .string ⟨#[]⟩, .int .i64 e.op, .int .i64 e.st, .int .i64 r.en, .int .i64 r.er, .bool false, .string ⟨#[]⟩, .int .u32 r.an, .int .u8 0, .int .u8 0, .bool r.wr]) rfl hb31
                clear hb31 q8 f8 G30 C30
                have GG := Flow.hide G31
                have CC := Flow.hide C31
                clear G31 C31 kW uW hW ne1
                go_wp2_with fail
                go_roundw
                case rel =>
                  have hst : refFrom [] (l.take (k + 1)) = (all ++ [e]).set i { e with en := r.en, er := r.er, an := r.an, wr := r.wr } := by rw [HST.out, upd_now _ _ HQ.out]
                  have hC : Flow.Chg (· = a) w8 w31 := ((Flow.Chg.of_below HB20.out).mono (fun _ _ e => e.elim)).trans CC.out (fun _ _ e => e)
                  have hwa : w.heap.size ≤ a := (EE.out.2.2.1 a (List.mem_of_getElem? HIa.out)).1
                  have hEE := Ents.set EE.out HIa.out hC (e := { e with en := r.en, er := r.er, an := r.an, wr := r.wr }) GG.out
                  have hPP : PM w31 w.heap.size ((all ++ [e]).set i { e with en := r.en, er := r.er, an := r.an, wr := r.wr }) (ads ++ [a]) := by
                    refine (PM.chg PP.out hC (fun e1 => blk_ne_map KA.out PP.out e1.symm)).upd (by simp) (fun j x x' hx hx' => ?_)
                    by_cases hij : i = j
                    · subst hij
                      rw [HI.out] at hx
                      cases hx
                      rw [List.getElem?_set_self (List.getElem?_eq_some_iff.1 HI.out).1] at hx'
                      cases hx'
                      exact ⟨rfl, rfl, rfl⟩
                    · rw [List.getElem?_set_ne hij, hx] at hx'
                      cases hx'
                      exact ⟨rfl, rfl, rfl⟩
                  exact ⟨k + 1, (ads ++ [a]), by omega, by go_num, by rw [hst, List.length_set]; exact Flow.ownsRow_chg RO.out hC (fun j hj e1 => own_ne_blk RO.out KA.out (by decide) (by rw [hj, e1])), by rw [hst]; exact hPP, by rw [hst]; exact hEE, BB.out.trans (hC.below (fun j _ e1 => by omega) BB.out.size)⟩
                case measure => simp [intOf]; omega
              · have HQ := Flow.hide (show ¬ (0 < r.en ∧ (e.en = 0 ∨ r.en < e.en)) from fun c => c.2.elim he0 hlt4)
                refine Flow.wp_region_all (by kernel_rfl) (by kernel_rfl) ?_
                repeat (first
                  | (refine Flow.wpSeg_step (fun K' hK' => ?_)
                     go_simp
                     first
                       | (refine hK' _ ?_; clear hK' K')
                       | (apply Exists.intro
                          refine ⟨fun p => ?_, hK' _ ?_⟩
                          (first | fail)
                          clear hK' K')))
                refine Flow.wpSeg_nil ?_
                intro w20 hb20
                clear rG rA
                have HB20 := Flow.hide hb20
                clear hb20
                go_wp2_with fail
                go_roundw
                case rel =>
                  have hst : refFrom [] (l.take (k + 1)) = (all ++ [e]) := by rw [HST.out, upd_late _ _ HQ.out, set_same HI.out]
                  exact ⟨k + 1, (ads ++ [a]), by omega, by go_num, by rw [hst]; exact Flow.ownsRow_chg RO.out (Flow.Chg.of_below HB20.out) (fun _ _ e => e), by rw [hst]; exact PP.out.below HB20.out, by rw [hst]; exact EE.out.below HB20.out, BB.out.trans (HB20.out.mono BB.out.size)⟩
                case measure => simp [intOf]; omega
          · have HQ := Flow.hide (show ¬ (0 < r.en ∧ (e.en = 0 ∨ r.en < e.en)) from fun c => hen c.1)
            refine Flow.wp_region_all (by kernel_rfl) (by kernel_rfl) ?_
            repeat (first
              | (refine Flow.wpSeg_step (fun K' hK' => ?_)
                 go_simp
                 first
                   | (refine hK' _ ?_; clear hK' K')
                   | (apply Exists.intro
                      refine ⟨fun p => ?_, hK' _ ?_⟩
                      (first | fail)
                      clear hK' K')))
            refine Flow.wpSeg_nil ?_
            intro w20 hb20
            clear rG rA
            have HB20 := Flow.hide hb20
            clear hb20
            go_wp2_with fail
            go_roundw
            case rel =>
              have hst : refFrom [] (l.take (k + 1)) = (all ++ [e]) := by rw [HST.out, upd_late _ _ HQ.out, set_same HI.out]
              exact ⟨k + 1, (ads ++ [a]), by omega, by go_num, by rw [hst]; exact Flow.ownsRow_chg RO.out (Flow.Chg.of_below HB20.out) (fun _ _ e => e), by rw [hst]; exact PP.out.below HB20.out, by rw [hst]; exact EE.out.below HB20.out, BB.out.trans (HB20.out.mono BB.out.size)⟩
            case measure => simp [intOf]; omega
        · have HI := Flow.hide he
          have HIa := Flow.hide ha
          have HST := Flow.hide (show refFrom [] (l.take (k + 1)) = all.set i (e.upd r) by rw [refFrom_at HX.out, HALL.out, stepE_old HRF.out HAP.out he hs])
          have KG := KK4
          have RR := R4
          have RO := HO4
          have PP := HP4
          have EE := HE4
          have BB := HB4
          clear KK4 R4 HO4 HP4 HE4 HB4 he ha hs
          go_upto_region 13 with fail
          clear hrun q8 z8 q9 z9
          have KA := Flow.hide (EE.out.2.2.2 i e a HI.out HIa.out)
          have HAG := Flow.hide (show a ≠ g8 from fun e1 => by
            have h1 := KA.out
            have h2 := KG.out
            unfold Flow.Blk at h1 h2
            rw [e1, h2] at h1
            simp at h1)
          have rG := KG.out.rg
          have rA := KA.out.rg
          by_cases hen : 0 < r.en
          · by_cases he0 : e.en = 0
            · have HQ := Flow.hide (show 0 < r.en ∧ (e.en = 0 ∨ r.en < e.en) from ⟨hen, .inl he0⟩)
              refine Flow.wp_region_all (by kernel_rfl) (by kernel_rfl) ?_
              repeat (first
                | (refine Flow.wpSeg_step (fun K' hK' => ?_)
                   go_simp
                   first
                     | (refine hK' _ ?_; clear hK' K')
                     | (apply Exists.intro
                        refine ⟨fun p => ?_, hK' _ ?_⟩
                        (first | fail)
                        clear hK' K')))
              refine Flow.wpSeg_nil ?_
              intro w20 hb20
              clear rG rA
              have KG20 := Flow.hide (KG.out.below hb20)
              have KA20 := Flow.hide (KA.out.below hb20)
              have HB20 := Flow.hide hb20
              clear hb20
              have hgl := KG20.out.lt
              have hgc := KG20.out.cell
              obtain ⟨CW, hCW⟩ : ∃ C : World → Prop, C = fun w' => Flow.Chg (· = a) w20 w' := ⟨_, rfl⟩
              have kW : ∀ w', Flow.Chg (· = a) w20 w' → CW w' := by rw [hCW]; exact fun _ h => h
              have uW : ∀ w', CW w' → Flow.Chg (· = a) w20 w' := by rw [hCW]; exact fun _ h => h
              have hW : ∀ w1 w2, CW w1 → Below w1.heap.size w1 w2 → CW w2 := by rw [hCW]; exact fun _ _ h k => h.trans (Flow.Chg.of_below k) (fun _ _ e => e.elim)
              have b8 : ∀ (p : Flow.Wd CW) (j : Nat), p.w.cell? ⟨g8, j, none⟩ = (#[.int .u8 r.nd, .int .u32 r.ss, .int .u32 r.sq, .int .i64 5, .int .i64 r.ky, .string ⟨#[]⟩, .bool false, .string ⟨#[]⟩, .int .i64 r.op, .int .i64 r.st, .int .i64 r.en, .int .i64 r.er, .bool false, .string ⟨#[]⟩, .int .u32 r.an, .int .u8 0, .int .u8 0, .bool r.wr] : Array Value)[j]? := fun p j => (chg_cellH (uW _ p.ok) hgl (fun e => HAG.out e.symm) j).trans (hgc j)
              have ne1 : Nonempty (Flow.Wd CW) := ⟨⟨w20, kW _ (Flow.Chg.refl _ _)⟩⟩
              clear hCW hgc hgl
              go_upto_region 14 with fail
              refine Flow.wp_region_chain 1000 CW CW [0, 1, 2, 3, 4, 5, 6, 7, 8, 9, 10, 11, 12, 13] [14, 15, 16, 17, 18, 19, 20, 21, 22, 23] (by kernel_rfl) (by kernel_rfl) (.inl rfl) (fun w' h => kW _ ((Flow.Chg.of_below h).mono (fun _ _ e => e.elim))) (fun _ h => h) hW ?_
              dsimp only [Flow.pickIdx, List.getElem?_cons_zero, List.getElem?_cons_succ]
              iterate 14 (
                  (refine Flow.wpS_weak (by kernel_rfl) (fun K' hK' => ?_)
                   go_simp
                   first
                     | (refine hK' _ ?_; clear hK' K')
                     | (apply Exists.intro
                        refine ⟨fun p => ?_, hK' _ ?_⟩
                        (first | fail)
                        clear hK' K')))
              refine Flow.wpS_nil ?_
              dsimp only [Flow.pickOps, List.getElem?_cons_zero, List.getElem?_cons_succ]
              clear b8
              intro w21 hb21
              have G21 := KA20.out.below hb21
              have C21 : Flow.Chg (· = a) w20 w21 := (Flow.Chg.of_below hb21).mono (fun _ _ e => e.elim)
              clear hb21
              have q8 := G21.cell
              have f8 := G21.frozen
              refine Flow.wpT_on rfl ?_
              go_simp
              refine ⟨kW _ (C21.setCell (p := ⟨a, 7, none⟩) (fun _ => rfl) _), fun w22 hb22 => ?_⟩
              obtain ⟨G22, C22⟩ := st_one G21 C21 rfl 7 (.int .i64 r.en) (cs' := #[.int .i64 5, .int .i64 e.ky, .string ⟨#[]⟩, .bool false, .string ⟨#[]⟩, .int .i64 e.op, .int .i64 e.st, .int .i64 r.en, .int .i64 e.er, .bool false, .string ⟨#[]⟩, .int .u32 e.an, .int .u8 0, .int .u8 0, .bool e.wr]) rfl hb22
              clear hb22 q8 f8 G21 C21
              refine Flow.wpT_on rfl ?_
              go_simp
              refine ⟨kW _ C22, fun w23 hb23 => ?_⟩
              have G23 := G22.below hb23
              have C23 := C22.trans (Flow.Chg.of_below hb23) (fun _ _ e => e.elim)
              clear hb23 G22 C22
              refine Flow.wpT_on rfl ?_
              go_simp
              refine ⟨kW _ C23, fun w24 hb24 => ?_⟩
              have G24 := G23.below hb24
              have C24 := C23.trans (Flow.Chg.of_below hb24) (fun _ _ e => e.elim)
              clear hb24 G23 C23
              have q8 := G24.cell
              have f8 := G24.frozen
              refine Flow.wpT_on rfl ?_
              go_simp
              refine ⟨kW _ (((C24.setCell (p := ⟨a, 8, none⟩) (fun _ => rfl) _).setCell (p := ⟨a, 9, none⟩) (fun _ => rfl) _).setCell (p := ⟨a, 10, none⟩) (fun _ => rfl) _), fun w25 hb25 => ?_⟩
              obtain ⟨G25, C25⟩ := st_three G24 C24 rfl 8 9 10 (.int .i64 r.er) (.bool false) (.string ⟨#[]⟩) (cs' := #[.int .i64 5, .int .i64 e.ky, .string ⟨#[]⟩, .bool false, .string ⟨#[]⟩, .int .i64 e.op, .int .i64 e.st, .int .i64 r.en, .int .i64 r.er, .bool false, .string ⟨#[]⟩, .int .u32 e.an, .int .u8 0, .int .u8 0, .bool e.wr]) rfl hb25
              clear hb25 q8 f8 G24 C24
              refine Flow.wpT_on rfl ?_
              go_simp
              refine ⟨kW _ C25, fun w26 hb26 => ?_⟩
              have G26 := G25.below hb26
              have C26 := C25.trans (Flow.Chg.of_below hb26) (fun _ _ e => e.elim)
              clear hb26 G25 C25
              refine Flow.wpT_on rfl ?_
              go_simp
              refine ⟨kW _ C26, fun w27 hb27 => ?_⟩
              have G27 := G26.below hb27
              have C27 := C26.trans (Flow.Chg.of_below hb27) (fun _ _ e => e.elim)
              clear hb27 G26 C26
              have q8 := G27.cell
              have f8 := G27.frozen
              refine Flow.wpT_on rfl ?_
              go_simp
              refine ⟨kW _ (((C27.setCell (p := ⟨a, 11, none⟩) (fun _ => rfl) _).setCell (p := ⟨a, 12, none⟩) (fun _ => rfl) _).setCell (p := ⟨a, 13, none⟩) (fun _ => rfl) _), fun w28 hb28 => ?_⟩
              obtain ⟨G28, C28⟩ := st_three G27 C27 rfl 11 12 13 (.int .u32 r.an) (.int .u8 0) (.int .u8 0) (cs' := #[.int .i64 5, .int .i64 e.ky, .string ⟨#[]⟩, .bool false, .string ⟨#[]⟩, .int .i64 e.op, .int .i64 e.st, .int .i64 r.en, .int .i64 r.er, .bool false, .string ⟨#[]⟩, .int .u32 r.an, .int .u8 0, .int .u8 0, .bool e.wr]) rfl hb28
              clear hb28 q8 f8 G27 C27
              refine Flow.wpT_on rfl ?_
              go_simp
              refine ⟨kW _ C28, fun w29 hb29 => ?_⟩
              have G29 := G28.below hb29
              have C29 := C28.trans (Flow.Chg.of_below hb29) (fun _ _ e => e.elim)
              clear hb29 G28 C28
              refine Flow.wpT_on rfl ?_
              go_simp
              refine ⟨kW _ C29, fun w30 hb30 => ?_⟩
              have G30 := G29.below hb30
              have C30 := C29.trans (Flow.Chg.of_below hb30) (fun _ _ e => e.elim)
              clear hb30 G29 C29
              have q8 := G30.cell
              have f8 := G30.frozen
              refine Flow.wpT_on rfl ?_
              go_simp
              refine ⟨kW _ (C30.setCell (p := ⟨a, 14, none⟩) (fun _ => rfl) _), fun w31 hb31 => Flow.wpT_nil ?_⟩
              obtain ⟨G31, C31⟩ := st_one G30 C30 rfl 14 (.bool r.wr) (cs' := #[.int .i64 5, .int .i64 e.ky, .string ⟨#[]⟩, .bool false, .string ⟨#[]⟩, .int .i64 e.op, .int .i64 e.st, .int .i64 r.en, .int .i64 r.er, .bool false, .string ⟨#[]⟩, .int .u32 r.an, .int .u8 0, .int .u8 0, .bool r.wr]) rfl hb31
              clear hb31 q8 f8 G30 C30
              have GG := Flow.hide G31
              have CC := Flow.hide C31
              clear G31 C31 kW uW hW ne1
              go_wp2_with fail
              go_roundw
              case rel =>
                have hst : refFrom [] (l.take (k + 1)) = all.set i { e with en := r.en, er := r.er, an := r.an, wr := r.wr } := by rw [HST.out, upd_now _ _ HQ.out]
                have hC : Flow.Chg (· = a) w4 w31 := ((Flow.Chg.of_below HB20.out).mono (fun _ _ e => e.elim)).trans CC.out (fun _ _ e => e)
                have hwa : w.heap.size ≤ a := (EE.out.2.2.1 a (List.mem_of_getElem? HIa.out)).1
                have hEE := Ents.set EE.out HIa.out hC (e := { e with en := r.en, er := r.er, an := r.an, wr := r.wr }) GG.out
                have hPP : PM w31 w.heap.size (all.set i { e with en := r.en, er := r.er, an := r.an, wr := r.wr }) ads := by
                  refine (PM.chg PP.out hC (fun e1 => blk_ne_map KA.out PP.out e1.symm)).upd (by simp) (fun j x x' hx hx' => ?_)
                  by_cases hij : i = j
                  · subst hij
                    rw [HI.out] at hx
                    cases hx
                    rw [List.getElem?_set_self (List.getElem?_eq_some_iff.1 HI.out).1] at hx'
                    cases hx'
                    exact ⟨rfl, rfl, rfl⟩
                  · rw [List.getElem?_set_ne hij, hx] at hx'
                    cases hx'
                    exact ⟨rfl, rfl, rfl⟩
                exact ⟨k + 1, ads, by omega, by go_num, by rw [hst, List.length_set]; exact Flow.ownsRow_chg RO.out hC (fun j hj e1 => own_ne_blk RO.out KA.out (by decide) (by rw [hj, e1])), by rw [hst]; exact hPP, by rw [hst]; exact hEE, BB.out.trans (hC.below (fun j _ e1 => by omega) BB.out.size)⟩
              case measure => simp [intOf]; omega
            · by_cases hlt4 : r.en < e.en
              · have HQ := Flow.hide (show 0 < r.en ∧ (e.en = 0 ∨ r.en < e.en) from ⟨hen, .inr hlt4⟩)
                refine Flow.wp_region_all (by kernel_rfl) (by kernel_rfl) ?_
                repeat (first
                  | (refine Flow.wpSeg_step (fun K' hK' => ?_)
                     go_simp
                     first
                       | (refine hK' _ ?_; clear hK' K')
                       | (apply Exists.intro
                          refine ⟨fun p => ?_, hK' _ ?_⟩
                          (first | fail)
                          clear hK' K')))
                refine Flow.wpSeg_nil ?_
                intro w20 hb20
                clear rG rA
                have KG20 := Flow.hide (KG.out.below hb20)
                have KA20 := Flow.hide (KA.out.below hb20)
                have HB20 := Flow.hide hb20
                clear hb20
                have hgl := KG20.out.lt
                have hgc := KG20.out.cell
                obtain ⟨CW, hCW⟩ : ∃ C : World → Prop, C = fun w' => Flow.Chg (· = a) w20 w' := ⟨_, rfl⟩
                have kW : ∀ w', Flow.Chg (· = a) w20 w' → CW w' := by rw [hCW]; exact fun _ h => h
                have uW : ∀ w', CW w' → Flow.Chg (· = a) w20 w' := by rw [hCW]; exact fun _ h => h
                have hW : ∀ w1 w2, CW w1 → Below w1.heap.size w1 w2 → CW w2 := by rw [hCW]; exact fun _ _ h k => h.trans (Flow.Chg.of_below k) (fun _ _ e => e.elim)
                have b8 : ∀ (p : Flow.Wd CW) (j : Nat), p.w.cell? ⟨g8, j, none⟩ = (#[.int .u8 r.nd, .int .u32 r.ss, .int .u32 r.sq, .int .i64 5, .int .i64 r.ky, .string ⟨#[]⟩, .bool false, .string ⟨#[]⟩, .int .i64 r.op, .int .i64 r.st, .int .i64 r.en, .int .i64 r.er, .bool false, .string ⟨#[]⟩, .int .u32 r.an, .int .u8 0, .int .u8 0, .bool r.wr] : Array Value)[j]? := fun p j => (chg_cellH (uW _ p.ok) hgl (fun e => HAG.out e.symm) j).trans (hgc j)
                have ne1 : Nonempty (Flow.Wd CW) := ⟨⟨w20, kW _ (Flow.Chg.refl _ _)⟩⟩
                clear hCW hgc hgl
                go_upto_region 14 with fail
                refine Flow.wp_region_chain 1000 CW CW [0, 1, 2, 3, 4, 5, 6, 7, 8, 9, 10, 11, 12, 13] [14, 15, 16, 17, 18, 19, 20, 21, 22, 23] (by kernel_rfl) (by kernel_rfl) (.inl rfl) (fun w' h => kW _ ((Flow.Chg.of_below h).mono (fun _ _ e => e.elim))) (fun _ h => h) hW ?_
                dsimp only [Flow.pickIdx, List.getElem?_cons_zero, List.getElem?_cons_succ]
                iterate 14 (
                    (refine Flow.wpS_weak (by kernel_rfl) (fun K' hK' => ?_)
                     go_simp
                     first
                       | (refine hK' _ ?_; clear hK' K')
                       | (apply Exists.intro
                          refine ⟨fun p => ?_, hK' _ ?_⟩
                          (first | fail)
                          clear hK' K')))
                refine Flow.wpS_nil ?_
                dsimp only [Flow.pickOps, List.getElem?_cons_zero, List.getElem?_cons_succ]
                clear b8
                intro w21 hb21
                have G21 := KA20.out.below hb21
                have C21 : Flow.Chg (· = a) w20 w21 := (Flow.Chg.of_below hb21).mono (fun _ _ e => e.elim)
                clear hb21
                have q8 := G21.cell
                have f8 := G21.frozen
                refine Flow.wpT_on rfl ?_
                go_simp
                refine ⟨kW _ (C21.setCell (p := ⟨a, 7, none⟩) (fun _ => rfl) _), fun w22 hb22 => ?_⟩
                obtain ⟨G22, C22⟩ := st_one G21 C21 rfl 7 (.int .i64 r.en) (cs' := #[.int .i64 5, .int .i64 e.ky, .string ⟨#[]⟩, .bool false, .string ⟨#[]⟩, .int .i64 e.op, .int .i64 e.st, .int .i64 r.en, .int .i64 e.er, .bool false, .string ⟨#[]⟩, .int .u32 e.an, .int .u8 0, .int .u8 0, .bool e.wr]) rfl hb22
                clear hb22 q8 f8 G21 C21
                refine Flow.wpT_on rfl ?_
                go_simp
                refine ⟨kW _ C22, fun w23 hb23 => ?_⟩
                have G23 := G22.below hb23
                have C23 := C22.trans (Flow.Chg.of_below hb23) (fun _ _ e => e.elim)
                clear hb23 G22 C22
                refine Flow.wpT_on rfl ?_
                go_simp
                refine ⟨kW _ C23, fun w24 hb24 => ?_⟩
                have G24 := G23.below hb24
                have C24 := C23.trans (Flow.Chg.of_below hb24) (fun _ _ e => e.elim)
                clear hb24 G23 C23
                have q8 := G24.cell
                have f8 := G24.frozen
                refine Flow.wpT_on rfl ?_
                go_simp
                refine ⟨kW _ (((C24.setCell (p := ⟨a, 8, none⟩) (fun _ => rfl) _).setCell (p := ⟨a, 9, none⟩) (fun _ => rfl) _).setCell (p := ⟨a, 10, none⟩) (fun _ => rfl) _), fun w25 hb25 => ?_⟩
                obtain ⟨G25, C25⟩ := st_three G24 C24 rfl 8 9 10 (.int .i64 r.er) (.bool false) (.string ⟨#[]⟩) (cs' := #[.int .i64 5, .int .i64 e.ky, .string ⟨#[]⟩, .bool false, .string ⟨#[]⟩, .int .i64 e.op, .int .i64 e.st, .int .i64 r.en, .int .i64 r.er, .bool false, .string ⟨#[]⟩, .int .u32 e.an, .int .u8 0, .int .u8 0, .bool e.wr]) rfl hb25
                clear hb25 q8 f8 G24 C24
                refine Flow.wpT_on rfl ?_
                go_simp
                refine ⟨kW _ C25, fun w26 hb26 => ?_⟩
                have G26 := G25.below hb26
                have C26 := C25.trans (Flow.Chg.of_below hb26) (fun _ _ e => e.elim)
                clear hb26 G25 C25
                refine Flow.wpT_on rfl ?_
                go_simp
                refine ⟨kW _ C26, fun w27 hb27 => ?_⟩
                have G27 := G26.below hb27
                have C27 := C26.trans (Flow.Chg.of_below hb27) (fun _ _ e => e.elim)
                clear hb27 G26 C26
                have q8 := G27.cell
                have f8 := G27.frozen
                refine Flow.wpT_on rfl ?_
                go_simp
                refine ⟨kW _ (((C27.setCell (p := ⟨a, 11, none⟩) (fun _ => rfl) _).setCell (p := ⟨a, 12, none⟩) (fun _ => rfl) _).setCell (p := ⟨a, 13, none⟩) (fun _ => rfl) _), fun w28 hb28 => ?_⟩
                obtain ⟨G28, C28⟩ := st_three G27 C27 rfl 11 12 13 (.int .u32 r.an) (.int .u8 0) (.int .u8 0) (cs' := #[.int .i64 5, .int .i64 e.ky, .string ⟨#[]⟩, .bool false, .string ⟨#[]⟩, .int .i64 e.op, .int .i64 e.st, .int .i64 r.en, .int .i64 r.er, .bool false, .string ⟨#[]⟩, .int .u32 r.an, .int .u8 0, .int .u8 0, .bool e.wr]) rfl hb28
                clear hb28 q8 f8 G27 C27
                refine Flow.wpT_on rfl ?_
                go_simp
                refine ⟨kW _ C28, fun w29 hb29 => ?_⟩
                have G29 := G28.below hb29
                have C29 := C28.trans (Flow.Chg.of_below hb29) (fun _ _ e => e.elim)
                clear hb29 G28 C28
                refine Flow.wpT_on rfl ?_
                go_simp
                refine ⟨kW _ C29, fun w30 hb30 => ?_⟩
                have G30 := G29.below hb30
                have C30 := C29.trans (Flow.Chg.of_below hb30) (fun _ _ e => e.elim)
                clear hb30 G29 C29
                have q8 := G30.cell
                have f8 := G30.frozen
                refine Flow.wpT_on rfl ?_
                go_simp
                refine ⟨kW _ (C30.setCell (p := ⟨a, 14, none⟩) (fun _ => rfl) _), fun w31 hb31 => Flow.wpT_nil ?_⟩
                obtain ⟨G31, C31⟩ := st_one G30 C30 rfl 14 (.bool r.wr) (cs' := #[.int .i64 5, .int .i64 e.ky, .string ⟨#[]⟩, .bool false, .string ⟨#[]⟩, .int .i64 e.op, .int .i64 e.st, .int .i64 r.en, .int .i64 r.er, .bool false, .string ⟨#[]⟩, .int .u32 r.an, .int .u8 0, .int .u8 0, .bool r.wr]) rfl hb31
                clear hb31 q8 f8 G30 C30
                have GG := Flow.hide G31
                have CC := Flow.hide C31
                clear G31 C31 kW uW hW ne1
                go_wp2_with fail
                go_roundw
                case rel =>
                  have hst : refFrom [] (l.take (k + 1)) = all.set i { e with en := r.en, er := r.er, an := r.an, wr := r.wr } := by rw [HST.out, upd_now _ _ HQ.out]
                  have hC : Flow.Chg (· = a) w4 w31 := ((Flow.Chg.of_below HB20.out).mono (fun _ _ e => e.elim)).trans CC.out (fun _ _ e => e)
                  have hwa : w.heap.size ≤ a := (EE.out.2.2.1 a (List.mem_of_getElem? HIa.out)).1
                  have hEE := Ents.set EE.out HIa.out hC (e := { e with en := r.en, er := r.er, an := r.an, wr := r.wr }) GG.out
                  have hPP : PM w31 w.heap.size (all.set i { e with en := r.en, er := r.er, an := r.an, wr := r.wr }) ads := by
                    refine (PM.chg PP.out hC (fun e1 => blk_ne_map KA.out PP.out e1.symm)).upd (by simp) (fun j x x' hx hx' => ?_)
                    by_cases hij : i = j
                    · subst hij
                      rw [HI.out] at hx
                      cases hx
                      rw [List.getElem?_set_self (List.getElem?_eq_some_iff.1 HI.out).1] at hx'
                      cases hx'
                      exact ⟨rfl, rfl, rfl⟩
                    · rw [List.getElem?_set_ne hij, hx] at hx'
                      cases hx'
                      exact ⟨rfl, rfl, rfl⟩
                  exact ⟨k + 1, ads, by omega, by go_num, by rw [hst, List.length_set]; exact Flow.ownsRow_chg RO.out hC (fun j hj e1 => own_ne_blk RO.out KA.out (by decide) (by rw [hj, e1])), by rw [hst]; exact hPP, by rw [hst]; exact hEE, BB.out.trans (hC.below (fun j _ e1 => by omega) BB.out.size)⟩
                case measure => simp [intOf]; omega
              · have HQ := Flow.hide (show ¬ (0 < r.en ∧ (e.en = 0 ∨ r.en < e.en)) from fun c => c.2.elim he0 hlt4)
                refine Flow.wp_region_all (by kernel_rfl) (by kernel_rfl) ?_
                repeat (first
                  | (refine Flow.wpSeg_step (fun K' hK' => ?_)
                     go_simp
                     first
                       | (refine hK' _ ?_; clear hK' K')
                       | (apply Exists.intro
                          refine ⟨fun p => ?_, hK' _ ?_⟩
                          (first | fail)
                          clear hK' K')))
                refine Flow.wpSeg_nil ?_
                intro w20 hb20
                clear rG rA
                have HB20 := Flow.hide hb20
                clear hb20
                go_wp2_with fail
                go_roundw
                case rel =>
                  have hst : refFrom [] (l.take (k + 1)) = all := by rw [HST.out, upd_late _ _ HQ.out, set_same HI.out]
                  exact ⟨k + 1, ads, by omega, by go_num, by rw [hst]; exact Flow.ownsRow_chg RO.out (Flow.Chg.of_below HB20.out) (fun _ _ e => e), by rw [hst]; exact PP.out.below HB20.out, by rw [hst]; exact EE.out.below HB20.out, BB.out.trans (HB20.out.mono BB.out.size)⟩
                case measure => simp [intOf]; omega
          · have HQ := Flow.hide (show ¬ (0 < r.en ∧ (e.en = 0 ∨ r.en < e.en)) from fun c => hen c.1)
            refine Flow.wp_region_all (by kernel_rfl) (by kernel_rfl) ?_
            repeat (first
              | (refine Flow.wpSeg_step (fun K' hK' => ?_)
                 go_simp
                 first
                   | (refine hK' _ ?_; clear hK' K')
                   | (apply Exists.intro
                      refine ⟨fun p => ?_, hK' _ ?_⟩
                      (first | fail)
                      clear hK' K')))
            refine Flow.wpSeg_nil ?_
            intro w20 hb20
            clear rG rA
            have HB20 := Flow.hide hb20
            clear hb20
            go_wp2_with fail
            go_roundw
            case rel =>
              have hst : refFrom [] (l.take (k + 1)) = all := by rw [HST.out, upd_late _ _ HQ.out, set_same HI.out]
              exact ⟨k + 1, ads, by omega, by go_num, by rw [hst]; exact Flow.ownsRow_chg RO.out (Flow.Chg.of_below HB20.out) (fun _ _ e => e), by rw [hst]; exact PP.out.below HB20.out, by rw [hst]; exact EE.out.below HB20.out, BB.out.trans (HB20.out.mono BB.out.size)⟩
            case measure => simp [intOf]; omega
      · have HRF := Flow.hide hr
        clear hr
        go_upto_region 6 with fail
        iterate 2 go_step
        refine wp_load_row 111 _ rfl g8 rfl 111 #[.int .u8 r.nd, .int .u32 r.ss, .int .u32 r.sq, .int .i64 5, .int .i64 r.ky, .string ⟨#[]⟩, .bool false, .string ⟨#[]⟩, .int .i64 r.op, .int .i64 r.st, .int .i64 r.en, .int .i64 r.er, .bool false, .string ⟨#[]⟩, .int .u32 r.an, .int .u8 0, .int .u8 0, .bool r.wr] (0, 0) _ KK2.out Try.underlying111 rfl e2 ?_
        clear e2
        go_wp2_with fail
        (with_reducible refine (refused60 r _).mono ?_)
        rw [HRF.out]
        rintro e w3 ⟨rfl, hb3⟩
        have HB3 := Flow.hide hb3
        clear hb3 q8 z8
        go_wp2_with fail
        go_roundw
        case rel =>
          have hst := (refFrom_at HX.out).trans ((stepE_refused HRF.out).trans HALL.out)
          exact ⟨k + 1, ads, by omega, by go_num, by rw [hst]; exact Flow.ownsRow_chg HO2.out (Flow.Chg.of_below HB3.out) (fun _ _ e => e), by rw [hst]; exact HP2.out.below HB3.out, by rw [hst]; exact HE2.out.below HB3.out, HB2.out.trans (HB3.out.mono HB2.out.size)⟩
        case measure => simp [intOf]; omega
    · obtain rfl : n = k := by omega
      have hal : refFrom [] l = all := by rw [← HALL.out, List.take_of_length_le (by have := HL.out; omega)]
      have hlen : all.length ≤ 30 := by
        have h1 := refFrom_length l []
        rw [hal] at h1
        have h2 := HN.out
        have h3 := HL.out
        omega
      have HAL := Flow.hide hal
      have HLEN := Flow.hide hlen
      have hlenI : (all.length : Int) ≤ 30 := by omega
      clear hal hlen
      go_wp2_with fail
      go_loopw [12, 94] (fun t12 t94 wx => ∃ (j : Nat) (out : List Rc), j ≤ all.length ∧ t94 = .int .i64 j ∧ wx.ownsRow wr.heap.size 118 15 t12 out.length (rowsOf Rc.ecells out) ∧ out = (all.take j).filter (fun e => e.ky == key) ∧ Below wr.heap.size wr wx) (fun _ t94 _ => 30 - (intOf t94).toNat)
      case atStart => exact ⟨0, [], by omega, rfl, World.ownsRow_nil _ _ _ _, by simp, Below.refl _ _⟩
      case round =>
        obtain ⟨j, out, hj, rfl, hout, hfil, hbx⟩ := hrel
        obtain ⟨A12, cap12, hv12, _⟩ := Flow.ownsRow_form hout
        subst hv12
        have HO12 := Flow.hide hout
        have HF := Flow.hide hfil
        have HBX := Flow.hide hbx
        clear hout hfil hbx
        by_cases hlt2 : j < all.length
        · have hlt2I : (j : Int) < (all.length : Int) := by omega
          obtain ⟨e, he⟩ : ∃ e, all[j]? = some e := ⟨_, List.getElem?_eq_getElem hlt2⟩
          obtain ⟨a, ha⟩ : ∃ a, ads[j]? = some a := ⟨_, List.getElem?_eq_getElem (by have := HE.out.1; omega)⟩
          have HEJ := Flow.hide he
          have KA := Flow.hide ((HE.out.2.2.2 j e a he ha).below HBX.out)
          have ROX := Flow.ownsRow_chg HO.out (Flow.Chg.of_below HBX.out) (fun _ _ e => e)
          obtain ⟨g5, c5, e5, hg5, z5⟩ := row_ptr ROX ha HE.out.1
          simp only [Value.slice.injEq] at e5
          obtain ⟨rfl, _, rfl⟩ := e5
          have qA := KA.out.cell
          have zA := KA.out.lt
          clear he ha ROX
          have hstep : all.take (j + 1) = all.take j ++ [e] := by rw [List.take_add_one, HEJ.out]; rfl
          have HST := Flow.hide hstep
          clear hstep
          by_cases hk : e.ky = key
          · have HKE := Flow.hide hk
            have hol : out.length ≤ 1000 := by
              have h1 := List.length_filter_le (fun e : Rc => e.ky == key) (all.take j)
              rw [← HF.out, List.length_take] at h1
              have h2 := HLEN.out
              omega
            obtain ⟨K8, hh8, _⟩ := Flow.laid1 (w := wr) (w1 := wr.alloc (.cells #[.int .i64 5, .int .i64 e.ky, .string ⟨#[]⟩, .bool false, .string ⟨#[]⟩, .int .i64 e.op, .int .i64 e.st, .int .i64 e.en, .int .i64 e.er, .bool false, .string ⟨#[]⟩, .int .u32 e.an, .int .u8 0, .int .u8 0, .bool e.wr] 118)) (Below.refl _ _)
            obtain ⟨v9, w9, hr9, ho9', hb9, hc9⟩ := append_ec (cp := 1) (Flow.ownsRow_chg HO12.out (Flow.Chg.of_below hh8) (fun _ _ e => e)) e _ K8 hol (Nat.le_trans HBX.out.size hh8.size)
            have HR9 := Flow.hide hr9
            have HO9 := Flow.hide ho9'
            have HB9 := Flow.hide ((HBX.out.trans (hh8.mono HBX.out.size)).trans hb9)
            clear K8 hh8 hr9 ho9' hb9 hc9 hol
            have e2 : (Try.prog.info? 118).map (·.size) = some (#[.int .i64 5, .int .i64 e.ky, .string ⟨#[]⟩, .bool false, .string ⟨#[]⟩, .int .i64 e.op, .int .i64 e.st, .int .i64 e.en, .int .i64 e.er, .bool false, .string ⟨#[]⟩, .int .u32 e.an, .int .u8 0, .int .u8 0, .bool e.wr] : Array Value).size := by kernel_rfl
            go_upto_region 21 with fail
            clear hk
            iterate 11 go_step
            refine wp_load_row 118 _ rfl a rfl 118 #[.int .i64 5, .int .i64 e.ky, .string ⟨#[]⟩, .bool false, .string ⟨#[]⟩, .int .i64 e.op, .int .i64 e.st, .int .i64 e.en, .int .i64 e.er, .bool false, .string ⟨#[]⟩, .int .u32 e.an, .int .u8 0, .int .u8 0, .bool e.wr] (0, 0) _ KA.out Try.underlying118 rfl e2 ?_
            clear e2 qA zA z5
            go_wp2_with (at_builtin; refine Flow.wpList_append_run _ _ 114 rfl rfl rfl rfl HR9.out ?_)
            go_roundw
            case rel => exact ⟨j + 1, out ++ [e], by omega, by go_num, by rw [List.length_append]; exact HO9.out, by rw [HST.out, List.filter_append, ← HF.out]; simp [HKE.out], HB9.out⟩
            case measure => simp [intOf]; omega
          · have HKE := Flow.hide hk
            go_wp2_with fail
            go_roundw
            case rel => exact ⟨j + 1, out, by omega, by go_num, HO12.out, by rw [HST.out, List.filter_append, ← HF.out]; simp [HKE.out], HBX.out⟩
            case measure => simp [intOf]; omega
        · obtain rfl : j = all.length := by omega
          have hs : out = refOf l key := by
            rw [HF.out, List.take_length]
            unfold refOf
            rw [HAL.out]
          have HSS := Flow.hide hs
          clear hs
          go_wp2_with fail
          go_ret
          exact ⟨⟨_, rfl, by rw [← HSS.out]; exact own_base HO12.out HB.out.size⟩, HB.out.trans (HBX.out.mono HB.out.size)⟩
end Go.Proofs.Ythkphapmnlndbab
