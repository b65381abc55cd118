/- CrcSums: for every list of texts and every text the law returns true. No condition. -/
import Derived.Test.YthkphapmnlndbaaRows
import Derived.Test.YthkphapmnlndbaaCrcSpeaks
import Derived.Test.YthkphapmnlndbaaRefCrc
import Derived.Test.YthkphapmnlndbaaOpen2
import Derived.Deep.DeepCutAuto
import Derived.Deep.CutBlock
import Derived.Laws.AppendOwn
namespace Go.Proofs.Ythkphapmnlndbaa.CSums
open Go.ChangeShapes Go.WideShapes Go.ChangeAt Go.RowKit Go.ChangeMaps CrcPlain
set_option maxHeartbeats 1000000
set_option linter.unusedSimpArgs false
attribute [local irreducible] Flow.wpSeg Flow.wpF Flow.wpG Flow.wpS Flow.wpT
theorem info9 : (Try.prog.info? 9).map (fun i => (i.zero, i.size, i.bytes)) = some (some (.string ⟨#[]⟩), 1, 16) := by kernel_rfl
/-- A slice of the call's own reads as texts. -/
theorem rd_of_own {w : World} {base n : Nat} {v : Value} {l : List ByteArray} (h : w.ownsRow base 9 1 v n (l.map Value.string)) (hl : l.length = n) :
    ∃ A cap, v = .slice A n cap ∧ n ≤ cap ∧ RdStr w.heap.size w A n l := by
  rcases Nat.eq_zero_or_pos n with rfl | hn
  · obtain ⟨A, cap, rfl, hc, _⟩ := Flow.ownsRow_form h
    exact ⟨A, cap, rfl, hc, hl, fun h => by omega⟩
  · obtain ⟨g, cap, rfl, hb, hlt, hc, hcell, _⟩ := Flow.ownsRow_at h hn
    refine ⟨_, cap, rfl, hc, hl, fun _ => ⟨g, 0, rfl, hlt, fun i s hs => ?_⟩⟩
    have hi : i < n := by rw [← hl]; exact (List.getElem?_eq_some_iff.1 hs).1
    rw [Nat.zero_add, hcell i (by omega), List.getElem?_map, hs]; rfl
theorem news1 (w : World) (v : Value) (t : TypeId) : ∀ j u, ([v] : List Value)[j]? = some u → (w.alloc (.cells #[v] t)).cell? ((⟨w.heap.size, 0, none⟩ : Addr).add j) = some u := by
  intro j u hj
  match j, hj with
  | 0, hj => simp at hj; subst hj; simp [Addr.add]
/-- The texts that came in. -/
def Texts (w : World) (A : Option Addr) (n : Nat) (x : Nat → ByteArray) : Prop :=
  0 < n → ∃ g off, A = some ⟨g, off, none⟩ ∧ g < w.heap.size ∧ ∀ i, i < n → w.cell? ⟨g, off + i, none⟩ = some (.string (x i)) ∧ (x i).size ≤ maxLen
theorem texts_of {H : Type} {enc : TypeId × Value → H} {base : Nat} {spare : Nat → Bool} {held : Bool} {w : World} {A : Option Addr} {n : Nat} (h : 0 < n → ∃ g off, A = some ⟨g, off, none⟩ ∧ g < w.heap.size ∧
    ∀ i, i < n → ∀ (j : Nat) (s : Open.Shp), ([.str] : List Open.Shp)[j]? = some s → ∃ u, w.cell? ⟨g, off + (i * ([.str] : List Open.Shp).length + j), none⟩ = some u ∧ Open.CellOk enc Try.prog w base spare held s u) :
    ∃ x, Texts w A n x := by
  rcases Nat.eq_zero_or_pos n with h0 | h0
  · exact ⟨fun _ => ⟨#[]⟩, fun hn => by omega⟩
  · obtain ⟨g, off, rfl, hg, hc⟩ := h h0
    have hx : ∀ i, i < n → ∃ y : ByteArray, w.cell? ⟨g, off + i, none⟩ = some (.string y) ∧ y.size ≤ maxLen := by
      intro i hi
      obtain ⟨u0, e0, a0, rfl, w0⟩ := hc i hi 0 _ rfl
      have e : off + (i * ([.str] : List Open.Shp).length + 0) = off + i := by simp
      rw [e] at e0
      exact ⟨a0, e0, w0⟩
    have : Inhabited ByteArray := ⟨⟨#[]⟩⟩
    obtain ⟨f, hf⟩ := Deep.choose_lt hx
    exact ⟨f, fun _ => ⟨g, off, rfl, hg, hf⟩⟩
theorem cat_size (l : List ByteArray) (m : Nat) (h : ∀ s ∈ l, s.size ≤ m) : (cat l).length ≤ l.length * m := by
  induction l with
  | nil => simp [cat]
  | cons s l ih =>
    have h1 := ih (fun t ht => h t (by simp [ht]))
    have h2 := h s (by simp)
    have : cat (s :: l) = bs s ++ cat l := by simp [cat]
    rw [this, List.length_append, bs_length, List.length_cons, Nat.add_mul]
    omega
set_option maxRecDepth 20000 in
theorem walk (AA : Option Addr) (len cap : Nat) (x : Nat → ByteArray) (s : ByteArray) (w : World) (hlen : len ≤ maxLen) (hx : Texts w AA len x) (hs : s.size ≤ maxLen) :
    Calls Try.prog 3 #[.slice AA len cap, .string s] w fun e w' => e = .returned (.bool true) ∧ Below w.heap.size w w' := by
  unfold maxLen at hs hlen
  have HX := Flow.hide hx
  clear hx
  obtain ⟨i0, hi, hz0, hz1, hz2⟩ := info_parts info9
  go_enter Try.func3, Try.ntmps3
  go_upto_region 3 with ((refine (speaks02 _).mono ?_; rintro e w1 ⟨rfl, b1⟩))
  have B1 := Flow.hide b1
  clear b1
  go_cut [1] (fun s0 wx => ∃ t : ByteArray, s0 = .string t ∧ t.size ≤ 100 ∧ Below w.heap.size w wx)
  case first =>
    by_cases h : 100 < s.size
    · go_wp2_with fail
      go_meet
      exact ⟨_, rfl, by rw [ByteArray.size_extract]; omega, B1.out⟩
    · go_wp2_with fail
      go_meet
      exact ⟨_, rfl, by omega, B1.out⟩
  case rest =>
    obtain ⟨t, rfl, ht, hb0⟩ := hcut
    have B0 := Flow.hide hb0
    clear hb0 B1 hs
    go_wp2_with fail
    go_loopw [5, 6, 7] (fun t5 t6 t7 wr => ∃ (k : Nat) (l : List ByteArray) (all : ByteArray), k ≤ len ∧ k ≤ 8 ∧ t7 = .int .i64 k ∧ t5 = .string all ∧ bs all = cat l ∧ l.length = k ∧ (∀ s ∈ l, s.size ≤ 40) ∧ wr.ownsRow w.heap.size 9 1 t6 k (l.map Value.string) ∧ Below w.heap.size w wr) (fun _ _ t7 _ => len - (intOf t7).toNat)
    case atStart => exact ⟨0, [], ⟨#[]⟩, by omega, by omega, rfl, rfl, rfl, rfl, by simp, World.ownsRow_nil _ _ _ _, B0.out⟩
    case round =>
      obtain ⟨k, l, all, hk, hk8, rfl, rfl, hall, hll, hl40, hown, hb⟩ := hrel
      have HALL := Flow.hide hall
      have HL := Flow.hide hll
      have H40 := Flow.hide hl40
      have HO := Flow.hide hown
      have HB := Flow.hide hb
      have hasz : all.size ≤ 320 := by
        rw [← bs_length, hall]
        exact Nat.le_trans (cat_size l 40 hl40) (by rw [hll]; omega)
      clear hall hll hl40 hown hb B0
      by_cases hlt : k < len
      · by_cases hlt8 : k < 8
        · obtain ⟨g, off, rfl, hg, hc⟩ := HX.out (by omega)
          obtain ⟨hck, hcs⟩ := hc k hlt
          generalize x k = y at *
          unfold maxLen at hcs
          have hcw : wr.cell? ⟨g, off + k, none⟩ = some (.string y) := (HB.out.cell (p := ⟨g, off + k, none⟩) hg).trans hck
          have rx : ∀ p : Flow.Rg, (Flow.rg wr p).cell? ⟨g, off + k, none⟩ = some (.string y) := fun p => ((Flow.rg_below wr p).cell (p := ⟨g, off + k, none⟩) (Nat.lt_of_lt_of_le hg HB.out.size)).trans hcw
          have hklen : (k : Int) < (len : Int) := by omega
          have hbs : w.heap.size ≤ wr.heap.size := HB.out.size
          clear hc hck hcw
          go_upto_region 9 with fail
          by_cases h40 : 40 < y.size
          · have h40i : (40 : Int) < (y.size : Int) := by omega
            have h40j : (40 : Int) ≤ (y.size : Int) := by omega
            have h40k : 40 ≤ y.size := by omega
            refine Flow.wp_region_all (by kernel_rfl) (by kernel_rfl) ?_
            repeat (first
              | (refine Flow.wpSeg_step (fun K' hK' => ?_)
                 go_simp
                 first
                   | (refine hK' _ ?_; clear hK' K')
                   | (apply Exists.intro
                      refine ⟨fun p => ?_, hK' _ ?_⟩
                      (first | fail)
                      clear hK' K')))
            refine Flow.wpSeg_nil ?_
            intro w' hb'
            obtain ⟨z, hze⟩ : ∃ z, z = y.extract 0 40 := ⟨_, rfl⟩
            rw [← hze]
            have hz40 : z.size ≤ 40 := by rw [hze, ByteArray.size_extract]; omega
            clear hze
            have HW : Hid (w.heap.size ≤ w'.heap.size) := Nat.le_trans hbs hb'.size
            have HOW := Flow.hide (Flow.ownsRow_chg HO.out (Flow.Chg.of_below hb') (fun _ _ e => e))
            have HBW := Flow.hide (HB.out.trans (hb'.mono hbs))
            clear rx hb' HO HB hbs hcs
            go_wp2_with (at_builtin; refine wpList_append_own _ rfl _ _ 22 rfl w.heap.size 9 i0 _ 1 16 Try.underlying22 hi hz0 hz1 hz2 rfl (by decide) _ _ _ rfl (HOW.out.alloc _) ⟨w'.heap.size, 0, none⟩ 1 1 [.string z] rfl rfl (news1 _ _ _) (fun u hu => by simp at hu; subst hu; rfl) ?c3 ?c4 ?c5 ?_)
            case c3 => unfold maxLen; omega
            case c4 => omega
            case c5 => have := HW.out; simp; omega
            intro v' w2 hown2 hgr _
            have hne : ∀ j, u6.ownBlock = some j → w.heap.size ≤ j := fun j hj => (HOW.out.lt j hj).1
            have hO2 : w2.ownsRow w.heap.size 9 1 v' (k + 1) ((l ++ [z]).map Value.string) := by rw [List.map_append]; exact hown2
            have HO2 := Flow.hide hO2
            have B2 : Hid (Below w.heap.size w w2) := (HBW.out.alloc HW.out _).trans ((Flow.Chg.of_grown hgr).below (fun j _ e => hne j e.symm) (by have := HW.out; simp; omega))
            clear hown2 hgr hne hO2 HOW HBW
            go_wp2_with fail
            go_roundw
            case rel =>
              refine ⟨k + 1, l ++ [z], all ++ z, by omega, by omega, by go_num, rfl, ?_, by rw [List.length_append, HL.out]; rfl, ?_, HO2.out, B2.out⟩
              · rw [bs_append, HALL.out, cat_snoc]
              · intro q hq
                rcases List.mem_append.1 hq with hq | hq
                · exact H40.out q hq
                · simp at hq; subst hq; exact hz40
            case measure => simp [intOf]; omega
          · have h40i : ¬ (40 : Int) < (y.size : Int) := by omega
            refine Flow.wp_region_all (by kernel_rfl) (by kernel_rfl) ?_
            repeat (first
              | (refine Flow.wpSeg_step (fun K' hK' => ?_)
                 go_simp
                 first
                   | (refine hK' _ ?_; clear hK' K')
                   | (apply Exists.intro
                      refine ⟨fun p => ?_, hK' _ ?_⟩
                      (first | fail)
                      clear hK' K')))
            refine Flow.wpSeg_nil ?_
            intro w' hb'
            obtain ⟨z, hze⟩ : ∃ z, z = y := ⟨_, rfl⟩
            rw [← hze]
            have hz40 : z.size ≤ 40 := by rw [hze]; omega
            clear hze
            have HW : Hid (w.heap.size ≤ w'.heap.size) := Nat.le_trans hbs hb'.size
            have HOW := Flow.hide (Flow.ownsRow_chg HO.out (Flow.Chg.of_below hb') (fun _ _ e => e))
            have HBW := Flow.hide (HB.out.trans (hb'.mono hbs))
            clear rx hb' HO HB hbs hcs
            go_wp2_with (at_builtin; refine wpList_append_own _ rfl _ _ 22 rfl w.heap.size 9 i0 _ 1 16 Try.underlying22 hi hz0 hz1 hz2 rfl (by decide) _ _ _ rfl (HOW.out.alloc _) ⟨w'.heap.size, 0, none⟩ 1 1 [.string z] rfl rfl (news1 _ _ _) (fun u hu => by simp at hu; subst hu; rfl) ?d3 ?d4 ?d5 ?_)
            case d3 => unfold maxLen; omega
            case d4 => omega
            case d5 => have := HW.out; simp; omega
            intro v' w2 hown2 hgr _
            have hne : ∀ j, u6.ownBlock = some j → w.heap.size ≤ j := fun j hj => (HOW.out.lt j hj).1
            have hO2 : w2.ownsRow w.heap.size 9 1 v' (k + 1) ((l ++ [z]).map Value.string) := by rw [List.map_append]; exact hown2
            have HO2 := Flow.hide hO2
            have B2 : Hid (Below w.heap.size w w2) := (HBW.out.alloc HW.out _).trans ((Flow.Chg.of_grown hgr).below (fun j _ e => hne j e.symm) (by have := HW.out; simp; omega))
            clear hown2 hgr hne hO2 HOW HBW
            go_wp2_with fail
            go_roundw
            case rel =>
              refine ⟨k + 1, l ++ [z], all ++ z, by omega, by omega, by go_num, rfl, ?_, by rw [List.length_append, HL.out]; rfl, ?_, HO2.out, B2.out⟩
              · rw [bs_append, HALL.out, cat_snoc]
              · intro q hq
                rcases List.mem_append.1 hq with hq | hq
                · exact H40.out q hq
                · simp at hq; subst hq; exact hz40
            case measure => simp [intOf]; omega
        · go_upto_region 12 with fail
          obtain ⟨A, cp, rfl, hcp, hrd⟩ := rd_of_own HO.out HL.out
          have HRD := Flow.hide hrd
          clear hrd HO
          obtain ⟨N, hN⟩ : ∃ N, N = crc (cat l) := ⟨_, rfl⟩
          have hN2 : N = crc (bs all) := by rw [HALL.out]; exact hN
          have e1 : ((N : Int) != (N : Int)) = false := by simp
          have HN := Flow.hide hN
          have HN2 := Flow.hide hN2
          clear hN hN2
          go_wp2_with fail
          refine (sum_any A k cp l _ HRD.out (by omega) (fun s hs => by have := H40.out s hs; omega)).mono ?_
          rintro e w3 ⟨rfl, rfl⟩
          rw [← HN.out]
          go_wp2_with fail
          refine (rsum_any all _ (by omega)).mono ?_
          rintro e w3 ⟨rfl, rfl⟩
          rw [← HN2.out]
          go_wp2_with fail
          refine (seal_any t _ (by omega)).mono ?_
          rintro e w3 ⟨rfl, hb3⟩
          obtain ⟨x, hx⟩ : ∃ x, x = txt (sealed (bs t)) := ⟨_, rfl⟩
          rw [← hx]
          have HXX := Flow.hide hx
          have B3 := Flow.hide (HB.out.trans (hb3.mono HB.out.size))
          have e2 : (x.toList == x.toList) = true := by rw [str_beq]; exact decide_eq_true rfl
          clear hx hb3 HRD HB
          go_wp2_with fail
          refine (rseal_any t _ (by omega)).mono ?_
          rintro e w4 ⟨rfl, hb4⟩
          rw [← HXX.out]
          have B4 := Flow.hide (B3.out.trans (hb4.mono B3.out.size))
          clear hb4 B3
          go_wp2_with fail
          by_cases h4 : t.size < 4
          · (with_reducible refine (open_short t _ h4).mono ?_)
            rintro e w5 ⟨rfl, hb5⟩
            have B5 := Flow.hide (B4.out.trans (hb5.mono B4.out.size))
            clear hb5 B4
            go_wp2_with fail
            go_ret
            exact ⟨rfl, B5.out⟩
          · have h4' : 4 ≤ t.size := by omega
            have hxz : (t.extract 0 (t.size - 4)).size ≤ 1000 := by rw [ByteArray.size_extract]; omega
            rcases hsd : isSealed t with _ | _
            · (with_reducible refine (open_no t _ h4' (by omega) hsd).mono ?_)
              rintro e w5 ⟨rfl, hb5⟩
              have B5 := Flow.hide (B4.out.trans (hb5.mono B4.out.size))
              have he : ¬ txt (sealed (bs (t.extract 0 (t.size - 4)))) = t := by
                rw [bs_extract t _ (by omega)]
                exact of_decide_eq_false hsd
              have e3 : ((txt (sealed (bs (t.extract 0 (t.size - 4))))).toList == t.toList) = false := by rw [str_beq]; exact decide_eq_false he
              have E3 := Flow.hide e3
              clear hb5 B4 hsd he e3
              go_wp2_with fail
              (with_reducible refine (rseal_any (t.extract 0 (t.size - 4)) _ hxz).mono ?_)
              rintro e w6 ⟨rfl, hb6⟩
              have B6 := Flow.hide (B5.out.trans (hb6.mono B5.out.size))
              have e3 := E3.out
              generalize txt (sealed (bs (t.extract 0 (t.size - 4)))) = y at *
              clear hb6 B5 E3
              go_wp2_with fail
              go_ret
              exact ⟨rfl, B6.out⟩
            · (with_reducible refine (open_yes t _ h4' (by omega) hsd).mono ?_)
              rintro e w5 ⟨rfl, hb5⟩
              have B5 := Flow.hide (B4.out.trans (hb5.mono B4.out.size))
              have he : txt (sealed (bs (t.extract 0 (t.size - 4)))) = t := by
                rw [bs_extract t _ (by omega)]
                exact of_decide_eq_true hsd
              have HE := Flow.hide he
              clear hb5 B4 hsd he
              go_wp2_with fail
              (with_reducible refine (rseal_any (t.extract 0 (t.size - 4)) _ hxz).mono ?_)
              rintro e w6 ⟨rfl, hb6⟩
              have B6 := Flow.hide (B5.out.trans (hb6.mono B5.out.size))
              rw [HE.out]
              have e3 : (t.toList == t.toList) = true := by rw [str_beq]; exact decide_eq_true rfl
              have e4 : ((t.extract 0 (t.size - 4)).toList == (t.extract 0 (t.size - 4)).toList) = true := by rw [str_beq]; exact decide_eq_true rfl
              clear hb6 B5 HE
              go_wp2_with fail
              go_ret
              exact ⟨rfl, B6.out⟩
      · go_upto_region 12 with fail
        obtain ⟨A, cp, rfl, hcp, hrd⟩ := rd_of_own HO.out HL.out
        have HRD := Flow.hide hrd
        clear hrd HO
        obtain ⟨N, hN⟩ : ∃ N, N = crc (cat l) := ⟨_, rfl⟩
        have hN2 : N = crc (bs all) := by rw [HALL.out]; exact hN
        have e1 : ((N : Int) != (N : Int)) = false := by simp
        have HN := Flow.hide hN
        have HN2 := Flow.hide hN2
        clear hN hN2
        go_wp2_with fail
        refine (sum_any A k cp l _ HRD.out (by omega) (fun s hs => by have := H40.out s hs; omega)).mono ?_
        rintro e w3 ⟨rfl, rfl⟩
        rw [← HN.out]
        go_wp2_with fail
        refine (rsum_any all _ (by omega)).mono ?_
        rintro e w3 ⟨rfl, rfl⟩
        rw [← HN2.out]
        go_wp2_with fail
        refine (seal_any t _ (by omega)).mono ?_
        rintro e w3 ⟨rfl, hb3⟩
        obtain ⟨x, hx⟩ : ∃ x, x = txt (sealed (bs t)) := ⟨_, rfl⟩
        rw [← hx]
        have HXX := Flow.hide hx
        have B3 := Flow.hide (HB.out.trans (hb3.mono HB.out.size))
        have e2 : (x.toList == x.toList) = true := by rw [str_beq]; exact decide_eq_true rfl
        clear hx hb3 HRD HB
        go_wp2_with fail
        refine (rseal_any t _ (by omega)).mono ?_
        rintro e w4 ⟨rfl, hb4⟩
        rw [← HXX.out]
        have B4 := Flow.hide (B3.out.trans (hb4.mono B3.out.size))
        clear hb4 B3
        go_wp2_with fail
        by_cases h4 : t.size < 4
        · (with_reducible refine (open_short t _ h4).mono ?_)
          rintro e w5 ⟨rfl, hb5⟩
          have B5 := Flow.hide (B4.out.trans (hb5.mono B4.out.size))
          clear hb5 B4
          go_wp2_with fail
          go_ret
          exact ⟨rfl, B5.out⟩
        · have h4' : 4 ≤ t.size := by omega
          have hxz : (t.extract 0 (t.size - 4)).size ≤ 1000 := by rw [ByteArray.size_extract]; omega
          rcases hsd : isSealed t with _ | _
          · (with_reducible refine (open_no t _ h4' (by omega) hsd).mono ?_)
            rintro e w5 ⟨rfl, hb5⟩
            have B5 := Flow.hide (B4.out.trans (hb5.mono B4.out.size))
            have he : ¬ txt (sealed (bs (t.extract 0 (t.size - 4)))) = t := by
              rw [bs_extract t _ (by omega)]
              exact of_decide_eq_false hsd
            have e3 : ((txt (sealed (bs (t.extract 0 (t.size - 4))))).toList == t.toList) = false := by rw [str_beq]; exact decide_eq_false he
            have E3 := Flow.hide e3
            clear hb5 B4 hsd he e3
            go_wp2_with fail
            (with_reducible refine (rseal_any (t.extract 0 (t.size - 4)) _ hxz).mono ?_)
            rintro e w6 ⟨rfl, hb6⟩
            have B6 := Flow.hide (B5.out.trans (hb6.mono B5.out.size))
            have e3 := E3.out
            generalize txt (sealed (bs (t.extract 0 (t.size - 4)))) = y at *
            clear hb6 B5 E3
            go_wp2_with fail
            go_ret
            exact ⟨rfl, B6.out⟩
          · (with_reducible refine (open_yes t _ h4' (by omega) hsd).mono ?_)
            rintro e w5 ⟨rfl, hb5⟩
            have B5 := Flow.hide (B4.out.trans (hb5.mono B4.out.size))
            have he : txt (sealed (bs (t.extract 0 (t.size - 4)))) = t := by
              rw [bs_extract t _ (by omega)]
              exact of_decide_eq_true hsd
            have HE := Flow.hide he
            clear hb5 B4 hsd he
            go_wp2_with fail
            (with_reducible refine (rseal_any (t.extract 0 (t.size - 4)) _ hxz).mono ?_)
            rintro e w6 ⟨rfl, hb6⟩
            have B6 := Flow.hide (B5.out.trans (hb6.mono B5.out.size))
            rw [HE.out]
            have e3 : (t.toList == t.toList) = true := by rw [str_beq]; exact decide_eq_true rfl
            have e4 : ((t.extract 0 (t.size - 4)).toList == (t.extract 0 (t.size - 4)).toList) = true := by rw [str_beq]; exact decide_eq_true rfl
            clear hb6 B5 HE
            go_wp2_with fail
            go_ret
            exact ⟨rfl, B6.out⟩

theorem own : ownKnob Try.prog.godebug = none := by kernel_rfl
theorem laidOut : laidOutB Try.prog = true := by kernel_rfl

set_option maxRecDepth 100000 in
theorem lifted (os : Os) (started : os.Started) (H : Type) (enc : TypeId × Value → H) :
    ReturnsInHanded {} Try.checked os 3 .any (Rows.crcSumsSpec.pre6 enc Try.prog Try.f3 Rows.crcSumsRow.domain false) (Rows.crcSumsSpec.post enc Try.prog Try.f3 false true false false) := by
  refine returnsInHanded_of_change (C := Try.checked) own started (by kernel_rfl) Try.func3
    (ChangeSpec.witness6 (enc := enc) (C := Try.checked) false ⟨#[], #[.slice none 0 0, .string ⟨#[]⟩], []⟩ 8 (by kernel_rfl) (by kernel_rfl) (by kernel_rfl) (by kernel_rfl)) ?_
  intro W base args ds gs before hval0 hW hcnd _
  have hval : ∀ (j : Nat) t v, Try.f3.params[j]? = some t → args[j]? = some v → Value.okWide Try.prog W .any base t v := hval0
  have hW' := hW
  obtain ⟨p, q, hA0, hV, rfl, hfz, hnd⟩ := hW
  have hA : DataW.TrodAll enc Try.prog W 0 (fun _ => true) true Try.f3.params.toList args.toList ds p := hA0
  rw [Try.params3] at hA hval
  obtain ⟨v0, v1, d0, d1, p0, p1, hargs, rfl, rfl, h0, h1⟩ := trodAll_two hA
  obtain ⟨rfl, rfl⟩ := trodVars_none hV
  subst hargs
  obtain ⟨A0, n0, cp0, rfl, hl0, _, hr0⟩ := Open.open_rows_arg 30 (ss := [.str]) Try.underlying22 (by kernel_rfl) (by decide) (by kernel_rfl) (hval 0 22 v0 rfl rfl) h0
  obtain ⟨x0, hx0⟩ := texts_of hr0
  obtain ⟨s1, rfl, rfl, rfl, hls1⟩ := open_string Try.underlying9 (hval 1 9 v1 rfl rfl) h1
  clear hA0 hval0
  refine (walk A0 n0 cp0 x0 s1 W hl0 hx0 hls1).mono fun e W' ⟨he, hb⟩ => ?_
  subst he
  exact ⟨_, rfl, Open.law_post laidOut (by kernel_rfl) (by kernel_rfl) Try.underlying4 rfl rfl hW' hb⟩

theorem over : Rows.crcSumsRow.holds Try.pinned (OpenSpec.ofChange Rows.crcSumsSpec) :=
  OpenClaim.holds_of_wide 3 Try.f3 rfl rfl rfl rfl rfl rfl rfl ⟨rfl, rfl, rfl, rfl, rfl⟩ rfl rfl rfl rfl rfl (by kernel_rfl) Try.func3 (by kernel_rfl)
    (of_decide_eq_true (by kernel_rfl)) (by unfold Func.isWrapper; first | (rw [if_pos (by decide +kernel)]; kernel_rfl) | (rw [if_neg (by decide +kernel)]; exact ⟨rfl, rfl⟩))
    (fun os started H enc _ => lifted os started H enc)

theorem proved : Rows.CrcSumsSaid := over
#print axioms proved
end Go.Proofs.Ythkphapmnlndbaa.CSums
