/- Package bag: Spoil; the document's Take, Spoil and First; the statements' first helper. -/
import Derived.Test.YthkphapmnlndbaaBag2
import Derived.Test.YthkphapmnlndbaaRefCrc
import Derived.Deep.DeepCutAuto
import Derived.Deep.CutBlock
namespace Go.Proofs.Ythkphapmnlndbaa
open Go.RowKit CrcPlain
set_option maxHeartbeats 800000
set_option linter.unusedSimpArgs false
attribute [local irreducible] Flow.wpSeg Flow.wpF Flow.wpG Flow.wpS Flow.wpT Flow.wpK
/-- The text with its bits turned. -/
noncomputable def turnTo (s : ByteArray) (at_ : Int) (b : Nat) : ByteArray := Classical.epsilon (fun y => Turned (msk s.size at_ b) (bs s) (bs y))
theorem turnTo_of {s y : ByteArray} {at_ : Int} {b : Nat} (h : Turned (msk s.size at_ b) (bs s) (bs y)) : y = turnTo s at_ b ∧ Turned (msk s.size at_ b) (bs s) (bs (turnTo s at_ b)) := by
  have h2 : Turned (msk s.size at_ b) (bs s) (bs (turnTo s at_ b)) := Classical.epsilon_spec (p := fun y => Turned (msk s.size at_ b) (bs s) (bs y)) ⟨y, h⟩
  exact ⟨bs_inj (h.unique h2), h2⟩
theorem turn_is (s : ByteArray) (at_ : Int) (b : Nat) (w : World) (hs : s.size ≤ 1004) (ha : -9223372036854775808 ≤ at_ ∧ at_ ≤ 9223372036854775807) (hb : b < 4294967296) :
    Calls Try.prog 21 #[.string s, .int .i64 at_, .int .u32 (b : Int)] w fun e w' => e = .returned (.string (turnTo s at_ b)) ∧ Turned (msk s.size at_ b) (bs s) (bs (turnTo s at_ b)) ∧ Below w.heap.size w w' :=
  (turn_any s at_ b w hs ha hb).mono fun e w' ⟨⟨y, he, hy⟩, hb⟩ => ⟨by rw [he, (turnTo_of hy).1], (turnTo_of hy).2, hb⟩
theorem rturn_is (s : ByteArray) (at_ : Int) (b : Nat) (w : World) (hs : s.size ≤ 1004) (ha : -9223372036854775808 ≤ at_ ∧ at_ ≤ 9223372036854775807) (hb : b < 4294967296) :
    Calls Try.prog 22 #[.string s, .int .i64 at_, .int .u32 (b : Int)] w fun e w' => e = .returned (.string (turnTo s at_ b)) ∧ Below w.heap.size w w' :=
  (rturn_any s at_ b w hs ha hb).mono fun e w' ⟨⟨y, he, hy⟩, hb⟩ => ⟨by rw [he, (turnTo_of hy).1], hb⟩
noncomputable def Th.turn (c : Th) (at_ : Int) (b : Nat) : Th := ⟨c.to, turnTo c.text at_ b, true⟩
theorem bspoil_yes (g B : Nat) (room : Int) (l : List Th) (i : Nat) (c : Th) (at_ : Int) (b : Nat) (w : World) (hq : IsBag w B g room l) (hc : l[i]? = some c) (hsp : c.sp = false) (hz : c.text.size ≤ 1004) (ha : -9223372036854775808 ≤ at_ ∧ at_ ≤ 9223372036854775807) (hbb : b < 4294967296) (hB : B ≤ w.heap.size) :
    Calls Try.prog 28 #[.pointer (some ⟨g, 0, none⟩), .int .i64 (i : Int), .int .i64 at_, .int .u32 (b : Int)] w fun e w' => e = .returned (.bool true) ∧ Turned (msk c.text.size at_ b) (bs c.text) (bs (turnTo c.text at_ b)) ∧ IsBag w' B g room (l.set i (c.turn at_ b)) ∧ Below B w w' ∧ Flow.Chg (BF w) w w' := by
  have H := Flow.hide hq
  have HA := Flow.hide ha
  have HBB := Flow.hide hbb
  have HC := Flow.hide hc
  have hi : i < l.length := (List.getElem?_eq_some_iff.1 hc).1
  have hiI : (i : Int) < (l.length : Int) := by omega
  obtain ⟨v, h1, h2, h3⟩ := hq
  obtain ⟨gr, cap, hv, hBr, hgr, _, y0, y1, y2⟩ := RowT.at_ h2 rfl hc
  subst hv
  have hft := Flow.hide (show ∀ w', Flow.Chg (· = gr) w w' → Flow.Chg (BF w) w w' from fun w' hc => hc.mono (fun j _ e => Ft.row h2 (by decide) (by rw [e]; rfl)))
  rw [hsp] at y2
  have K1 := Flow.hide h1
  have R1 := Flow.hide h2
  have HG := Flow.hide h3
  have hng := Flow.hide (show gr ≠ g from Bag.row_ne h2 h1 (by decide) gr rfl)
  have c1 := h1.cell
  have HSP := Flow.hide hsp
  have HZ := Flow.hide hz
  clear h1 h2 h3 hc hsp ha hbb hz
  go_enter Try.func28, Try.ntmps28
  go_wp2_with fail
  (with_reducible refine (has_yes g B room l i _ H.out hi).mono ?_)
  rintro e w1 ⟨rfl, rfl⟩
  go_wp2_with fail
  (with_reducible refine (turn_is c.text at_ b _ HZ.out HA.out HBB.out).mono ?_)
  rintro e w1 ⟨rfl, ht, hb1⟩
  have HT := Flow.hide ht
  have R2 := Flow.ownsRow_chg R1.out (Flow.Chg.of_below hb1) (fun _ _ e => e)
  have K2 := Flow.hide (K1.out.below hb1)
  have HB1 := Flow.hide hb1
  obtain ⟨g2, cap2, e2, _, hgr2, _, z0, z1, z2⟩ := RowT.at_ R2 rfl HC.out
  simp only [Value.slice.injEq, Option.some.injEq, Addr.mk.injEq] at e2
  obtain ⟨⟨rfl, _, _⟩, _, rfl⟩ := e2
  have f2 := R2.frozenAt
  have hne1 : (i * 3 + 1) ≠ (i * 3 + 2) := by omega
  have R2' := Flow.hide R2
  clear ht hb1 y0 y1 y2 c1 R2
  go_wp2_with fail
  obtain ⟨r3, g3⟩ := R2'.out.stored (i * 3 + 1) (.string (turnTo c.text at_ b))
  obtain ⟨r4, g4⟩ := r3.stored (i * 3 + 2) (.bool true)
  have C3 := Flow.Chg.of_grown1 g3
  have C4 := C3.trans (Flow.Chg.of_grown1 g4) (fun _ _ e => e)
  have hx := xsT_set l i c (c.turn at_ b) HC.out rfl
  simp only [Th.turn] at hx
  rw [hx] at r4
  go_ret
  refine ⟨rfl, HT.out, ⟨.slice (some ⟨gr, 0, none⟩) l.length cap, K2.out.chg C4 (fun e => hng.out e.symm), by rw [List.length_set]; exact r4, HG.out⟩, (HB1.out.mono hB).trans (C4.below (fun j _ e => by rw [e]; exact hBr) (Nat.le_trans hB HB1.out.size)), hft.out _ (((Flow.Chg.of_below HB1.out).mono (fun _ _ e => e.elim)).trans C4 (fun _ _ e => e))⟩
theorem bspoil_spoilt (g B : Nat) (room : Int) (l : List Th) (i : Nat) (c : Th) (at_ b : Int) (w : World) (hq : IsBag w B g room l) (hc : l[i]? = some c) (hsp : c.sp = true) :
    Calls Try.prog 28 #[.pointer (some ⟨g, 0, none⟩), .int .i64 (i : Int), .int .i64 at_, .int .u32 b] w fun e w' => e = .returned (.bool false) ∧ w = w' := by
  have H := Flow.hide hq
  have hi : i < l.length := (List.getElem?_eq_some_iff.1 hc).1
  have hiI : (i : Int) < (l.length : Int) := by omega
  obtain ⟨v, h1, h2, h3⟩ := hq
  obtain ⟨gr, cap, hv, hBr, hgr, _, y0, y1, y2⟩ := RowT.at_ h2 rfl hc
  subst hv
  rw [hsp] at y2
  have c1 := h1.cell
  clear h1 h2 h3 hc hsp
  go_enter Try.func28, Try.ntmps28
  go_wp2_with fail
  (with_reducible refine (has_yes g B room l i _ H.out hi).mono ?_)
  rintro e w1 ⟨rfl, rfl⟩
  go_wp2_with fail
  go_ret
  exact ⟨rfl, rfl⟩
theorem bspoil_no (g B : Nat) (room : Int) (l : List Th) (i at_ b : Int) (w : World) (hq : IsBag w B g room l) (hi : ¬ (0 ≤ i ∧ i < l.length)) :
    Calls Try.prog 28 #[.pointer (some ⟨g, 0, none⟩), .int .i64 i, .int .i64 at_, .int .u32 b] w fun e w' => e = .returned (.bool false) ∧ w = w' := by
  have H := Flow.hide hq
  have HI := Flow.hide hi
  clear hq hi
  go_enter Try.func28, Try.ntmps28
  go_wp2_with fail
  (with_reducible refine (has_no g B room l i _ H.out (by have := HI.out; omega)).mono ?_)
  rintro e w1 ⟨rfl, rfl⟩
  go_wp2_with fail
  go_ret
  exact ⟨rfl, rfl⟩
theorem bspoil_nil (at_ b : Int) (w : World) : Calls Try.prog 28 #[.pointer none, .int .i64 0, .int .i64 at_, .int .u32 b] w fun e w' => e = .returned (.bool false) ∧ w = w' := by
  go_enter Try.func28, Try.ntmps28
  go_wp2_with fail
  (with_reducible refine (has_nil _).mono ?_)
  rintro e w1 ⟨rfl, rfl⟩
  go_wp2_with fail
  go_ret
  exact ⟨rfl, rfl⟩
theorem rfirst_any (v : Value) (n B : Nat) (l : List Th) (tt r : Int) (w : World) (hrow : w.ownsRow B 45 3 v n (xsT l)) (hl : l.length = n) (hn : n ≤ 1000) (hr : firstT l tt r) :
    Calls Try.prog 31 #[v, .int .u8 tt] w fun e w' => e = .returned (.int .i64 r) ∧ w = w' := by
  obtain ⟨A, cap, hv, _⟩ := Flow.ownsRow_form hrow
  subst hv
  have HR := Flow.hide hrow
  have HL := Flow.hide hl
  have HRES := Flow.hide hr
  clear hrow hl hr
  go_enter Try.func31, Try.ntmps31
  go_wp2_with fail
  go_loop [5] (fun t5 => ∃ k : Nat, k ≤ n ∧ t5 = .int .i64 k ∧ (∀ j c, j < k → l[j]? = some c → c.to ≠ tt)) (fun t5 => n - (intOf t5).toNat)
  case atStart => exact ⟨0, by omega, rfl, fun j c hj => by omega⟩
  case round =>
    obtain ⟨k, hkn, rfl, hno⟩ := hrel
    have HN := Flow.hide hno
    clear hno
    by_cases hlt : k < n
    · obtain ⟨c, hc⟩ : ∃ c, l[k]? = some c := ⟨_, List.getElem?_eq_getElem (by rw [HL.out]; omega)⟩
      obtain ⟨g, cap', e, hBg, hg, _, y0, y1, y2⟩ := RowT.at_ HR.out HL.out hc
      cases e
      have hkI : (k : Int) < (n : Int) := by omega
      have HC := Flow.hide hc
      clear hc
      rcases hkk : (c.to == tt) with _ | _
      · go_wp2_with fail
        go_round
        case rel =>
          refine ⟨k + 1, by omega, by go_num, fun j d hj hd => ?_⟩
          rcases Nat.lt_or_ge j k with h | h
          · exact HN.out j d h hd
          · obtain rfl : j = k := by omega
            rw [HC.out] at hd
            cases hd
            simpa using hkk
        case measure => simp [intOf]; omega
      · have hck : c.to = tt := by simpa using hkk
        have hrk : r = (k : Int) := by
          rcases HRES.out with ⟨i, rfl, ⟨d, hd, hdk⟩, hm⟩ | ⟨_, hnon⟩
          · rcases Nat.lt_trichotomy i k with h | h | h
            · exact absurd hdk (HN.out i d h hd)
            · rw [h]
            · exact absurd hck (hm k c h HC.out)
          · exact absurd hck (hnon c (List.mem_of_getElem? HC.out))
        have HRK := Flow.hide hrk
        clear hrk hck
        go_wp2_with fail
        go_ret
        exact ⟨by rw [HRK.out]; rfl, rfl⟩
    · obtain rfl : k = n := by omega
      have hrk : r = -1 := by
        rcases HRES.out with ⟨i, rfl, ⟨d, hd, hdk⟩, hm⟩ | ⟨h, _⟩
        · have hi : i < l.length := (List.getElem?_eq_some_iff.1 hd).1
          rw [HL.out] at hi
          exact absurd hdk (HN.out i d hi hd)
        · exact h
      have HRK := Flow.hide hrk
      clear hrk
      go_wp2_with fail
      go_ret
      exact ⟨by rw [HRK.out]; rfl, rfl⟩
theorem info45 : (Try.prog.info? 45).map (fun i => (i.zero, i.size, i.bytes)) = some (some (.agg #[.int .u8 0, .string ⟨#[]⟩, .bool false]), 3, 32) := by kernel_rfl
/-- One thing more in the document's row. -/
theorem append_thing {w : World} {base n : Nat} {v : Value} {l : List Th} (h : w.ownsRow base 45 3 v n (xsT l)) (c : Th) (g cp : Nat) (K : Flow.Blk w g 45 #[.int .u8 c.to, .string c.text, .bool c.sp]) (hn : n ≤ 1000) (hb : base ≤ w.heap.size) :
    ∃ v' w', (Builtin.append_ #[39, 39] 39 #[v, .slice (some ⟨g, 0, none⟩) 1 cp]).run Try.prog w = .ok v' w' ∧ w'.ownsRow base 45 3 v' (n + 1) (xsT (l ++ [c])) ∧ Below base w w' ∧ Flow.Chg (fun k => some k = v.ownBlock) w w' := by
  obtain ⟨v', w', h1, h2, h3, h4, _⟩ := Flow.append_row h 39 Try.underlying39 info45 rfl (by decide) c.cells rfl ⟨g, 0, none⟩ cp K.news (fun u hu => xsT_one [c] u (by simpa [xsT] using hu)) (by omega) (by omega) hb
  exact ⟨v', w', h1, by rw [xsT_snoc]; exact h2, h3, h4⟩
def pick (l : List Th) (i k : Nat) : List Th := (l.take k).eraseIdx i
theorem pick_succ {l : List Th} {i k : Nat} {c : Th} (hc : l[k]? = some c) : pick l i (k + 1) = if k = i then pick l i k else pick l i k ++ [c] := by
  obtain ⟨h1, h2⟩ := List.getElem?_eq_some_iff.1 hc
  unfold pick
  rw [List.take_add_one, hc]
  have hl : (l.take k).length = k := by rw [List.length_take]; omega
  by_cases hk : k = i
  · subst hk
    rw [if_pos rfl]
    rw [List.eraseIdx_append_of_length_le (by omega), hl]
    simp
    exact (List.eraseIdx_of_length_le (by omega)).symm
  · rw [if_neg hk]
    by_cases hlt : k < i
    · rw [List.eraseIdx_of_length_le (by simp; omega), List.eraseIdx_of_length_le (by omega)]
      rfl
    · rw [List.eraseIdx_append_of_lt_length (by omega)]
      rfl
theorem pick_length (l : List Th) (i k : Nat) : (pick l i k).length ≤ k := Nat.le_trans (List.length_eraseIdx_le _ _) (by rw [List.length_take]; omega)
theorem rtake_any (v : Value) (n B i : Nat) (l : List Th) (w : World) (hrow : w.ownsRow B 45 3 v n (xsT l)) (hl : l.length = n) (hn : n ≤ 1000) (hi : i < n) :
    Calls Try.prog 26 #[v, .int .i64 (i : Int)] w fun e w' => (∃ v', e = .returned v' ∧ w'.ownsRow w.heap.size 45 3 v' (l.eraseIdx i).length (xsT (l.eraseIdx i))) ∧ Below w.heap.size w w' := by
  obtain ⟨A, cap, hv, _⟩ := Flow.ownsRow_form hrow
  subst hv
  have HR := Flow.hide hrow
  have HL := Flow.hide hl
  clear hrow hl
  go_enter Try.func26, Try.ntmps26
  go_wp2_with fail
  go_loopw [5, 6] (fun t5 t6 wr => ∃ k : Nat, k ≤ n ∧ t6 = .int .i64 k ∧ wr.ownsRow w.heap.size 45 3 t5 (pick l i k).length (xsT (pick l i k)) ∧ Below w.heap.size w wr) (fun _ t6 _ => n - (intOf t6).toNat)
  case atStart => exact ⟨0, by omega, rfl, by simpa [pick, xsT] using World.ownsRow_nil w w.heap.size 45 3, Below.refl _ _⟩
  case round =>
    obtain ⟨k, hkn, rfl, hr5, hb⟩ := hrel
    obtain ⟨A5, cap5, hv5, _⟩ := Flow.ownsRow_form hr5
    subst hv5
    have H5 := Flow.hide hr5
    have HB := Flow.hide hb
    clear hr5 hb
    by_cases hlt : k < n
    · have hkI : (k : Int) < (n : Int) := by omega
      obtain ⟨c, hc⟩ : ∃ c, l[k]? = some c := ⟨_, List.getElem?_eq_getElem (by rw [HL.out]; omega)⟩
      have hpk := Flow.hide (pick_succ (i := i) hc)
      have hpl := pick_length l i k
      by_cases hki : k = i
      · have hne : ((k : Int) != (i : Int)) = false := by rw [hki]; simp
        have hne' : ((k : Int) == (i : Int)) = true := by rw [hki]; simp
        have HKI := Flow.hide hki
        clear hki hc
        go_wp2_with fail
        go_roundw
        case rel => exact ⟨k + 1, by omega, by go_num, by rw [hpk.out, if_pos HKI.out]; exact H5.out, HB.out⟩
        case measure => simp [intOf]; omega
      · have hne : ((k : Int) != (i : Int)) = true := by simp; omega
        have hne' : ((k : Int) == (i : Int)) = false := by simp; omega
        have HKI := Flow.hide hki
        obtain ⟨g, cap', e, hBg, hg, _, y0, y1, y2⟩ := RowT.at_ (Flow.ownsRow_chg HR.out (Flow.Chg.of_below HB.out) (fun _ _ e => e)) HL.out hc
        cases e
        obtain ⟨K6, hh6, _⟩ := Flow.laid1 (w := wr) (w1 := wr.alloc (.cells #[.int .u8 c.to, .string c.text, .bool c.sp] 45)) (Below.refl _ _)
        obtain ⟨v7, w7, hr7, ho7, hb7, hc7⟩ := append_thing (cp := 1) (Flow.ownsRow_chg H5.out (Flow.Chg.of_below hh6) (fun _ _ e => e)) c _ K6 (by omega) (Nat.le_trans HB.out.size hh6.size)
        obtain ⟨A7, cap7, hv7, _⟩ := Flow.ownsRow_form ho7
        subst hv7
        have HR7 := Flow.hide hr7
        have HO7 := Flow.hide ho7
        have HB7 := Flow.hide ((HB.out.trans (hh6.mono HB.out.size)).trans hb7)
        clear K6 hh6 hr7 ho7 hb7 hc7 hc hki
        go_wp2_with (at_builtin; refine Flow.wpList_append_run _ _ 39 rfl rfl rfl rfl HR7.out ?_)
        go_roundw
        case rel =>
          refine ⟨k + 1, by omega, by go_num, ?_, HB7.out⟩
          rw [hpk.out, if_neg HKI.out, List.length_append]
          exact HO7.out
        case measure => simp [intOf]; omega
    · obtain rfl : k = n := by omega
      have he : pick l i k = l.eraseIdx i := by unfold pick; rw [← HL.out, List.take_length]
      have HE := Flow.hide he
      clear he
      go_wp2_with fail
      go_ret
      exact ⟨⟨_, rfl, by rw [← HE.out]; exact H5.out⟩, HB.out⟩
end Go.Proofs.Ythkphapmnlndbaa
