/- The contracts of package bag: memory, IndexFunc, Delete, New, Len, has, At. -/
import Derived.Test.YthkphapmnlndbaaProg
import Derived.Test.YthkphapmnlndbaaOwn2
import Derived.Test.YthkphapmnlndbaaStores
import Derived.Test.YthkphapmnlndbaaSteps
import Derived.WalkKit
import Derived.WalkLawsBesides
import Derived.WalkSpells
import Derived.Handy
import Derived.Deep.Cut
namespace Go.Proofs.Ythkphapmnlndbaa
open Go.RowKit
set_option maxHeartbeats 800000
set_option linter.unusedSimpArgs false
attribute [local irreducible] Flow.wpSeg Flow.wpF Flow.wpG Flow.wpS Flow.wpT Flow.wpK
/-- A thing on its way. -/
structure Th where
  to : Int
  text : ByteArray
  sp : Bool
def Th.cells (c : Th) : List Value := [.int .u8 c.to, .string c.text, .bool c.sp]
def xsT (l : List Th) : List Value := l.flatMap Th.cells
theorem xsT_length (l : List Th) : (xsT l).length = l.length * 3 := by
  induction l with
  | nil => rfl
  | cons c l ih =>
    have : xsT (c :: l) = Th.cells c ++ xsT l := rfl
    rw [this, List.length_append, ih]
    simp only [Th.cells, List.length_cons, List.length_nil]
    omega
theorem xsT_get (l : List Th) (i : Nat) (c : Th) (h : l[i]? = some c) (j : Nat) (hj : j < 3) : (xsT l)[i * 3 + j]? = c.cells[j]? := by
  induction l generalizing i with
  | nil => cases h
  | cons d l ih =>
    have e : xsT (d :: l) = Th.cells d ++ xsT l := rfl
    match i, h with
    | 0, h =>
      simp at h
      subst h
      rw [e, List.getElem?_append_left (by show _ < 3; omega)]
      simp
    | i + 1, h =>
      rw [e, List.getElem?_append_right (by show 3 ≤ _; omega)]
      have : (i + 1) * 3 + j - (Th.cells d).length = i * 3 + j := by show (i + 1) * 3 + j - 3 = _; omega
      rw [this]
      exact ih i (by simpa using h)
theorem xsT_one (l : List Th) : ∀ u ∈ xsT l, u.oneCell' = true := by
  intro u hu
  obtain ⟨c, _, hc⟩ := List.mem_flatMap.1 hu
  simp [Th.cells] at hc
  rcases hc with rfl | rfl | rfl <;> rfl
theorem xsT_snoc (l : List Th) (c : Th) : xsT (l ++ [c]) = xsT l ++ c.cells := by simp [xsT]
theorem xsT_del (l : List Th) (i : Nat) : (xsT l).take (i * 3) ++ (xsT l).drop ((i + 1) * 3) = xsT (l.eraseIdx i) := by
  induction l generalizing i with
  | nil => simp [xsT]
  | cons d l ih =>
    have e : xsT (d :: l) = Th.cells d ++ xsT l := rfl
    have h8 : (Th.cells d).length = 3 := rfl
    match i with
    | 0 =>
      rw [e]
      simp only [Nat.zero_mul, List.take_zero, List.nil_append, Nat.zero_add, Nat.one_mul, List.eraseIdx_cons_zero]
      exact List.drop_left' h8
    | i + 1 =>
      have e2 : xsT ((d :: l).eraseIdx (i + 1)) = Th.cells d ++ xsT (l.eraseIdx i) := rfl
      rw [e2, ← ih i, e, List.take_append, List.drop_append, h8]
      rw [List.take_of_length_le (by rw [h8]; omega), List.drop_of_length_le (by rw [h8]; omega), List.nil_append, List.append_assoc]
      congr 2
      · congr 1; omega
      · congr 1; omega
theorem xsT_set (l : List Th) (i : Nat) (c d : Th) (h : l[i]? = some c) (hto : d.to = c.to) : ((xsT l).set (i * 3 + 1) (.string d.text)).set (i * 3 + 2) (.bool d.sp) = xsT (l.set i d) := by
  induction l generalizing i with
  | nil => cases h
  | cons x l ih =>
    match i, h with
    | 0, h =>
      simp at h
      subst h
      have e : xsT (x :: l) = .int .u8 x.to :: .string x.text :: .bool x.sp :: xsT l := rfl
      have e2 : xsT ((x :: l).set 0 d) = .int .u8 d.to :: .string d.text :: .bool d.sp :: xsT l := rfl
      rw [e, e2, hto]
      rfl
    | i + 1, h =>
      have e : xsT (x :: l) = .int .u8 x.to :: .string x.text :: .bool x.sp :: xsT l := rfl
      have e2 : xsT ((x :: l).set (i + 1) d) = .int .u8 x.to :: .string x.text :: .bool x.sp :: xsT (l.set i d) := rfl
      rw [e, e2, ← ih i (by simpa using h), show (i + 1) * 3 + 1 = i * 3 + 1 + 1 + 1 + 1 by omega, show (i + 1) * 3 + 2 = i * 3 + 2 + 1 + 1 + 1 by omega]
      simp only [List.set_cons_succ]
/-- The place of the first thing to somebody. -/
def FstT (l : List Th) (to : Int) (i : Nat) : Prop := (∃ c, l[i]? = some c ∧ c.to = to) ∧ ∀ j c, j < i → l[j]? = some c → c.to ≠ to
def NonT (l : List Th) (to : Int) : Prop := ∀ c ∈ l, c.to ≠ to
theorem fstT_or (l : List Th) (to : Int) : (∃ i, FstT l to i) ∨ NonT l to := by
  induction l with
  | nil => exact .inr (fun c hc => by cases hc)
  | cons d l ih =>
    by_cases hd : d.to = to
    · exact .inl ⟨0, ⟨d, rfl, hd⟩, fun j c hj => by omega⟩
    · rcases ih with ⟨i, ⟨c, hc, hk⟩, hm⟩ | hn
      · refine .inl ⟨i + 1, ⟨c, by simpa using hc, hk⟩, fun j c' hj hc' => ?_⟩
        match j, hc' with
        | 0, hc' => simp at hc'; subst hc'; exact hd
        | j + 1, hc' => exact hm j c' (by omega) (by simpa using hc')
      · refine .inr (fun c hc => ?_)
        rcases List.mem_cons.1 hc with rfl | hc
        · exact hd
        · exact hn c hc
def firstT (l : List Th) (to : Int) (r : Int) : Prop := (∃ i : Nat, r = i ∧ FstT l to i) ∨ r = -1 ∧ NonT l to
/-- Blocks of some types. -/
def Ft (ts : List TypeId) (w : World) (j : Nat) : Prop := ∃ cs t, Flow.Blk w j t cs ∧ t ∈ ts
theorem Ft.not {ts : List TypeId} {w : World} {b : Nat} {t : TypeId} {cs : Array Value} (h : Flow.Blk w b t cs) (ht : t ∉ ts) : ¬ Ft ts w b := by
  rintro ⟨ds, u, k, hu⟩
  unfold Flow.Blk at h k
  rw [h] at k
  simp only [Option.some.injEq, Obj.cells.injEq] at k
  exact ht (k.2.1 ▸ hu)
theorem Ft.back {ts : List TypeId} {w w1 : World} (hc : Flow.Chg (Ft ts w) w w1) {j : Nat} (hj : j < w.heap.size) (h : Ft ts w1 j) : Ft ts w j := by
  by_cases hn : Ft ts w j
  · exact hn
  · obtain ⟨cs, t, k, ht⟩ := h
    exact ⟨cs, t, (hc.block j hj hn).symm.trans k, ht⟩
theorem Ft.trans {ts : List TypeId} {w w1 w2 : World} (h : Flow.Chg (Ft ts w) w w1) (k : Flow.Chg (Ft ts w1) w1 w2) : Flow.Chg (Ft ts w) w w2 := Flow.Chg.trans h k (fun _ hj e => Ft.back h hj e)
theorem Ft.row {ts : List TypeId} {w : World} {B n sz : Nat} {e : TypeId} {v : Value} {x : List Value} (h : w.ownsRow B e sz v n x) (he : e ∈ ts) {j : Nat} (hj : some j = v.ownBlock) : Ft ts w j := by
  rcases h.2 with ⟨rfl, _⟩ | ⟨g1, c1, cur1, rfl, _, hg1, _⟩
  · cases hj
  · simp only [Value.ownBlock, Option.some.injEq] at hj
    subst hj
    exact ⟨_, _, hg1, he⟩
theorem Ft.not_row {ts : List TypeId} {w : World} {B n sz : Nat} {e : TypeId} {v : Value} {x : List Value} (h : w.ownsRow B e sz v n x) (he : e ∉ ts) : ∀ g, v.ownBlock = some g → ¬ Ft ts w g := by
  intro g hg
  rcases h.2 with ⟨rfl, _⟩ | ⟨g1, c1, cur1, rfl, _, hg1, _⟩
  · cases hg
  · simp only [Value.ownBlock, Option.some.injEq] at hg
    subst hg
    exact Ft.not hg1 he
theorem Bag.row_ne {w : World} {B n g : Nat} {e t : TypeId} {sz : Nat} {v : Value} {x : List Value} {cs : Array Value} (h : w.ownsRow B e sz v n x) (hb : Flow.Blk w g t cs) (ht : e ≠ t) : ∀ j, v.ownBlock = some j → j ≠ g := by
  intro j hj e1
  subst e1
  rcases h.2 with ⟨rfl, _⟩ | ⟨g1, c1, cur1, rfl, _, hg1, _⟩
  · cases hj
  · simp only [Value.ownBlock, Option.some.injEq] at hj
    subst hj
    unfold Flow.Blk at hb
    rw [hg1] at hb
    simp only [Option.some.injEq, Obj.cells.injEq] at hb
    exact ht hb.2.1
abbrev BF : World → Nat → Prop := Ft [97, 100]
/-- Bag at block g with this room: the things l; all its memory from block B on. -/
def IsBag (w : World) (B g : Nat) (room : Int) (l : List Th) : Prop := ∃ v, Flow.Blk w g 97 #[.int .i64 room, v] ∧ w.ownsRow B 100 3 v l.length (xsT l) ∧ B ≤ g
theorem info100 : (Try.prog.info? 100).map (fun i => (i.zero, i.size, i.bytes)) = some (some (.agg #[.int .u8 0, .string ⟨#[]⟩, .bool false]), 3, 32) := by kernel_rfl
theorem IsBag.chg {S : Nat → Prop} {w w' : World} {B g : Nat} {room : Int} {l : List Th} (h : IsBag w B g room l) (hc : Flow.Chg S w w') (hs : ∀ j, BF w j → ¬ S j) : IsBag w' B g room l := by
  obtain ⟨v, h1, h2, h3⟩ := h
  exact ⟨v, h1.chg hc (hs _ ⟨_, _, h1, by decide⟩), Flow.ownsRow_chg h2 hc (fun j hj => hs j (Ft.row h2 (by decide) hj.symm)), h3⟩
theorem IsBag.below {w w' : World} {B g : Nat} {room : Int} {l : List Th} (h : IsBag w B g room l) (hb : Below w.heap.size w w') : IsBag w' B g room l := h.chg (Flow.Chg.of_below hb) (fun _ _ e => e)
theorem callee60 (c : Th) (kb : Nat) (to : Int) (w : World) (hk : w.cell? ⟨kb, 0, none⟩ = some (.int .u8 to)) (hkl : kb < w.heap.size) :
    Calls Try.prog 60 #[.agg #[.int .u8 c.to, .string c.text, .bool c.sp], .pointer (some ⟨kb, 0, none⟩)] w fun e w' => e = .returned (.bool (c.to == to)) ∧ Below w.heap.size w w' := by
  go_enter Try.func60, Try.ntmps60
  go_wp2_with fail
  go_ret
  exact ⟨rfl, Flow.below_alloc _ _⟩
theorem RowT.at_ {w : World} {B n : Nat} {e : TypeId} {v : Value} {l : List Th} (h : w.ownsRow B e 3 v n (xsT l)) (hl : l.length = n) {k : Nat} {c : Th} (hc : l[k]? = some c) :
    ∃ g cap, v = .slice (some ⟨g, 0, none⟩) n cap ∧ B ≤ g ∧ g < w.heap.size ∧ k < n ∧ w.cell? ⟨g, k * 3, none⟩ = some (.int .u8 c.to) ∧ w.cell? ⟨g, k * 3 + 1, none⟩ = some (.string c.text) ∧ w.cell? ⟨g, k * 3 + 2, none⟩ = some (.bool c.sp) := by
  have hk : k < n := by rw [← hl]; exact (List.getElem?_eq_some_iff.1 hc).1
  obtain ⟨g, cap, rfl, hb, hlt, _, hcell, _⟩ := Flow.ownsRow_at h (by omega)
  have hx : ∀ j, j < 3 → w.cell? ⟨g, k * 3 + j, none⟩ = c.cells[j]? := fun j hj => by rw [hcell _ (by omega), xsT_get l k c hc j hj]
  exact ⟨g, cap, rfl, hb, hlt, hk, hx 0 (by omega), hx 1 (by omega), hx 2 (by omega)⟩
theorem tindex_any (v : Value) (n : Nat) (l : List Th) (B kb : Nat) (key : Int) (r : Int) (w : World) (hrow : w.ownsRow B 100 3 v n (xsT l)) (hl : l.length = n) (hn : n ≤ 1000) (hk : w.cell? ⟨kb, 0, none⟩ = some (.int .u8 key)) (hkl : kb < w.heap.size)
    (hr : firstT l key r) :
    Calls Try.prog 59 #[v, .func (.func 60) #[] #[.pointer (some ⟨kb, 0, none⟩)]] w fun e w' => e = .returned (.int .i64 r) ∧ Below w.heap.size w w' := by
  obtain ⟨A, cap, hv, _⟩ := Flow.ownsRow_form hrow
  subst hv
  have HR := Flow.hide hrow
  have HL := Flow.hide hl
  have HK := Flow.hide hk
  have HRES := Flow.hide hr
  clear hrow hl hk hr
  go_enter Try.func59, Try.ntmps59
  go_wp2_with fail
  go_loopw [8] (fun i wr => ∃ k : Nat, k ≤ n ∧ i = .int .i64 k ∧ (∀ j c, j < k → l[j]? = some c → c.to ≠ key) ∧ Below w.heap.size w wr) (fun i _ => n - (intOf i).toNat)
  case atStart => exact ⟨0, by omega, rfl, fun j c hj => by omega, Below.refl _ _⟩
  case round =>
    obtain ⟨k, hkn, rfl, hno, hb⟩ := hrel
    have HN := Flow.hide hno
    have HB := Flow.hide hb
    clear hno hb
    by_cases hlt : k < n
    · obtain ⟨c, hc⟩ : ∃ c, l[k]? = some c := ⟨_, List.getElem?_eq_getElem (by rw [HL.out]; omega)⟩
      obtain ⟨g, cap', e, hBg, hg, _, y0, y1, y2⟩ := RowT.at_ (Flow.ownsRow_chg HR.out (Flow.Chg.of_below HB.out) (fun _ _ e => e)) HL.out hc
      cases e
      have HC := Flow.hide hc
      have hkw : wr.cell? ⟨kb, 0, none⟩ = some (.int .u8 key) := (HB.out.cell (p := ⟨kb, 0, none⟩) hkl).trans HK.out
      have HKW := Flow.hide hkw
      have hklw : kb < wr.heap.size := Nat.lt_of_lt_of_le hkl HB.out.size
      clear hc hkw
      rcases hkk : (c.to == key) with _ | _
      · have HKK := Flow.hide hkk
        clear hkk
        go_wp2_with fail
        (with_reducible refine (callee60 c kb key _ HKW.out hklw).mono ?_)
        rintro e w1 ⟨rfl, hb1⟩
        rw [HKK.out]
        have HB1 := Flow.hide (HB.out.trans (hb1.mono HB.out.size))
        clear y0 y1 y2 hb1 HB HKW
        go_wp2_with fail
        go_roundw
        case rel =>
          refine ⟨k + 1, by omega, by go_num, fun j d hj hd => ?_, HB1.out⟩
          rcases Nat.lt_or_ge j k with h | h
          · exact HN.out j d h hd
          · obtain rfl : j = k := by omega
            rw [HC.out] at hd
            cases hd
            have := HKK.out
            simpa using this
        case measure => simp [intOf]; omega
      · have HKK := Flow.hide hkk
        clear hkk
        have hrk : r = (k : Int) := by
          have hck : c.to = key := by simpa using HKK.out
          rcases HRES.out with ⟨i, rfl, ⟨d, hd, hdk⟩, hm⟩ | ⟨_, hnon⟩
          · rcases Nat.lt_trichotomy i k with h | h | h
            · exact absurd hdk (HN.out i d h hd)
            · rw [h]
            · exact absurd hck (hm k c h HC.out)
          · exact absurd hck (hnon c (List.mem_of_getElem? HC.out))
        have HRK := Flow.hide hrk
        clear hrk
        go_wp2_with fail
        (with_reducible refine (callee60 c kb key _ HKW.out hklw).mono ?_)
        rintro e w1 ⟨rfl, hb1⟩
        rw [HKK.out]
        have HB1 := Flow.hide (HB.out.trans (hb1.mono HB.out.size))
        clear y0 y1 y2 hb1 HB HKW
        go_wp2_with fail
        go_ret
        exact ⟨by rw [HRK.out]; rfl, HB1.out⟩
    · obtain rfl : k = n := by omega
      have hrk : r = -1 := by
        rcases HRES.out with ⟨i, rfl, ⟨d, hd, hdk⟩, hm⟩ | ⟨h, _⟩
        · have hi : i < l.length := (List.getElem?_eq_some_iff.1 hd).1
          rw [HL.out] at hi
          exact absurd hdk (HN.out i d hi hd)
        · exact h
      have HRK := Flow.hide hrk
      clear hrk
      go_wp2_with fail
      go_ret
      exact ⟨by rw [HRK.out]; rfl, HB.out⟩
theorem tdelete_any (v : Value) (l : List Th) (B n i : Nat) (w : World) (hrow : w.ownsRow B 100 3 v n (xsT l)) (hl : l.length = n) (hn : n ≤ 1000) (hi : i < n) :
    Calls Try.prog 56 #[v, .int .i64 (i : Int), .int .i64 ((i : Int) + 1)] w fun e w' => (∃ v', e = .returned v' ∧ w'.ownsRow B 100 3 v' (n - 1) (xsT (l.eraseIdx i)) ∧ v'.ownBlock = v.ownBlock) ∧ Flow.Chg (fun k => some k = v.ownBlock) w w' := by
  obtain ⟨m, rfl⟩ : ∃ m, n = m + 1 := ⟨n - 1, by omega⟩
  obtain ⟨g, cap, hv, hcap⟩ : ∃ g cap, v = .slice (some ⟨g, 0, none⟩) (m + 1) cap ∧ m + 1 ≤ cap := by
    obtain ⟨g, cap, rfl, _, _, h, _⟩ := Flow.ownsRow_at hrow (by omega)
    exact ⟨g, cap, rfl, h⟩
  subst hv
  have HR := Flow.hide hrow
  clear hrow
  have hcapI : ((m : Int) + 1) ≤ (cap : Int) := by omega
  have hiI : (i : Int) < (m : Int) + 1 := by omega
  have hcm : cap ≤ 9223372036854775807 := by
    rcases HR.out.2 with ⟨h, _⟩ | ⟨g1, c1, cur1, h, _, _, _, hm, _⟩
    · cases h
    · simp only [Value.slice.injEq] at h; unfold maxLen at hm; omega
  have hlo : (0 : Int) ≤ (i : Int) + 1 := by omega
  have hli : (i : Int) + 1 ≤ (m : Int) + 1 := by omega
  have hlic : (i : Int) ≤ (cap : Int) := by omega
  have htn : ((i : Int) + 1).toNat = i + 1 := by omega
  by_cases hc : cap = i + 1
  · obtain rfl : i = m := by omega
    subst hc
    have hii : (i : Int) ≤ (i : Int) + 1 := by omega
    clear hcapI hiI hlic hli
    go_enter Try.func56, Try.ntmps56
    go_upto_region 5 with fail
    obtain ⟨CS, hCS⟩ : ∃ C : World → Prop, C = fun w' => Below (w).heap.size (w) w' := ⟨_, rfl⟩
    obtain ⟨CW, hCW⟩ : ∃ C : World → Prop, C = fun _ => True := ⟨_, rfl⟩
    have hS : ∀ w', Below (w).heap.size (w) w' → CS w' := by rw [hCS]; exact fun _ h => h
    have uS : ∀ w', CS w' → Below (w).heap.size (w) w' := by rw [hCS]; exact fun _ h => h
    have hSW : ∀ w', CS w' → CW w' := by rw [hCW]; exact fun _ _ => True.intro
    have hW : ∀ w1 w2, CW w1 → Below w1.heap.size w1 w2 → CW w2 := by rw [hCW]; exact fun _ _ _ _ => True.intro
    have uW : ∀ w', CW w' := by rw [hCW]; exact fun _ => True.intro
    have ne1 : Nonempty (Flow.Wd CS) := ⟨⟨_, hS _ (Below.refl _ _)⟩⟩
    have ne2 : Nonempty (Flow.Wd CW) := ⟨⟨w, uW _⟩⟩
    clear hCS hCW
    refine Flow.wp_region_chain 1000 CW CW [0, 1, 2, 3, 4, 5] [6, 7] (by kernel_rfl) (by kernel_rfl) (.inl rfl) (fun w' _ => uW w') (fun _ h => h) hW ?_
    dsimp only [Flow.pickIdx, List.getElem?_cons_zero, List.getElem?_cons_succ]
    iterate 6 (
        (refine Flow.wpS_weak (by kernel_rfl) (fun K' hK' => ?_)
         go_simp
         first
           | (refine hK' _ ?_; clear hK' K')
           | (apply Exists.intro
              refine ⟨fun p => ?_, hK' _ ?_⟩
              (first | fail)
              clear hK' K')))
    refine Flow.wpS_nil ?_
    dsimp only [Flow.pickOps, List.getElem?_cons_zero, List.getElem?_cons_succ]
    intro w2 hb2
    obtain ⟨g', cap', w3, e', hnc', hbg', hgl', hA, hown3, c3⟩ := Flow.del_row (Flow.ownsRow_chg HR.out (Flow.Chg.of_below hb2) (fun _ _ e => e)) i hi 95 Try.underlying95 info100 (xsT_one l)
    cases e'
    simp only [Nat.add_sub_add_right, Nat.add_sub_cancel, Nat.sub_self, true_or, forall_const] at hA hown3
    refine Flow.wpT_on rfl (Flow.nUpon_append _ _ 95 rfl rfl rfl (by first | exact hA _ _ | exact hA _ _ (.inr rfl)) ⟨uW _, fun w5 hb5 => ?_⟩)
    simp only [Act.put, List.setIfInBounds_toArray, List.set_cons_succ, List.set_cons_zero]
    refine Flow.wpT_on rfl ?_
    go_simp
    refine ⟨uW _, fun w6 hb6 => Flow.wpT_nil ?_⟩
    have b6 := hb5.trans (hb6.mono hb5.size)
    have C6 : Flow.Chg (· = g) w w6 := (((Flow.Chg.of_below hb2).mono (fun _ _ e => e.elim)).trans c3 (fun _ _ e => e)).trans (Flow.Chg.of_below b6) (fun _ _ e => e.elim)
    have hown6 := Flow.ownsRow_chg hown3 (Flow.Chg.of_below b6) (fun _ _ e => e)
    rw [xsT_del] at hown6
    obtain ⟨w7, hclr, hown7, c7⟩ := Flow.clear_row hown6 (by omega) 95 Try.underlying95 (z := .agg #[.int .u8 0, .string ⟨#[]⟩, .bool false]) rfl (by intro u hu; simp [Value.cells] at hu; rcases hu with rfl | rfl | rfl <;> rfl) (fun w => by kernel_rfl)
    have HO7 := Flow.hide hown7
    have C7 := Flow.hide (C6.trans c7 (fun _ _ e => e))
    clear hb2 hA hown3 c3 hb5 hb6 b6 C6 hown6 hown7 c7 hgl' hbg' hnc' hS uS hSW hW uW ne1 ne2 CS CW HR w2 w3 w5
    go_wp2_with fail
    go_ret
    exact ⟨⟨_, rfl, HO7.out, rfl⟩, C7.out.mono (fun j _ e => by rw [e]; rfl)⟩
  · go_enter Try.func56, Try.ntmps56
    go_upto_region 5 with fail
    obtain ⟨CS, hCS⟩ : ∃ C : World → Prop, C = fun w' => Below (w).heap.size (w) w' := ⟨_, rfl⟩
    obtain ⟨CW, hCW⟩ : ∃ C : World → Prop, C = fun _ => True := ⟨_, rfl⟩
    have hS : ∀ w', Below (w).heap.size (w) w' → CS w' := by rw [hCS]; exact fun _ h => h
    have uS : ∀ w', CS w' → Below (w).heap.size (w) w' := by rw [hCS]; exact fun _ h => h
    have hSW : ∀ w', CS w' → CW w' := by rw [hCW]; exact fun _ _ => True.intro
    have hW : ∀ w1 w2, CW w1 → Below w1.heap.size w1 w2 → CW w2 := by rw [hCW]; exact fun _ _ _ _ => True.intro
    have uW : ∀ w', CW w' := by rw [hCW]; exact fun _ => True.intro
    have ne1 : Nonempty (Flow.Wd CS) := ⟨⟨_, hS _ (Below.refl _ _)⟩⟩
    have ne2 : Nonempty (Flow.Wd CW) := ⟨⟨w, uW _⟩⟩
    clear hCS hCW
    refine Flow.wp_region_chain 1000 CW CW [0, 1, 2, 3, 4, 5] [6, 7] (by kernel_rfl) (by kernel_rfl) (.inl rfl) (fun w' _ => uW w') (fun _ h => h) hW ?_
    dsimp only [Flow.pickIdx, List.getElem?_cons_zero, List.getElem?_cons_succ]
    iterate 6 (
        (refine Flow.wpS_weak (by kernel_rfl) (fun K' hK' => ?_)
         go_simp
         first
           | (refine hK' _ ?_; clear hK' K')
           | (apply Exists.intro
              refine ⟨fun p => ?_, hK' _ ?_⟩
              (first | fail)
              clear hK' K')))
    refine Flow.wpS_nil ?_
    dsimp only [Flow.pickOps, List.getElem?_cons_zero, List.getElem?_cons_succ]
    intro w2 hb2
    obtain ⟨g', cap', w3, e', hnc', hbg', hgl', hA, hown3, c3⟩ := Flow.del_row (Flow.ownsRow_chg HR.out (Flow.Chg.of_below hb2) (fun _ _ e => e)) i hi 95 Try.underlying95 info100 (xsT_one l)
    cases e'
    simp only [Nat.add_sub_add_right, Nat.add_sub_cancel, Nat.sub_self, true_or, forall_const] at hA hown3
    refine Flow.wpT_on rfl (Flow.nUpon_append _ _ 95 rfl rfl rfl (by first | exact hA _ _ | exact hA _ _ (.inr rfl)) ⟨uW _, fun w5 hb5 => ?_⟩)
    simp only [Act.put, List.setIfInBounds_toArray, List.set_cons_succ, List.set_cons_zero]
    refine Flow.wpT_on rfl ?_
    go_simp
    refine ⟨uW _, fun w6 hb6 => Flow.wpT_nil ?_⟩
    have b6 := hb5.trans (hb6.mono hb5.size)
    have C6 : Flow.Chg (· = g) w w6 := (((Flow.Chg.of_below hb2).mono (fun _ _ e => e.elim)).trans c3 (fun _ _ e => e)).trans (Flow.Chg.of_below b6) (fun _ _ e => e.elim)
    have hown6 := Flow.ownsRow_chg hown3 (Flow.Chg.of_below b6) (fun _ _ e => e)
    rw [xsT_del] at hown6
    obtain ⟨w7, hclr, hown7, c7⟩ := Flow.clear_row hown6 (by omega) 95 Try.underlying95 (z := .agg #[.int .u8 0, .string ⟨#[]⟩, .bool false]) rfl (by intro u hu; simp [Value.cells] at hu; rcases hu with rfl | rfl | rfl <;> rfl) (fun w => by kernel_rfl)
    have HO7 := Flow.hide hown7
    have C7 := Flow.hide (C6.trans c7 (fun _ _ e => e))
    clear hb2 hA hown3 c3 hb5 hb6 b6 C6 hown6 hown7 c7 hgl' hbg' hnc' hS uS hSW hW uW ne1 ne2 CS CW HR w2 w3 w5
    go_wp2_with fail
    go_ret
    exact ⟨⟨_, rfl, HO7.out, rfl⟩, C7.out.mono (fun j _ e => by rw [e]; rfl)⟩
theorem bnew_any (room R : Int) (w : World) (hR : min (max room 0) 200 = R) : Calls Try.prog 24 #[.int .i64 room] w fun e w' => e = .returned (.pointer (some ⟨w.heap.size, 0, none⟩)) ∧ IsBag w' w.heap.size w.heap.size R [] ∧ Below w.heap.size w w' := by
  subst hR
  go_enter Try.func24, Try.ntmps24
  go_wp2
  all_goals (go_ret; refine ⟨rfl, ⟨.slice none 0 0, ?_, World.ownsRow_nil _ _ _ _, Nat.le_refl _⟩, Flow.below_alloc _ _⟩)
  all_goals first
    | (rw [show min (max room 0) 200 = 0 by omega]; exact Flow.Blk.new _ _ _)
    | (rw [show min (max room 0) 200 = 200 by omega]; exact Flow.Blk.new _ _ _)
    | (rw [show min (max room 0) 200 = room by omega]; exact Flow.Blk.new _ _ _)
theorem blen_any (g B : Nat) (room : Int) (l : List Th) (w : World) (h : IsBag w B g room l) : Calls Try.prog 33 #[.pointer (some ⟨g, 0, none⟩)] w fun e w' => e = .returned (.int .i64 l.length) ∧ w = w' := by
  obtain ⟨v, h1, h2, h3⟩ := h
  obtain ⟨A, cap, rfl, _⟩ := Flow.ownsRow_form h2
  have c := h1.cell
  clear h1 h2 h3
  go_enter Try.func33, Try.ntmps33
  go_wp2_with fail
  go_ret
  exact ⟨rfl, rfl⟩
theorem blen_nil (w : World) : Calls Try.prog 33 #[.pointer none] w fun e w' => e = .returned (.int .i64 0) ∧ w = w' := by
  go_enter Try.func33, Try.ntmps33
  go_wp2_with fail
  go_ret
  exact ⟨rfl, rfl⟩
theorem has_yes (g B : Nat) (room : Int) (l : List Th) (i : Nat) (w : World) (h : IsBag w B g room l) (hi : i < l.length) : Calls Try.prog 57 #[.pointer (some ⟨g, 0, none⟩), .int .i64 (i : Int)] w fun e w' => e = .returned (.bool true) ∧ w = w' := by
  have H := Flow.hide h
  have hiI : (i : Int) < (l.length : Int) := by omega
  clear h
  go_enter Try.func57, Try.ntmps57
  go_wp2_with fail
  (with_reducible refine (blen_any g B room l _ H.out).mono ?_)
  rintro e w1 ⟨rfl, rfl⟩
  go_wp2_with fail
  go_ret
  exact ⟨rfl, rfl⟩
theorem has_no (g B : Nat) (room : Int) (l : List Th) (i : Int) (w : World) (h : IsBag w B g room l) (hi : ¬ (0 ≤ i ∧ i < l.length)) : Calls Try.prog 57 #[.pointer (some ⟨g, 0, none⟩), .int .i64 i] w fun e w' => e = .returned (.bool false) ∧ w = w' := by
  have H := Flow.hide h
  clear h
  by_cases h0 : 0 ≤ i
  · have h1 : ¬ i < (l.length : Int) := fun e => hi ⟨h0, e⟩
    clear hi
    go_enter Try.func57, Try.ntmps57
    go_wp2_with fail
    (with_reducible refine (blen_any g B room l _ H.out).mono ?_)
    rintro e w1 ⟨rfl, rfl⟩
    go_wp2_with fail
    go_ret
    exact ⟨by show Ending.returned (.bool (decide (i < (l.length : Int)))) = _; rw [decide_eq_false (by omega)], rfl⟩
  · clear hi
    go_enter Try.func57, Try.ntmps57
    go_wp2_with fail
    go_ret
    exact ⟨rfl, rfl⟩
theorem has_nil (w : World) : Calls Try.prog 57 #[.pointer none, .int .i64 0] w fun e w' => e = .returned (.bool false) ∧ w = w' := by
  go_enter Try.func57, Try.ntmps57
  go_wp2_with fail
  (with_reducible refine (blen_nil _).mono ?_)
  rintro e w1 ⟨rfl, rfl⟩
  go_wp2_with fail
  go_ret
  exact ⟨rfl, rfl⟩
theorem bat_yes (g B : Nat) (room : Int) (l : List Th) (i : Nat) (c : Th) (w : World) (h : IsBag w B g room l) (hc : l[i]? = some c) : Calls Try.prog 34 #[.pointer (some ⟨g, 0, none⟩), .int .i64 (i : Int)] w fun e w' => e = .returned (.tuple #[.int .u8 c.to, .string c.text, .bool true]) ∧ Below w.heap.size w w' := by
  have H := Flow.hide h
  have hi : i < l.length := (List.getElem?_eq_some_iff.1 hc).1
  have hiI : (i : Int) < (l.length : Int) := by omega
  obtain ⟨v, h1, h2, h3⟩ := h
  obtain ⟨gr, cap, rfl, hB, hgr, _, y0, y1, y2⟩ := RowT.at_ h2 rfl hc
  have r1 := h1.rg
  have r2 : ∀ p, (Flow.rg w p).cell? ⟨gr, i * 3, none⟩ = some (.int .u8 c.to) := fun p => ((Flow.rg_below w p).cell (p := ⟨gr, i * 3, none⟩) hgr).trans y0
  have r3 : ∀ p, (Flow.rg w p).cell? ⟨gr, i * 3 + 1, none⟩ = some (.string c.text) := fun p => ((Flow.rg_below w p).cell (p := ⟨gr, i * 3 + 1, none⟩) hgr).trans y1
  clear h1 h2 h3 hc y0 y1 y2
  go_enter Try.func34, Try.ntmps34
  go_wp2_with fail
  (with_reducible refine (has_yes g B room l i _ H.out hi).mono ?_)
  rintro e w1 ⟨rfl, rfl⟩
  go_upto_region 3 with fail
  refine Flow.wp_region_all (by kernel_rfl) (by kernel_rfl) ?_
  repeat (first
    | (refine Flow.wpSeg_step (fun K' hK' => ?_)
       go_simp
       first
         | (refine hK' _ ?_; clear hK' K')
         | (apply Exists.intro
            refine ⟨fun p => ?_, hK' _ ?_⟩
            (first | fail)
            clear hK' K')))
  refine Flow.wpSeg_nil ?_
  intro w' hb'
  go_wp2_with fail
  go_ret3
  exact ⟨rfl, hb'⟩
theorem bat_no (g B : Nat) (room : Int) (l : List Th) (i : Int) (w : World) (h : IsBag w B g room l) (hi : ¬ (0 ≤ i ∧ i < l.length)) : Calls Try.prog 34 #[.pointer (some ⟨g, 0, none⟩), .int .i64 i] w fun e w' => e = .returned (.tuple #[.int .u8 0, .string ⟨#[]⟩, .bool false]) ∧ w = w' := by
  have H := Flow.hide h
  have HI := Flow.hide hi
  clear h hi
  go_enter Try.func34, Try.ntmps34
  go_wp2_with fail
  (with_reducible refine (has_no g B room l i _ H.out HI.out).mono ?_)
  rintro e w1 ⟨rfl, rfl⟩
  go_wp2_with fail
  go_ret3
  exact ⟨rfl, rfl⟩
theorem bat_nil (w : World) : Calls Try.prog 34 #[.pointer none, .int .i64 0] w fun e w' => e = .returned (.tuple #[.int .u8 0, .string ⟨#[]⟩, .bool false]) ∧ w = w' := by
  go_enter Try.func34, Try.ntmps34
  go_wp2_with fail
  (with_reducible refine (has_nil _).mono ?_)
  rintro e w1 ⟨rfl, rfl⟩
  go_wp2_with fail
  go_ret3
  exact ⟨rfl, rfl⟩
end Go.Proofs.Ythkphapmnlndbaa
