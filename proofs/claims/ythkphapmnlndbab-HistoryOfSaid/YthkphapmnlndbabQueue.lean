/- The contracts of package queue. -/
import Derived.Test.YthkphapmnlndbabProg
import Derived.Test.YthkphapmnlndbabOwn2
import Derived.Test.YthkphapmnlndbabStores
import Derived.Test.YthkphapmnlndbabSteps
import Derived.WalkKit
import Derived.WalkLawsBesides
import Derived.WalkSpells
import Derived.Handy
import Derived.Deep.Cut
namespace Go.Proofs.Ythkphapmnlndbab
open Go.RowKit
set_option maxHeartbeats 400000
set_option linter.unusedSimpArgs false
attribute [local irreducible] Flow.wpSeg Flow.wpF Flow.wpG Flow.wpS Flow.wpT
/-- A call. -/
structure Cl where
  n : Int
  m : Int
  kind : Int
  key : Int
  text : ByteArray
  has : Bool
  old : ByteArray
  num : Int
def Cl.cells (c : Cl) : List Value := [.int .u32 c.n, .int .u32 c.m, .int .i64 c.kind, .int .i64 c.key, .string c.text, .bool c.has, .string c.old, .int .i64 c.num]
def Cl.zero : Cl := ⟨0, 0, 0, 0, ⟨#[]⟩, false, ⟨#[]⟩, 0⟩
def xsC (l : List Cl) : List Value := l.flatMap Cl.cells
theorem xsC_length (l : List Cl) : (xsC l).length = l.length * 8 := by
  induction l with
  | nil => rfl
  | cons c l ih =>
    have : xsC (c :: l) = Cl.cells c ++ xsC l := rfl
    rw [this, List.length_append, ih, List.length_cons, Nat.add_mul]
    show 8 + _ = _
    omega
theorem xsC_get (l : List Cl) (i : Nat) (c : Cl) (h : l[i]? = some c) (j : Nat) (hj : j < 8) : (xsC l)[i * 8 + j]? = c.cells[j]? := by
  induction l generalizing i with
  | nil => cases h
  | cons d l ih =>
    have e : xsC (d :: l) = Cl.cells d ++ xsC l := rfl
    match i, h with
    | 0, h =>
      simp at h
      subst h
      rw [e, List.getElem?_append_left (by show _ < 8; omega)]
      simp
    | i + 1, h =>
      rw [e, List.getElem?_append_right (by show 8 ≤ _; omega)]
      have : (i + 1) * 8 + j - (Cl.cells d).length = i * 8 + j := by show (i + 1) * 8 + j - 8 = _; omega
      rw [this]
      exact ih i (by simpa using h)
theorem xsC_one (l : List Cl) : ∀ u ∈ xsC l, u.oneCell' = true := by
  intro u hu
  obtain ⟨c, _, hc⟩ := List.mem_flatMap.1 hu
  simp [Cl.cells] at hc
  rcases hc with rfl | rfl | rfl | rfl | rfl | rfl | rfl | rfl <;> rfl
theorem xsC_snoc (l : List Cl) (c : Cl) : xsC (l ++ [c]) = xsC l ++ c.cells := by simp [xsC]
theorem xsC_del (l : List Cl) (i : Nat) : (xsC l).take (i * 8) ++ (xsC l).drop ((i + 1) * 8) = xsC (l.eraseIdx i) := by
  induction l generalizing i with
  | nil => simp [xsC]
  | cons d l ih =>
    have e : xsC (d :: l) = Cl.cells d ++ xsC l := rfl
    have h8 : (Cl.cells d).length = 8 := rfl
    match i with
    | 0 =>
      rw [e]
      simp only [Nat.zero_mul, List.take_zero, List.nil_append, Nat.zero_add, Nat.one_mul, List.eraseIdx_cons_zero]
      exact List.drop_left' h8
    | i + 1 =>
      have e2 : xsC ((d :: l).eraseIdx (i + 1)) = Cl.cells d ++ xsC (l.eraseIdx i) := rfl
      rw [e2, ← ih i, e, List.take_append, List.drop_append, h8]
      rw [List.take_of_length_le (by rw [h8]; omega), List.drop_of_length_le (by rw [h8]; omega), List.nil_append, List.append_assoc]
      congr 2
      · congr 1; omega
      · congr 1; omega
/-- The place of the first call of a key. -/
def Fst (l : List Cl) (key : Int) (i : Nat) : Prop := (∃ c, l[i]? = some c ∧ c.key = key) ∧ ∀ j c, j < i → l[j]? = some c → c.key ≠ key
def Non (l : List Cl) (key : Int) : Prop := ∀ c ∈ l, c.key ≠ key
theorem fst_or (l : List Cl) (key : Int) : (∃ i, Fst l key i) ∨ Non l key := by
  induction l with
  | nil => exact .inr (fun c hc => by cases hc)
  | cons d l ih =>
    by_cases hd : d.key = key
    · exact .inl ⟨0, ⟨d, rfl, hd⟩, fun j c hj => by omega⟩
    · rcases ih with ⟨i, ⟨c, hc, hk⟩, hm⟩ | hn
      · refine .inl ⟨i + 1, ⟨c, by simpa using hc, hk⟩, fun j c' hj hc' => ?_⟩
        match j, hc' with
        | 0, hc' => simp at hc'; subst hc'; exact hd
        | j + 1, hc' => exact hm j c' (by omega) (by simpa using hc')
      · refine .inr (fun c hc => ?_)
        rcases List.mem_cons.1 hc with rfl | hc
        · exact hd
        · exact hn c hc
/-- Queue at block g: the calls l; all its memory from block B on. -/
def IsQ (w : World) (B g : Nat) (l : List Cl) : Prop := ∃ v, Flow.Blk w g 156 #[v] ∧ w.ownsRow B 125 8 v l.length (xsC l) ∧ B ≤ g
theorem info125 : (Try.prog.info? 125).map (fun i => (i.zero, i.size, i.bytes)) = some (some (.agg #[.int .u32 0, .int .u32 0, .int .i64 0, .int .i64 0, .string ⟨#[]⟩, .bool false, .string ⟨#[]⟩, .int .i64 0]), 8, 72) := by kernel_rfl
theorem IsQ.below {w w' : World} {B g : Nat} {l : List Cl} (h : IsQ w B g l) (hb : Below w.heap.size w w') : IsQ w' B g l := by
  obtain ⟨v, h1, h2, h3⟩ := h
  exact ⟨v, h1.below hb, Flow.ownsRow_chg h2 (Flow.Chg.of_below hb) (fun _ _ e => e), h3⟩
def IsQA (w : World) (B g : Nat) (a : Option Nat) (l : List Cl) : Prop := ∃ v, Flow.Blk w g 156 #[v] ∧ w.ownsRow B 125 8 v l.length (xsC l) ∧ B ≤ g ∧ v.ownBlock = a
theorem IsQA.isQ {w : World} {B g : Nat} {a : Option Nat} {l : List Cl} (h : IsQA w B g a l) : IsQ w B g l := let ⟨v, h1, h2, h3, _⟩ := h; ⟨v, h1, h2, h3⟩
theorem IsQA.chg {S : Nat → Prop} {w w' : World} {B g : Nat} {a : Option Nat} {l : List Cl} (h : IsQA w B g a l) (hc : Flow.Chg S w w') (hg : ¬ S g) (ha : ∀ j, a = some j → ¬ S j) : IsQA w' B g a l := by
  obtain ⟨v, h1, h2, h3, h4⟩ := h
  exact ⟨v, h1.chg hc hg, Flow.ownsRow_chg h2 hc (fun j hj => ha j (h4 ▸ hj)), h3, h4⟩
theorem IsQA.below {w w' : World} {B g : Nat} {a : Option Nat} {l : List Cl} (h : IsQA w B g a l) (hb : Below w.heap.size w w') : IsQA w' B g a l := h.chg (Flow.Chg.of_below hb) (fun e => e) (fun _ _ e => e)
theorem q_ne {w : World} {B g n : Nat} {v : Value} {x : List Value} {cs : Array Value} (h : w.ownsRow B 125 8 v n x) (hb : Flow.Blk w g 156 cs) : ∀ j, v.ownBlock = some j → j ≠ g := by
  intro j hj e
  subst e
  rcases h.2 with ⟨rfl, _⟩ | ⟨g1, c1, cur1, rfl, _, hg1, _⟩
  · cases hj
  · simp only [Value.ownBlock, Option.some.injEq] at hj
    subst hj
    unfold Flow.Blk at hb
    rw [hg1] at hb
    simp at hb
theorem callee66 (c : Cl) (kb : Nat) (key : Int) (w : World) (hk : w.cell? ⟨kb, 0, none⟩ = some (.int .i64 key)) (hkl : kb < w.heap.size) :
    Calls Try.prog 66 #[.agg #[.int .u32 c.n, .int .u32 c.m, .int .i64 c.kind, .int .i64 c.key, .string c.text, .bool c.has, .string c.old, .int .i64 c.num], .pointer (some ⟨kb, 0, none⟩)] w fun e w' => e = .returned (.bool (c.key == key)) ∧ Below w.heap.size w w' := by
  go_enter Try.func66, Try.ntmps66
  go_wp2_with fail
  go_ret
  exact ⟨rfl, Flow.below_alloc _ _⟩
theorem Row.at_ {w : World} {B n : Nat} {v : Value} {l : List Cl} (h : w.ownsRow B 125 8 v n (xsC l)) (hl : l.length = n) {k : Nat} {c : Cl} (hc : l[k]? = some c) :
    ∃ g cap, v = .slice (some ⟨g, 0, none⟩) n cap ∧ B ≤ g ∧ g < w.heap.size ∧ k < n ∧ w.cell? ⟨g, k * 8, none⟩ = some (.int .u32 c.n) ∧ w.cell? ⟨g, k * 8 + 1, none⟩ = some (.int .u32 c.m) ∧ w.cell? ⟨g, k * 8 + 2, none⟩ = some (.int .i64 c.kind) ∧ w.cell? ⟨g, k * 8 + 3, none⟩ = some (.int .i64 c.key) ∧
      w.cell? ⟨g, k * 8 + 4, none⟩ = some (.string c.text) ∧ w.cell? ⟨g, k * 8 + 5, none⟩ = some (.bool c.has) ∧ w.cell? ⟨g, k * 8 + 6, none⟩ = some (.string c.old) ∧ w.cell? ⟨g, k * 8 + 7, none⟩ = some (.int .i64 c.num) := by
  have hk : k < n := by rw [← hl]; exact (List.getElem?_eq_some_iff.1 hc).1
  obtain ⟨g, cap, rfl, hb, hlt, _, hcell, _⟩ := Flow.ownsRow_at h (by omega)
  have hx : ∀ j, j < 8 → w.cell? ⟨g, k * 8 + j, none⟩ = c.cells[j]? := fun j hj => by rw [hcell _ (by omega), xsC_get l k c hc j hj]
  exact ⟨g, cap, rfl, hb, hlt, hk, hx 0 (by omega), hx 1 (by omega), hx 2 (by omega), hx 3 (by omega), hx 4 (by omega), hx 5 (by omega), hx 6 (by omega), hx 7 (by omega)⟩
/-- slices.IndexFunc on a queue's calls. -/
theorem index_any (v : Value) (n : Nat) (l : List Cl) (B kb : Nat) (key : Int) (r : Int) (w : World) (hrow : w.ownsRow B 125 8 v n (xsC l)) (hl : l.length = n) (hn : n ≤ 1000) (hk : w.cell? ⟨kb, 0, none⟩ = some (.int .i64 key)) (hkl : kb < w.heap.size)
    (hr : (∃ i : Nat, r = i ∧ Fst l key i) ∨ r = -1 ∧ Non l key) :
    Calls Try.prog 65 #[v, .func (.func 66) #[] #[.pointer (some ⟨kb, 0, none⟩)]] w fun e w' => e = .returned (.int .i64 r) ∧ Below w.heap.size w w' := by
  obtain ⟨A, cap, hv, _⟩ := Flow.ownsRow_form hrow
  subst hv
  have HR := Flow.hide hrow
  have HL := Flow.hide hl
  have HK := Flow.hide hk
  have HRES := Flow.hide hr
  clear hrow hl hk hr
  go_enter Try.func65, Try.ntmps65
  go_wp2_with fail
  go_loopw [8] (fun i wr => ∃ k : Nat, k ≤ n ∧ i = .int .i64 k ∧ (∀ j c, j < k → l[j]? = some c → c.key ≠ key) ∧ Below w.heap.size w wr) (fun i _ => n - (intOf i).toNat)
  case atStart => exact ⟨0, by omega, rfl, fun j c hj => by omega, Below.refl _ _⟩
  case round =>
    obtain ⟨k, hkn, rfl, hno, hb⟩ := hrel
    have HN := Flow.hide hno
    have HB := Flow.hide hb
    clear hno hb
    by_cases hlt : k < n
    · obtain ⟨c, hc⟩ : ∃ c, l[k]? = some c := ⟨_, List.getElem?_eq_getElem (by rw [HL.out]; omega)⟩
      obtain ⟨g, cap', e, hBg, hg, _, y0, y1, y2, y3, y4, y5, y6, y7⟩ := Row.at_ (Flow.ownsRow_chg HR.out (Flow.Chg.of_below HB.out) (fun _ _ e => e)) HL.out hc
      cases e
      have HC := Flow.hide hc
      have hkw : wr.cell? ⟨kb, 0, none⟩ = some (.int .i64 key) := (HB.out.cell (p := ⟨kb, 0, none⟩) hkl).trans HK.out
      have HKW := Flow.hide hkw
      have hklw : kb < wr.heap.size := Nat.lt_of_lt_of_le hkl HB.out.size
      clear hc hkw
      rcases hkk : (c.key == key) with _ | _
      · have HKK := Flow.hide hkk
        clear hkk
        go_wp2_with fail
        (with_reducible refine (callee66 c kb key _ HKW.out hklw).mono ?_)
        rintro e w1 ⟨rfl, hb1⟩
        rw [HKK.out]
        have HB1 := Flow.hide (HB.out.trans (hb1.mono HB.out.size))
        clear y0 y1 y2 y3 y4 y5 y6 y7 hb1 HB HKW
        go_wp2_with fail
        go_roundw
        case rel =>
          refine ⟨k + 1, by omega, by go_num, fun j d hj hd => ?_, HB1.out⟩
          rcases Nat.lt_or_ge j k with h | h
          · exact HN.out j d h hd
          · obtain rfl : j = k := by omega
            rw [HC.out] at hd
            cases hd
            have := HKK.out
            simpa using this
        case measure => simp [intOf]; omega
      · have HKK := Flow.hide hkk
        clear hkk
        have hrk : r = (k : Int) := by
          have hck : c.key = key := by simpa using HKK.out
          rcases HRES.out with ⟨i, rfl, ⟨d, hd, hdk⟩, hm⟩ | ⟨_, hnon⟩
          · rcases Nat.lt_trichotomy i k with h | h | h
            · exact absurd hdk (HN.out i d h hd)
            · rw [h]
            · exact absurd hck (hm k c h HC.out)
          · exact absurd hck (hnon c (List.mem_of_getElem? HC.out))
        have HRK := Flow.hide hrk
        clear hrk
        go_wp2_with fail
        (with_reducible refine (callee66 c kb key _ HKW.out hklw).mono ?_)
        rintro e w1 ⟨rfl, hb1⟩
        rw [HKK.out]
        have HB1 := Flow.hide (HB.out.trans (hb1.mono HB.out.size))
        clear y0 y1 y2 y3 y4 y5 y6 y7 hb1 HB HKW
        go_wp2_with fail
        go_ret
        exact ⟨by rw [HRK.out]; rfl, HB1.out⟩
    · obtain rfl : k = n := by omega
      have hrk : r = -1 := by
        rcases HRES.out with ⟨i, rfl, ⟨d, hd, hdk⟩, hm⟩ | ⟨h, _⟩
        · have hi : i < l.length := (List.getElem?_eq_some_iff.1 hd).1
          rw [HL.out] at hi
          exact absurd hdk (HN.out i d hi hd)
        · exact h
      have HRK := Flow.hide hrk
      clear hrk
      go_wp2_with fail
      go_ret
      exact ⟨by rw [HRK.out]; rfl, HB.out⟩
theorem at_any (g B : Nat) (l : List Cl) (key r : Int) (w : World) (hq : IsQ w B g l) (hn : l.length ≤ 1000) (hr : (∃ i : Nat, r = i ∧ Fst l key i) ∨ r = -1 ∧ Non l key) :
    Calls Try.prog 63 #[.pointer (some ⟨g, 0, none⟩), .int .i64 key] w fun e w' => e = .returned (.int .i64 r) ∧ Below w.heap.size w w' := by
  obtain ⟨v, h1, h2, h3⟩ := hq
  have c1 := (h1.alloc (.cells #[.int .i64 key] 3)).cell
  have hgl : g < w.heap.size + 1 := by have := h1.lt; omega
  have H2 := Flow.hide h2
  have HR := Flow.hide hr
  clear h1 h2 hr
  go_enter Try.func63, Try.ntmps63
  go_wp2_with fail
  refine (index_any v l.length l B w.heap.size key r _ (H2.out.alloc _) rfl hn (by simp) (by simp) HR.out).mono ?_
  rintro e w1 ⟨rfl, hb⟩
  have HB : Hid (Below w.heap.size w w1) := (Flow.below_alloc _ _).trans (hb.mono (by simp))
  clear hb c1
  go_wp2_with fail
  go_ret
  exact ⟨rfl, HB.out⟩
theorem delete_any (v : Value) (l : List Cl) (B n i : Nat) (w : World) (hrow : w.ownsRow B 125 8 v n (xsC l)) (hl : l.length = n) (hn : n ≤ 1000) (hi : i < n) :
    Calls Try.prog 64 #[v, .int .i64 (i : Int), .int .i64 ((i : Int) + 1)] w fun e w' => (∃ v', e = .returned v' ∧ w'.ownsRow B 125 8 v' (n - 1) (xsC (l.eraseIdx i)) ∧ v'.ownBlock = v.ownBlock) ∧ Flow.Chg (fun k => some k = v.ownBlock) w w' := by
  obtain ⟨m, rfl⟩ : ∃ m, n = m + 1 := ⟨n - 1, by omega⟩
  obtain ⟨g, cap, hv, hcap⟩ : ∃ g cap, v = .slice (some ⟨g, 0, none⟩) (m + 1) cap ∧ m + 1 ≤ cap := by
    obtain ⟨g, cap, rfl, _, _, h, _⟩ := Flow.ownsRow_at hrow (by omega)
    exact ⟨g, cap, rfl, h⟩
  subst hv
  have HR := Flow.hide hrow
  clear hrow
  have hcapI : ((m : Int) + 1) ≤ (cap : Int) := by omega
  have hiI : (i : Int) < (m : Int) + 1 := by omega
  have hcm : cap ≤ 9223372036854775807 := by
    rcases HR.out.2 with ⟨h, _⟩ | ⟨g1, c1, cur1, h, _, _, _, hm, _⟩
    · cases h
    · simp only [Value.slice.injEq] at h; unfold maxLen at hm; omega
  have hlo : (0 : Int) ≤ (i : Int) + 1 := by omega
  have hli : (i : Int) + 1 ≤ (m : Int) + 1 := by omega
  have hlic : (i : Int) ≤ (cap : Int) := by omega
  have htn : ((i : Int) + 1).toNat = i + 1 := by omega
  by_cases hc : cap = i + 1
  · obtain rfl : i = m := by omega
    subst hc
    have hii : (i : Int) ≤ (i : Int) + 1 := by omega
    clear hcapI hiI hlic hli
    go_enter Try.func64, Try.ntmps64
    go_upto_region 5 with fail
    obtain ⟨CS, hCS⟩ : ∃ C : World → Prop, C = fun w' => Below (w).heap.size (w) w' := ⟨_, rfl⟩
    obtain ⟨CW, hCW⟩ : ∃ C : World → Prop, C = fun _ => True := ⟨_, rfl⟩
    have hS : ∀ w', Below (w).heap.size (w) w' → CS w' := by rw [hCS]; exact fun _ h => h
    have uS : ∀ w', CS w' → Below (w).heap.size (w) w' := by rw [hCS]; exact fun _ h => h
    have hSW : ∀ w', CS w' → CW w' := by rw [hCW]; exact fun _ _ => True.intro
    have hW : ∀ w1 w2, CW w1 → Below w1.heap.size w1 w2 → CW w2 := by rw [hCW]; exact fun _ _ _ _ => True.intro
    have uW : ∀ w', CW w' := by rw [hCW]; exact fun _ => True.intro
    have ne1 : Nonempty (Flow.Wd CS) := ⟨⟨_, hS _ (Below.refl _ _)⟩⟩
    have ne2 : Nonempty (Flow.Wd CW) := ⟨⟨w, uW _⟩⟩
    clear hCS hCW
    refine Flow.wp_region_chain 1000 CW CW [0, 1, 2, 3, 4, 5] [6, 7] (by kernel_rfl) (by kernel_rfl) (.inl rfl) (fun w' _ => uW w') (fun _ h => h) hW ?_
    dsimp only [Flow.pickIdx, List.getElem?_cons_zero, List.getElem?_cons_succ]
    iterate 6 (
        (refine Flow.wpS_weak (by kernel_rfl) (fun K' hK' => ?_)
         go_simp
         first
           | (refine hK' _ ?_; clear hK' K')
           | (apply Exists.intro
              refine ⟨fun p => ?_, hK' _ ?_⟩
              (first | fail)
              clear hK' K')))
    refine Flow.wpS_nil ?_
    dsimp only [Flow.pickOps, List.getElem?_cons_zero, List.getElem?_cons_succ]
    intro w2 hb2
    obtain ⟨g', cap', w3, e', hnc', hbg', hgl', hA, hown3, c3⟩ := Flow.del_row (Flow.ownsRow_chg HR.out (Flow.Chg.of_below hb2) (fun _ _ e => e)) i hi 133 Try.underlying133 info125 (xsC_one l)
    cases e'
    simp only [Nat.add_sub_add_right, Nat.add_sub_cancel, Nat.sub_self, true_or, forall_const] at hA hown3
    refine Flow.wpT_on rfl (Flow.nUpon_append _ _ 133 rfl rfl rfl (by first | exact hA _ _ | exact hA _ _ (.inr rfl)) ⟨uW _, fun w5 hb5 => ?_⟩)
    simp only [Act.put, List.setIfInBounds_toArray, List.set_cons_succ, List.set_cons_zero]
    refine Flow.wpT_on rfl ?_
    go_simp
    refine ⟨uW _, fun w6 hb6 => Flow.wpT_nil ?_⟩
    have b6 := hb5.trans (hb6.mono hb5.size)
    have C6 : Flow.Chg (· = g) w w6 := (((Flow.Chg.of_below hb2).mono (fun _ _ e => e.elim)).trans c3 (fun _ _ e => e)).trans (Flow.Chg.of_below b6) (fun _ _ e => e.elim)
    have hown6 := Flow.ownsRow_chg hown3 (Flow.Chg.of_below b6) (fun _ _ e => e)
    rw [xsC_del] at hown6
    obtain ⟨w7, hclr, hown7, c7⟩ := Flow.clear_row hown6 (by omega) 133 Try.underlying133 (z := .agg #[.int .u32 0, .int .u32 0, .int .i64 0, .int .i64 0, .string ⟨#[]⟩, .bool false, .string ⟨#[]⟩, .int .i64 0]) rfl (by intro u hu; simp [Value.cells] at hu; rcases hu with rfl | rfl | rfl | rfl | rfl | rfl | rfl | rfl <;> rfl) (fun w => by kernel_rfl)
    have HO7 := Flow.hide hown7
    have C7 := Flow.hide (C6.trans c7 (fun _ _ e => e))
    clear hb2 hA hown3 c3 hb5 hb6 b6 C6 hown6 hown7 c7 hgl' hbg' hnc' hS uS hSW hW uW ne1 ne2 CS CW HR w2 w3 w5
    go_wp2_with fail
    go_ret
    exact ⟨⟨_, rfl, HO7.out, rfl⟩, C7.out.mono (fun j _ e => by rw [e]; rfl)⟩
  · go_enter Try.func64, Try.ntmps64
    go_upto_region 5 with fail
    obtain ⟨CS, hCS⟩ : ∃ C : World → Prop, C = fun w' => Below (w).heap.size (w) w' := ⟨_, rfl⟩
    obtain ⟨CW, hCW⟩ : ∃ C : World → Prop, C = fun _ => True := ⟨_, rfl⟩
    have hS : ∀ w', Below (w).heap.size (w) w' → CS w' := by rw [hCS]; exact fun _ h => h
    have uS : ∀ w', CS w' → Below (w).heap.size (w) w' := by rw [hCS]; exact fun _ h => h
    have hSW : ∀ w', CS w' → CW w' := by rw [hCW]; exact fun _ _ => True.intro
    have hW : ∀ w1 w2, CW w1 → Below w1.heap.size w1 w2 → CW w2 := by rw [hCW]; exact fun _ _ _ _ => True.intro
    have uW : ∀ w', CW w' := by rw [hCW]; exact fun _ => True.intro
    have ne1 : Nonempty (Flow.Wd CS) := ⟨⟨_, hS _ (Below.refl _ _)⟩⟩
    have ne2 : Nonempty (Flow.Wd CW) := ⟨⟨w, uW _⟩⟩
    clear hCS hCW
    refine Flow.wp_region_chain 1000 CW CW [0, 1, 2, 3, 4, 5] [6, 7] (by kernel_rfl) (by kernel_rfl) (.inl rfl) (fun w' _ => uW w') (fun _ h => h) hW ?_
    dsimp only [Flow.pickIdx, List.getElem?_cons_zero, List.getElem?_cons_succ]
    iterate 6 (
        (refine Flow.wpS_weak (by kernel_rfl) (fun K' hK' => ?_)
         go_simp
         first
           | (refine hK' _ ?_; clear hK' K')
           | (apply Exists.intro
              refine ⟨fun p => ?_, hK' _ ?_⟩
              (first | fail)
              clear hK' K')))
    refine Flow.wpS_nil ?_
    dsimp only [Flow.pickOps, List.getElem?_cons_zero, List.getElem?_cons_succ]
    intro w2 hb2
    obtain ⟨g', cap', w3, e', hnc', hbg', hgl', hA, hown3, c3⟩ := Flow.del_row (Flow.ownsRow_chg HR.out (Flow.Chg.of_below hb2) (fun _ _ e => e)) i hi 133 Try.underlying133 info125 (xsC_one l)
    cases e'
    simp only [Nat.add_sub_add_right, Nat.add_sub_cancel, Nat.sub_self, true_or, forall_const] at hA hown3
    refine Flow.wpT_on rfl (Flow.nUpon_append _ _ 133 rfl rfl rfl (by first | exact hA _ _ | exact hA _ _ (.inr rfl)) ⟨uW _, fun w5 hb5 => ?_⟩)
    simp only [Act.put, List.setIfInBounds_toArray, List.set_cons_succ, List.set_cons_zero]
    refine Flow.wpT_on rfl ?_
    go_simp
    refine ⟨uW _, fun w6 hb6 => Flow.wpT_nil ?_⟩
    have b6 := hb5.trans (hb6.mono hb5.size)
    have C6 : Flow.Chg (· = g) w w6 := (((Flow.Chg.of_below hb2).mono (fun _ _ e => e.elim)).trans c3 (fun _ _ e => e)).trans (Flow.Chg.of_below b6) (fun _ _ e => e.elim)
    have hown6 := Flow.ownsRow_chg hown3 (Flow.Chg.of_below b6) (fun _ _ e => e)
    rw [xsC_del] at hown6
    obtain ⟨w7, hclr, hown7, c7⟩ := Flow.clear_row hown6 (by omega) 133 Try.underlying133 (z := .agg #[.int .u32 0, .int .u32 0, .int .i64 0, .int .i64 0, .string ⟨#[]⟩, .bool false, .string ⟨#[]⟩, .int .i64 0]) rfl (by intro u hu; simp [Value.cells] at hu; rcases hu with rfl | rfl | rfl | rfl | rfl | rfl | rfl | rfl <;> rfl) (fun w => by kernel_rfl)
    have HO7 := Flow.hide hown7
    have C7 := Flow.hide (C6.trans c7 (fun _ _ e => e))
    clear hb2 hA hown3 c3 hb5 hb6 b6 C6 hown6 hown7 c7 hgl' hbg' hnc' hS uS hSW hW uW ne1 ne2 CS CW HR w2 w3 w5
    go_wp2_with fail
    go_ret
    exact ⟨⟨_, rfl, HO7.out, rfl⟩, C7.out.mono (fun j _ e => by rw [e]; rfl)⟩
theorem room_any (g B : Nat) (l : List Cl) (w : World) (hq : IsQ w B g l) (hn : l.length ≤ 8) :
    Calls Try.prog 54 #[.pointer (some ⟨g, 0, none⟩)] w fun e w' => e = .returned (.int .i64 (8 - (l.length : Int))) ∧ w = w' := by
  obtain ⟨v, h1, h2, h3⟩ := hq
  obtain ⟨A, cap, rfl, _⟩ := Flow.ownsRow_form h2
  have c1 := h1.cell
  clear h1 h2
  go_enter Try.func54, Try.ntmps54
  go_wp2_with fail
  go_ret
  exact ⟨rfl, rfl⟩
theorem room_nil (w : World) : Calls Try.prog 54 #[.pointer none] w fun e w' => e = .returned (.int .i64 0) ∧ w = w' := by
  go_enter Try.func54, Try.ntmps54
  go_wp2_with fail
  go_ret
  exact ⟨rfl, rfl⟩
theorem new_any (B : Nat) (w : World) (hB : B ≤ w.heap.size) : Calls Try.prog 50 #[] w fun e w' => e = .returned (.pointer (some ⟨w.heap.size, 0, none⟩)) ∧ IsQ w' B w.heap.size [] ∧ Below w.heap.size w w' := by
  go_enter Try.func50, Try.ntmps50
  go_wp2_with fail
  go_ret
  exact ⟨rfl, ⟨.slice none 0 0, Flow.Blk.new _ _ _, World.ownsRow_nil _ _ _ _, hB⟩, Flow.below_alloc _ _⟩
theorem call_any (n k : Int) (w : World) (hn : 0 ≤ n ∧ n ≤ 4294967295) :
    Calls Try.prog 52 #[.int .u32 n, .int .i64 k] w fun e w' => e = .returned (.agg #[.int .u32 n, .int .u32 (if n = 4294967295 then 0 else n + 1), .int .i64 5, .int .i64 k, .string ⟨#[]⟩, .bool false, .string ⟨#[]⟩, .int .i64 n]) ∧ Below w.heap.size w w' := by
  by_cases h : n = 4294967295
  · subst h
    rw [if_pos rfl]
    go_enter Try.func52, Try.ntmps52
    go_wp2_with fail
    go_returns
    exact ⟨rfl, by go_grown⟩
  · have h2 : n + 1 ≤ 4294967295 := by omega
    rw [if_neg h]
    clear h
    go_enter Try.func52, Try.ntmps52
    go_wp2_with fail
    go_returns
    exact ⟨rfl, by go_grown⟩
set_option maxRecDepth 20000 in
theorem push_a (g B : Nat) (a : Option Nat) (l : List Cl) (c : Cl) (w : World) (hqa : IsQA w B g a l) (hn : l.length < 8) (hB : B ≤ w.heap.size) :
    Calls Try.prog 51 #[.pointer (some ⟨g, 0, none⟩), .agg #[.int .u32 c.n, .int .u32 c.m, .int .i64 c.kind, .int .i64 c.key, .string c.text, .bool c.has, .string c.old, .int .i64 c.num]] w fun e w' => e = .returned (.bool true) ∧ (∃ a', IsQA w' B g a' (l ++ [c]) ∧ (a' = a ∨ ∃ j, a' = some j ∧ w.heap.size ≤ j)) ∧ Below B w w' ∧ Flow.Chg (fun j => j = g ∨ some j = a) w w' := by
  have hroom : ((8 - (l.length : Int)) == 0) = false := by simp; omega
  have HQA := Flow.hide hqa
  have HQ := Flow.hide hqa.isQ
  clear hqa
  go_enter Try.func51, Try.ntmps51
  go_wp2_with fail
  (with_reducible refine (room_any g B l _ (HQ.out.below (Flow.below_alloc _ _)) (by omega)).mono ?_)
  rintro e w1 ⟨rfl, rfl⟩
  go_upto_region 3 with fail
  obtain ⟨w1, hw1⟩ : ∃ w1, w1 = w.alloc (.cells #[.int .u32 c.n, .int .u32 c.m, .int .i64 c.kind, .int .i64 c.key, .string c.text, .bool c.has, .string c.old, .int .i64 c.num] 125) := ⟨_, rfl⟩
  obtain ⟨tb, htb⟩ : ∃ tb, tb = w.heap.size := ⟨_, rfl⟩
  rw [← hw1, ← htb]
  have K1 : Flow.Blk w1 tb 125 #[.int .u32 c.n, .int .u32 c.m, .int .i64 c.kind, .int .i64 c.key, .string c.text, .bool c.has, .string c.old, .int .i64 c.num] := by rw [hw1, htb]; exact Flow.Blk.new _ _ _
  have B1 : Below w.heap.size w w1 := by rw [hw1]; exact Flow.below_alloc _ _
  obtain ⟨v, h1, h2, h3, h4⟩ := HQA.out
  have HVA := Flow.hide h4
  clear h4 HQA
  have N1 : Hid (∀ j, v.ownBlock = some j → j ≠ tb) := fun j hj e => by have := (h2.lt j hj).2; omega
  have N2 : Hid (∀ j, v.ownBlock = some j → j ≠ g) := q_ne h2 h1
  have G1 := h1.below B1
  have R1 := Flow.hide (Flow.ownsRow_chg h2 (Flow.Chg.of_below B1) (fun _ _ e => e))
  have BB1 := Flow.hide (B1.mono hB)
  have HGB := Flow.hide h3
  have HTW : Hid (w.heap.size ≤ tb) := by rw [htb]; exact Nat.le_refl _
  have CC1 := Flow.hide ((Flow.Chg.of_below B1).mono (T := fun j => j = g ∨ some j = a) (fun _ _ e => e.elim))
  clear h1 h2 h3 B1 hw1 htb
  obtain ⟨CS, hCS⟩ : ∃ C : World → Prop, C = fun w' => Flow.Blk w' g 156 #[v] ∧ Flow.Blk w' tb 125 #[.int .u32 c.n, .int .u32 c.m, .int .i64 c.kind, .int .i64 c.key, .string c.text, .bool c.has, .string c.old, .int .i64 c.num] := ⟨_, rfl⟩
  obtain ⟨CW, hCW⟩ : ∃ C : World → Prop, C = fun _ => True := ⟨_, rfl⟩
  have kS : ∀ w', Flow.Blk w' g 156 #[v] → Flow.Blk w' tb 125 #[.int .u32 c.n, .int .u32 c.m, .int .i64 c.kind, .int .i64 c.key, .string c.text, .bool c.has, .string c.old, .int .i64 c.num] → CS w' := by rw [hCS]; exact fun _ a b => ⟨a, b⟩
  have r1 : ∀ (p : Flow.Wd CS) (i : Nat), p.w.cell? ⟨g, i, none⟩ = (#[v] : Array Value)[i]? := fun p => (Eq.mp (congrFun hCS p.w) p.ok).1.cell
  have r2 : ∀ (p : Flow.Wd CS) (i : Nat), p.w.cell? ⟨tb, i, none⟩ = (#[.int .u32 c.n, .int .u32 c.m, .int .i64 c.kind, .int .i64 c.key, .string c.text, .bool c.has, .string c.old, .int .i64 c.num] : Array Value)[i]? := fun p => (Eq.mp (congrFun hCS p.w) p.ok).2.cell
  have hS : ∀ w', Below w1.heap.size w1 w' → CS w' := fun w' h => kS w' (G1.below h) (K1.below h)
  have hSW : ∀ w', CS w' → CW w' := by rw [hCW]; exact fun _ _ => True.intro
  have hcS : ∀ w1 w2, CS w1 → Below w1.heap.size w1 w2 → CS w2 := by rw [hCS]; exact fun _ _ h k => ⟨h.1.below k, h.2.below k⟩
  have hW : ∀ w1 w2, CW w1 → Below w1.heap.size w1 w2 → CW w2 := by rw [hCW]; exact fun _ _ _ _ => True.intro
  have uW : ∀ w', CW w' := by rw [hCW]; exact fun _ => True.intro
  have ne1 : Nonempty (Flow.Wd CS) := ⟨⟨_, hS _ (Below.refl _ _)⟩⟩
  have ne2 : Nonempty (Flow.Wd CW) := ⟨⟨w1, uW _⟩⟩
  clear hCS hCW
  refine Flow.wp_region_switch 10 CS CW [0, 1, 2, 3, 4, 5] [6, 7, 8, 9, 10] (by kernel_rfl) (by kernel_rfl) hS hSW hcS hW ?_
  dsimp only [Flow.pickIdx, List.getElem?_cons_zero, List.getElem?_cons_succ]
  iterate 6 (
      (refine Flow.wpS_strong (by kernel_rfl) (fun K' hK' => ?_)
       go_simp
       first
         | (refine hK' _ ?_; clear hK' K')
         | (apply Exists.intro
            refine ⟨fun p => ?_, hK' _ ?_⟩
            (first | fail)
            clear hK' K')))
  refine Flow.wpS_nil ?_
  clear r1 r2
  intro w2 hb2
  have G2 := G1.below hb2
  have K2 := K1.below hb2
  have R2 := Flow.hide (Flow.ownsRow_chg R1.out (Flow.Chg.of_below hb2) (fun _ _ e => e))
  have BB2 := Flow.hide (BB1.out.trans (hb2.mono (by have := BB1.out.size; omega)))
  have CC2 := Flow.hide (CC1.out.trans (Flow.Chg.of_below hb2) (fun _ _ e => e.elim))
  clear hb2 G1 K1 R1 BB1 hS CC1
  refine Flow.wpK_pre rfl rfl ?_
  go_simp
  refine ⟨kS _ (G2.alloc _) (K2.alloc _), fun w3 hb3 => ?_⟩
  obtain ⟨KL, q3, z3⟩ := Flow.laid1 (by simpa using hb3)
  have G3 := G2.below q3
  have K3 := K2.below q3
  have R3 := Flow.hide (Flow.ownsRow_chg R2.out (Flow.Chg.of_below q3) (fun _ _ e => e))
  have BB3 := Flow.hide (BB2.out.trans (q3.mono (by have := BB2.out.size; omega)))
  have hB3 : B ≤ w3.heap.size := Nat.le_trans hB BB3.out.size
  have CC3 := Flow.hide (CC2.out.trans (Flow.Chg.of_below q3) (fun _ _ e => e.elim))
  have hwz3 : w.heap.size ≤ w3.heap.size := CC3.out.size
  clear hb3 q3 z3 G2 K2 R2 BB2 CC2
  obtain ⟨v4, w4, hr4, ho4, hb4, hc4, hw4⟩ := Flow.append_row R3.out 133 Try.underlying133 info125 rfl (by decide) c.cells rfl ⟨w2.heap.size, 0, none⟩ 1 KL.news (fun u hu => xsC_one [c] u (by simpa [xsC] using hu)) (by omega) (by omega) hB3
  rw [← xsC_snoc] at ho4
  obtain ⟨A4, cap4, e4, _⟩ := Flow.ownsRow_form ho4
  subst e4
  have CC4 := Flow.hide (CC3.out.trans hc4 (fun j _ e => .inr (e.trans HVA.out)))
  have HW4 : Hid ((Value.slice A4 (l.length + 1) cap4).ownBlock = a ∨ ∃ j, (Value.slice A4 (l.length + 1) cap4).ownBlock = some j ∧ w.heap.size ≤ j) := by
    rcases hw4 with e | ⟨j, e, hj⟩
    · exact .inl (e.trans HVA.out)
    · exact .inr ⟨j, e, Nat.le_trans hwz3 hj⟩
  have G4 := G3.chg hc4 (fun e => N2.out _ e.symm rfl)
  have K4 := K3.chg hc4 (fun e => N1.out _ e.symm rfl)
  have BB4 := BB3.out.trans hb4
  refine Flow.wpK_pre rfl rfl (Flow.nUpon_append _ _ 133 rfl rfl rfl hr4 ⟨kS _ G4 K4, fun w5 hb5 => ?_⟩)
  simp only [Act.put, List.setIfInBounds_toArray, List.set_cons_succ, List.set_cons_zero]
  have G5 := G4.below hb5
  have K5 := K4.below hb5
  have R5 := Flow.hide (Flow.ownsRow_chg ho4 (Flow.Chg.of_below hb5) (fun _ _ e => e))
  have BB5 := Flow.hide (BB4.trans (hb5.mono (Nat.le_trans hB BB4.size)))
  have CC5 := Flow.hide (CC4.out.trans (Flow.Chg.of_below hb5) (fun _ _ e => e.elim))
  clear hwz3 CC3 CC4 hr4 ho4 hb4 hc4 hw4 hb5 KL G3 K3 R3 BB3 hB3 G4 K4 BB4 w3 w4
  refine Flow.wpK_pre rfl rfl ?_
  go_simp
  refine ⟨kS _ G5 K5, fun w6 hb6 => ?_⟩
  refine Flow.wpK_pre rfl rfl ?_
  go_simp
  refine ⟨kS _ (G5.below hb6) (K5.below hb6), fun w7 hb7 => ?_⟩
  have b57 := hb6.trans (hb7.mono hb6.size)
  have G7 := G5.below b57
  have R7 := Flow.ownsRow_chg R5.out (Flow.Chg.of_below b57) (fun _ _ e => e)
  have BB7 := BB5.out.trans (b57.mono (Nat.le_trans hB BB5.out.size))
  have CC7 := Flow.hide (CC5.out.trans (Flow.Chg.of_below b57) (fun _ _ e => e.elim))
  have q7 := G7.cell
  have f7 := G7.frozen
  refine Flow.wpK_at rfl rfl ?_
  go_simp
  refine ⟨uW _, fun w8 hb8 => Flow.wpK_nil ?_⟩
  have c7 : Flow.Chg (· = g) w7 (w7.setCell ⟨g, 0, none⟩ (.slice A4 (l.length + 1) cap4)) := Flow.Chg.setAt _ _ _ _
  have N7 := q_ne R7 G7
  have z8 : (w7.setCell ⟨g, 0, none⟩ (.slice A4 (l.length + 1) cap4)).heap.size = w7.heap.size := by simp
  rw [← z8] at hb8
  have CC8 := Flow.hide ((CC7.out.trans c7 (fun _ _ e => .inl e)).trans (Flow.Chg.of_below (w' := w8) (by rw [z8] at hb8; rw [z8]; exact hb8)) (fun _ _ e => e.elim))
  have HQ8 : Hid (∃ a', IsQA w8 B g a' (l ++ [c]) ∧ (a' = a ∨ ∃ j, a' = some j ∧ w.heap.size ≤ j)) := by
    refine ⟨_, ⟨.slice A4 (l.length + 1) cap4, (Flow.Blk.set_is G7 0 _ rfl).below hb8, Flow.ownsRow_chg (Flow.ownsRow_chg ?_ c7 (fun j hj e => N7 j hj e)) (Flow.Chg.of_below hb8) (fun _ _ e => e), HGB.out, rfl⟩, HW4.out⟩
    rw [List.length_append]
    exact R7
  have BB8 : Hid (Below B w w8) := (BB7.setCell (p := ⟨g, 0, none⟩) HGB.out _).trans (hb8.mono (by rw [z8]; exact Nat.le_trans hB BB7.size))
  clear CC5 CC7 hb6 hb7 b57 G5 K5 R5 BB5 G7 R7 BB7 q7 f7 c7 N7 z8 hb8 kS hSW hcS hW uW ne1 ne2 CS CW w5 w6 w7
  go_wp2_with fail
  go_ret
  exact ⟨rfl, HQ8.out, BB8.out, CC8.out⟩
theorem push_yes (g B : Nat) (l : List Cl) (c : Cl) (w : World) (hq : IsQ w B g l) (hn : l.length < 8) (hB : B ≤ w.heap.size) :
    Calls Try.prog 51 #[.pointer (some ⟨g, 0, none⟩), .agg #[.int .u32 c.n, .int .u32 c.m, .int .i64 c.kind, .int .i64 c.key, .string c.text, .bool c.has, .string c.old, .int .i64 c.num]] w fun e w' => e = .returned (.bool true) ∧ IsQ w' B g (l ++ [c]) ∧ Below B w w' := by
  obtain ⟨v, h1, h2, h3⟩ := hq
  exact (push_a g B _ l c w ⟨v, h1, h2, h3, rfl⟩ hn hB).mono fun e w' ⟨he, ⟨a', hq, _⟩, hb, _⟩ => ⟨he, hq.isQ, hb⟩
theorem push_no (g B : Nat) (l : List Cl) (c : Cl) (w : World) (hq : IsQ w B g l) (hn : l.length = 8) :
    Calls Try.prog 51 #[.pointer (some ⟨g, 0, none⟩), .agg #[.int .u32 c.n, .int .u32 c.m, .int .i64 c.kind, .int .i64 c.key, .string c.text, .bool c.has, .string c.old, .int .i64 c.num]] w fun e w' => e = .returned (.bool false) ∧ Below w.heap.size w w' := by
  have hroom : ((8 - (l.length : Int)) == 0) = true := by rw [hn]; rfl
  have HQ := Flow.hide hq
  have HN := Flow.hide hn
  clear hq hn
  go_enter Try.func51, Try.ntmps51
  go_wp2_with fail
  (with_reducible refine (room_any g B l _ (HQ.out.below (Flow.below_alloc _ _)) (by have := HN.out; omega)).mono ?_)
  rintro e w1 ⟨rfl, rfl⟩
  go_wp2_with fail
  go_ret
  exact ⟨rfl, Flow.below_alloc _ _⟩
theorem push_nil (c : Cl) (w : World) :
    Calls Try.prog 51 #[.pointer none, .agg #[.int .u32 c.n, .int .u32 c.m, .int .i64 c.kind, .int .i64 c.key, .string c.text, .bool c.has, .string c.old, .int .i64 c.num]] w fun e w' => e = .returned (.bool false) ∧ Below w.heap.size w w' := by
  go_enter Try.func51, Try.ntmps51
  go_wp2_with fail
  (with_reducible refine (room_nil _).mono ?_)
  rintro e w1 ⟨rfl, rfl⟩
  go_wp2_with fail
  go_ret
  exact ⟨rfl, Flow.below_alloc _ _⟩
theorem at_nil (key : Int) (w : World) : Calls Try.prog 63 #[.pointer none, .int .i64 key] w fun e w' => e = .returned (.int .i64 (-1)) ∧ Below w.heap.size w w' := by
  go_enter Try.func63, Try.ntmps63
  go_wp2_with fail
  go_ret
  exact ⟨rfl, Flow.below_alloc _ _⟩
set_option maxRecDepth 20000 in
theorem first_no (g B : Nat) (l : List Cl) (key : Int) (w : World) (hq : IsQ w B g l) (hn : l.length ≤ 1000) (hr : Non l key) :
    Calls Try.prog 55 #[.pointer (some ⟨g, 0, none⟩), .int .i64 key] w fun e w' => e = .returned (.tuple #[.agg #[.int .u32 0, .int .u32 0, .int .i64 0, .int .i64 0, .string ⟨#[]⟩, .bool false, .string ⟨#[]⟩, .int .i64 0], .bool false]) ∧ Below w.heap.size w w' := by
  have HQ := Flow.hide (hq.below (Flow.below_alloc w (.cells #[.int .u32 0, .int .u32 0, .int .i64 0, .int .i64 0, .string ⟨#[]⟩, .bool false, .string ⟨#[]⟩, .int .i64 0] 125)))
  have HR := Flow.hide hr
  clear hq hr
  go_enter Try.func55, Try.ntmps55
  go_wp2_with fail
  (with_reducible refine (at_any g B l key (-1) _ HQ.out hn (.inr ⟨rfl, HR.out⟩)).mono ?_)
  rintro e w1 ⟨rfl, hb⟩
  obtain ⟨K1, q1, z1⟩ := Flow.laid1 hb
  have c1 := K1.cell
  have f1 := K1.frozen
  have l1 := K1.lt
  have Q1 := Flow.hide q1
  clear hb HQ q1
  go_wp2_with fail
  obtain ⟨w2, hw2⟩ : ∃ w2, w2 = ((((((((w1.setCell ⟨w.heap.size, 0, none⟩ (.int .u32 0)).setCell ⟨w.heap.size, 1, none⟩ (.int .u32 0)).setCell ⟨w.heap.size, 2, none⟩ (.int .i64 0)).setCell ⟨w.heap.size, 3, none⟩ (.int .i64 0)).setCell ⟨w.heap.size, 4, none⟩ (.string ⟨#[]⟩)).setCell ⟨w.heap.size, 5, none⟩ (.bool false)).setCell ⟨w.heap.size, 6, none⟩ (.string ⟨#[]⟩)).setCell ⟨w.heap.size, 7, none⟩ (.int .i64 0)) := ⟨_, rfl⟩
  obtain ⟨K2, C2⟩ := Flow.store8 (b0 := .int .u32 0) (b1 := .int .u32 0) (b2 := .int .i64 0) (b3 := .int .i64 0) (b4 := .string ⟨#[]⟩) (b5 := .bool false) (b6 := .string ⟨#[]⟩) (b7 := .int .i64 0) K1
  rw [← hw2] at K2 C2 ⊢
  have q2 := K2.cell
  exact bodyPost_ret (v := .tuple #[.agg #[.int .u32 0, .int .u32 0, .int .i64 0, .int .i64 0, .string ⟨#[]⟩, .bool false, .string ⟨#[]⟩, .int .i64 0], .bool false]) (by simp [results, Try.results55, go_sem, q2]) rfl ⟨rfl, Q1.out.trans (C2.below (fun j _ e => by omega) Q1.out.size)⟩
set_option maxRecDepth 20000 in
theorem first_yes (g B : Nat) (l : List Cl) (key : Int) (i : Nat) (c : Cl) (w : World) (hq : IsQ w B g l) (hn : l.length ≤ 1000) (hr : Fst l key i) (hc : l[i]? = some c) :
    Calls Try.prog 55 #[.pointer (some ⟨g, 0, none⟩), .int .i64 key] w fun e w' => e = .returned (.tuple #[.agg #[.int .u32 c.n, .int .u32 c.m, .int .i64 c.kind, .int .i64 c.key, .string c.text, .bool c.has, .string c.old, .int .i64 c.num], .bool true]) ∧ Below w.heap.size w w' := by
  have HQ := Flow.hide (hq.below (Flow.below_alloc w (.cells #[.int .u32 0, .int .u32 0, .int .i64 0, .int .i64 0, .string ⟨#[]⟩, .bool false, .string ⟨#[]⟩, .int .i64 0] 125)))
  have HR := Flow.hide hr
  have HC := Flow.hide hc
  have hil : i < l.length := (List.getElem?_eq_some_iff.1 hc).1
  have hiI : (i : Int) < (l.length : Int) := by omega
  clear hq hr hc
  go_enter Try.func55, Try.ntmps55
  go_wp2_with fail
  (with_reducible refine (at_any g B l key i _ HQ.out hn (.inl ⟨i, rfl, HR.out⟩)).mono ?_)
  rintro e w1 ⟨rfl, hb⟩
  obtain ⟨v, h1, h2, h3⟩ := HQ.out.below hb
  obtain ⟨K1, q1, z1⟩ := Flow.laid1 hb
  obtain ⟨gb, cap, rfl, hBg, hgb, _, y0, y1, y2, y3, y4, y5, y6, y7⟩ := Row.at_ h2 rfl HC.out
  have c0 := h1.cell
  have l0 := h1.lt
  have c1 := K1.cell
  have f1 := K1.frozen
  have l1 := K1.lt
  have Q1 := Flow.hide q1
  clear hb HQ q1 h1 h2
  go_wp2_with fail
  obtain ⟨w2, hw2⟩ : ∃ w2, w2 = ((((((((w1.setCell ⟨w.heap.size, 0, none⟩ (.int .u32 c.n)).setCell ⟨w.heap.size, 1, none⟩ (.int .u32 c.m)).setCell ⟨w.heap.size, 2, none⟩ (.int .i64 c.kind)).setCell ⟨w.heap.size, 3, none⟩ (.int .i64 c.key)).setCell ⟨w.heap.size, 4, none⟩ (.string c.text)).setCell ⟨w.heap.size, 5, none⟩ (.bool c.has)).setCell ⟨w.heap.size, 6, none⟩ (.string c.old)).setCell ⟨w.heap.size, 7, none⟩ (.int .i64 c.num)) := ⟨_, rfl⟩
  obtain ⟨K2, C2⟩ := Flow.store8 (b0 := .int .u32 c.n) (b1 := .int .u32 c.m) (b2 := .int .i64 c.kind) (b3 := .int .i64 c.key) (b4 := .string c.text) (b5 := .bool c.has) (b6 := .string c.old) (b7 := .int .i64 c.num) K1
  rw [← hw2] at K2 C2 ⊢
  have q2 := K2.cell
  exact bodyPost_ret (v := .tuple #[.agg #[.int .u32 c.n, .int .u32 c.m, .int .i64 c.kind, .int .i64 c.key, .string c.text, .bool c.has, .string c.old, .int .i64 c.num], .bool true]) (by simp [results, Try.results55, go_sem, q2]) rfl ⟨rfl, Q1.out.trans (C2.below (fun j _ e => by omega) Q1.out.size)⟩
set_option maxRecDepth 20000 in
theorem first_nil (key : Int) (w : World) :
    Calls Try.prog 55 #[.pointer none, .int .i64 key] w fun e w' => e = .returned (.tuple #[.agg #[.int .u32 0, .int .u32 0, .int .i64 0, .int .i64 0, .string ⟨#[]⟩, .bool false, .string ⟨#[]⟩, .int .i64 0], .bool false]) ∧ Below w.heap.size w w' := by
  go_enter Try.func55, Try.ntmps55
  go_wp2_with fail
  (with_reducible refine (at_nil key _).mono ?_)
  rintro e w1 ⟨rfl, hb⟩
  obtain ⟨K1, q1, z1⟩ := Flow.laid1 hb
  have c1 := K1.cell
  have f1 := K1.frozen
  have l1 := K1.lt
  have Q1 := Flow.hide q1
  clear hb q1
  go_wp2_with fail
  obtain ⟨w2, hw2⟩ : ∃ w2, w2 = ((((((((w1.setCell ⟨w.heap.size, 0, none⟩ (.int .u32 0)).setCell ⟨w.heap.size, 1, none⟩ (.int .u32 0)).setCell ⟨w.heap.size, 2, none⟩ (.int .i64 0)).setCell ⟨w.heap.size, 3, none⟩ (.int .i64 0)).setCell ⟨w.heap.size, 4, none⟩ (.string ⟨#[]⟩)).setCell ⟨w.heap.size, 5, none⟩ (.bool false)).setCell ⟨w.heap.size, 6, none⟩ (.string ⟨#[]⟩)).setCell ⟨w.heap.size, 7, none⟩ (.int .i64 0)) := ⟨_, rfl⟩
  obtain ⟨K2, C2⟩ := Flow.store8 (b0 := .int .u32 0) (b1 := .int .u32 0) (b2 := .int .i64 0) (b3 := .int .i64 0) (b4 := .string ⟨#[]⟩) (b5 := .bool false) (b6 := .string ⟨#[]⟩) (b7 := .int .i64 0) K1
  rw [← hw2] at K2 C2 ⊢
  have q2 := K2.cell
  exact bodyPost_ret (v := .tuple #[.agg #[.int .u32 0, .int .u32 0, .int .i64 0, .int .i64 0, .string ⟨#[]⟩, .bool false, .string ⟨#[]⟩, .int .i64 0], .bool false]) (by simp [results, Try.results55, go_sem, q2]) rfl ⟨rfl, Q1.out.trans (C2.below (fun j _ e => by omega) Q1.out.size)⟩
theorem drain_a (g B : Nat) (a : Option Nat) (l : List Cl) (w : World) (hq : IsQA w B g a l) :
    Calls Try.prog 56 #[.pointer (some ⟨g, 0, none⟩)] w fun e w' => (∃ v, e = .returned v ∧ w'.ownsRow B 125 8 v l.length (xsC l) ∧ v.ownBlock = a) ∧ IsQA w' B g none [] ∧ Below B w w' ∧ Flow.Chg (· = g) w w' := by
  obtain ⟨v, h1, h2, h3, h4⟩ := hq
  have N := Flow.hide (q_ne h2 h1)
  obtain ⟨A, cap, rfl, _⟩ := Flow.ownsRow_form h2
  have c1 := h1.cell
  have f1 := h1.frozen
  have H1 := Flow.hide h1
  have H2 := Flow.hide h2
  clear h1 h2
  go_enter Try.func56, Try.ntmps56
  go_wp2_with fail
  have C := Flow.Chg.setAt w g 0 (.slice none 0 0)
  have G := Flow.hide (Flow.Blk.set_is H1.out 0 (.slice none 0 0) (cs' := #[.slice none 0 0]) rfl)
  have R := Flow.hide (Flow.ownsRow_chg H2.out C (fun j hj e => N.out j hj e))
  have BB := Flow.hide (C.below (B := B) (fun j _ e => by subst e; exact h3) (by have := H1.out.lt; omega))
  have HC := Flow.hide C
  clear C c1 f1
  go_ret
  exact ⟨⟨_, rfl, R.out, h4⟩, ⟨_, G.out, World.ownsRow_nil _ _ _ _, h3, rfl⟩, BB.out, HC.out⟩
theorem drain_nil (w : World) : Calls Try.prog 56 #[.pointer none] w fun e w' => e = .returned (.slice none 0 0) ∧ w = w' := by
  go_enter Try.func56, Try.ntmps56
  go_wp2_with fail
  go_ret
  exact ⟨rfl, rfl⟩
end Go.Proofs.Ythkphapmnlndbab
