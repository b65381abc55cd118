/- MarkOrders: for every two stamps and every list of stamps the law returns true. No condition. -/
import Derived.Test.YthkphapmnlndbabRows
import Derived.Test.YthkphapmnlndbabMOrd
import Derived.Test.YthkphapmnlndbabOpen2
import Derived.Test.YthkphapmnlndbabSteps
import Derived.Deep.Cut
import Derived.Deep.DeepCutAuto
namespace Go.Proofs.Ythkphapmnlndbab.MOrders
open Go.ChangeShapes Go.WideShapes Go.ChangeAt Go.RowKit
set_option linter.unusedSimpArgs false
set_option maxHeartbeats 40000000
attribute [local irreducible] Flow.wpSeg Flow.wpF Flow.wpG Flow.wpS Flow.wpT
theorem less_is (n b l n' b' l' : Int) (x : Bool) (w : World) (h : Hid (slt n b l n' b' l' = x)) :
    Calls Try.prog 19 #[.agg #[.int .u32 n, .int .u8 b, .int .u8 l], .agg #[.int .u32 n', .int .u8 b', .int .u8 l']] w fun e w' => e = .returned (.bool x) ∧ Below w.heap.size w w' := by rw [← h.out]; exact less_any _ _ _ _ _ _ _
theorem rless_is (n b l n' b' l' : Int) (x : Bool) (w : World) (o1 : Hid (St.ok (n, b, l))) (o2 : Hid (St.ok (n', b', l'))) (h : Hid (slt n b l n' b' l' = x)) :
    Calls Try.prog 22 #[.agg #[.int .u32 n, .int .u8 b, .int .u8 l], .agg #[.int .u32 n', .int .u8 b', .int .u8 l']] w fun e w' => e = .returned (.bool x) ∧ Below w.heap.size w w' := by rw [← h.out]; exact rless_st _ _ _ _ _ _ _ o1.out o2.out
theorem below_is (n b n' b' : Int) (x : Bool) (w : World) (h : Hid (slt n b 0 n' b' 0 = x)) :
    Calls Try.prog 20 #[.agg #[.int .u32 n, .int .u8 b], .agg #[.int .u32 n', .int .u8 b']] w fun e w' => e = .returned (.bool x) ∧ Below w.heap.size w w' := by rw [← h.out, ← mlt_slt]; exact below_any _ _ _ _ _
theorem none_is (n b : Int) (x : Bool) (w : World) (h : Hid (decide (n = 0 ∧ b = 0) = x)) :
    Calls Try.prog 23 #[.agg #[.int .u32 n, .int .u8 b]] w fun e w' => e = .returned (.bool x) ∧ Below w.heap.size w w' := by rw [← h.out]; exact none_any _ _ _
/-- The stamps that came in. -/
def Stamps (w : World) (A : Option Addr) (n : Nat) (x : Nat → St) : Prop :=
  0 < n → ∃ g off, A = some ⟨g, off, none⟩ ∧ g < w.heap.size ∧ ∀ i, i < n → (w.cell? ⟨g, off + i * 3, none⟩ = some (.int .u32 (x i).1) ∧ w.cell? ⟨g, off + i * 3 + 1, none⟩ = some (.int .u8 (x i).2.1) ∧ w.cell? ⟨g, off + i * 3 + 2, none⟩ = some (.int .u8 (x i).2.2)) ∧ (x i).ok
theorem stamps_of {H : Type} {enc : TypeId × Value → H} {base : Nat} {spare : Nat → Bool} {held : Bool} {w : World} {A : Option Addr} {n : Nat} (h : 0 < n → ∃ g off, A = some ⟨g, off, none⟩ ∧ g < w.heap.size ∧
    ∀ i, i < n → ∀ (j : Nat) (s : Open.Shp), ([.int .u32, .int .u8, .int .u8] : List Open.Shp)[j]? = some s → ∃ u, w.cell? ⟨g, off + (i * ([.int .u32, .int .u8, .int .u8] : List Open.Shp).length + j), none⟩ = some u ∧ Open.CellOk enc Try.prog w base spare held s u) :
    ∃ x, Stamps w A n x := by
  rcases Nat.eq_zero_or_pos n with h0 | h0
  · exact ⟨fun _ => (0, 0, 0), fun hn => by omega⟩
  · obtain ⟨g, off, rfl, hg, hc⟩ := h h0
    have hx : ∀ i, i < n → ∃ y : St, (w.cell? ⟨g, off + i * 3, none⟩ = some (.int .u32 y.1) ∧ w.cell? ⟨g, off + i * 3 + 1, none⟩ = some (.int .u8 y.2.1) ∧ w.cell? ⟨g, off + i * 3 + 2, none⟩ = some (.int .u8 y.2.2)) ∧ y.ok := by
      intro i hi
      obtain ⟨u0, e0, a0, rfl, w0⟩ := hc i hi 0 _ rfl
      obtain ⟨u1, e1, a1, rfl, w1⟩ := hc i hi 1 _ rfl
      obtain ⟨u2, e2, a2, rfl, w2⟩ := hc i hi 2 _ rfl
      have e : ∀ j, off + (i * ([.int .u32, .int .u8, .int .u8] : List Open.Shp).length + j) = off + i * 3 + j := fun j => by simp; omega
      rw [e] at e0 e1 e2
      exact ⟨(a0, a1, a2), ⟨e0, e1, e2⟩, bounds_u32 w0, bounds_u8 w1, bounds_u8 w2⟩
    obtain ⟨f, hf⟩ := Deep.choose_lt hx
    exact ⟨f, fun _ => ⟨g, off, rfl, hg, hf⟩⟩
set_option maxRecDepth 100000 in
theorem walk (a b c d e f : Int) (AA : Option Addr) (len cap : Nat) (x : Nat → St) (w : World) (o1 : St.ok (a, b, c)) (o2 : St.ok (d, e, f)) (hlen : len ≤ maxLen) (hx : Stamps w AA len x) :
    Calls Try.prog 5 #[.agg #[.int .u32 a, .int .u8 b, .int .u8 c], .agg #[.int .u32 d, .int .u8 e, .int .u8 f], .slice AA len cap] w fun e w' => e = .returned (.bool true) ∧ Below w.heap.size w w' := by
  unfold maxLen at hlen
  have HX := Flow.hide hx
  have O1 := Flow.hide o1
  have O2 := Flow.hide o2
  have O3 : Hid (St.ok (a, b, 0)) := ⟨o1.1, o1.2.1, by simp, by simp⟩
  have O4 : Hid (St.ok (d, e, 0)) := ⟨o2.1, o2.2.1, by simp, by simp⟩
  clear hx o1 o2
  obtain ⟨S, hS0⟩ : ∃ S, slt a b c d e f = S := ⟨_, rfl⟩
  obtain ⟨M, hM0⟩ : ∃ M, slt a b 0 d e 0 = M := ⟨_, rfl⟩
  obtain ⟨N, hN0⟩ : ∃ N, decide (a = 0 ∧ b = 0) = N := ⟨_, rfl⟩
  have HSL := Flow.hide hS0
  have HML := Flow.hide hM0
  have HNL := Flow.hide hN0
  clear hS0 hM0 hN0
  go_enter Try.func5, Try.ntmps5
  go_wp2_with fail
  refine (speaks03 _).mono ?_
  rintro e1 w1 ⟨rfl, hb1⟩
  obtain ⟨k1, k2, b1, hz⟩ := Flow.laid2 hb1
  clear hb1
  go_wp2_with fail
  refine Flow.wp_region_flow (by kernel_rfl) 8 rfl ?_
  refine Flow.wpF_seg [0, 1, 2, 3] 4 rfl (by kernel_rfl) ?_
  dsimp only [Flow.pickOps, List.getElem?_cons_zero, List.getElem?_cons_succ]
  have r0 := k1.rg
  have r1 := k2.rg
  repeat (first
    | (refine Flow.wpSeg_step (fun K' hK' => ?_)
       go_simp
       first
         | (refine hK' _ ?_; clear hK' K')
         | (apply Exists.intro
            refine ⟨fun p => ?_, hK' _ ?_⟩
            (first | with_reducible exact (told_any _ _ _ _))
            clear hK' K')))
  refine Flow.wpSeg_nil ?_
  clear r0 r1
  refine Flow.wpF_declared [⟨4, 6, 7, 23, 30, #[.int .u32 0, .int .u8 0, .int .u8 0], #[.int .u32 a, .int .u8 b, .int .u8 c]⟩, ⟨5, 7, 8, 25, 30, #[.int .u32 0, .int .u8 0, .int .u8 0], #[.int .u32 d, .int .u8 e, .int .u8 f]⟩] 0 (by kernel_rfl) ?hz ?hs ?_
  case hz =>
    intro p hp wz; simp only [List.mem_cons, List.not_mem_nil, or_false] at hp
    rcases hp with rfl | rfl
    all_goals kernel_rfl
  case hs =>
    intro p hp; simp only [List.mem_cons, List.not_mem_nil, or_false] at hp
    rcases hp with rfl | rfl
    all_goals exact ⟨rfl, by simp, by kernel_rfl, rfl, by simp [Value.oneCell']⟩
  intro gf own hgf hnf hown
  dsimp only [Flow.putG, if_true]
  simp only [Act.put, List.setIfInBounds_toArray, List.set_cons_succ, List.set_cons_zero, if_true]
  refine Flow.wpF_done (by kernel_rfl) ?_
  intro w2 hC hO
  have k7 : Flow.Blk w2 (gf 4) 30 #[.int .u32 a, .int .u8 b, .int .u8 c] := (hO _ (hown ⟨4, 6, 7, 23, 30, #[.int .u32 0, .int .u8 0, .int .u8 0], #[.int .u32 a, .int .u8 b, .int .u8 c]⟩ (by simp))).2
  have k8 : Flow.Blk w2 (gf 5) 30 #[.int .u32 d, .int .u8 e, .int .u8 f] := (hO _ (hown ⟨5, 7, 8, 25, 30, #[.int .u32 0, .int .u8 0, .int .u8 0], #[.int .u32 d, .int .u8 e, .int .u8 f]⟩ (by simp))).2
  have k1 := k1.below hC.below
  have k2 := k2.below hC.below
  have b1 := b1.trans (hC.below.mono b1.size)
  clear hC hO hown hnf hgf
  generalize gf 4 = g7 at *
  generalize gf 5 = g8 at *
  go_wp2_with fail
  refine Flow.wp_region_flow (by kernel_rfl) 6 rfl ?_
  refine Flow.wpF_seg [0, 1] 4 rfl (by kernel_rfl) ?_
  dsimp only [Flow.pickOps, List.getElem?_cons_zero, List.getElem?_cons_succ]
  have r0 := k1.rg
  have r1 := k2.rg
  repeat (first
    | (refine Flow.wpSeg_step (fun K' hK' => ?_)
       go_simp
       first
         | (refine hK' _ ?_; clear hK' K')
         | (apply Exists.intro
            refine ⟨fun p => ?_, hK' _ ?_⟩
            (first | fail)
            clear hK' K')))
  refine Flow.wpSeg_nil ?_
  clear r0 r1
  refine Flow.wpF_declared [⟨2, 4, 9, 26, 34, #[.int .u32 0, .int .u8 0, .int .u8 0], #[.int .u32 a, .int .u8 b, .int .u8 c]⟩, ⟨3, 5, 10, 27, 34, #[.int .u32 0, .int .u8 0, .int .u8 0], #[.int .u32 d, .int .u8 e, .int .u8 f]⟩] 0 (by kernel_rfl) ?hz ?hs ?_
  case hz =>
    intro p hp wz; simp only [List.mem_cons, List.not_mem_nil, or_false] at hp
    rcases hp with rfl | rfl
    all_goals kernel_rfl
  case hs =>
    intro p hp; simp only [List.mem_cons, List.not_mem_nil, or_false] at hp
    rcases hp with rfl | rfl
    all_goals exact ⟨rfl, by simp, by kernel_rfl, rfl, by simp [Value.oneCell']⟩
  intro gf own hgf hnf hown
  dsimp only [Flow.putG, if_true]
  simp only [Act.put, List.setIfInBounds_toArray, List.set_cons_succ, List.set_cons_zero, if_true]
  refine Flow.wpF_done (by kernel_rfl) ?_
  intro w3 hC hO
  have k9 : Flow.Blk w3 (gf 2) 34 #[.int .u32 a, .int .u8 b, .int .u8 c] := (hO _ (hown ⟨2, 4, 9, 26, 34, #[.int .u32 0, .int .u8 0, .int .u8 0], #[.int .u32 a, .int .u8 b, .int .u8 c]⟩ (by simp))).2
  have k10 : Flow.Blk w3 (gf 3) 34 #[.int .u32 d, .int .u8 e, .int .u8 f] := (hO _ (hown ⟨3, 5, 10, 27, 34, #[.int .u32 0, .int .u8 0, .int .u8 0], #[.int .u32 d, .int .u8 e, .int .u8 f]⟩ (by simp))).2
  have k1 := k1.below hC.below
  have k2 := k2.below hC.below
  have k7 := k7.below hC.below
  have k8 := k8.below hC.below
  have b1 := b1.trans (hC.below.mono b1.size)
  clear hC hO hown hnf hgf
  generalize gf 2 = g9 at *
  generalize gf 3 = g10 at *
  have e1 : (S != S) = false := by cases S <;> rfl
  have e2 : (M != M) = false := by cases M <;> rfl
  have e3 : (N != N) = false := by cases N <;> rfl
  have r1 := k1.rg
  have r2 := k2.rg
  have r7 := k7.rg
  have r8 := k8.rg
  have r9 := k9.rg
  have r10 := k10.rg
  have B1 := Flow.hide b1
  clear k1 k2 k7 k8 k9 k10 b1
  go_upto_region 5 with fail
  go_cut [67] (fun s67 wx => s67 = .bool false ∧ Below w.heap.size w wx)
  case first =>
    by_cases ha : a = 0
    · subst ha
      have e5 : N = (b == 0) := by rw [← HNL.out]; by_cases hb : b = 0 <;> simp [hb]
      rw [e5] at e3
      have HE5 := Flow.hide e5
      clear e5
      refine Flow.wp_region_all (by kernel_rfl) (by kernel_rfl) ?_
      repeat (first
        | (refine Flow.wpSeg_step (fun K' hK' => ?_)
           go_simp
           first
             | (refine hK' _ ?_; clear hK' K')
             | (apply Exists.intro
                refine ⟨fun p => ?_, hK' _ ?_⟩
                (first | with_reducible exact (less_is 0 b c d e f S _ HSL) | with_reducible exact (rless_is 0 b c d e f S _ O1 O2 HSL) | with_reducible exact (below_is 0 b d e M _ HML) | with_reducible exact (rless_is 0 b 0 d e 0 M _ O3 O4 HML) | with_reducible exact (none_is 0 b (b == 0) _ (Flow.hide (HE5.out ▸ HNL.out))))
                clear hK' K')))
      refine Flow.wpSeg_nil ?_
      intro w' hb'
      go_wp2_with fail
      go_meet
      exact ⟨rfl, B1.out.trans (hb'.mono B1.out.size)⟩
    · have e5 : N = false := by rw [← HNL.out]; simp [ha]
      have e6 : (a == 0) = false := by simp [ha]
      have HE5 := Flow.hide e5
      clear e5 ha
      refine Flow.wp_region_all (by kernel_rfl) (by kernel_rfl) ?_
      repeat (first
        | (refine Flow.wpSeg_step (fun K' hK' => ?_)
           go_simp
           first
             | (refine hK' _ ?_; clear hK' K')
             | (apply Exists.intro
                refine ⟨fun p => ?_, hK' _ ?_⟩
                (first | with_reducible exact (less_is a b c d e f S _ HSL) | with_reducible exact (rless_is a b c d e f S _ O1 O2 HSL) | with_reducible exact (below_is a b d e M _ HML) | with_reducible exact (rless_is a b 0 d e 0 M _ O3 O4 HML) | with_reducible exact (none_is a b false _ (Flow.hide (HE5.out ▸ HNL.out))))
                clear hK' K')))
      refine Flow.wpSeg_nil ?_
      intro w' hb'
      go_wp2_with fail
      go_meet
      exact ⟨rfl, B1.out.trans (hb'.mono B1.out.size)⟩
  case rest =>
    obtain ⟨rfl, hb⟩ := hcut
    have HB := Flow.hide hb
    clear hb B1 r1 r2 r7 r8 r9 r10 e1 e2 e3 HSL HML HNL O1 O2 O3 O4
    go_wp2_with fail
    go_loopw [11, 12, 13, 14, 15] (fun t11 t12 t13 t14 t15 wr => ∃ (k : Nat) (l : List St), k ≤ len ∧ k ≤ 20 ∧ t15 = .int .i64 k ∧ l.length = k ∧ (∀ s ∈ l, s.ok) ∧ Rws wr w.heap.size t11 t12 t13 t14 k k k k (xs3 l) (xs2 l) (xs3 l) (xs3 (l.map z0)) ∧ Below w.heap.size w wr) (fun _ _ _ _ t15 _ => len - (intOf t15).toNat)
    case atStart => exact ⟨0, [], by omega, by omega, rfl, rfl, by simp, ⟨World.ownsRow_nil _ _ _ _, World.ownsRow_nil _ _ _ _, World.ownsRow_nil _ _ _ _, World.ownsRow_nil _ _ _ _, fun g hg => by cases hg⟩, HB.out⟩
    case round =>
      obtain ⟨k, l, hk, hk20, rfl, hll, hok, hR, hb⟩ := hrel
      have HL := Flow.hide hll
      have HOK := Flow.hide hok
      have HR := Flow.hide hR
      have HB := Flow.hide hb
      clear hll hok hR hb
      by_cases hgo : k < len ∧ k < 20
      · obtain ⟨hkl, hk2⟩ := hgo
        obtain ⟨g, off, rfl, hg, hc⟩ := HX.out (by omega)
        obtain ⟨⟨c0, c1, c2⟩, ok0⟩ := hc k hkl
        obtain ⟨⟨N, Y, L⟩, hs⟩ : ∃ s, s = x k := ⟨_, rfl⟩
        rw [← hs] at c0 c1 c2 ok0
        simp only at c0 c1 c2
        have OK0 := Flow.hide ok0
        have hbw : w.heap.size ≤ wr.heap.size := HB.out.size
        clear hc hs ok0
        have hklI : (k : Int) < (len : Int) := by omega
        have hfield : ∀ w : World, (Instr.field 30 (.agg #[.int .u32 N, .int .u8 Y, .int .u8 L]) 0).run Try.prog w = .ok (.agg #[.int .u32 N, .int .u8 Y]) w := fun w => by kernel_rfl
        obtain ⟨CW, hCW⟩ : ∃ C : World → Prop, C = fun w' => Below w.heap.size w w' ∧ wr.heap.size ≤ w'.heap.size := ⟨_, rfl⟩
        have kW : ∀ w', Below w.heap.size w w' → wr.heap.size ≤ w'.heap.size → CW w' := by rw [hCW]; exact fun _ h k => ⟨h, k⟩
        have uW : ∀ w', CW w' → Below w.heap.size w w' := by rw [hCW]; exact fun _ h => h.1
        have hW : ∀ w1 w2, CW w1 → Below w1.heap.size w1 w2 → CW w2 := by rw [hCW]; exact fun _ _ h k => ⟨h.1.trans (k.mono h.1.size), Nat.le_trans h.2 k.size⟩
        clear hCW
        have r0 : ∀ p : Flow.Wd CW, p.w.cell? ⟨g, off + k * 3, none⟩ = some (.int .u32 N) := fun p => ((uW _ p.ok).cell (p := ⟨g, off + k * 3, none⟩) hg).trans c0
        have r1 : ∀ p : Flow.Wd CW, p.w.cell? ⟨g, off + k * 3 + 1, none⟩ = some (.int .u8 Y) := fun p => ((uW _ p.ok).cell (p := ⟨g, off + k * 3 + 1, none⟩) hg).trans c1
        have r2 : ∀ p : Flow.Wd CW, p.w.cell? ⟨g, off + k * 3 + 2, none⟩ = some (.int .u8 L) := fun p => ((uW _ p.ok).cell (p := ⟨g, off + k * 3 + 2, none⟩) hg).trans c2
        have ne1 : Nonempty (Flow.Wd CW) := ⟨⟨wr, kW _ HB.out (Nat.le_refl _)⟩⟩
        have cW : ∀ w', Below wr.heap.size wr w' → CW w' := fun w' h => kW _ (HB.out.trans (h.mono hbw)) h.size
        clear c0 c1 c2
        go_upto_region 13 with fail
        refine Flow.wp_region_chain 1000 CW CW [0, 1, 2, 3, 4, 5, 8, 9, 10, 11, 12] [6, 7, 13, 14, 15, 16, 17, 18, 19] (by kernel_rfl) (by kernel_rfl) (.inl rfl) cW (fun _ h => h) hW ?_
        dsimp only [Flow.pickIdx, List.getElem?_cons_zero, List.getElem?_cons_succ]
        iterate 11 (
            (refine Flow.wpS_weak (by kernel_rfl) (fun K' hK' => ?_)
             go_simp
             first
               | (refine hK' _ ?_; clear hK' K')
               | (apply Exists.intro
                  refine ⟨fun p => ?_, hK' _ ?_⟩
                  (first | with_reducible exact (told_any N Y L _))
                  clear hK' K')))
        refine Flow.wpS_nil ?_
        dsimp only [Flow.pickOps, List.getElem?_cons_zero, List.getElem?_cons_succ]
        intro w2 hb2
        have R2 := Flow.hide (HR.out.below hb2)
        have B2 := Flow.hide (HB.out.trans (hb2.mono hbw))
        have Z2 : wr.heap.size ≤ w2.heap.size := hb2.size
        clear hb2
        refine Flow.wpT_on rfl ?_
        go_simp
        refine ⟨kW _ (B2.out.alloc B2.out.size _) (by simp; omega), fun w3 hb3 => ?_⟩
        obtain ⟨Ka2, q3, z3⟩ := Flow.laid1 (by simpa using hb3)
        clear hb3
        obtain ⟨ga2, hga2⟩ : ∃ g, g = w2.heap.size := ⟨_, rfl⟩
        rw [← hga2] at Ka2 ⊢
        clear hga2 z3
        have R3 := Flow.hide (R2.out.below q3)
        have B3 := Flow.hide (B2.out.trans (q3.mono B2.out.size))
        have Z3 : wr.heap.size ≤ w3.heap.size := Nat.le_trans Z2 q3.size
        clear R2 B2 Z2 q3 
        obtain ⟨v4, w4, hr4, P4, q4, c4⟩ := R3.out.app1 ga2 _ _ _ Ka2 ⟨rfl, rfl, rfl⟩ (by omega) B3.out.size
        have B4 := Flow.hide (B3.out.trans q4)
        have Z4 : wr.heap.size ≤ w4.heap.size := Nat.le_trans Z3 c4.size
        clear R3 B3 Z3 q4 c4 Ka2
        have R4 := Flow.hide P4
        clear P4
        refine Flow.wpT_on rfl (Flow.nUpon_append _ _ 48 rfl rfl rfl hr4 ⟨kW _ B4.out Z4, fun w5 hb5 => ?_⟩)
        simp only [Act.put, List.setIfInBounds_toArray, List.set_cons_succ, List.set_cons_zero]
        clear hr4
        have R5 := Flow.hide (R4.out.below hb5)
        have B5 := Flow.hide (B4.out.trans (hb5.mono B4.out.size))
        have Z5 : wr.heap.size ≤ w5.heap.size := Nat.le_trans Z4 hb5.size
        clear R4 B4 Z4 hb5 
        refine Flow.wpT_on rfl ?_
        go_simp
        (with_reducible refine (told_any N Y L _).mono ?_)
        rintro e w6 ⟨rfl, hb6⟩
        refine ⟨_, rfl, kW _ (B5.out.trans (hb6.mono B5.out.size)) (Nat.le_trans Z5 hb6.size), fun w7 hb7 => ?_⟩
        have hq7 := hb6.trans (hb7.mono hb6.size)
        clear hb6 hb7
        have R7 := Flow.hide (R5.out.below hq7)
        have B7 := Flow.hide (B5.out.trans (hq7.mono B5.out.size))
        have Z7 : wr.heap.size ≤ w7.heap.size := Nat.le_trans Z5 hq7.size
        clear R5 B5 Z5 hq7 
        refine Flow.wpT_on rfl ?_
        go_simp
        refine ⟨kW _ B7.out Z7, fun w8 hb8 => ?_⟩
        have R8 := Flow.hide (R7.out.below hb8)
        have B8 := Flow.hide (B7.out.trans (hb8.mono B7.out.size))
        have Z8 : wr.heap.size ≤ w8.heap.size := Nat.le_trans Z7 hb8.size
        clear R7 B7 Z7 hb8 
        refine Flow.wpT_on rfl ?_
        go_simp
        refine ⟨kW _ B8.out Z8, fun w9 hb9 => ?_⟩
        have R9 := Flow.hide (R8.out.below hb9)
        have B9 := Flow.hide (B8.out.trans (hb9.mono B8.out.size))
        have Z9 : wr.heap.size ≤ w9.heap.size := Nat.le_trans Z8 hb9.size
        clear R8 B8 Z8 hb9 
        refine Flow.wpT_on rfl ?_
        go_simp
        refine ⟨kW _ (B9.out.alloc B9.out.size _) (by simp; omega), fun w10 hb10 => ?_⟩
        obtain ⟨Ka9, q10, z10⟩ := Flow.laid1 (by simpa using hb10)
        clear hb10
        obtain ⟨ga9, hga9⟩ : ∃ g, g = w9.heap.size := ⟨_, rfl⟩
        rw [← hga9] at Ka9 ⊢
        clear hga9 z10
        have R10 := Flow.hide (R9.out.below q10)
        have B10 := Flow.hide (B9.out.trans (q10.mono B9.out.size))
        have Z10 : wr.heap.size ≤ w10.heap.size := Nat.le_trans Z9 q10.size
        clear R9 B9 Z9 q10 
        obtain ⟨v11, w11, hr11, P11, q11, c11⟩ := R10.out.app2 ga9 _ _ Ka9 ⟨rfl, rfl⟩ (by omega) B10.out.size
        have B11 := Flow.hide (B10.out.trans q11)
        have Z11 : wr.heap.size ≤ w11.heap.size := Nat.le_trans Z10 c11.size
        clear R10 B10 Z10 q11 c11 Ka9
        have R11 := Flow.hide P11
        clear P11
        refine Flow.wpT_on rfl (Flow.nUpon_append _ _ 49 rfl rfl rfl hr11 ⟨kW _ B11.out Z11, fun w12 hb12 => ?_⟩)
        simp only [Act.put, List.setIfInBounds_toArray, List.set_cons_succ, List.set_cons_zero]
        clear hr11
        have R12 := Flow.hide (R11.out.below hb12)
        have B12 := Flow.hide (B11.out.trans (hb12.mono B11.out.size))
        have Z12 : wr.heap.size ≤ w12.heap.size := Nat.le_trans Z11 hb12.size
        clear R11 B11 Z11 hb12 
        refine Flow.wpT_on rfl ?_
        go_simp
        refine ⟨kW _ B12.out Z12, fun w13 hb13 => ?_⟩
        have R13 := Flow.hide (R12.out.below hb13)
        have B13 := Flow.hide (B12.out.trans (hb13.mono B12.out.size))
        have Z13 : wr.heap.size ≤ w13.heap.size := Nat.le_trans Z12 hb13.size
        clear R12 B12 Z12 hb13 
        refine Flow.wpT_on rfl ?_
        go_simp
        refine ⟨kW _ B13.out Z13, fun w14 hb14 => ?_⟩
        have R14 := Flow.hide (R13.out.below hb14)
        have B14 := Flow.hide (B13.out.trans (hb14.mono B13.out.size))
        have Z14 : wr.heap.size ≤ w14.heap.size := Nat.le_trans Z13 hb14.size
        clear R13 B13 Z13 hb14 
        refine Flow.wpT_nil ?_
        clear HR HB
        have cW2 : ∀ w', Below w14.heap.size w14 w' → CW w' := fun w' h => kW _ (B14.out.trans (h.mono B14.out.size)) (Nat.le_trans Z14 h.size)
        go_upto_region 14 with fail
        refine Flow.wp_region_tree CW [0, 1, 2, 3, 4, 7, 8, 9, 10, 11, 12, 13, 14, 15, 16, 17, 18] 6 (by kernel_rfl) (by kernel_rfl) cW2 hW ?_
        dsimp only [Flow.pickIdx, List.getElem?_cons_zero, List.getElem?_cons_succ]
        iterate 17 (
            (refine Flow.wpS_weak (by kernel_rfl) (fun K' hK' => ?_)
             go_simp
             first
               | (refine hK' _ ?_; clear hK' K')
               | (apply Exists.intro
                  refine ⟨fun p => ?_, hK' _ ?_⟩
                  (first | fail)
                  clear hK' K')))
        refine Flow.wpS_nil ?_
        intro w20 hb20
        have R20 := Flow.hide (R14.out.below hb20)
        have B20 := Flow.hide (B14.out.trans (hb20.mono B14.out.size))
        have Z20 : wr.heap.size ≤ w20.heap.size := Nat.le_trans Z14 hb20.size
        clear hb20
        refine Flow.wpR_two 5 19 _ _ (by kernel_rfl) rfl rfl rfl ?_ ?_
        · go_simp
          refine ⟨kW _ (B20.out.alloc B20.out.size _) (by simp; omega), fun w21 hb21 => ?_⟩
          obtain ⟨Kp, q21, z21⟩ := Flow.laid1 (by simpa using hb21)
          clear hb21
          obtain ⟨gp, hgp⟩ : ∃ g, g = w20.heap.size := ⟨_, rfl⟩
          rw [← hgp] at Kp ⊢
          clear hgp z21
          have R21 := Flow.hide (R20.out.below q21)
          have B21 := Flow.hide (B20.out.trans (q21.mono B20.out.size))
          have Z21 : wr.heap.size ≤ w21.heap.size := Nat.le_trans Z20 q21.size
          clear R20 B20 Z20 q21 
          refine Flow.wpR_two 6 19 _ _ (by kernel_rfl) rfl rfl rfl ?_ ?_
          · obtain ⟨v22, w22, hr22, P22, q22, c22⟩ := R21.out.app3 gp _ _ _ Kp ⟨rfl, rfl, rfl⟩ (by omega) B21.out.size
            have B22 := Flow.hide (B21.out.trans q22)
            have Z22 : wr.heap.size ≤ w22.heap.size := Nat.le_trans Z21 c22.size
            clear R21 B21 Z21 q22 c22 Kp
            have R22 := Flow.hide P22
            clear P22
            refine  (Flow.nUpon_append _ _ 50 rfl rfl rfl hr22 ⟨kW _ B22.out Z22, fun w23 hb23 => ?_⟩)
            simp only [Act.put, List.setIfInBounds_toArray, List.set_cons_succ, List.set_cons_zero]
            clear hr22
            have R23 := Flow.hide (R22.out.below hb23)
            have B23 := Flow.hide (B22.out.trans (hb23.mono B22.out.size))
            have Z23 : wr.heap.size ≤ w23.heap.size := Nat.le_trans Z22 hb23.size
            clear R22 B22 Z22 hb23 
            refine Flow.wpR_on 19 _ (by kernel_rfl) rfl rfl ?_
            go_simp
            refine ⟨kW _ (B23.out.alloc B23.out.size _) (by simp; omega), fun w24 hb24 => ?_⟩
            obtain ⟨Kq, q24, z24⟩ := Flow.laid1 (by simpa using hb24)
            clear hb24
            obtain ⟨gq, hgq⟩ : ∃ g, g = w23.heap.size := ⟨_, rfl⟩
            rw [← hgq] at Kq ⊢
            clear hgq z24
            have R24 := Flow.hide (R23.out.below q24)
            have B24 := Flow.hide (B23.out.trans (q24.mono B23.out.size))
            have Z24 : wr.heap.size ≤ w24.heap.size := Nat.le_trans Z23 q24.size
            clear R23 B23 Z23 q24 
            obtain ⟨v25, w25, hr25, P25, q25, c25⟩ := R24.out.app4 gq _ _ _ Kq ⟨rfl, rfl, rfl⟩ (by omega) B24.out.size
            have B25 := Flow.hide (B24.out.trans q25)
            have Z25 : wr.heap.size ≤ w25.heap.size := Nat.le_trans Z24 c25.size
            clear R24 B24 Z24 q25 c25 Kq
            have R25 := Flow.hide P25
            clear P25
            refine Flow.wpR_on 20 _ (by kernel_rfl) rfl rfl (Flow.nUpon_append _ _ 50 rfl rfl rfl hr25 ⟨kW _ B25.out Z25, fun w26 hb26 => ?_⟩)
            simp only [Act.put, List.setIfInBounds_toArray, List.set_cons_succ, List.set_cons_zero]
            clear hr25
            have R26 := Flow.hide (R25.out.below hb26)
            have B26 := Flow.hide (B25.out.trans (hb26.mono B25.out.size))
            have Z26 : wr.heap.size ≤ w26.heap.size := Nat.le_trans Z25 hb26.size
            clear R25 B25 Z25 hb26 
            refine Flow.wpR_on 21 _ (by kernel_rfl) rfl rfl ?_
            go_simp
            refine ⟨kW _ B26.out Z26, fun w27 hb27 => ?_⟩
            have R27 := Flow.hide (R26.out.below hb27)
            have B27 := Flow.hide (B26.out.trans (hb27.mono B26.out.size))
            have Z27 : wr.heap.size ≤ w27.heap.size := Nat.le_trans Z26 hb27.size
            clear R26 B26 Z26 hb27 
            refine Flow.wpR_on 22 _ (by kernel_rfl) rfl rfl ?_
            go_simp
            refine ⟨kW _ B27.out Z27, fun w28 hb28 => ?_⟩
            have R28 := Flow.hide (R27.out.below hb28)
            have B28 := Flow.hide (B27.out.trans (hb28.mono B27.out.size))
            have Z28 : wr.heap.size ≤ w28.heap.size := Nat.le_trans Z27 hb28.size
            clear R27 B27 Z27 hb28 
            refine Flow.wpR_done (by kernel_rfl) ?_
            clear r0 r1 r2 ne1 cW cW2 kW uW hW hfield hbw CW
            go_wp2_with fail
            go_roundw
            case rel =>
              refine ⟨k + 1, l ++ [(N, Y, L)], by omega, by omega, by go_num, by rw [List.length_append, HL.out]; rfl, ?_, ?_, B28.out⟩
              · intro q hq
                rcases List.mem_append.1 hq with hq | hq
                · exact HOK.out q hq
                · simp at hq; subst hq; exact OK0.out
              · rw [xs3_snoc, xs2_snoc, List.map_append, List.map_cons, List.map_nil, xs3_snoc]; exact R28.out
            case measure => simp [intOf]; omega
          · go_simp
            refine ⟨kW _ (B21.out.alloc B21.out.size _) (by simp; omega), fun w22 hb22 => ?_⟩
            obtain ⟨Kq, q22, z22⟩ := Flow.laid1 (by simpa using hb22)
            clear hb22
            obtain ⟨gq, hgq⟩ : ∃ g, g = w21.heap.size := ⟨_, rfl⟩
            rw [← hgq] at Kq ⊢
            have Nq : Hid (∀ j, (u13 : Value).ownBlock = some j → j ≠ gq) := fun j hj e => by have := (R21.out.2.2.1.lt j hj).2; omega
            clear hgq z22
            have R22 := Flow.hide (R21.out.below q22)
            have B22 := Flow.hide (B21.out.trans (q22.mono B21.out.size))
            have Z22 : wr.heap.size ≤ w22.heap.size := Nat.le_trans Z21 q22.size
            have Kp := Kp.below q22
            clear R21 B21 Z21 q22 
            obtain ⟨v23, w23, hr23, P23, q23, c23⟩ := R22.out.app3 gp _ _ _ Kp ⟨rfl, rfl, rfl⟩ (by omega) B22.out.size
            have B23 := Flow.hide (B22.out.trans q23)
            have Z23 : wr.heap.size ≤ w23.heap.size := Nat.le_trans Z22 c23.size
            have Kq := Kq.chg c23 (fun e => Nq.out _ e.symm rfl)
            clear R22 B22 Z22 q23 c23 Kp
            have R23 := Flow.hide P23
            clear P23
            refine Flow.wpR_on 6 _ (by kernel_rfl) rfl rfl (Flow.nUpon_append _ _ 50 rfl rfl rfl hr23 ⟨kW _ B23.out Z23, fun w24 hb24 => ?_⟩)
            simp only [Act.put, List.setIfInBounds_toArray, List.set_cons_succ, List.set_cons_zero]
            clear hr23
            have R24 := Flow.hide (R23.out.below hb24)
            have B24 := Flow.hide (B23.out.trans (hb24.mono B23.out.size))
            have Z24 : wr.heap.size ≤ w24.heap.size := Nat.le_trans Z23 hb24.size
            have Kq := Kq.below hb24
            clear R23 B23 Z23 hb24 
            obtain ⟨v25, w25, hr25, P25, q25, c25⟩ := R24.out.app4 gq _ _ _ Kq ⟨rfl, rfl, rfl⟩ (by omega) B24.out.size
            have B25 := Flow.hide (B24.out.trans q25)
            have Z25 : wr.heap.size ≤ w25.heap.size := Nat.le_trans Z24 c25.size
            clear R24 B24 Z24 q25 c25 Kq
            have R25 := Flow.hide P25
            clear P25
            refine Flow.wpR_on 20 _ (by kernel_rfl) rfl rfl (Flow.nUpon_append _ _ 50 rfl rfl rfl hr25 ⟨kW _ B25.out Z25, fun w26 hb26 => ?_⟩)
            simp only [Act.put, List.setIfInBounds_toArray, List.set_cons_succ, List.set_cons_zero]
            clear hr25
            have R26 := Flow.hide (R25.out.below hb26)
            have B26 := Flow.hide (B25.out.trans (hb26.mono B25.out.size))
            have Z26 : wr.heap.size ≤ w26.heap.size := Nat.le_trans Z25 hb26.size
            clear R25 B25 Z25 hb26 
            refine Flow.wpR_on 21 _ (by kernel_rfl) rfl rfl ?_
            go_simp
            refine ⟨kW _ B26.out Z26, fun w27 hb27 => ?_⟩
            have R27 := Flow.hide (R26.out.below hb27)
            have B27 := Flow.hide (B26.out.trans (hb27.mono B26.out.size))
            have Z27 : wr.heap.size ≤ w27.heap.size := Nat.le_trans Z26 hb27.size
            clear R26 B26 Z26 hb27 
            refine Flow.wpR_on 22 _ (by kernel_rfl) rfl rfl ?_
            go_simp
            refine ⟨kW _ B27.out Z27, fun w28 hb28 => ?_⟩
            have R28 := Flow.hide (R27.out.below hb28)
            have B28 := Flow.hide (B27.out.trans (hb28.mono B27.out.size))
            have Z28 : wr.heap.size ≤ w28.heap.size := Nat.le_trans Z27 hb28.size
            clear R27 B27 Z27 hb28 
            refine Flow.wpR_done (by kernel_rfl) ?_
            clear r0 r1 r2 ne1 cW cW2 kW uW hW hfield hbw CW
            go_wp2_with fail
            go_roundw
            case rel =>
              refine ⟨k + 1, l ++ [(N, Y, L)], by omega, by omega, by go_num, by rw [List.length_append, HL.out]; rfl, ?_, ?_, B28.out⟩
              · intro q hq
                rcases List.mem_append.1 hq with hq | hq
                · exact HOK.out q hq
                · simp at hq; subst hq; exact OK0.out
              · rw [xs3_snoc, xs2_snoc, List.map_append, List.map_cons, List.map_nil, xs3_snoc]; exact R28.out
            case measure => simp [intOf]; omega
        · go_simp
          refine ⟨kW _ (B20.out.alloc B20.out.size _) (by simp; omega), fun w21 hb21 => ?_⟩
          obtain ⟨Kq, q21, z21⟩ := Flow.laid1 (by simpa using hb21)
          clear hb21
          obtain ⟨gq, hgq⟩ : ∃ g, g = w20.heap.size := ⟨_, rfl⟩
          rw [← hgq] at Kq ⊢
          have Nq : Hid (∀ j, (u13 : Value).ownBlock = some j → j ≠ gq) := fun j hj e => by have := (R20.out.2.2.1.lt j hj).2; omega
          clear hgq z21
          have R21 := Flow.hide (R20.out.below q21)
          have B21 := Flow.hide (B20.out.trans (q21.mono B20.out.size))
          have Z21 : wr.heap.size ≤ w21.heap.size := Nat.le_trans Z20 q21.size
          clear R20 B20 Z20 q21 
          refine Flow.wpR_on 5 _ (by kernel_rfl) rfl rfl ?_
          go_simp
          refine ⟨kW _ (B21.out.alloc B21.out.size _) (by simp; omega), fun w22 hb22 => ?_⟩
          obtain ⟨Kp, q22, z22⟩ := Flow.laid1 (by simpa using hb22)
          clear hb22
          obtain ⟨gp, hgp⟩ : ∃ g, g = w21.heap.size := ⟨_, rfl⟩
          rw [← hgp] at Kp ⊢
          clear hgp z22
          have R22 := Flow.hide (R21.out.below q22)
          have B22 := Flow.hide (B21.out.trans (q22.mono B21.out.size))
          have Z22 : wr.heap.size ≤ w22.heap.size := Nat.le_trans Z21 q22.size
          have Kq := Kq.below q22
          clear R21 B21 Z21 q22 
          obtain ⟨v23, w23, hr23, P23, q23, c23⟩ := R22.out.app3 gp _ _ _ Kp ⟨rfl, rfl, rfl⟩ (by omega) B22.out.size
          have B23 := Flow.hide (B22.out.trans q23)
          have Z23 : wr.heap.size ≤ w23.heap.size := Nat.le_trans Z22 c23.size
          have Kq := Kq.chg c23 (fun e => Nq.out _ e.symm rfl)
          clear R22 B22 Z22 q23 c23 Kp
          have R23 := Flow.hide P23
          clear P23
          refine Flow.wpR_on 6 _ (by kernel_rfl) rfl rfl (Flow.nUpon_append _ _ 50 rfl rfl rfl hr23 ⟨kW _ B23.out Z23, fun w24 hb24 => ?_⟩)
          simp only [Act.put, List.setIfInBounds_toArray, List.set_cons_succ, List.set_cons_zero]
          clear hr23
          have R24 := Flow.hide (R23.out.below hb24)
          have B24 := Flow.hide (B23.out.trans (hb24.mono B23.out.size))
          have Z24 : wr.heap.size ≤ w24.heap.size := Nat.le_trans Z23 hb24.size
          have Kq := Kq.below hb24
          clear R23 B23 Z23 hb24 
          obtain ⟨v25, w25, hr25, P25, q25, c25⟩ := R24.out.app4 gq _ _ _ Kq ⟨rfl, rfl, rfl⟩ (by omega) B24.out.size
          have B25 := Flow.hide (B24.out.trans q25)
          have Z25 : wr.heap.size ≤ w25.heap.size := Nat.le_trans Z24 c25.size
          clear R24 B24 Z24 q25 c25 Kq
          have R25 := Flow.hide P25
          clear P25
          refine Flow.wpR_on 20 _ (by kernel_rfl) rfl rfl (Flow.nUpon_append _ _ 50 rfl rfl rfl hr25 ⟨kW _ B25.out Z25, fun w26 hb26 => ?_⟩)
          simp only [Act.put, List.setIfInBounds_toArray, List.set_cons_succ, List.set_cons_zero]
          clear hr25
          have R26 := Flow.hide (R25.out.below hb26)
          have B26 := Flow.hide (B25.out.trans (hb26.mono B25.out.size))
          have Z26 : wr.heap.size ≤ w26.heap.size := Nat.le_trans Z25 hb26.size
          clear R25 B25 Z25 hb26 
          refine Flow.wpR_on 21 _ (by kernel_rfl) rfl rfl ?_
          go_simp
          refine ⟨kW _ B26.out Z26, fun w27 hb27 => ?_⟩
          have R27 := Flow.hide (R26.out.below hb27)
          have B27 := Flow.hide (B26.out.trans (hb27.mono B26.out.size))
          have Z27 : wr.heap.size ≤ w27.heap.size := Nat.le_trans Z26 hb27.size
          clear R26 B26 Z26 hb27 
          refine Flow.wpR_on 22 _ (by kernel_rfl) rfl rfl ?_
          go_simp
          refine ⟨kW _ B27.out Z27, fun w28 hb28 => ?_⟩
          have R28 := Flow.hide (R27.out.below hb28)
          have B28 := Flow.hide (B27.out.trans (hb28.mono B27.out.size))
          have Z28 : wr.heap.size ≤ w28.heap.size := Nat.le_trans Z27 hb28.size
          clear R27 B27 Z27 hb28 
          refine Flow.wpR_done (by kernel_rfl) ?_
          clear r0 r1 r2 ne1 cW cW2 kW uW hW hfield hbw CW
          go_wp2_with fail
          go_roundw
          case rel =>
            refine ⟨k + 1, l ++ [(N, Y, L)], by omega, by omega, by go_num, by rw [List.length_append, HL.out]; rfl, ?_, ?_, B28.out⟩
            · intro q hq
              rcases List.mem_append.1 hq with hq | hq
              · exact HOK.out q hq
              · simp at hq; subst hq; exact OK0.out
            · rw [xs3_snoc, xs2_snoc, List.map_append, List.map_cons, List.map_nil, xs3_snoc]; exact R28.out
          case measure => simp [intOf]; omega
      · by_cases hkl : k < len
        · have hk2 : ¬ k < 20 := fun h => hgo ⟨hkl, h⟩
          clear hgo
          go_upto_region 15 with fail
          obtain ⟨A1, cp1, ev1, rd1⟩ := rd3 HR.out.1 HL.out
          obtain ⟨A2, cp2, ev2, rd2⟩ := rd2 HR.out.2.1 HL.out
          obtain ⟨A3, cp3, ev3, rd3'⟩ := rd3 HR.out.2.2.1 HL.out
          obtain ⟨A4, cp4, ev4, rd4⟩ := rd3 HR.out.2.2.2.1 (by rw [List.length_map]; exact HL.out)
          subst ev1
          subst ev2
          subst ev3
          subst ev4
          have D1 := Flow.hide rd1
          have D2 := Flow.hide rd2
          have D3 := Flow.hide rd3'
          have D4 := Flow.hide rd4
          obtain ⟨x1, x2, x3, hm⟩ : ∃ x1 x2 x3, great (0, 0, 0) l = (x1, x2, x3) := ⟨_, _, _, rfl⟩
          obtain ⟨s, t, hm2⟩ : ∃ s t, great (0, 0, 0) (l.map z0) = (s, t, 0) := ⟨_, _, (great_zero rfl (z0_zero l)).symm⟩
          have HM := Flow.hide hm
          have HM2 := Flow.hide hm2
          clear rd1 rd2 rd3' rd4 hm hm2 HR
          go_wp2_with fail
          refine (greatest_is A1 k cp1 l x1 x2 x3 _ D1.out (by omega) HM).mono ?_
          rintro e4 w4 ⟨rfl, hb4⟩
          have D2 := Flow.hide ((D2.out.under hb4).mono hb4.size)
          have D3 := Flow.hide ((D3.out.under hb4).mono hb4.size)
          have D4 := Flow.hide ((D4.out.under hb4).mono hb4.size)
          have HB := Flow.hide (HB.out.trans (hb4.mono HB.out.size))
          clear hb4 D1
          go_wp2_with fail
          refine (rgreatest_is A3 k cp3 l x1 x2 x3 _ D3.out (by omega) HOK.out HM).mono ?_
          rintro e5 w5 ⟨rfl, hb5⟩
          have D2 := Flow.hide ((D2.out.under hb5).mono hb5.size)
          have D4 := Flow.hide ((D4.out.under hb5).mono hb5.size)
          have HB := Flow.hide (HB.out.trans (hb5.mono HB.out.size))
          clear hb5 D3 HM
          go_wp2_with fail
          have bw6 : Below w5.heap.size w5 ((w5.alloc (.cells #[.int .u32 x1, .int .u8 x2, .int .u8 x3] 30)).alloc (.cells #[.int .u32 x1, .int .u8 x2, .int .u8 x3] 34)) := (Flow.below_alloc _ _).alloc (by simp) _
          refine (highest_is A2 k cp2 (l.map z0) s t _ (z0_zero l) ((D2.out.under bw6).mono bw6.size) (by omega) HM2).mono ?_
          rintro e7 w7 ⟨rfl, hb7⟩
          obtain ⟨K16, K17, B67, hz7⟩ := Flow.laid2 hb7
          have D4 := Flow.hide ((D4.out.under B67).mono B67.size)
          have HB := Flow.hide (HB.out.trans (B67.mono HB.out.size))
          clear hb7 D2 bw6
          go_wp2_with fail
          refine (rgreatest_is A4 k cp4 (l.map z0) s t 0 _ D4.out (by omega) (z0_ok HOK.out) HM2).mono ?_
          rintro e8 w8 ⟨rfl, hb8⟩
          have K16 := K16.below hb8
          have K17 := K17.below hb8
          have HB := Flow.hide (HB.out.trans (hb8.mono HB.out.size))
          clear hb8 B67 D4 HM2
          go_upto_region 17 with fail
          obtain ⟨w9, hw9⟩ : ∃ w9, w9 = (w8.alloc (.cells #[.int .u32 s, .int .u8 t] 38)).alloc (.cells #[.int .u32 s, .int .u8 t, .int .u8 0] 34) := ⟨_, rfl⟩
          rw [← hw9]
          have hb9 : Below ((w8.alloc (.cells #[.int .u32 s, .int .u8 t] 38)).alloc (.cells #[.int .u32 s, .int .u8 t, .int .u8 0] 34)).heap.size ((w8.alloc (.cells #[.int .u32 s, .int .u8 t] 38)).alloc (.cells #[.int .u32 s, .int .u8 t, .int .u8 0] 34)) w9 := by rw [hw9]; exact Below.refl _ _
          obtain ⟨K18, K19, B89, hz9⟩ := Flow.laid2 hb9
          have HB := Flow.hide (HB.out.trans (B89.mono HB.out.size))
          have r16 := (K16.below B89).rg
          have r17 := (K17.below B89).rg
          have r18 := K18.rg
          have r19 := K19.rg
          have e30 : ∀ w : World, (binOp .eql 30 (.agg #[.int .u32 x1, .int .u8 x2, .int .u8 x3]) (.agg #[.int .u32 x1, .int .u8 x2, .int .u8 x3])).run Try.prog w = .ok (.bool true) w := fun w => by
            rw [eql30]; simp [eqS]
          clear hw9 hb9 B89 hz9 K16 K17 K18 K19
          refine Flow.wp_region_all (by kernel_rfl) (by kernel_rfl) ?_
          repeat (first
            | (refine Flow.wpSeg_step (fun K' hK' => ?_)
               go_simp
               first
                 | (refine hK' _ ?_; clear hK' K')
                 | (apply Exists.intro
                    refine ⟨fun p => ?_, hK' _ ?_⟩
                    (first | with_reducible exact (told_any x1 x2 x3 _))
                    clear hK' K')))
          refine Flow.wpSeg_nil ?_
          intro w' hb'
          go_wp2_with fail
          go_ret
          exact ⟨rfl, HB.out.trans (hb'.mono HB.out.size)⟩
        · clear hgo
          go_upto_region 15 with fail
          obtain ⟨A1, cp1, ev1, rd1⟩ := rd3 HR.out.1 HL.out
          obtain ⟨A2, cp2, ev2, rd2⟩ := rd2 HR.out.2.1 HL.out
          obtain ⟨A3, cp3, ev3, rd3'⟩ := rd3 HR.out.2.2.1 HL.out
          obtain ⟨A4, cp4, ev4, rd4⟩ := rd3 HR.out.2.2.2.1 (by rw [List.length_map]; exact HL.out)
          subst ev1
          subst ev2
          subst ev3
          subst ev4
          have D1 := Flow.hide rd1
          have D2 := Flow.hide rd2
          have D3 := Flow.hide rd3'
          have D4 := Flow.hide rd4
          obtain ⟨x1, x2, x3, hm⟩ : ∃ x1 x2 x3, great (0, 0, 0) l = (x1, x2, x3) := ⟨_, _, _, rfl⟩
          obtain ⟨s, t, hm2⟩ : ∃ s t, great (0, 0, 0) (l.map z0) = (s, t, 0) := ⟨_, _, (great_zero rfl (z0_zero l)).symm⟩
          have HM := Flow.hide hm
          have HM2 := Flow.hide hm2
          clear rd1 rd2 rd3' rd4 hm hm2 HR
          go_wp2_with fail
          refine (greatest_is A1 k cp1 l x1 x2 x3 _ D1.out (by omega) HM).mono ?_
          rintro e4 w4 ⟨rfl, hb4⟩
          have D2 := Flow.hide ((D2.out.under hb4).mono hb4.size)
          have D3 := Flow.hide ((D3.out.under hb4).mono hb4.size)
          have D4 := Flow.hide ((D4.out.under hb4).mono hb4.size)
          have HB := Flow.hide (HB.out.trans (hb4.mono HB.out.size))
          clear hb4 D1
          go_wp2_with fail
          refine (rgreatest_is A3 k cp3 l x1 x2 x3 _ D3.out (by omega) HOK.out HM).mono ?_
          rintro e5 w5 ⟨rfl, hb5⟩
          have D2 := Flow.hide ((D2.out.under hb5).mono hb5.size)
          have D4 := Flow.hide ((D4.out.under hb5).mono hb5.size)
          have HB := Flow.hide (HB.out.trans (hb5.mono HB.out.size))
          clear hb5 D3 HM
          go_wp2_with fail
          have bw6 : Below w5.heap.size w5 ((w5.alloc (.cells #[.int .u32 x1, .int .u8 x2, .int .u8 x3] 30)).alloc (.cells #[.int .u32 x1, .int .u8 x2, .int .u8 x3] 34)) := (Flow.below_alloc _ _).alloc (by simp) _
          refine (highest_is A2 k cp2 (l.map z0) s t _ (z0_zero l) ((D2.out.under bw6).mono bw6.size) (by omega) HM2).mono ?_
          rintro e7 w7 ⟨rfl, hb7⟩
          obtain ⟨K16, K17, B67, hz7⟩ := Flow.laid2 hb7
          have D4 := Flow.hide ((D4.out.under B67).mono B67.size)
          have HB := Flow.hide (HB.out.trans (B67.mono HB.out.size))
          clear hb7 D2 bw6
          go_wp2_with fail
          refine (rgreatest_is A4 k cp4 (l.map z0) s t 0 _ D4.out (by omega) (z0_ok HOK.out) HM2).mono ?_
          rintro e8 w8 ⟨rfl, hb8⟩
          have K16 := K16.below hb8
          have K17 := K17.below hb8
          have HB := Flow.hide (HB.out.trans (hb8.mono HB.out.size))
          clear hb8 B67 D4 HM2
          go_upto_region 17 with fail
          obtain ⟨w9, hw9⟩ : ∃ w9, w9 = (w8.alloc (.cells #[.int .u32 s, .int .u8 t] 38)).alloc (.cells #[.int .u32 s, .int .u8 t, .int .u8 0] 34) := ⟨_, rfl⟩
          rw [← hw9]
          have hb9 : Below ((w8.alloc (.cells #[.int .u32 s, .int .u8 t] 38)).alloc (.cells #[.int .u32 s, .int .u8 t, .int .u8 0] 34)).heap.size ((w8.alloc (.cells #[.int .u32 s, .int .u8 t] 38)).alloc (.cells #[.int .u32 s, .int .u8 t, .int .u8 0] 34)) w9 := by rw [hw9]; exact Below.refl _ _
          obtain ⟨K18, K19, B89, hz9⟩ := Flow.laid2 hb9
          have HB := Flow.hide (HB.out.trans (B89.mono HB.out.size))
          have r16 := (K16.below B89).rg
          have r17 := (K17.below B89).rg
          have r18 := K18.rg
          have r19 := K19.rg
          have e30 : ∀ w : World, (binOp .eql 30 (.agg #[.int .u32 x1, .int .u8 x2, .int .u8 x3]) (.agg #[.int .u32 x1, .int .u8 x2, .int .u8 x3])).run Try.prog w = .ok (.bool true) w := fun w => by
            rw [eql30]; simp [eqS]
          clear hw9 hb9 B89 hz9 K16 K17 K18 K19
          refine Flow.wp_region_all (by kernel_rfl) (by kernel_rfl) ?_
          repeat (first
            | (refine Flow.wpSeg_step (fun K' hK' => ?_)
               go_simp
               first
                 | (refine hK' _ ?_; clear hK' K')
                 | (apply Exists.intro
                    refine ⟨fun p => ?_, hK' _ ?_⟩
                    (first | with_reducible exact (told_any x1 x2 x3 _))
                    clear hK' K')))
          refine Flow.wpSeg_nil ?_
          intro w' hb'
          go_wp2_with fail
          go_ret
          exact ⟨rfl, HB.out.trans (hb'.mono HB.out.size)⟩
theorem own : ownKnob Try.prog.godebug = none := by kernel_rfl
theorem laidOut : laidOutB Try.prog = true := by kernel_rfl

set_option maxRecDepth 100000 in
theorem lifted (os : Os) (started : os.Started) (H : Type) (enc : TypeId × Value → H) :
    ReturnsInHanded {} Try.checked os 5 .any (Rows.markOrdersSpec.pre6 enc Try.prog Try.f5 Rows.markOrdersRow.domain false) (Rows.markOrdersSpec.post enc Try.prog Try.f5 false true false false) := by
  refine returnsInHanded_of_change (C := Try.checked) own started (by kernel_rfl) Try.func5
    (ChangeSpec.witness6 (enc := enc) (C := Try.checked) false ⟨#[], #[.agg #[.int .u32 0, .int .u8 0, .int .u8 0], .agg #[.int .u32 0, .int .u8 0, .int .u8 0], .slice none 0 0], []⟩ 8 (by kernel_rfl) (by kernel_rfl) (by kernel_rfl) (by kernel_rfl)) ?_
  intro W base args ds gs before hval0 hW hcnd _
  have hval : ∀ (j : Nat) t v, Try.f5.params[j]? = some t → args[j]? = some v → Value.okWide Try.prog W .any base t v := hval0
  have hW' := hW
  obtain ⟨p, q, hA0, hV, rfl, hfz, hnd⟩ := hW
  have hA : DataW.TrodAll enc Try.prog W 0 (fun _ => true) true Try.f5.params.toList args.toList ds p := hA0
  rw [Try.params5] at hA hval
  obtain ⟨v0, v1, v2, d0, d1, d2, p0, p1, p2, hargs, rfl, rfl, h0, h1, h2⟩ := trodAll_three hA
  obtain ⟨rfl, rfl⟩ := trodVars_none hV
  subst hargs
  obtain ⟨cs0, rfl, hl0, r0⟩ := Open.open_agg 30 (ss := [.int .u32, .int .u8, .int .u8]) (.inl ⟨_, Try.underlying24⟩) (by kernel_rfl) (by kernel_rfl) (hval 0 24 v0 rfl rfl) h0
  obtain ⟨a0, e00, w00⟩ := r0.int 0 rfl
  obtain ⟨a1, e01, w01⟩ := r0.int 1 rfl
  obtain ⟨a2, e02, w02⟩ := r0.int 2 rfl
  have c0 : cs0 = [.int .u32 a0, .int .u8 a1, .int .u8 a2] := Open.list3 hl0 e00 e01 e02
  subst c0
  obtain ⟨cs1, rfl, hl1, r1⟩ := Open.open_agg 30 (ss := [.int .u32, .int .u8, .int .u8]) (.inl ⟨_, Try.underlying24⟩) (by kernel_rfl) (by kernel_rfl) (hval 1 24 v1 rfl rfl) h1
  obtain ⟨b0, e10, w10⟩ := r1.int 0 rfl
  obtain ⟨b1, e11, w11⟩ := r1.int 1 rfl
  obtain ⟨b2, e12, w12⟩ := r1.int 2 rfl
  have c1 : cs1 = [.int .u32 b0, .int .u8 b1, .int .u8 b2] := Open.list3 hl1 e10 e11 e12
  subst c1
  obtain ⟨A2, n2, cp2, rfl, hl2, _, hr2⟩ := Open.open_rows_arg 30 (ss := [.int .u32, .int .u8, .int .u8]) Try.underlying46 (by kernel_rfl) (by decide) (by kernel_rfl) (hval 2 46 v2 rfl rfl) h2
  obtain ⟨x2, hx2⟩ := stamps_of hr2
  clear hA0 hval0
  refine (walk a0 a1 a2 b0 b1 b2 A2 n2 cp2 x2 W ⟨bounds_u32 w00, bounds_u8 w01, bounds_u8 w02⟩ ⟨bounds_u32 w10, bounds_u8 w11, bounds_u8 w12⟩ hl2 hx2).mono fun e W' ⟨he, hb⟩ => ?_
  subst he
  exact ⟨_, rfl, Open.law_post laidOut (by kernel_rfl) (by kernel_rfl) Try.underlying4 rfl rfl hW' hb⟩

theorem over : Rows.markOrdersRow.holds Try.pinned (OpenSpec.ofChange Rows.markOrdersSpec) :=
  OpenClaim.holds_of_wide 5 Try.f5 rfl rfl rfl rfl rfl rfl rfl ⟨rfl, rfl, rfl, rfl, rfl⟩ rfl rfl rfl rfl rfl (by kernel_rfl) Try.func5 (by kernel_rfl)
    (of_decide_eq_true (by kernel_rfl)) (by unfold Func.isWrapper; first | (rw [if_pos (by decide +kernel)]; kernel_rfl) | (rw [if_neg (by decide +kernel)]; exact ⟨rfl, rfl⟩))
    (fun os started H enc _ => lifted os started H enc)

theorem proved : Rows.MarkOrdersSaid := over
#print axioms proved
end Go.Proofs.Ythkphapmnlndbab.MOrders
