/- QueueOrder: for every two rows of keys the law returns true. -/
import Derived.Test.YthkphapmnlndbabRows
import Derived.Test.YthkphapmnlndbabQSpeaks
import Derived.Test.YthkphapmnlndbabMapI
import Derived.Test.YthkphapmnlndbabOpen2
import Derived.Test.YthkphapmnlndbabChain
import Derived.Deep.DeepCutAuto
namespace Go.Proofs.Ythkphapmnlndbab.QOrder
open Go.ChangeShapes Go.WideShapes Go.ChangeAt Go.RowKit
set_option linter.unusedSimpArgs false
set_option maxHeartbeats 4000000
attribute [local irreducible] Flow.wpSeg Flow.wpF Flow.wpG Flow.wpS Flow.wpT
/-- A slice of bytes that came in. -/
def BytesAt (w : World) (A : Option Addr) (n : Nat) (ts : Nat → Int) : Prop :=
  0 < n → ∃ g off, A = some ⟨g, off, none⟩ ∧ g < w.heap.size ∧ ∀ i, i < n → w.cell? ⟨g, off + i, none⟩ = some (.int .u8 (ts i)) ∧ 0 ≤ ts i ∧ ts i ≤ 255
theorem bytes_of {H : Type} {enc : TypeId × Value → H} {base : Nat} {spare : Nat → Bool} {held : Bool} {w : World} {A : Option Addr} {n : Nat} (h : 0 < n → ∃ g off, A = some ⟨g, off, none⟩ ∧ g < w.heap.size ∧
    ∀ i, i < n → ∀ (j : Nat) (s : Open.Shp), ([.int .u8] : List Open.Shp)[j]? = some s → ∃ u, w.cell? ⟨g, off + (i * ([.int .u8] : List Open.Shp).length + j), none⟩ = some u ∧ Open.CellOk enc Try.prog w base spare held s u) :
    ∃ ts : Nat → Int, BytesAt w A n ts := by
  rcases Nat.eq_zero_or_pos n with h0 | h0
  · exact ⟨fun _ => 0, fun hn => by omega⟩
  · obtain ⟨g, off, rfl, hg, hc⟩ := h h0
    have hx : ∀ i, i < n → ∃ y : Int, w.cell? ⟨g, off + i, none⟩ = some (.int .u8 y) ∧ 0 ≤ y ∧ y ≤ 255 := by
      intro i hi
      obtain ⟨u0, e0, a0, rfl, w0⟩ := hc i hi 0 _ rfl
      have e : off + (i * ([.int .u8] : List Open.Shp).length + 0) = off + i := by simp
      rw [e] at e0
      exact ⟨a0, e0, bounds_u8 w0⟩
    obtain ⟨f, hf⟩ := Deep.choose_lt hx
    exact ⟨f, fun _ => ⟨g, off, rfl, hg, hf⟩⟩
theorem chg_q {w w' : World} {b n g : Nat} {f : Int → Int} (h : Flow.MapIs Try.prog w b 3 22 .i64 .u32 n f) (hc : Flow.Chg (OnQ w g) w w') (hb : b ≠ g) : Flow.MapIs Try.prog w' b 3 22 .i64 .u32 n f := by
  refine h.chg hc ?_
  obtain ⟨D, ⟨es, clock, h1, _⟩, _⟩ := h
  rintro (e | ⟨cur, e⟩)
  · exact hb e
  · rw [h1] at e; cases e
/-- The first k calls. -/
def cls (ts : Nat → Int) (k : Nat) : List Cl := (List.range k).map fun i : Nat => mkC ((i : Int) + 1) (ts i)
theorem cls_length (ts : Nat → Int) (k : Nat) : (cls ts k).length = k := by simp [cls]
theorem cls_succ (ts : Nat → Int) (k : Nat) : cls ts (k + 1) = cls ts k ++ [mkC ((k : Int) + 1) (ts k)] := by simp [cls, List.range_succ]
/-- What the law keeps: which calls are in the queue, and the last number taken of each key. -/
def Good (ts : Nat → Int) (m : Nat) (q : List Cl) (f : Int → Int) : Prop :=
  (∀ c ∈ q, ∃ n : Nat, n < m ∧ c = mkC ((n : Int) + 1) (ts n) ∧ f (ts n) < (n : Int) + 1) ∧ q.Pairwise (fun c d => c.n < d.n)
theorem good_start (ts : Nat → Int) (m : Nat) : Good ts m (cls ts m) (fun _ => 0) := by
  refine ⟨fun c hc => ?_, ?_⟩
  · simp only [cls, List.mem_map, List.mem_range] at hc
    obtain ⟨n, hn, rfl⟩ := hc
    exact ⟨n, hn, rfl, by show (0 : Int) < _; omega⟩
  · unfold cls
    rw [List.pairwise_map]
    exact List.pairwise_lt_range.imp (fun h => by simp only [mkC]; omega)
theorem good_take {ts : Nat → Int} {m i : Nat} {q : List Cl} {f : Int → Int} {key : Int} {c : Cl} (h : Good ts m q f) (hf : Fst q key i) (hc : q[i]? = some c) :
    Good ts m (q.eraseIdx i) (fun x => if x = key then c.n else f x) := by
  refine ⟨fun d hd => ?_, h.2.sublist (List.eraseIdx_sublist _ _)⟩
  obtain ⟨j, hj, hd⟩ := List.mem_eraseIdx_iff_getElem?.1 hd
  obtain ⟨n, hn, rfl, hfn⟩ := h.1 d (List.mem_of_getElem? hd)
  refine ⟨n, hn, rfl, ?_⟩
  by_cases e : ts n = key
  · simp only [e, if_true]
    have hij : i < j := by
      rcases Nat.lt_trichotomy i j with h1 | h1 | h1
      · exact h1
      · exact absurd h1.symm hj
      · exact absurd e (hf.2 j _ h1 hd)
    obtain ⟨hi', e1⟩ := List.getElem?_eq_some_iff.1 hc
    obtain ⟨hj', e2⟩ := List.getElem?_eq_some_iff.1 hd
    have := List.pairwise_iff_getElem.1 h.2 i j hi' hj' hij
    rw [e1, e2] at this
    exact this
  · simp only [e, if_false]
    exact hfn
theorem good_at {ts : Nat → Int} {m i : Nat} {q : List Cl} {f : Int → Int} {key : Int} (h : Good ts m q f) (hf : Fst q key i) :
    ∃ n : Nat, n < m ∧ q[i]? = some (mkC ((n : Int) + 1) key) ∧ f key < (n : Int) + 1 ∧ ts n = key := by
  obtain ⟨⟨c, hc, hk⟩, _⟩ := hf
  obtain ⟨n, hn, rfl, hfn⟩ := h.1 c (List.mem_of_getElem? hc)
  have hk : ts n = key := hk
  rw [hk] at hc hfn
  exact ⟨n, hn, hc, hfn, hk⟩
theorem z22 (u : World) : (zeroValue 22).run Try.prog u = .ok (.int .u32 0) u := by kernel_rfl
abbrev MQ (w : World) (b n : Nat) (f : Int → Int) : Prop := Flow.MapIs Try.prog w b 3 22 .i64 .u32 n f
theorem lookQ {w : World} {b k : Nat} {f : Int → Int} (h : MQ w b k f) (c : Int) (hc : 0 ≤ c ∧ c ≤ 255) : (Instr.lookup 127 (.map (some b)) (.int .i64 c) false).run Try.prog w = .ok (.int .u32 (f c)) w :=
  h.look Try.underlying3 Try.underlying22 Try.underlying127 (z22 _) (WalkArith.wf_i64 (by omega))
theorem q_map {w w' : World} {B g b n : Nat} {l : List Cl} {f : Int → Int} (h : IsQ w B g l) (hm : Flow.MapIs Try.prog w b 3 22 .i64 .u32 n f) (hc : Flow.Chg (· = b) w w') (hb : g ≠ b) : IsQ w' B g l := by
  obtain ⟨v, h1, h2, h3⟩ := h
  refine ⟨v, h1.chg hc hb, Flow.ownsRow_chg h2 hc (fun j hj e => ?_), h3⟩
  subst e
  obtain ⟨cur, e1⟩ := own_on h2 _ hj.symm
  obtain ⟨D, ⟨es, clock, e2, _⟩, _⟩ := hm
  rw [e1] at e2; cases e2
set_option maxRecDepth 100000 in
theorem walk (A : Option Addr) (len cap : Nat) (ts : Nat → Int) (A2 : Option Addr) (len2 cap2 : Nat) (us : Nat → Int) (w : World) (hlen : len ≤ maxLen) (hlc : len ≤ cap) (hA : A = none → len = 0 ∧ cap = 0) (ht : BytesAt w A len ts) (hlen2 : len2 ≤ maxLen) (hu : BytesAt w A2 len2 us) :
    Calls Try.prog 12 #[.slice A len cap, .slice A2 len2 cap2] w fun e w' => e = .returned (.bool true) ∧ Below w.heap.size w w' := by
  unfold maxLen at hlen hlen2
  have HT := Flow.hide ht
  have HU := Flow.hide hu
  have HA := Flow.hide hA
  clear ht hu hA
  go_enter Try.func12, Try.ntmps12
  go_wp2_with fail
  (with_reducible refine (speaks23 _).mono ?_)
  rintro e w1 ⟨rfl, hb1⟩
  have B1 := Flow.hide hb1
  clear hb1
  go_wp2_with fail
  (with_reducible refine (new_any w.heap.size w1 B1.out.size).mono ?_)
  rintro e w2 ⟨rfl, q2, hb2⟩
  obtain ⟨qb, hqb⟩ : ∃ t, t = w1.heap.size := ⟨_, rfl⟩
  rw [← hqb] at q2 ⊢
  have Q2 := Flow.hide q2
  have B2 := Flow.hide (B1.out.trans (hb2.mono B1.out.size))
  clear q2 hb2 B1 hqb
  obtain ⟨m, hm⟩ : ∃ m, m = min len 8 := ⟨_, rfl⟩
  have hmI : min (len : Int) 8 = (m : Int) := by omega
  have hmlen : (m : Int) ≤ (len : Int) := by omega
  have hm8 : m ≤ 8 := by omega
  go_upto_region 4 with fail
  go_cut [0] (fun s0 wx => s0 = .slice A m cap ∧ wx = w2)
  case first =>
    go_wp2_with fail
    case inl =>
      obtain rfl : m = 8 := by omega
      go_meet
      exact ⟨rfl, rfl⟩
    case inr =>
      obtain rfl : m = len := by omega
      go_meet
      exact ⟨rfl, rfl⟩
  case rest =>
    obtain ⟨rfl, rfl⟩ := hcut
    have HML0 : m ≤ len := by omega
    have HML := Flow.hide HML0
    clear hm hmI hmlen HML0
    go_wp2_with fail
    go_loopw [6] (fun t6 wr => ∃ k : Nat, k ≤ m ∧ t6 = .int .i64 k ∧ IsQ wr w.heap.size qb (cls ts k) ∧ Below w.heap.size w wr) (fun t6 _ => m - (intOf t6).toNat)
    case atStart => exact ⟨0, by omega, rfl, Q2.out, B2.out⟩
    case round =>
      obtain ⟨k, hk, rfl, hq, hb⟩ := hrel
      have HQ := Flow.hide hq
      have HB := Flow.hide hb
      clear hq hb Q2 B2
      by_cases hlt : k < m
      · obtain ⟨g, off, rfl, hg, hc⟩ := HT.out (by have := HML.out; omega)
        obtain ⟨hck, h0, h1⟩ := hc k (by have := HML.out; omega)
        have hcw : wr.cell? ⟨g, off + k, none⟩ = some (.int .u8 (ts k)) := (HB.out.cell (p := ⟨g, off + k, none⟩) hg).trans hck
        have hkI : (k : Int) < (m : Int) := by omega
        have HTK : Hid (∀ x, ts k = x → cls ts (k + 1) = cls ts k ++ [mkC ((k : Int) + 1) x]) := fun x e => by rw [← e]; exact cls_succ ts k
        obtain ⟨y, hy⟩ : ∃ y, ts k = y := ⟨_, rfl⟩
        have HY := Flow.hide hy
        rw [hy] at h0 h1 hcw
        clear hc hck hy
        go_wp2_with fail
        (with_reducible refine (call_is _ _ ((k : Int) + 1 + 1) _ (by omega) (by rw [if_neg (by omega)])).mono ?_)
        rintro e w3 ⟨rfl, hb3⟩
        have HQ3 := Flow.hide (HQ.out.below hb3)
        have HB3 := Flow.hide (HB.out.trans (hb3.mono HB.out.size))
        clear hb3 hcw HQ HB
        go_wp2_with fail
        (with_reducible refine (push_mk qb w.heap.size (cls ts k) _ _ _ _ (by rw [if_neg (by omega)]) HQ3.out (by rw [cls_length]; omega) HB3.out.size).mono ?_)
        rintro e w4 ⟨rfl, hq4, hb4⟩
        rw [← HTK.out y HY.out] at hq4
        have HQ4 := Flow.hide hq4
        have HB4 := Flow.hide (HB3.out.trans hb4)
        clear hq4 hb4 HQ3 HB3
        go_wp2_with fail
        go_roundw
        case rel => exact ⟨k + 1, by omega, by go_num, HQ4.out, HB4.out⟩
        case measure => simp [intOf]; omega
      · obtain rfl : k = m := by omega
        clear hlt hk
        have hmm := @run_makeMap Try.prog
        go_upto_region 11 with fail
        clear hmm
        have hM0 : MQ (wr.alloc (.map #[] 0)) wr.heap.size 0 (fun _ => 0) := Flow.MapIs.made wr Try.prog 3 22 .i64 .u32
        have hbm := Flow.below_alloc wr (.map #[] 0)
        have HM0 := Flow.hide hM0
        have HQ0 := Flow.hide (HQ.out.below hbm)
        have HB0 := Flow.hide (HB.out.trans (hbm.mono HB.out.size))
        have HQM : Hid (qb < wr.heap.size) := (let ⟨_, h, _⟩ := HQ.out; h.lt)
        have HBM : Hid (w.heap.size ≤ wr.heap.size) := HB.out.size
        have HG0 := Flow.hide (good_start ts k)
        clear hM0 hbm HQ HB
        revert HM0 HQ0 HB0 HQM HBM
        generalize wr.alloc (.map #[] 0) = w3
        generalize wr.heap.size = mb
        intro HM0 HQ0 HB0 HQM HBM
        clear wr
        go_wp2_with fail
        go_loopw [8, 9] (fun t8 t9 wr => ∃ (i n : Nat) (q : List Cl) (f : Int → Int), i ≤ 60 ∧ t9 = .int .i64 i ∧ t8 = .int .i64 n ∧ n + q.length = k ∧ MQ wr mb n f ∧ IsQ wr w.heap.size qb q ∧ Good ts k q f ∧ Below w.heap.size w wr) (fun _ t9 _ => 60 - (intOf t9).toNat)
        case atStart => exact ⟨0, 0, cls ts k, fun _ => 0, by omega, rfl, rfl, by rw [cls_length]; omega, HM0.out, HQ0.out, HG0.out, HB0.out⟩
        case round =>
          obtain ⟨i, n, q, f, hi60, rfl, rfl, hnq, hm, hq, hg, hb⟩ := hrel
          have HM := Flow.hide hm
          have HQ := Flow.hide hq
          have HG := Flow.hide hg
          have HB := Flow.hide hb
          have HN := Flow.hide hnq
          clear hnq hm hq hg hb HM0 HQ0 HG0 HB0
          obtain ⟨D, hD⟩ : ∃ D, wrap64 ((len2 : Int) + (k : Int)) = D := ⟨_, rfl⟩
          have hDle : D ≤ (len2 : Int) + (k : Int) := by rw [← hD]; unfold wrap64; omega
          by_cases hltI : (i : Int) < D
          · have hlt : i < len2 + k := by omega
            by_cases hlt60 : i < 60
            · have hlt60I : (i : Int) < 60 := by omega
              by_cases hin : i < len2
              · have hinI : (i : Int) < (len2 : Int) := by omega
                obtain ⟨g, off, rfl, hg, hc⟩ := HU.out (by omega)
                obtain ⟨hck, h0, h1⟩ := hc i hin
                have hcw : wr.cell? ⟨g, off + i, none⟩ = some (.int .u8 (us i)) := (HB.out.cell (p := ⟨g, off + i, none⟩) hg).trans hck
                revert h0 h1 hcw
                clear hck hc
                generalize us i = key
                intro h0 h1 hcw
                go_upto_region 19 with fail
                clear hcw hinI
                by_cases hk0 : 0 < k
                · obtain ⟨gt, ot, rfl, hgt, hct⟩ := HT.out (by have := HML.out; omega)
                  have HGT := Flow.hide hgt
                  have HTB := Flow.hide hct
                  clear hgt hct
                  rcases fst_or q key with ⟨ix, hfst⟩ | hnon
                  · obtain ⟨j, hjm, hcx, hfj, htj⟩ := good_at HG.out hfst
                    have HG4 := Flow.hide (good_take HG.out hfst hcx)
                    have HLE := Flow.hide (List.length_eraseIdx_of_lt (List.getElem?_eq_some_iff.1 hcx).1)
                    have HQP : Hid (0 < q.length) := Nat.lt_of_le_of_lt (Nat.zero_le _) (List.getElem?_eq_some_iff.1 hcx).1
                    have HF := Flow.hide hfst
                    have HC := Flow.hide hcx
                    have HTJ := Flow.hide htj
                    clear hfst hcx htj
                    go_wp2_with fail
                    (with_reducible refine (take_mk qb w.heap.size q ((j : Int) + 1) key ((j : Int) + 1 + 1) ix _ (by rw [if_neg (by omega)]) HQ.out (by have := HN.out; omega) HF.out HC.out HB.out.size).mono ?_)
                    rintro e w4 ⟨rfl, hq4, hb4, hc4⟩
                    have HQ4 := Flow.hide hq4
                    have HM4 := Flow.hide (chg_q HM.out hc4 (by have := HQM.out; omega))
                    have HB4 := Flow.hide (HB.out.trans hb4)
                    clear hq4 hb4 hc4 HQ HM HB HF HC HG
                    go_upto_region 21 with fail
                    obtain ⟨K5, hh5, z5⟩ := Flow.laid1 (w := w4) (w1 := w4.alloc (.cells #[.int .u32 ((j : Int) + 1), .int .u32 ((j : Int) + 1 + 1), .int .i64 5, .int .i64 key, .string ⟨#[]⟩, .bool false, .string ⟨#[]⟩, .int .i64 ((j : Int) + 1)] 125)) (Below.refl _ _)
                    have HQ5 := Flow.hide (HQ4.out.below hh5)
                    have HM5 := Flow.hide (HM4.out.below hh5)
                    have HB5 := Flow.hide (HB4.out.trans (hh5.mono HB4.out.size))
                    revert K5 HQ5 HM5 HB5
                    clear z5 hh5 HQ4 HM4 HB4 wr
                    generalize w4.alloc (.cells #[.int .u32 ((j : Int) + 1), .int .u32 ((j : Int) + 1 + 1), .int .i64 5, .int .i64 key, .string ⟨#[]⟩, .bool false, .string ⟨#[]⟩, .int .i64 ((j : Int) + 1)] 125) = w5
                    generalize w4.heap.size = b5
                    intro K5 HQ5 HM5 HB5
                    have hlook := lookQ HM5.out key ⟨h0, h1⟩
                    have hcw5 : w5.cell? ⟨gt, ot + j, none⟩ = some (.int .u8 key) := by
                      have := (HTB.out j (by have := HML.out; omega)).1
                      rw [HTJ.out] at this
                      exact (HB5.out.cell (p := ⟨gt, ot + j, none⟩) HGT.out).trans this
                    have hfj' : ¬ ((j : Int) + 1 ≤ f key) := by omega
                    have hjkI5 : (j : Int) < (k : Int) := by omega
                    have hj8 : (j : Int) < 8 := by omega
                    have c5 := K5.cell
                    obtain ⟨w6, hrun, hM6, hC6⟩ := HM5.out.update Try.underlying3 Try.underlying22 Try.underlying127 (by have := HN.out; unfold maxLen; omega) (c := key) (v := (j : Int) + 1) (WalkArith.wf_i64 (by omega)) (WalkArith.wf_u32 (by omega))
                    have HM6 := Flow.hide hM6
                    have HC6 := Flow.hide hC6
                    clear hM6 hC6
                    have hn8 : n < 8 := by have := HN.out; have := HQP.out; omega
                    go_wp2_with fail
                    have HQ6 := Flow.hide (q_map HQ5.out HM5.out HC6.out (by have := HQM.out; omega))
                    have HB6 := Flow.hide (HB5.out.trans (HC6.out.below (B := w.heap.size) (fun j _ e => by subst e; exact HBM.out) HB5.out.size))
                    clear hrun hcw5 c5 K5 hlook HM5 HQ5 HB5 HC6 w5
                    go_roundw
                    case rel => exact ⟨i + 1, n + 1, q.eraseIdx ix, _, by omega, by go_num, by go_num, by rw [HLE.out]; have := HN.out; have := HQP.out; omega, HM6.out, HQ6.out, HG4.out, HB6.out⟩
                    case measure => simp [intOf]; omega
                  · have HF := Flow.hide hnon
                    clear hnon
                    go_wp2_with fail
                    (with_reducible refine (take_no qb w.heap.size q key _ HQ.out (by have := HN.out; omega) HF.out).mono ?_)
                    rintro e w4 ⟨rfl, hb4⟩
                    have HQ4 := Flow.hide (HQ.out.below hb4)
                    have HM4 := Flow.hide (HM.out.below hb4)
                    have HB4 := Flow.hide (HB.out.trans (hb4.mono HB.out.size))
                    clear hb4 HQ HM HB HF wr
                    go_upto_region 20 with fail
                    have hh5 := Flow.below_alloc w4 (.cells #[.int .u32 0, .int .u32 0, .int .i64 0, .int .i64 0, .string ⟨#[]⟩, .bool false, .string ⟨#[]⟩, .int .i64 0] 125)
                    have HQ5 := Flow.hide (HQ4.out.below hh5)
                    have HM5 := Flow.hide (HM4.out.below hh5)
                    have HB5 := Flow.hide (HB4.out.trans (hh5.mono HB4.out.size))
                    revert HQ5 HM5 HB5
                    clear hh5 HQ4 HM4 HB4
                    generalize w4.alloc (.cells #[.int .u32 0, .int .u32 0, .int .i64 0, .int .i64 0, .string ⟨#[]⟩, .bool false, .string ⟨#[]⟩, .int .i64 0] 125) = w5
                    intro HQ5 HM5 HB5
                    go_wp2_with fail
                    go_roundw
                    case rel => exact ⟨i + 1, n, q, f, by omega, by go_num, rfl, HN.out, HM5.out, HQ5.out, HG.out, HB5.out⟩
                    case measure => simp [intOf]; omega
                · have hnon : Non q key := by
                    intro c hc
                    have := List.length_pos_of_mem hc
                    have := HN.out
                    omega
                  clear hk0
                  have HF := Flow.hide hnon
                  clear hnon
                  go_wp2_with fail
                  (with_reducible refine (take_no qb w.heap.size q key _ HQ.out (by have := HN.out; omega) HF.out).mono ?_)
                  rintro e w4 ⟨rfl, hb4⟩
                  have HQ4 := Flow.hide (HQ.out.below hb4)
                  have HM4 := Flow.hide (HM.out.below hb4)
                  have HB4 := Flow.hide (HB.out.trans (hb4.mono HB.out.size))
                  clear hb4 HQ HM HB HF wr
                  go_upto_region 20 with fail
                  have hh5 := Flow.below_alloc w4 (.cells #[.int .u32 0, .int .u32 0, .int .i64 0, .int .i64 0, .string ⟨#[]⟩, .bool false, .string ⟨#[]⟩, .int .i64 0] 125)
                  have HQ5 := Flow.hide (HQ4.out.below hh5)
                  have HM5 := Flow.hide (HM4.out.below hh5)
                  have HB5 := Flow.hide (HB4.out.trans (hh5.mono HB4.out.size))
                  revert HQ5 HM5 HB5
                  clear hh5 HQ4 HM4 HB4
                  generalize w4.alloc (.cells #[.int .u32 0, .int .u32 0, .int .i64 0, .int .i64 0, .string ⟨#[]⟩, .bool false, .string ⟨#[]⟩, .int .i64 0] 125) = w5
                  intro HQ5 HM5 HB5
                  go_wp2_with fail
                  go_roundw
                  case rel => exact ⟨i + 1, n, q, f, by omega, by go_num, rfl, HN.out, HM5.out, HQ5.out, HG.out, HB5.out⟩
                  case measure => simp [intOf]; omega
              · have hinI : ¬ (i : Int) < (len2 : Int) := by omega
                obtain ⟨j, hj⟩ : ∃ j, i = len2 + j := ⟨i - len2, by omega⟩
                have hjk : j < k := by omega
                obtain ⟨gt, ot, rfl, hg, hc⟩ := HT.out (by have := HML.out; omega)
                obtain ⟨hck, h0, h1⟩ := hc j (by have := HML.out; omega)
                have hcw : wr.cell? ⟨gt, ot + j, none⟩ = some (.int .u8 (ts j)) := (HB.out.cell (p := ⟨gt, ot + j, none⟩) hg).trans hck
                have hij : (i : Int) - (len2 : Int) = (j : Int) := by omega
                clear hj
                have hjkI : (j : Int) < (k : Int) := by omega
                revert h0 h1 hcw
                clear hck hc
                generalize ts j = key
                intro h0 h1 hcw
                have HGT := Flow.hide hg
                have HTB : Hid (∀ i, i < len → w.cell? ⟨gt, ot + i, none⟩ = some (.int .u8 (ts i)) ∧ 0 ≤ ts i ∧ ts i ≤ 255) := by obtain ⟨g', off', e, _, hc⟩ := HT.out (by have := HML.out; omega); cases e; exact hc
                go_upto_region 19 with fail
                clear hcw hinI hij hjkI hjk
                rcases fst_or q key with ⟨ix, hfst⟩ | hnon
                · obtain ⟨j, hjm, hcx, hfj, htj⟩ := good_at HG.out hfst
                  have HG4 := Flow.hide (good_take HG.out hfst hcx)
                  have HLE := Flow.hide (List.length_eraseIdx_of_lt (List.getElem?_eq_some_iff.1 hcx).1)
                  have HQP : Hid (0 < q.length) := Nat.lt_of_le_of_lt (Nat.zero_le _) (List.getElem?_eq_some_iff.1 hcx).1
                  have HF := Flow.hide hfst
                  have HC := Flow.hide hcx
                  have HTJ := Flow.hide htj
                  clear hfst hcx htj
                  go_wp2_with fail
                  (with_reducible refine (take_mk qb w.heap.size q ((j : Int) + 1) key ((j : Int) + 1 + 1) ix _ (by rw [if_neg (by omega)]) HQ.out (by have := HN.out; omega) HF.out HC.out HB.out.size).mono ?_)
                  rintro e w4 ⟨rfl, hq4, hb4, hc4⟩
                  have HQ4 := Flow.hide hq4
                  have HM4 := Flow.hide (chg_q HM.out hc4 (by have := HQM.out; omega))
                  have HB4 := Flow.hide (HB.out.trans hb4)
                  clear hq4 hb4 hc4 HQ HM HB HF HC HG
                  go_upto_region 21 with fail
                  obtain ⟨K5, hh5, z5⟩ := Flow.laid1 (w := w4) (w1 := w4.alloc (.cells #[.int .u32 ((j : Int) + 1), .int .u32 ((j : Int) + 1 + 1), .int .i64 5, .int .i64 key, .string ⟨#[]⟩, .bool false, .string ⟨#[]⟩, .int .i64 ((j : Int) + 1)] 125)) (Below.refl _ _)
                  have HQ5 := Flow.hide (HQ4.out.below hh5)
                  have HM5 := Flow.hide (HM4.out.below hh5)
                  have HB5 := Flow.hide (HB4.out.trans (hh5.mono HB4.out.size))
                  revert K5 HQ5 HM5 HB5
                  clear z5 hh5 HQ4 HM4 HB4 wr
                  generalize w4.alloc (.cells #[.int .u32 ((j : Int) + 1), .int .u32 ((j : Int) + 1 + 1), .int .i64 5, .int .i64 key, .string ⟨#[]⟩, .bool false, .string ⟨#[]⟩, .int .i64 ((j : Int) + 1)] 125) = w5
                  generalize w4.heap.size = b5
                  intro K5 HQ5 HM5 HB5
                  have hlook := lookQ HM5.out key ⟨h0, h1⟩
                  have hcw5 : w5.cell? ⟨gt, ot + j, none⟩ = some (.int .u8 key) := by
                    have := (HTB.out j (by have := HML.out; omega)).1
                    rw [HTJ.out] at this
                    exact (HB5.out.cell (p := ⟨gt, ot + j, none⟩) HGT.out).trans this
                  have hfj' : ¬ ((j : Int) + 1 ≤ f key) := by omega
                  have hjkI5 : (j : Int) < (k : Int) := by omega
                  have hj8 : (j : Int) < 8 := by omega
                  have c5 := K5.cell
                  obtain ⟨w6, hrun, hM6, hC6⟩ := HM5.out.update Try.underlying3 Try.underlying22 Try.underlying127 (by have := HN.out; unfold maxLen; omega) (c := key) (v := (j : Int) + 1) (WalkArith.wf_i64 (by omega)) (WalkArith.wf_u32 (by omega))
                  have HM6 := Flow.hide hM6
                  have HC6 := Flow.hide hC6
                  clear hM6 hC6
                  have hn8 : n < 8 := by have := HN.out; have := HQP.out; omega
                  go_wp2_with fail
                  have HQ6 := Flow.hide (q_map HQ5.out HM5.out HC6.out (by have := HQM.out; omega))
                  have HB6 := Flow.hide (HB5.out.trans (HC6.out.below (B := w.heap.size) (fun j _ e => by subst e; exact HBM.out) HB5.out.size))
                  clear hrun hcw5 c5 K5 hlook HM5 HQ5 HB5 HC6 w5
                  go_roundw
                  case rel => exact ⟨i + 1, n + 1, q.eraseIdx ix, _, by omega, by go_num, by go_num, by rw [HLE.out]; have := HN.out; have := HQP.out; omega, HM6.out, HQ6.out, HG4.out, HB6.out⟩
                  case measure => simp [intOf]; omega
                · have HF := Flow.hide hnon
                  clear hnon
                  go_wp2_with fail
                  (with_reducible refine (take_no qb w.heap.size q key _ HQ.out (by have := HN.out; omega) HF.out).mono ?_)
                  rintro e w4 ⟨rfl, hb4⟩
                  have HQ4 := Flow.hide (HQ.out.below hb4)
                  have HM4 := Flow.hide (HM.out.below hb4)
                  have HB4 := Flow.hide (HB.out.trans (hb4.mono HB.out.size))
                  clear hb4 HQ HM HB HF wr
                  go_upto_region 20 with fail
                  have hh5 := Flow.below_alloc w4 (.cells #[.int .u32 0, .int .u32 0, .int .i64 0, .int .i64 0, .string ⟨#[]⟩, .bool false, .string ⟨#[]⟩, .int .i64 0] 125)
                  have HQ5 := Flow.hide (HQ4.out.below hh5)
                  have HM5 := Flow.hide (HM4.out.below hh5)
                  have HB5 := Flow.hide (HB4.out.trans (hh5.mono HB4.out.size))
                  revert HQ5 HM5 HB5
                  clear hh5 HQ4 HM4 HB4
                  generalize w4.alloc (.cells #[.int .u32 0, .int .u32 0, .int .i64 0, .int .i64 0, .string ⟨#[]⟩, .bool false, .string ⟨#[]⟩, .int .i64 0] 125) = w5
                  intro HQ5 HM5 HB5
                  go_wp2_with fail
                  go_roundw
                  case rel => exact ⟨i + 1, n, q, f, by omega, by go_num, rfl, HN.out, HM5.out, HQ5.out, HG.out, HB5.out⟩
                  case measure => simp [intOf]; omega
            · obtain rfl : i = 60 := by omega
              go_upto_region 25 with fail
              go_wp2_with fail
              (with_reducible refine (room_below qb w.heap.size q (8 - (k : Int) + (n : Int)) _ HQ.out (by have := HN.out; omega) (by have := HN.out; omega)).mono ?_)
              rintro e w4 ⟨rfl, hb4⟩
              have HB4 := Flow.hide (HB.out.trans (hb4.mono HB.out.size))
              have hn8 : n ≤ 8 := by have := HN.out; omega
              clear hb4 HB HQ HM HG HN
              go_wp2_with fail
              go_ret
              exact ⟨rfl, HB4.out⟩
          · go_upto_region 25 with fail
            go_wp2_with fail
            (with_reducible refine (room_below qb w.heap.size q (8 - (k : Int) + (n : Int)) _ HQ.out (by have := HN.out; omega) (by have := HN.out; omega)).mono ?_)
            rintro e w4 ⟨rfl, hb4⟩
            have HB4 := Flow.hide (HB.out.trans (hb4.mono HB.out.size))
            have hn8 : n ≤ 8 := by have := HN.out; omega
            clear hb4 HB HQ HM HG HN
            go_wp2_with fail
            go_ret
            exact ⟨rfl, HB4.out⟩
theorem own : ownKnob Try.prog.godebug = none := by kernel_rfl
theorem laidOut : laidOutB Try.prog = true := by kernel_rfl

set_option maxRecDepth 100000 in
theorem lifted (os : Os) (started : os.Started) (H : Type) (enc : TypeId × Value → H) :
    ReturnsInHanded {} Try.checked os 12 .any (Rows.queueOrderSpec.pre6 enc Try.prog Try.f12 Rows.queueOrderRow.domain false) (Rows.queueOrderSpec.post enc Try.prog Try.f12 false true false false) := by
  refine returnsInHanded_of_change (C := Try.checked) own started (by kernel_rfl) Try.func12
    (ChangeSpec.witness6 (enc := enc) (C := Try.checked) false ⟨#[], #[.slice none 0 0, .slice none 0 0], []⟩ 8 (by kernel_rfl) (by kernel_rfl) (by kernel_rfl) (by kernel_rfl)) ?_
  intro W base args ds gs before hval0 hW hcnd _
  have hval : ∀ (j : Nat) t v, Try.f12.params[j]? = some t → args[j]? = some v → Value.okWide Try.prog W .any base t v := hval0
  have hW' := hW
  obtain ⟨p, q, hA0, hV, rfl, hfz, hnd⟩ := hW
  have hA : DataW.TrodAll enc Try.prog W 0 (fun _ => true) true Try.f12.params.toList args.toList ds p := hA0
  rw [Try.params12] at hA hval
  obtain ⟨v0, v1, d0, d1, p0, p1, hargs, rfl, rfl, h0, h1⟩ := trodAll_two hA
  obtain ⟨rfl, rfl⟩ := trodVars_none hV
  subst hargs
  obtain ⟨A0, n0, cp0, rfl, hl0, hlc0, hr0⟩ := Open.open_rows_arg 30 (ss := [.int .u8]) Try.underlying58 (by kernel_rfl) (by decide) (by kernel_rfl) (hval 0 58 v0 rfl rfl) h0
  have hn0 : A0 = none → n0 = 0 ∧ cp0 = 0 := fun e => by subst e; exact Open.open_none Try.underlying58 h0
  obtain ⟨ts0, ht0⟩ := bytes_of hr0
  obtain ⟨A1, n1, cp1, rfl, hl1, _, hr1⟩ := Open.open_rows_arg 30 (ss := [.int .u8]) Try.underlying58 (by kernel_rfl) (by decide) (by kernel_rfl) (hval 1 58 v1 rfl rfl) h1
  obtain ⟨ts1, ht1⟩ := bytes_of hr1
  clear hA0 hval0
  refine (walk A0 n0 cp0 ts0 A1 n1 cp1 ts1 W hl0 hlc0 hn0 ht0 hl1 ht1).mono fun e W' ⟨he, hb⟩ => ?_
  subst he
  exact ⟨_, rfl, Open.law_post laidOut (by kernel_rfl) (by kernel_rfl) Try.underlying4 rfl rfl hW' hb⟩

theorem over : Rows.queueOrderRow.holds Try.pinned (OpenSpec.ofChange Rows.queueOrderSpec) :=
  OpenClaim.holds_of_wide 12 Try.f12 rfl rfl rfl rfl rfl rfl rfl ⟨rfl, rfl, rfl, rfl, rfl⟩ rfl rfl rfl rfl rfl (by kernel_rfl) Try.func12 (by kernel_rfl)
    (of_decide_eq_true (by kernel_rfl)) (by unfold Func.isWrapper; first | (rw [if_pos (by decide +kernel)]; kernel_rfl) | (rw [if_neg (by decide +kernel)]; exact ⟨rfl, rfl⟩))
    (fun os started H enc _ => lifted os started H enc)

theorem proved : Rows.QueueOrderSaid := over
#print axioms proved
end Go.Proofs.Ythkphapmnlndbab.QOrder
