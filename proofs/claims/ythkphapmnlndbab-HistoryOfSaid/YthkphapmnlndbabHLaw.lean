/- HistoryOf: for any records and any key, history.Of and the document's Of give the same operations: their times, their answers, whether they are sure or never took effect, and which are ahead of which. -/
import Derived.Test.YthkphapmnlndbabRows
import Derived.Test.YthkphapmnlndbabHSpeaks
import Derived.Deep.Cut
import Derived.Deep.DeepCutAuto
import Derived.Test.YthkphapmnlndbabHRef
import Derived.Test.YthkphapmnlndbabBoxes
import Derived.Test.YthkphapmnlndbabOpen2
namespace Go.Proofs.Ythkphapmnlndbab.HLaw
open Go.ChangeShapes Go.WideShapes Go.ChangeAt Go.RowKit Go.ChangeMaps
set_option maxHeartbeats 40000000
set_option linter.unusedSimpArgs false
attribute [local irreducible] Flow.wpSeg Flow.wpF Flow.wpG Flow.wpS Flow.wpT Flow.wpK
/-- A record within its kinds. -/
def ok (r : Rc) : Prop := r.wf ∧ (0 ≤ r.op ∧ r.op ≤ 4294967295)
instance : Inhabited Rc := ⟨⟨0, 0, 0, 0, 0, 0, 0, 0, 0, false⟩⟩
theorem okw {r : Rc} (h : ok r) : r.wf := And.left h
theorem take1_op (x e y : Rc) : (x.take1 e y).op = e.op := by unfold Rc.take1; split; exact upd_op _ _; rfl
theorem foldE_op (x : Rc) (l : List Rc) : ∀ (e : Rc), (foldE x e l).op = e.op := by
  induction l with
  | nil => intro e; rfl
  | cons y l ih => intro e; show (foldE x (x.take1 e y) l).op = _; rw [ih, take1_op]
theorem ref_op : ∀ (suf pre : List Rc) (e : Rc), e ∈ refFrom pre suf → ∃ x ∈ suf, e.op = x.op := by
  intro suf
  induction suf with
  | nil => intro pre e h; simp [refFrom] at h
  | cons x suf ih =>
    intro pre e h
    simp only [refFrom] at h
    rcases List.mem_append.1 h with h | h
    · split at h
      · rw [List.mem_singleton] at h
        subst h
        exact ⟨x, List.mem_cons_self, foldE_op _ _ _⟩
      · cases h
    · obtain ⟨y, hy, he⟩ := ih _ e h
      exact ⟨y, List.mem_cons_of_mem _ hy, he⟩
theorem of_fine {l : List Rc} {key : Int} (h : ∀ r ∈ l, ok r) {e : Rc} (he : e ∈ refOf l key) : (0 ≤ e.op ∧ e.op ≤ 4294967295) ∧ e.ky = key := by
  unfold refOf at he
  obtain ⟨h1, h2⟩ := List.mem_filter.1 he
  obtain ⟨x, hx, ho⟩ := ref_op l [] e h1
  exact ⟨by rw [ho]; exact And.right (h x hx), by simpa using h2⟩
theorem sure_is (r : Rc) (b : Bool) (w : World) (h : Hid (r.sure = b)) :
    Calls Try.prog 46 #[.agg #[.int .i64 5, .int .i64 r.ky, .string ⟨#[]⟩, .bool false, .string ⟨#[]⟩, .int .i64 r.op, .int .i64 r.st, .int .i64 r.en, .int .i64 r.er, .bool false, .string ⟨#[]⟩, .int .u32 r.an, .int .u8 0, .int .u8 0, .bool r.wr]] w fun e w' => e = .returned (.bool b) ∧ Below w.heap.size w w' := by
  have h := h.out; subst h; exact sure46 r w
theorem never_is (r : Rc) (b : Bool) (w : World) (h : Hid (r.never = b)) :
    Calls Try.prog 47 #[.agg #[.int .i64 5, .int .i64 r.ky, .string ⟨#[]⟩, .bool false, .string ⟨#[]⟩, .int .i64 r.op, .int .i64 r.st, .int .i64 r.en, .int .i64 r.er, .bool false, .string ⟨#[]⟩, .int .u32 r.an, .int .u8 0, .int .u8 0, .bool r.wr]] w fun e w' => e = .returned (.bool b) ∧ Below w.heap.size w w' := by
  have h := h.out; subst h; exact never47 r w
theorem ahead_is (a b : Rc) (v : Bool) (w : World) (h : Hid (a.ahead b = v)) :
    Calls Try.prog 48 #[.agg #[.int .i64 5, .int .i64 a.ky, .string ⟨#[]⟩, .bool false, .string ⟨#[]⟩, .int .i64 a.op, .int .i64 a.st, .int .i64 a.en, .int .i64 a.er, .bool false, .string ⟨#[]⟩, .int .u32 a.an, .int .u8 0, .int .u8 0, .bool a.wr], .agg #[.int .i64 5, .int .i64 b.ky, .string ⟨#[]⟩, .bool false, .string ⟨#[]⟩, .int .i64 b.op, .int .i64 b.st, .int .i64 b.en, .int .i64 b.er, .bool false, .string ⟨#[]⟩, .int .u32 b.an, .int .u8 0, .int .u8 0, .bool b.wr]] w fun e w' => e = .returned (.bool v) ∧ Below w.heap.size w w' := by
  have h := h.out; subst h; exact ahead48 a b w
/-- The slice's records. -/
def Recs (w : World) (A : Option Addr) (n : Nat) (x : Nat → Rc) : Prop :=
  0 < n → ∃ g off, A = some ⟨g, off, none⟩ ∧ g < w.heap.size ∧ ∀ i, i < n → (∀ j u, (#[.int .u8 (x i).nd, .int .u32 (x i).ss, .int .u32 (x i).sq, .int .i64 (x i).ky, .int .u32 (x i).op, .int .i64 (x i).st, .int .i64 (x i).en, .int .i64 (x i).er, .int .u32 (x i).an, .bool (x i).wr] : Array Value).toList[j]? = some u → w.cell? ⟨g, off + i * 10 + j, none⟩ = some u) ∧ ok (x i)
theorem acts_of {H : Type} {enc : TypeId × Value → H} {base : Nat} {spare : Nat → Bool} {held : Bool} {w : World} {A : Option Addr} {n : Nat} (h : 0 < n → ∃ g off, A = some ⟨g, off, none⟩ ∧ g < w.heap.size ∧
    ∀ i, i < n → ∀ (j : Nat) (s : Open.Shp), ([.int .u8, .int .u32, .int .u32, .int .i64, .int .u32, .int .i64, .int .i64, .int .i64, .int .u32, .bool] : List Open.Shp)[j]? = some s → ∃ u, w.cell? ⟨g, off + (i * ([.int .u8, .int .u32, .int .u32, .int .i64, .int .u32, .int .i64, .int .i64, .int .i64, .int .u32, .bool] : List Open.Shp).length + j), none⟩ = some u ∧ Open.CellOk enc Try.prog w base spare held s u) :
    ∃ x, Recs w A n x := by
  rcases Nat.eq_zero_or_pos n with h0 | h0
  · exact ⟨fun _ => ⟨0, 0, 0, 0, 0, 0, 0, 0, 0, false⟩, fun hn => by omega⟩
  · obtain ⟨g, off, rfl, hg, hc⟩ := h h0
    have hx : ∀ i, i < n → ∃ y : Rc, (∀ j u, (#[.int .u8 y.nd, .int .u32 y.ss, .int .u32 y.sq, .int .i64 y.ky, .int .u32 y.op, .int .i64 y.st, .int .i64 y.en, .int .i64 y.er, .int .u32 y.an, .bool y.wr] : Array Value).toList[j]? = some u → w.cell? ⟨g, off + i * 10 + j, none⟩ = some u) ∧ ok y := by
      intro i hi
      obtain ⟨u0, e0, a0, rfl, w0⟩ := hc i hi 0 _ rfl
      obtain ⟨u1, e1, a1, rfl, w1⟩ := hc i hi 1 _ rfl
      obtain ⟨u2, e2, a2, rfl, w2⟩ := hc i hi 2 _ rfl
      obtain ⟨u3, e3, a3, rfl, w3⟩ := hc i hi 3 _ rfl
      obtain ⟨u4, e4, a4, rfl, w4⟩ := hc i hi 4 _ rfl
      obtain ⟨u5, e5, a5, rfl, w5⟩ := hc i hi 5 _ rfl
      obtain ⟨u6, e6, a6, rfl, w6⟩ := hc i hi 6 _ rfl
      obtain ⟨u7, e7, a7, rfl, w7⟩ := hc i hi 7 _ rfl
      obtain ⟨u8, e8, a8, rfl, w8⟩ := hc i hi 8 _ rfl
      obtain ⟨u9, e9, a9, rfl⟩ := hc i hi 9 _ rfl
      have e : ∀ j, off + (i * ([.int .u8, .int .u32, .int .u32, .int .i64, .int .u32, .int .i64, .int .i64, .int .i64, .int .u32, .bool] : List Open.Shp).length + j) = off + i * 10 + j := fun j => by simp; omega
      rw [e] at e0 e1 e2 e3 e4 e5 e6 e7 e8 e9
      refine ⟨⟨a0, a1, a2, a3, a4, a5, a6, a7, a8, a9⟩, fun j u hu => ?_, ⟨w0, w1, w2⟩, bounds_u32 w4⟩
      have hj : j < 10 := (List.getElem?_eq_some_iff.1 hu).1
      have hj2 : j = 0 ∨ j = 1 ∨ j = 2 ∨ j = 3 ∨ j = 4 ∨ j = 5 ∨ j = 6 ∨ j = 7 ∨ j = 8 ∨ j = 9 := by omega
      rcases hj2 with rfl | rfl | rfl | rfl | rfl | rfl | rfl | rfl | rfl | rfl <;> (simp at hu; subst hu; assumption)
    obtain ⟨f, hf⟩ := Deep.choose_lt hx
    exact ⟨f, fun _ => ⟨g, off, rfl, hg, hf⟩⟩
set_option maxRecDepth 20000 in
theorem walk (A : Option Addr) (len cap : Nat) (x : Nat → Rc) (key : Int) (w : World) (hlen : len ≤ maxLen) (hx : Recs w A len x) :
    Calls Try.prog 11 #[.slice A len cap, .int .i64 key] w fun e w' => e = .returned (.bool true) ∧ Below w.heap.size w w' := by
  unfold maxLen at hlen
  have HX := Flow.hide hx
  clear hx
  go_enter Try.func11, Try.ntmps11
  go_wp2_with fail
  (with_reducible refine (speaks42 _).mono ?_)
  rintro e w1 ⟨rfl, hb1⟩
  have B1 := Flow.hide hb1
  clear hb1
  go_wp2_with fail
  go_loopw [5, 6, 7] (fun t5 t6 t7 wr => ∃ (k : Nat) (l : List Rc), k ≤ len ∧ k ≤ 30 ∧ t7 = .int .i64 k ∧ l.length = k ∧ (∀ r ∈ l, ok r) ∧ wr.ownsRow w.heap.size 111 18 t5 k (rowsOf Rc.wcells l) ∧ wr.ownsRow w.heap.size 113 10 t6 k (rowsOf Rc.cells l) ∧ Below w.heap.size w wr) (fun _ _ t7 _ => 30 - (intOf t7).toNat)
  case atStart => exact ⟨0, [], by omega, by omega, rfl, rfl, by simp, World.ownsRow_nil _ _ _ _, World.ownsRow_nil _ _ _ _, B1.out⟩
  case round =>
    obtain ⟨k, l, hk, hk30, rfl, hll, hwf, hr5, hr6, hb⟩ := hrel
    obtain ⟨A5, c5, hv5, _⟩ := Flow.ownsRow_form hr5
    subst hv5
    obtain ⟨A6, c6, hv6, _⟩ := Flow.ownsRow_form hr6
    subst hv6
    have HL := Flow.hide hll
    have HW := Flow.hide hwf
    have H5 := Flow.hide hr5
    have H6 := Flow.hide hr6
    have HB := Flow.hide hb
    clear hll hwf hr5 hr6 hb
    by_cases hgo : k < len ∧ k < 30
    · obtain ⟨hkl, hk2⟩ := hgo
      obtain ⟨g, off, rfl, hg, hc⟩ := HX.out (by omega)
      obtain ⟨hc0, ok0⟩ := hc k hkl
      obtain ⟨r, hr⟩ : ∃ r, r = x k := ⟨_, rfl⟩
      rw [← hr] at hc0 ok0
      have OK0 := Flow.hide ok0
      have HC := Flow.hide (fun j u hu => (HB.out.cell (p := ⟨g, off + k * 10 + j, none⟩) hg).trans (hc0 j u hu))
      have hklI : (k : Int) < (len : Int) := by omega
      clear hc hr ok0 hc0 hg
      go_upto_region 8 with fail
      have e2 : (Try.prog.info? 104).map (·.size) = some (#[.int .u8 r.nd, .int .u32 r.ss, .int .u32 r.sq, .int .i64 r.ky, .int .u32 r.op, .int .i64 r.st, .int .i64 r.en, .int .i64 r.er, .int .u32 r.an, .bool r.wr] : Array Value).size := by kernel_rfl
      have e1 : (#[.int .u8 r.nd, .int .u32 r.ss, .int .u32 r.sq, .int .i64 r.ky, .int .u32 r.op, .int .i64 r.st, .int .i64 r.en, .int .i64 r.er, .int .u32 r.an, .bool r.wr] : Array Value).all (·.oneCell') = true := by first | kernel_rfl | simp [Value.oneCell']
      iterate 11 go_step
      refine wp_load_at 104 _ rfl g (off + k * 10) rfl #[.int .u8 r.nd, .int .u32 r.ss, .int .u32 r.sq, .int .i64 r.ky, .int .u32 r.op, .int .i64 r.st, .int .i64 r.en, .int .i64 r.er, .int .u32 r.an, .bool r.wr] _ HC.out Try.underlying104 rfl e2 ?_
      iterate 5 go_step
      refine wp_store_row 104 _ _ rfl wr.heap.size #[.int .u8 r.nd, .int .u32 r.ss, .int .u32 r.sq, .int .i64 r.ky, .int .u32 r.op, .int .i64 r.st, .int .i64 r.en, .int .i64 r.er, .int .u32 r.an, .bool r.wr] rfl rfl 104 #[.int .u8 0, .int .u32 0, .int .u32 0, .int .i64 0, .int .u32 0, .int .i64 0, .int .i64 0, .int .i64 0, .int .u32 0, .bool false] (Flow.Blk.new wr 104 #[.int .u8 0, .int .u32 0, .int .u32 0, .int .i64 0, .int .u32 0, .int .i64 0, .int .i64 0, .int .i64 0, .int .u32 0, .bool false]) e2 rfl e1 ?_
      have K2 := blk_setRow (cs := #[.int .u8 r.nd, .int .u32 r.ss, .int .u32 r.sq, .int .i64 r.ky, .int .u32 r.op, .int .i64 r.st, .int .i64 r.en, .int .i64 r.er, .int .u32 r.an, .bool r.wr]) (Flow.Blk.new wr 104 #[.int .u8 0, .int .u32 0, .int .u32 0, .int .i64 0, .int .u32 0, .int .i64 0, .int .i64 0, .int .i64 0, .int .u32 0, .bool false])
      have C2 := chg_setRow (cs := #[.int .u8 r.nd, .int .u32 r.ss, .int .u32 r.sq, .int .i64 r.ky, .int .u32 r.op, .int .i64 r.st, .int .i64 r.en, .int .i64 r.er, .int .u32 r.an, .bool r.wr]) (Flow.Blk.new wr 104 #[.int .u8 0, .int .u32 0, .int .u32 0, .int .i64 0, .int .u32 0, .int .i64 0, .int .i64 0, .int .i64 0, .int .u32 0, .bool false])
      have hh2 := (Flow.below_alloc wr (.cells #[.int .u8 0, .int .u32 0, .int .u32 0, .int .i64 0, .int .u32 0, .int .i64 0, .int .i64 0, .int .i64 0, .int .u32 0, .bool false] 104)).trans (C2.below (B := wr.heap.size) (fun j _ e => by omega) (by simp))
      clear C2 e1 HC
      have H52 := Flow.hide (Flow.ownsRow_chg H5.out (Flow.Chg.of_below hh2) (fun _ _ e => e))
      have H62 := Flow.hide (Flow.ownsRow_chg H6.out (Flow.Chg.of_below hh2) (fun _ _ e => e))
      have HB2 := Flow.hide (HB.out.trans (hh2.mono HB.out.size))
      have hg8 := Flow.hide (show w.heap.size ≤ wr.heap.size from HB.out.size)
      clear hh2 H5 H6 HB
      revert K2 H52 H62 HB2 hg8
      generalize (wr.alloc (.cells #[.int .u8 0, .int .u32 0, .int .u32 0, .int .i64 0, .int .u32 0, .int .i64 0, .int .i64 0, .int .i64 0, .int .u32 0, .bool false] 104)).setRow wr.heap.size #[.int .u8 r.nd, .int .u32 r.ss, .int .u32 r.sq, .int .i64 r.ky, .int .u32 r.op, .int .i64 r.st, .int .i64 r.en, .int .i64 r.er, .int .u32 r.an, .bool r.wr] = w2
      generalize wr.heap.size = g8
      intro K2 H52 H62 HB2 hg8
      have KK2 := Flow.hide K2
      have q8 := K2.cell
      have f8 := K2.frozen
      have z8 := K2.lt
      clear K2
      go_upto_region 10 with fail
      obtain ⟨y, hy⟩ : ∃ y : Rc, y = { r with st := bits BinOp.and IntKind.i64 r.st 1023, en := bits BinOp.and IntKind.i64 r.en 1023 } := ⟨_, rfl⟩
      have C3 : Flow.Chg (· = g8) w2 ((w2.setCell ⟨g8, 5, none⟩ (.int .i64 (bits BinOp.and IntKind.i64 r.st 1023))).setCell ⟨g8, 6, none⟩ (.int .i64 (bits BinOp.and IntKind.i64 r.en 1023))) :=
        ((Flow.Chg.refl (· = g8) w2).setCell (p := ⟨g8, 5, none⟩) (fun _ => rfl) _).setCell (p := ⟨g8, 6, none⟩) (fun _ => rfl) _
      have K3 : Flow.Blk ((w2.setCell ⟨g8, 5, none⟩ (.int .i64 (bits BinOp.and IntKind.i64 r.st 1023))).setCell ⟨g8, 6, none⟩ (.int .i64 (bits BinOp.and IntKind.i64 r.en 1023))) g8 104 #[.int .u8 y.nd, .int .u32 y.ss, .int .u32 y.sq, .int .i64 y.ky, .int .u32 y.op, .int .i64 y.st, .int .i64 y.en, .int .i64 y.er, .int .u32 y.an, .bool y.wr] := by
        subst hy
        exact Flow.Blk.set_is (Flow.Blk.set_is KK2.out 5 _ rfl) 6 _ rfl
      have OKY := Flow.hide (show ok y by subst hy; exact OK0.out)
      have R53 := Flow.hide (Flow.ownsRow_chg H52.out C3 (fun j hj e => own_ne_blk H52.out KK2.out (by decide) (by rw [hj, e])))
      have R63 := Flow.hide (Flow.ownsRow_chg H62.out C3 (fun j hj e => own_ne_blk H62.out KK2.out (by decide) (by rw [hj, e])))
      have B3 := Flow.hide (HB2.out.trans (C3.below (B := w.heap.size) (fun j _ e => by have := hg8.out; omega) HB2.out.size))
      clear C3 hy q8 f8 z8 H52 H62 HB2 KK2 e2 OK0
      revert K3 R53 R63 B3
      generalize ((w2.setCell ⟨g8, 5, none⟩ (.int .i64 (bits BinOp.and IntKind.i64 r.st 1023))).setCell ⟨g8, 6, none⟩ (.int .i64 (bits BinOp.and IntKind.i64 r.en 1023))) = w3
      intro K3 R53 R63 B3
      obtain ⟨CW, hCW⟩ : ∃ C : World → Prop, C = fun w' => Flow.Blk w' g8 104 #[.int .u8 y.nd, .int .u32 y.ss, .int .u32 y.sq, .int .i64 y.ky, .int .u32 y.op, .int .i64 y.st, .int .i64 y.en, .int .i64 y.er, .int .u32 y.an, .bool y.wr] := ⟨_, rfl⟩
      have kW : ∀ w', Flow.Blk w' g8 104 #[.int .u8 y.nd, .int .u32 y.ss, .int .u32 y.sq, .int .i64 y.ky, .int .u32 y.op, .int .i64 y.st, .int .i64 y.en, .int .i64 y.er, .int .u32 y.an, .bool y.wr] → CW w' := by rw [hCW]; exact fun _ h => h
      have uW : ∀ w', CW w' → Flow.Blk w' g8 104 #[.int .u8 y.nd, .int .u32 y.ss, .int .u32 y.sq, .int .i64 y.ky, .int .u32 y.op, .int .i64 y.st, .int .i64 y.en, .int .i64 y.er, .int .u32 y.an, .bool y.wr] := by rw [hCW]; exact fun _ h => h
      have hW : ∀ w1 w2, CW w1 → Below w1.heap.size w1 w2 → CW w2 := by rw [hCW]; exact fun _ _ h k => h.below k
      have b8 : ∀ (p : Flow.Wd CW) (j : Nat), p.w.cell? ⟨g8, j, none⟩ = (#[.int .u8 y.nd, .int .u32 y.ss, .int .u32 y.sq, .int .i64 y.ky, .int .u32 y.op, .int .i64 y.st, .int .i64 y.en, .int .i64 y.er, .int .u32 y.an, .bool y.wr] : Array Value)[j]? := fun p => (uW _ p.ok).cell
      have ne1 : Nonempty (Flow.Wd CW) := ⟨⟨w3, kW _ K3⟩⟩
      have KK3 := Flow.hide K3
      clear hCW K3
      have OKB := Flow.hide (show 0 ≤ y.op ∧ y.op ≤ 4294967295 from (show ok y from OKY).2)
      refine Flow.wp_region_tree CW [0, 1, 2, 5, 6] 6 (by kernel_rfl) (by kernel_rfl) (fun w' h => kW _ (KK3.out.below h)) hW ?_
      dsimp only [Flow.pickIdx, List.getElem?_cons_zero, List.getElem?_cons_succ]
      iterate 5 (
          (refine Flow.wpS_weak (by kernel_rfl) (fun K' hK' => ?_)
           go_simp
           first
             | (refine hK' _ ?_; clear hK' K')
             | (apply Exists.intro
                refine ⟨fun p => ?_, hK' _ ?_⟩
                (first | with_reducible exact (told43 y _ OKB.out))
                clear hK' K')))
      refine Flow.wpS_nil ?_
      clear b8 OKB
      intro w4 hb4
      have G4 := KK3.out.below hb4
      have R5_4 := Flow.hide (Flow.ownsRow_chg R53.out (Flow.Chg.of_below hb4) (fun _ _ e => e))
      have R6_4 := Flow.hide (Flow.ownsRow_chg R63.out (Flow.Chg.of_below hb4) (fun _ _ e => e))
      have B4 := Flow.hide (B3.out.trans (hb4.mono B3.out.size))
      clear hb4 KK3 R53 R63 B3
      -- TREE
      refine Flow.wpR_two 3 7 _ _ (by kernel_rfl) rfl rfl rfl ?_ ?_
      · go_simp
        refine ⟨kW _ (G4.alloc _), fun w5 hb5 => ?_⟩
        obtain ⟨K5, q5, z5⟩ := Flow.laid1 (by simpa using hb5)
        clear hb5 z5
        have G5 := G4.below q5
        have R5_5 := Flow.hide (Flow.ownsRow_chg R5_4.out (Flow.Chg.of_below q5) (fun _ _ e => e))
        have R6_5 := Flow.hide (Flow.ownsRow_chg R6_4.out (Flow.Chg.of_below q5) (fun _ _ e => e))
        have B5 := Flow.hide (B4.out.trans (q5.mono B4.out.size))
        clear q5 G4 R5_4 R6_4 B4
        refine Flow.wpR_two 4 7 _ _ (by kernel_rfl) rfl rfl rfl ?_ ?_
        · obtain ⟨v6, w6, hr6, ho6, hb6, hc6⟩ := append_wc (cp := 1) R5_5.out y _ K5 (by omega) B5.out.size
          have G6 := G5.chg hc6 (fun e => own_ne_blk R5_5.out G5 (by decide) e.symm)
          have R6_6 := Flow.hide (Flow.ownsRow_chg R6_5.out hc6 (fun j hj e => Flow.own_ne R6_5.out R5_5.out (by decide) j hj e.symm))
          have B6 := Flow.hide (B5.out.trans hb6)
          obtain ⟨A6, c6, hv6, _⟩ := Flow.ownsRow_form ho6
          subst hv6
          have R5_6 := Flow.hide ho6
          clear G5 R5_5 R6_5 B5 K5 ho6 hb6 hc6
          refine (Flow.nUpon_append _ _ 101 rfl rfl rfl hr6 ⟨kW _ G6, fun w7 hb7 => ?_⟩)
          simp only [Act.put, List.setIfInBounds_toArray, List.set_cons_succ, List.set_cons_zero]
          clear hr6
          have G7 := G6.below hb7
          have R5_7 := Flow.hide (Flow.ownsRow_chg R5_6.out (Flow.Chg.of_below hb7) (fun _ _ e => e))
          have R6_7 := Flow.hide (Flow.ownsRow_chg R6_6.out (Flow.Chg.of_below hb7) (fun _ _ e => e))
          have B7 := Flow.hide (B6.out.trans (hb7.mono B6.out.size))
          clear hb7 G6 R5_6 R6_6 B6
          refine Flow.wpR_on 7 _ (by kernel_rfl) rfl rfl ?_
          go_simp
          refine ⟨kW _ (G7.alloc _), fun w8 hb8 => ?_⟩
          obtain ⟨K6, q8, z8⟩ := Flow.laid1 (by simpa using hb8)
          clear hb8 z8
          have G8 := G7.below q8
          have R5_8 := Flow.hide (Flow.ownsRow_chg R5_7.out (Flow.Chg.of_below q8) (fun _ _ e => e))
          have R6_8 := Flow.hide (Flow.ownsRow_chg R6_7.out (Flow.Chg.of_below q8) (fun _ _ e => e))
          have B8 := Flow.hide (B7.out.trans (q8.mono B7.out.size))
          clear q8 G7 R5_7 R6_7 B7
          obtain ⟨v9, w9, hr9, ho9, hb9, hc9⟩ := append_rc (cp := 1) R6_8.out y _ K6 (by omega) B8.out.size
          have G9 := G8.chg hc9 (fun e => own_ne_blk R6_8.out G8 (by decide) e.symm)
          have R5_9 := Flow.hide (Flow.ownsRow_chg R5_8.out hc9 (fun j hj e => Flow.own_ne R5_8.out R6_8.out (by decide) j hj e.symm))
          have B9 := Flow.hide (B8.out.trans hb9)
          obtain ⟨A9, c9, hv9, _⟩ := Flow.ownsRow_form ho9
          subst hv9
          have R6_9 := Flow.hide ho9
          clear G8 R5_8 R6_8 B8 K6 ho9 hb9 hc9
          refine Flow.wpR_on 8 _ (by kernel_rfl) rfl rfl (Flow.nUpon_append _ _ 102 rfl rfl rfl hr9 ⟨kW _ G9, fun w10 hb10 => ?_⟩)
          simp only [Act.put, List.setIfInBounds_toArray, List.set_cons_succ, List.set_cons_zero]
          clear hr9
          have G10 := G9.below hb10
          have R5_10 := Flow.hide (Flow.ownsRow_chg R5_9.out (Flow.Chg.of_below hb10) (fun _ _ e => e))
          have R6_10 := Flow.hide (Flow.ownsRow_chg R6_9.out (Flow.Chg.of_below hb10) (fun _ _ e => e))
          have B10 := Flow.hide (B9.out.trans (hb10.mono B9.out.size))
          clear hb10 G9 R5_9 R6_9 B9
          refine Flow.wpR_on 9 _ (by kernel_rfl) rfl rfl ?_
          go_simp
          refine ⟨kW _ G10, fun w11 hb11 => ?_⟩
          have G11 := G10.below hb11
          have R5_11 := Flow.hide (Flow.ownsRow_chg R5_10.out (Flow.Chg.of_below hb11) (fun _ _ e => e))
          have R6_11 := Flow.hide (Flow.ownsRow_chg R6_10.out (Flow.Chg.of_below hb11) (fun _ _ e => e))
          have B11 := Flow.hide (B10.out.trans (hb11.mono B10.out.size))
          clear hb11 G10 R5_10 R6_10 B10
          refine Flow.wpR_on 10 _ (by kernel_rfl) rfl rfl ?_
          go_simp
          refine ⟨kW _ G11, fun w12 hb12 => Flow.wpR_done (by kernel_rfl) ?_⟩
          have G12 := G11.below hb12
          have R5_12 := Flow.hide (Flow.ownsRow_chg R5_11.out (Flow.Chg.of_below hb12) (fun _ _ e => e))
          have R6_12 := Flow.hide (Flow.ownsRow_chg R6_11.out (Flow.Chg.of_below hb12) (fun _ _ e => e))
          have B12 := Flow.hide (B11.out.trans (hb12.mono B11.out.size))
          clear hb12 G11 R5_11 R6_11 B11
          have R5F := Flow.hide R5_12.out
          have R6F := Flow.hide R6_12.out
          have BF := Flow.hide B12.out
          clear G12 R5_12 R6_12 B12 kW uW hW ne1
          go_wp2_with fail
          go_roundw
          case rel => exact ⟨k + 1, l ++ [y], by omega, by omega, by go_num, by rw [List.length_append, HL.out]; rfl, fun q hq => by
            rcases List.mem_append.1 hq with hq | hq
            · exact HW.out q hq
            · rw [List.mem_singleton] at hq; subst hq; exact OKY.out, R5F.out, R6F.out, BF.out⟩
          case measure => simp [intOf]; omega
        · go_simp
          refine ⟨kW _ (G5.alloc _), fun w6 hb6 => ?_⟩
          obtain ⟨K6, q6, z6⟩ := Flow.laid1 (by simpa using hb6)
          clear hb6 z6
          have G6 := G5.below q6
          have R5_6 := Flow.hide (Flow.ownsRow_chg R5_5.out (Flow.Chg.of_below q6) (fun _ _ e => e))
          have R6_6 := Flow.hide (Flow.ownsRow_chg R6_5.out (Flow.Chg.of_below q6) (fun _ _ e => e))
          have B6 := Flow.hide (B5.out.trans (q6.mono B5.out.size))
          have K5 := K5.below q6
          clear q6 G5 R5_5 R6_5 B5
          obtain ⟨v7, w7, hr7, ho7, hb7, hc7⟩ := append_wc (cp := 1) R5_6.out y _ K5 (by omega) B6.out.size
          have G7 := G6.chg hc7 (fun e => own_ne_blk R5_6.out G6 (by decide) e.symm)
          have R6_7 := Flow.hide (Flow.ownsRow_chg R6_6.out hc7 (fun j hj e => Flow.own_ne R6_6.out R5_6.out (by decide) j hj e.symm))
          have K6 := K6.chg hc7 (fun e => own_ne_blk R5_6.out K6 (by decide) e.symm)
          have B7 := Flow.hide (B6.out.trans hb7)
          obtain ⟨A7, c7, hv7, _⟩ := Flow.ownsRow_form ho7
          subst hv7
          have R5_7 := Flow.hide ho7
          clear G6 R5_6 R6_6 B6 K5 ho7 hb7 hc7
          refine Flow.wpR_on 4 _ (by kernel_rfl) rfl rfl (Flow.nUpon_append _ _ 101 rfl rfl rfl hr7 ⟨kW _ G7, fun w8 hb8 => ?_⟩)
          simp only [Act.put, List.setIfInBounds_toArray, List.set_cons_succ, List.set_cons_zero]
          clear hr7
          have G8 := G7.below hb8
          have R5_8 := Flow.hide (Flow.ownsRow_chg R5_7.out (Flow.Chg.of_below hb8) (fun _ _ e => e))
          have R6_8 := Flow.hide (Flow.ownsRow_chg R6_7.out (Flow.Chg.of_below hb8) (fun _ _ e => e))
          have B8 := Flow.hide (B7.out.trans (hb8.mono B7.out.size))
          have K6 := K6.below hb8
          clear hb8 G7 R5_7 R6_7 B7
          obtain ⟨v9, w9, hr9, ho9, hb9, hc9⟩ := append_rc (cp := 1) R6_8.out y _ K6 (by omega) B8.out.size
          have G9 := G8.chg hc9 (fun e => own_ne_blk R6_8.out G8 (by decide) e.symm)
          have R5_9 := Flow.hide (Flow.ownsRow_chg R5_8.out hc9 (fun j hj e => Flow.own_ne R5_8.out R6_8.out (by decide) j hj e.symm))
          have B9 := Flow.hide (B8.out.trans hb9)
          obtain ⟨A9, c9, hv9, _⟩ := Flow.ownsRow_form ho9
          subst hv9
          have R6_9 := Flow.hide ho9
          clear G8 R5_8 R6_8 B8 K6 ho9 hb9 hc9
          refine Flow.wpR_on 8 _ (by kernel_rfl) rfl rfl (Flow.nUpon_append _ _ 102 rfl rfl rfl hr9 ⟨kW _ G9, fun w10 hb10 => ?_⟩)
          simp only [Act.put, List.setIfInBounds_toArray, List.set_cons_succ, List.set_cons_zero]
          clear hr9
          have G10 := G9.below hb10
          have R5_10 := Flow.hide (Flow.ownsRow_chg R5_9.out (Flow.Chg.of_below hb10) (fun _ _ e => e))
          have R6_10 := Flow.hide (Flow.ownsRow_chg R6_9.out (Flow.Chg.of_below hb10) (fun _ _ e => e))
          have B10 := Flow.hide (B9.out.trans (hb10.mono B9.out.size))
          clear hb10 G9 R5_9 R6_9 B9
          refine Flow.wpR_on 9 _ (by kernel_rfl) rfl rfl ?_
          go_simp
          refine ⟨kW _ G10, fun w11 hb11 => ?_⟩
          have G11 := G10.below hb11
          have R5_11 := Flow.hide (Flow.ownsRow_chg R5_10.out (Flow.Chg.of_below hb11) (fun _ _ e => e))
          have R6_11 := Flow.hide (Flow.ownsRow_chg R6_10.out (Flow.Chg.of_below hb11) (fun _ _ e => e))
          have B11 := Flow.hide (B10.out.trans (hb11.mono B10.out.size))
          clear hb11 G10 R5_10 R6_10 B10
          refine Flow.wpR_on 10 _ (by kernel_rfl) rfl rfl ?_
          go_simp
          refine ⟨kW _ G11, fun w12 hb12 => Flow.wpR_done (by kernel_rfl) ?_⟩
          have G12 := G11.below hb12
          have R5_12 := Flow.hide (Flow.ownsRow_chg R5_11.out (Flow.Chg.of_below hb12) (fun _ _ e => e))
          have R6_12 := Flow.hide (Flow.ownsRow_chg R6_11.out (Flow.Chg.of_below hb12) (fun _ _ e => e))
          have B12 := Flow.hide (B11.out.trans (hb12.mono B11.out.size))
          clear hb12 G11 R5_11 R6_11 B11
          have R5F := Flow.hide R5_12.out
          have R6F := Flow.hide R6_12.out
          have BF := Flow.hide B12.out
          clear G12 R5_12 R6_12 B12 kW uW hW ne1
          go_wp2_with fail
          go_roundw
          case rel => exact ⟨k + 1, l ++ [y], by omega, by omega, by go_num, by rw [List.length_append, HL.out]; rfl, fun q hq => by
            rcases List.mem_append.1 hq with hq | hq
            · exact HW.out q hq
            · rw [List.mem_singleton] at hq; subst hq; exact OKY.out, R5F.out, R6F.out, BF.out⟩
          case measure => simp [intOf]; omega
      · go_simp
        refine ⟨kW _ (G4.alloc _), fun w5 hb5 => ?_⟩
        obtain ⟨K6, q5, z5⟩ := Flow.laid1 (by simpa using hb5)
        clear hb5 z5
        have G5 := G4.below q5
        have R5_5 := Flow.hide (Flow.ownsRow_chg R5_4.out (Flow.Chg.of_below q5) (fun _ _ e => e))
        have R6_5 := Flow.hide (Flow.ownsRow_chg R6_4.out (Flow.Chg.of_below q5) (fun _ _ e => e))
        have B5 := Flow.hide (B4.out.trans (q5.mono B4.out.size))
        clear q5 G4 R5_4 R6_4 B4
        refine Flow.wpR_on 3 _ (by kernel_rfl) rfl rfl ?_
        go_simp
        refine ⟨kW _ (G5.alloc _), fun w6 hb6 => ?_⟩
        obtain ⟨K5, q6, z6⟩ := Flow.laid1 (by simpa using hb6)
        clear hb6 z6
        have G6 := G5.below q6
        have R5_6 := Flow.hide (Flow.ownsRow_chg R5_5.out (Flow.Chg.of_below q6) (fun _ _ e => e))
        have R6_6 := Flow.hide (Flow.ownsRow_chg R6_5.out (Flow.Chg.of_below q6) (fun _ _ e => e))
        have B6 := Flow.hide (B5.out.trans (q6.mono B5.out.size))
        have K6 := K6.below q6
        clear q6 G5 R5_5 R6_5 B5
        obtain ⟨v7, w7, hr7, ho7, hb7, hc7⟩ := append_wc (cp := 1) R5_6.out y _ K5 (by omega) B6.out.size
        have G7 := G6.chg hc7 (fun e => own_ne_blk R5_6.out G6 (by decide) e.symm)
        have R6_7 := Flow.hide (Flow.ownsRow_chg R6_6.out hc7 (fun j hj e => Flow.own_ne R6_6.out R5_6.out (by decide) j hj e.symm))
        have K6 := K6.chg hc7 (fun e => own_ne_blk R5_6.out K6 (by decide) e.symm)
        have B7 := Flow.hide (B6.out.trans hb7)
        obtain ⟨A7, c7, hv7, _⟩ := Flow.ownsRow_form ho7
        subst hv7
        have R5_7 := Flow.hide ho7
        clear G6 R5_6 R6_6 B6 K5 ho7 hb7 hc7
        refine Flow.wpR_on 4 _ (by kernel_rfl) rfl rfl (Flow.nUpon_append _ _ 101 rfl rfl rfl hr7 ⟨kW _ G7, fun w8 hb8 => ?_⟩)
        simp only [Act.put, List.setIfInBounds_toArray, List.set_cons_succ, List.set_cons_zero]
        clear hr7
        have G8 := G7.below hb8
        have R5_8 := Flow.hide (Flow.ownsRow_chg R5_7.out (Flow.Chg.of_below hb8) (fun _ _ e => e))
        have R6_8 := Flow.hide (Flow.ownsRow_chg R6_7.out (Flow.Chg.of_below hb8) (fun _ _ e => e))
        have B8 := Flow.hide (B7.out.trans (hb8.mono B7.out.size))
        have K6 := K6.below hb8
        clear hb8 G7 R5_7 R6_7 B7
        obtain ⟨v9, w9, hr9, ho9, hb9, hc9⟩ := append_rc (cp := 1) R6_8.out y _ K6 (by omega) B8.out.size
        have G9 := G8.chg hc9 (fun e => own_ne_blk R6_8.out G8 (by decide) e.symm)
        have R5_9 := Flow.hide (Flow.ownsRow_chg R5_8.out hc9 (fun j hj e => Flow.own_ne R5_8.out R6_8.out (by decide) j hj e.symm))
        have B9 := Flow.hide (B8.out.trans hb9)
        obtain ⟨A9, c9, hv9, _⟩ := Flow.ownsRow_form ho9
        subst hv9
        have R6_9 := Flow.hide ho9
        clear G8 R5_8 R6_8 B8 K6 ho9 hb9 hc9
        refine Flow.wpR_on 8 _ (by kernel_rfl) rfl rfl (Flow.nUpon_append _ _ 102 rfl rfl rfl hr9 ⟨kW _ G9, fun w10 hb10 => ?_⟩)
        simp only [Act.put, List.setIfInBounds_toArray, List.set_cons_succ, List.set_cons_zero]
        clear hr9
        have G10 := G9.below hb10
        have R5_10 := Flow.hide (Flow.ownsRow_chg R5_9.out (Flow.Chg.of_below hb10) (fun _ _ e => e))
        have R6_10 := Flow.hide (Flow.ownsRow_chg R6_9.out (Flow.Chg.of_below hb10) (fun _ _ e => e))
        have B10 := Flow.hide (B9.out.trans (hb10.mono B9.out.size))
        clear hb10 G9 R5_9 R6_9 B9
        refine Flow.wpR_on 9 _ (by kernel_rfl) rfl rfl ?_
        go_simp
        refine ⟨kW _ G10, fun w11 hb11 => ?_⟩
        have G11 := G10.below hb11
        have R5_11 := Flow.hide (Flow.ownsRow_chg R5_10.out (Flow.Chg.of_below hb11) (fun _ _ e => e))
        have R6_11 := Flow.hide (Flow.ownsRow_chg R6_10.out (Flow.Chg.of_below hb11) (fun _ _ e => e))
        have B11 := Flow.hide (B10.out.trans (hb11.mono B10.out.size))
        clear hb11 G10 R5_10 R6_10 B10
        refine Flow.wpR_on 10 _ (by kernel_rfl) rfl rfl ?_
        go_simp
        refine ⟨kW _ G11, fun w12 hb12 => Flow.wpR_done (by kernel_rfl) ?_⟩
        have G12 := G11.below hb12
        have R5_12 := Flow.hide (Flow.ownsRow_chg R5_11.out (Flow.Chg.of_below hb12) (fun _ _ e => e))
        have R6_12 := Flow.hide (Flow.ownsRow_chg R6_11.out (Flow.Chg.of_below hb12) (fun _ _ e => e))
        have B12 := Flow.hide (B11.out.trans (hb12.mono B11.out.size))
        clear hb12 G11 R5_11 R6_11 B11
        have R5F := Flow.hide R5_12.out
        have R6F := Flow.hide R6_12.out
        have BF := Flow.hide B12.out
        clear G12 R5_12 R6_12 B12 kW uW hW ne1
        go_wp2_with fail
        go_roundw
        case rel => exact ⟨k + 1, l ++ [y], by omega, by omega, by go_num, by rw [List.length_append, HL.out]; rfl, fun q hq => by
          rcases List.mem_append.1 hq with hq | hq
          · exact HW.out q hq
          · rw [List.mem_singleton] at hq; subst hq; exact OKY.out, R5F.out, R6F.out, BF.out⟩
        case measure => simp [intOf]; omega
      -- END
    · go_upto_region 6 with fail
      go_cut [26] (fun t26 wx => t26 = .bool false ∧ wr = wx)
      case first =>
        by_cases hkl : k < len
        · have hk2 : ¬ k < 30 := fun h => hgo ⟨hkl, h⟩
          have hklI : (k : Int) < (len : Int) := by omega
          have hk3 := Flow.hide (show ¬ (k : Int) < 30 by omega)
          clear hgo
          go_wp2_with fail
          go_meet
          exact ⟨by rw [decide_eq_false (show ¬ (k : Int) < 30 by have := hk3.out; omega)], rfl⟩
        · clear hgo
          go_wp2_with fail
          go_meet
          exact ⟨rfl, rfl⟩
      case rest =>
        obtain ⟨rfl, rfl⟩ := hcut
        clear hgo
        go_upto_region 11 with fail
        go_wp2_with fail
        (with_reducible refine (of44 (.slice A5 k c5) k w.heap.size l key _ H5.out HL.out hk30 (fun r hr => okw (HW.out r hr))).mono ?_)
        rintro e w3 ⟨⟨v9, rfl, hv9⟩, hb3⟩
        have H63 := Flow.hide (Flow.ownsRow_chg H6.out (Flow.Chg.of_below hb3) (fun _ _ e => e))
        have HB3 := Flow.hide (HB.out.trans (hb3.mono HB.out.size))
        obtain ⟨A9, c9, e9, _⟩ := Flow.ownsRow_form hv9
        subst e9
        have H93 := Flow.hide hv9
        clear hb3 hv9 H5 H6 HB
        go_wp2_with fail
        (with_reducible refine (refof45 (.slice A6 k c6) k w.heap.size l key _ H63.out HL.out hk30).mono ?_)
        rintro e w4 ⟨⟨v10, rfl, hv10⟩, hb4⟩
        obtain ⟨A10, c10, e10, _⟩ := Flow.ownsRow_form hv10
        subst e10
        have H94 := Flow.hide (Flow.ownsRow_chg H93.out (Flow.Chg.of_below hb4) (fun _ _ e => e))
        have H104 := Flow.hide hv10
        have HB4 := Flow.hide (HB3.out.trans (hb4.mono HB3.out.size))
        have HFI := Flow.hide (fun (e : Rc) (he : e ∈ refOf l key) => of_fine HW.out he)
        clear hb4 hv10 H63 H93 HB3
        have hes : (refOf l key).length ≤ 30 := by have h1 := refOf_length l key; have h2 := HL.out; omega
        generalize refOf l key = es at H94 H104 HFI hes
        go_wp2_with fail
        go_loopw [11] (fun t11 wr => ∃ i : Nat, i ≤ es.length ∧ t11 = .int .i64 i ∧ Below w4.heap.size w4 wr) (fun t11 _ => es.length - (intOf t11).toNat)
        case atStart => exact ⟨0, by omega, rfl, Below.refl _ _⟩
        case round =>
          obtain ⟨i, hi, rfl, hb⟩ := hrel
          have HBI := Flow.hide hb
          clear hb
          by_cases hlt : i < es.length
          · have hltI : (i : Int) < (es.length : Int) := by omega
            obtain ⟨e, he⟩ : ∃ e, es[i]? = some e := ⟨_, List.getElem?_eq_getElem hlt⟩
            have HOP := Flow.hide (HFI.out e (List.mem_of_getElem? he)).1
            have HKY := Flow.hide (HFI.out e (List.mem_of_getElem? he)).2
            have RE := Flow.hide (Flow.ownsRow_chg H94.out (Flow.Chg.of_below HBI.out) (fun _ _ e => e))
            have RM := Flow.hide (Flow.ownsRow_chg H104.out (Flow.Chg.of_below HBI.out) (fun _ _ e => e))
            obtain ⟨ge, ce, e1, _, hge, _, ze⟩ := at118f RE.out rfl he
            obtain ⟨gm, cm, e2, _, hgm, _, zm0, zm1, zm2, zm3, zm4, zm5, zm6, zm7, zm8, zm9⟩ := at113 RM.out rfl he
            simp only [Value.slice.injEq] at e1 e2
            obtain ⟨rfl, _, rfl⟩ := e1
            obtain ⟨rfl, _, rfl⟩ := e2
            have a0 : ∀ (p : Flow.Rg), (Flow.rg wr p).cell? ⟨ge, i * 15, none⟩ = some (.int .i64 5) := fun p => ((Flow.rg_below wr p).cell (p := ⟨ge, i * 15, none⟩) hge).trans (ze 0 _ rfl)
            have a1 : ∀ (p : Flow.Rg), (Flow.rg wr p).cell? ⟨ge, i * 15 + 1, none⟩ = some (.int .i64 e.ky) := fun p => ((Flow.rg_below wr p).cell (p := ⟨ge, i * 15 + 1, none⟩) hge).trans (ze 1 _ rfl)
            have a2 : ∀ (p : Flow.Rg), (Flow.rg wr p).cell? ⟨ge, i * 15 + 2, none⟩ = some (.string ⟨#[]⟩) := fun p => ((Flow.rg_below wr p).cell (p := ⟨ge, i * 15 + 2, none⟩) hge).trans (ze 2 _ rfl)
            have a3 : ∀ (p : Flow.Rg), (Flow.rg wr p).cell? ⟨ge, i * 15 + 3, none⟩ = some (.bool false) := fun p => ((Flow.rg_below wr p).cell (p := ⟨ge, i * 15 + 3, none⟩) hge).trans (ze 3 _ rfl)
            have a4 : ∀ (p : Flow.Rg), (Flow.rg wr p).cell? ⟨ge, i * 15 + 4, none⟩ = some (.string ⟨#[]⟩) := fun p => ((Flow.rg_below wr p).cell (p := ⟨ge, i * 15 + 4, none⟩) hge).trans (ze 4 _ rfl)
            have a5 : ∀ (p : Flow.Rg), (Flow.rg wr p).cell? ⟨ge, i * 15 + 5, none⟩ = some (.int .i64 e.op) := fun p => ((Flow.rg_below wr p).cell (p := ⟨ge, i * 15 + 5, none⟩) hge).trans (ze 5 _ rfl)
            have a6 : ∀ (p : Flow.Rg), (Flow.rg wr p).cell? ⟨ge, i * 15 + 6, none⟩ = some (.int .i64 e.st) := fun p => ((Flow.rg_below wr p).cell (p := ⟨ge, i * 15 + 6, none⟩) hge).trans (ze 6 _ rfl)
            have a7 : ∀ (p : Flow.Rg), (Flow.rg wr p).cell? ⟨ge, i * 15 + 7, none⟩ = some (.int .i64 e.en) := fun p => ((Flow.rg_below wr p).cell (p := ⟨ge, i * 15 + 7, none⟩) hge).trans (ze 7 _ rfl)
            have a8 : ∀ (p : Flow.Rg), (Flow.rg wr p).cell? ⟨ge, i * 15 + 8, none⟩ = some (.int .i64 e.er) := fun p => ((Flow.rg_below wr p).cell (p := ⟨ge, i * 15 + 8, none⟩) hge).trans (ze 8 _ rfl)
            have a9 : ∀ (p : Flow.Rg), (Flow.rg wr p).cell? ⟨ge, i * 15 + 9, none⟩ = some (.bool false) := fun p => ((Flow.rg_below wr p).cell (p := ⟨ge, i * 15 + 9, none⟩) hge).trans (ze 9 _ rfl)
            have a10 : ∀ (p : Flow.Rg), (Flow.rg wr p).cell? ⟨ge, i * 15 + 10, none⟩ = some (.string ⟨#[]⟩) := fun p => ((Flow.rg_below wr p).cell (p := ⟨ge, i * 15 + 10, none⟩) hge).trans (ze 10 _ rfl)
            have a11 : ∀ (p : Flow.Rg), (Flow.rg wr p).cell? ⟨ge, i * 15 + 11, none⟩ = some (.int .u32 e.an) := fun p => ((Flow.rg_below wr p).cell (p := ⟨ge, i * 15 + 11, none⟩) hge).trans (ze 11 _ rfl)
            have a12 : ∀ (p : Flow.Rg), (Flow.rg wr p).cell? ⟨ge, i * 15 + 12, none⟩ = some (.int .u8 0) := fun p => ((Flow.rg_below wr p).cell (p := ⟨ge, i * 15 + 12, none⟩) hge).trans (ze 12 _ rfl)
            have a13 : ∀ (p : Flow.Rg), (Flow.rg wr p).cell? ⟨ge, i * 15 + 13, none⟩ = some (.int .u8 0) := fun p => ((Flow.rg_below wr p).cell (p := ⟨ge, i * 15 + 13, none⟩) hge).trans (ze 13 _ rfl)
            have a14 : ∀ (p : Flow.Rg), (Flow.rg wr p).cell? ⟨ge, i * 15 + 14, none⟩ = some (.bool e.wr) := fun p => ((Flow.rg_below wr p).cell (p := ⟨ge, i * 15 + 14, none⟩) hge).trans (ze 14 _ rfl)
            have c0 : ∀ (p : Flow.Rg), (Flow.rg wr p).cell? ⟨gm, i * 10, none⟩ = some (.int .u8 e.nd) := fun p => ((Flow.rg_below wr p).cell (p := ⟨gm, i * 10, none⟩) hgm).trans zm0
            have c1 : ∀ (p : Flow.Rg), (Flow.rg wr p).cell? ⟨gm, i * 10 + 1, none⟩ = some (.int .u32 e.ss) := fun p => ((Flow.rg_below wr p).cell (p := ⟨gm, i * 10 + 1, none⟩) hgm).trans zm1
            have c2 : ∀ (p : Flow.Rg), (Flow.rg wr p).cell? ⟨gm, i * 10 + 2, none⟩ = some (.int .u32 e.sq) := fun p => ((Flow.rg_below wr p).cell (p := ⟨gm, i * 10 + 2, none⟩) hgm).trans zm2
            have c3 : ∀ (p : Flow.Rg), (Flow.rg wr p).cell? ⟨gm, i * 10 + 3, none⟩ = some (.int .i64 e.ky) := fun p => ((Flow.rg_below wr p).cell (p := ⟨gm, i * 10 + 3, none⟩) hgm).trans zm3
            have c4 : ∀ (p : Flow.Rg), (Flow.rg wr p).cell? ⟨gm, i * 10 + 4, none⟩ = some (.int .u32 e.op) := fun p => ((Flow.rg_below wr p).cell (p := ⟨gm, i * 10 + 4, none⟩) hgm).trans zm4
            have c5 : ∀ (p : Flow.Rg), (Flow.rg wr p).cell? ⟨gm, i * 10 + 5, none⟩ = some (.int .i64 e.st) := fun p => ((Flow.rg_below wr p).cell (p := ⟨gm, i * 10 + 5, none⟩) hgm).trans zm5
            have c6 : ∀ (p : Flow.Rg), (Flow.rg wr p).cell? ⟨gm, i * 10 + 6, none⟩ = some (.int .i64 e.en) := fun p => ((Flow.rg_below wr p).cell (p := ⟨gm, i * 10 + 6, none⟩) hgm).trans zm6
            have c7 : ∀ (p : Flow.Rg), (Flow.rg wr p).cell? ⟨gm, i * 10 + 7, none⟩ = some (.int .i64 e.er) := fun p => ((Flow.rg_below wr p).cell (p := ⟨gm, i * 10 + 7, none⟩) hgm).trans zm7
            have c8 : ∀ (p : Flow.Rg), (Flow.rg wr p).cell? ⟨gm, i * 10 + 8, none⟩ = some (.int .u32 e.an) := fun p => ((Flow.rg_below wr p).cell (p := ⟨gm, i * 10 + 8, none⟩) hgm).trans zm8
            have c9 : ∀ (p : Flow.Rg), (Flow.rg wr p).cell? ⟨gm, i * 10 + 9, none⟩ = some (.bool e.wr) := fun p => ((Flow.rg_below wr p).cell (p := ⟨gm, i * 10 + 9, none⟩) hgm).trans zm9
            go_upto_region 17 with fail
            refine Flow.wp_region_flow (by kernel_rfl) 12 rfl ?_
            refine Flow.wpF_seg [0, 1, 2, 3, 4, 5, 6, 7] 4 rfl (by kernel_rfl) ?_
            dsimp only [Flow.pickOps, List.getElem?_cons_zero, List.getElem?_cons_succ]
            repeat (first
              | (refine Flow.wpSeg_step (fun K' hK' => ?_)
                 go_simp
                 first
                   | (refine hK' _ ?_; clear hK' K')
                   | (apply Exists.intro
                      refine ⟨fun p => ?_, hK' _ ?_⟩
                      (first | fail)
                      clear hK' K')))
            refine Flow.wpSeg_nil ?_
            refine Flow.wpF_declared [⟨8, 10, 12, 70, 118, #[.int .i64 0, .int .i64 0, .string ⟨#[]⟩, .bool false, .string ⟨#[]⟩, .int .i64 0, .int .i64 0, .int .i64 0, .int .i64 0, .bool false, .string ⟨#[]⟩, .int .u32 0, .int .u8 0, .int .u8 0, .bool false], #[.int .i64 5, .int .i64 e.ky, .string ⟨#[]⟩, .bool false, .string ⟨#[]⟩, .int .i64 e.op, .int .i64 e.st, .int .i64 e.en, .int .i64 e.er, .bool false, .string ⟨#[]⟩, .int .u32 e.an, .int .u8 0, .int .u8 0, .bool e.wr]⟩, ⟨9, 11, 13, 74, 113, #[.int .u8 0, .int .u32 0, .int .u32 0, .int .i64 0, .int .u32 0, .int .i64 0, .int .i64 0, .int .i64 0, .int .u32 0, .bool false], #[.int .u8 e.nd, .int .u32 e.ss, .int .u32 e.sq, .int .i64 e.ky, .int .u32 e.op, .int .i64 e.st, .int .i64 e.en, .int .i64 e.er, .int .u32 e.an, .bool e.wr]⟩] 0 (by kernel_rfl) ?hz ?hs ?_
            case hz =>
              intro p hp wz; simp only [List.mem_cons, List.not_mem_nil, or_false] at hp
              rcases hp with rfl | rfl
              all_goals kernel_rfl
            case hs =>
              intro p hp; simp only [List.mem_cons, List.not_mem_nil, or_false] at hp
              rcases hp with rfl | rfl
              all_goals exact ⟨rfl, by simp, by kernel_rfl, rfl, by simp [Value.oneCell']⟩
            intro gf own hgf hnf hown
            dsimp only [Flow.putG, if_true]
            simp only [Act.put, List.setIfInBounds_toArray, List.set_cons_succ, List.set_cons_zero, if_true]
            clear a0 a1 a2 a3 a4 a5 a6 a7 a8 a9 a10 a11 a12 a13 a14 c0 c1 c2 c3 c4 c5 c6 c7 c8 c9 ze zm0 zm1 zm2 zm3 zm4 zm5 zm6 zm7 zm8 zm9
            refine Flow.wpF_done (by kernel_rfl) ?_
            intro w5 hC hO
            have K12 : Flow.Blk w5 (gf 8) 118 #[.int .i64 5, .int .i64 e.ky, .string ⟨#[]⟩, .bool false, .string ⟨#[]⟩, .int .i64 e.op, .int .i64 e.st, .int .i64 e.en, .int .i64 e.er, .bool false, .string ⟨#[]⟩, .int .u32 e.an, .int .u8 0, .int .u8 0, .bool e.wr] := (hO _ (hown ⟨8, 10, 12, 70, 118, #[.int .i64 0, .int .i64 0, .string ⟨#[]⟩, .bool false, .string ⟨#[]⟩, .int .i64 0, .int .i64 0, .int .i64 0, .int .i64 0, .bool false, .string ⟨#[]⟩, .int .u32 0, .int .u8 0, .int .u8 0, .bool false], #[.int .i64 5, .int .i64 e.ky, .string ⟨#[]⟩, .bool false, .string ⟨#[]⟩, .int .i64 e.op, .int .i64 e.st, .int .i64 e.en, .int .i64 e.er, .bool false, .string ⟨#[]⟩, .int .u32 e.an, .int .u8 0, .int .u8 0, .bool e.wr]⟩ (by simp))).2
            have K13 : Flow.Blk w5 (gf 9) 113 #[.int .u8 e.nd, .int .u32 e.ss, .int .u32 e.sq, .int .i64 e.ky, .int .u32 e.op, .int .i64 e.st, .int .i64 e.en, .int .i64 e.er, .int .u32 e.an, .bool e.wr] := (hO _ (hown ⟨9, 11, 13, 74, 113, #[.int .u8 0, .int .u32 0, .int .u32 0, .int .i64 0, .int .u32 0, .int .i64 0, .int .i64 0, .int .i64 0, .int .u32 0, .bool false], #[.int .u8 e.nd, .int .u32 e.ss, .int .u32 e.sq, .int .i64 e.ky, .int .u32 e.op, .int .i64 e.st, .int .i64 e.en, .int .i64 e.er, .int .u32 e.an, .bool e.wr]⟩ (by simp))).2
            have B5 := Flow.hide (HBI.out.trans (hC.below.mono HBI.out.size))
            clear hC hO hown hnf hgf RE RM hge hgm HBI
            generalize gf 8 = g12 at *
            generalize gf 9 = g13 at *
            have KE := Flow.hide K12
            have KM := Flow.hide K13
            have q13 := K13.cell
            have z13 := K13.lt
            have q12 := K12.cell
            have z12 := K12.lt
            clear K12 K13
            obtain ⟨N, hN⟩ : ∃ N, e.never = N := ⟨_, rfl⟩
            obtain ⟨S, hS⟩ : ∃ S, e.sure = S := ⟨_, rfl⟩
            have HN := Flow.hide hN
            have HS := Flow.hide hS
            clear hN hS he
            go_upto_region 18 with fail
            go_cut [14] (fun t14 wx => t14 = .bool N ∧ w5 = wx)
            case first =>
              by_cases h0 : 0 < e.en
              · by_cases h12 : e.er = 12
                · have hv := Flow.hide (show e.never = true by simp [Rc.never, h0, h12])
                  have hx := Flow.hide h12
                  go_wp2_with fail
                  go_meet
                  exact ⟨by rw [← HN.out, hv.out] <;> simp [bne, hx.out], rfl⟩
                · have hv := Flow.hide (show e.never = false by simp [Rc.never, h0, h12])
                  have hx := Flow.hide h12
                  go_wp2_with fail
                  go_meet
                  exact ⟨by rw [← HN.out, hv.out] <;> simp [bne, hx.out], rfl⟩
              · have hv := Flow.hide (show e.never = false by simp [Rc.never, h0])
                go_wp2_with fail
                go_meet
                exact ⟨by rw [← HN.out, hv.out], rfl⟩
            case rest =>
              obtain ⟨rfl, rfl⟩ := hcut
              go_upto_region 19 with fail
              go_cut [15] (fun t15 wx => t15 = .bool S ∧ w5 = wx)
              case first =>
                by_cases h0 : 0 < e.en
                · by_cases h13 : e.er = 13
                  · have hv := Flow.hide (show e.sure = false by simp [Rc.sure, h0, h13])
                    have hx := Flow.hide h13
                    go_wp2_with fail
                    go_meet
                    exact ⟨by rw [← HS.out, hv.out] <;> simp [bne, hx.out], rfl⟩
                  · rcases N with _ | _
                    · have hv := Flow.hide (show e.sure = true by unfold Rc.sure; rw [HN.out]; simp [h0, h13])
                      have hx := Flow.hide h13
                      go_wp2_with fail
                      go_meet
                      exact ⟨by rw [← HS.out, hv.out] <;> simp [bne, hx.out], rfl⟩
                    · have hv := Flow.hide (show e.sure = false by unfold Rc.sure; rw [HN.out]; simp [h0, h13])
                      have hx := Flow.hide h13
                      go_wp2_with fail
                      go_meet
                      exact ⟨by rw [← HS.out, hv.out] <;> simp [bne, hx.out], rfl⟩
                · have hv := Flow.hide (show e.sure = false by simp [Rc.sure, h0])
                  go_wp2_with fail
                  go_meet
                  exact ⟨by rw [← HS.out, hv.out], rfl⟩
              case rest =>
                obtain ⟨rfl, rfl⟩ := hcut
                have hcv : IntKind.i64.wrap e.op = e.op := IntWalk.i64_in _ (by have := HOP.out; omega)
                have hkb : (e.ky != key) = false := by simp [HKY.out]
                have e1 : (S != S) = false := by cases S <;> rfl
                have e2 : (N != N) = false := by cases N <;> rfl
                have e3 : (e.wr != e.wr) = false := by cases e.wr <;> rfl
                go_wp2_with fail
                (with_reducible refine (sure_is e S _ HS).mono ?_)
                rintro e4 w6 ⟨rfl, hb6⟩
                have KE6 := Flow.hide (KE.out.below hb6)
                have KM6 := Flow.hide (KM.out.below hb6)
                have B6 := Flow.hide (B5.out.trans (hb6.mono B5.out.size))
                clear hb6 q12 q13 z12 z13 KE KM B5
                have q12 := KE6.out.cell
                have z12 := KE6.out.lt
                go_wp2_with fail
                (with_reducible refine (never_is e N _ HN).mono ?_)
                rintro e5 w7 ⟨rfl, hb7⟩
                have KE7 := Flow.hide (KE6.out.below hb7)
                have KM7 := Flow.hide (KM6.out.below hb7)
                have B7 := Flow.hide (B6.out.trans (hb7.mono B6.out.size))
                clear hb7 q12 z12 KE6 KM6 B6
                go_wp2_with fail
                go_loopw [16] (fun t16 wx => ∃ j : Nat, j ≤ es.length ∧ t16 = .int .i64 j ∧ Below w7.heap.size w7 wx) (fun t16 _ => es.length - (intOf t16).toNat)
                case atStart => exact ⟨0, by omega, rfl, Below.refl _ _⟩
                case round =>
                  obtain ⟨j, hj, rfl, hbx⟩ := hrel
                  have HBX := Flow.hide hbx
                  clear hbx hcv hkb e1 e2 e3
                  by_cases hlt2 : j < es.length
                  · have hlt2I : (j : Int) < (es.length : Int) := by omega
                    obtain ⟨d, hd⟩ : ∃ d, es[j]? = some d := ⟨_, List.getElem?_eq_getElem hlt2⟩
                    have RE := Flow.ownsRow_chg H94.out (Flow.Chg.of_below (B7.out.trans (HBX.out.mono B7.out.size))) (fun _ _ e => e)
                    have RM := Flow.ownsRow_chg H104.out (Flow.Chg.of_below (B7.out.trans (HBX.out.mono B7.out.size))) (fun _ _ e => e)
                    obtain ⟨g3, c3, e1, _, hge, _, ze⟩ := at118f RE rfl hd
                    obtain ⟨g4, c4, e2, _, hgm, _, zm0, zm1, zm2, zm3, zm4, zm5, zm6, zm7, zm8, zm9⟩ := at113 RM rfl hd
                    simp only [Value.slice.injEq, Option.some.injEq, Addr.mk.injEq] at e1 e2
                    obtain ⟨⟨e1, _⟩, _, e3⟩ := e1
                    obtain ⟨⟨e2, _⟩, _, e4⟩ := e2
                    subst e1 e2 e3 e4
                    clear RE RM hd
                    have r12 := (KE7.out.below HBX.out).rg
                    have r13 := (KM7.out.below HBX.out).rg
                    have a0 : ∀ (p : Flow.Rg), (Flow.rg wr p).cell? ⟨ge, j * 15, none⟩ = some (.int .i64 5) := fun p => ((Flow.rg_below wr p).cell (p := ⟨ge, j * 15, none⟩) hge).trans (ze 0 _ rfl)
                    have a1 : ∀ (p : Flow.Rg), (Flow.rg wr p).cell? ⟨ge, j * 15 + 1, none⟩ = some (.int .i64 d.ky) := fun p => ((Flow.rg_below wr p).cell (p := ⟨ge, j * 15 + 1, none⟩) hge).trans (ze 1 _ rfl)
                    have a2 : ∀ (p : Flow.Rg), (Flow.rg wr p).cell? ⟨ge, j * 15 + 2, none⟩ = some (.string ⟨#[]⟩) := fun p => ((Flow.rg_below wr p).cell (p := ⟨ge, j * 15 + 2, none⟩) hge).trans (ze 2 _ rfl)
                    have a3 : ∀ (p : Flow.Rg), (Flow.rg wr p).cell? ⟨ge, j * 15 + 3, none⟩ = some (.bool false) := fun p => ((Flow.rg_below wr p).cell (p := ⟨ge, j * 15 + 3, none⟩) hge).trans (ze 3 _ rfl)
                    have a4 : ∀ (p : Flow.Rg), (Flow.rg wr p).cell? ⟨ge, j * 15 + 4, none⟩ = some (.string ⟨#[]⟩) := fun p => ((Flow.rg_below wr p).cell (p := ⟨ge, j * 15 + 4, none⟩) hge).trans (ze 4 _ rfl)
                    have a5 : ∀ (p : Flow.Rg), (Flow.rg wr p).cell? ⟨ge, j * 15 + 5, none⟩ = some (.int .i64 d.op) := fun p => ((Flow.rg_below wr p).cell (p := ⟨ge, j * 15 + 5, none⟩) hge).trans (ze 5 _ rfl)
                    have a6 : ∀ (p : Flow.Rg), (Flow.rg wr p).cell? ⟨ge, j * 15 + 6, none⟩ = some (.int .i64 d.st) := fun p => ((Flow.rg_below wr p).cell (p := ⟨ge, j * 15 + 6, none⟩) hge).trans (ze 6 _ rfl)
                    have a7 : ∀ (p : Flow.Rg), (Flow.rg wr p).cell? ⟨ge, j * 15 + 7, none⟩ = some (.int .i64 d.en) := fun p => ((Flow.rg_below wr p).cell (p := ⟨ge, j * 15 + 7, none⟩) hge).trans (ze 7 _ rfl)
                    have a8 : ∀ (p : Flow.Rg), (Flow.rg wr p).cell? ⟨ge, j * 15 + 8, none⟩ = some (.int .i64 d.er) := fun p => ((Flow.rg_below wr p).cell (p := ⟨ge, j * 15 + 8, none⟩) hge).trans (ze 8 _ rfl)
                    have a9 : ∀ (p : Flow.Rg), (Flow.rg wr p).cell? ⟨ge, j * 15 + 9, none⟩ = some (.bool false) := fun p => ((Flow.rg_below wr p).cell (p := ⟨ge, j * 15 + 9, none⟩) hge).trans (ze 9 _ rfl)
                    have a10 : ∀ (p : Flow.Rg), (Flow.rg wr p).cell? ⟨ge, j * 15 + 10, none⟩ = some (.string ⟨#[]⟩) := fun p => ((Flow.rg_below wr p).cell (p := ⟨ge, j * 15 + 10, none⟩) hge).trans (ze 10 _ rfl)
                    have a11 : ∀ (p : Flow.Rg), (Flow.rg wr p).cell? ⟨ge, j * 15 + 11, none⟩ = some (.int .u32 d.an) := fun p => ((Flow.rg_below wr p).cell (p := ⟨ge, j * 15 + 11, none⟩) hge).trans (ze 11 _ rfl)
                    have a12 : ∀ (p : Flow.Rg), (Flow.rg wr p).cell? ⟨ge, j * 15 + 12, none⟩ = some (.int .u8 0) := fun p => ((Flow.rg_below wr p).cell (p := ⟨ge, j * 15 + 12, none⟩) hge).trans (ze 12 _ rfl)
                    have a13 : ∀ (p : Flow.Rg), (Flow.rg wr p).cell? ⟨ge, j * 15 + 13, none⟩ = some (.int .u8 0) := fun p => ((Flow.rg_below wr p).cell (p := ⟨ge, j * 15 + 13, none⟩) hge).trans (ze 13 _ rfl)
                    have a14 : ∀ (p : Flow.Rg), (Flow.rg wr p).cell? ⟨ge, j * 15 + 14, none⟩ = some (.bool d.wr) := fun p => ((Flow.rg_below wr p).cell (p := ⟨ge, j * 15 + 14, none⟩) hge).trans (ze 14 _ rfl)
                    have b5 : ∀ (p : Flow.Rg), (Flow.rg wr p).cell? ⟨gm, j * 10 + 5, none⟩ = some (.int .i64 d.st) := fun p => ((Flow.rg_below wr p).cell (p := ⟨gm, j * 10 + 5, none⟩) hgm).trans zm5
                    clear ze zm0 zm1 zm2 zm3 zm4 zm5 zm6 zm7 zm8 zm9 hge hgm
                    rcases S with _ | _
                    · rcases N with _ | _
                      · as_aux_lemma =>
                        have HAH := Flow.hide (show e.ahead d = false by unfold Rc.ahead; rw [HS.out, HN.out]; simp [])
                        go_upto_region 25 with fail
                        refine Flow.wp_region_all (by kernel_rfl) (by kernel_rfl) ?_
                        repeat (first
                          | (refine Flow.wpSeg_step (fun K' hK' => ?_)
                             go_simp
                             first
                               | (refine hK' _ ?_; clear hK' K')
                               | (apply Exists.intro
                                  refine ⟨fun p => ?_, hK' _ ?_⟩
                                  (first | with_reducible exact (ahead_is e d false _ HAH))
                                  clear hK' K')))
                        refine Flow.wpSeg_nil ?_
                        intro w7 hb7
                        clear a0 a1 a2 a3 a4 a5 a6 a7 a8 a9 a10 a11 a12 a13 a14 b5 r12 r13
                        have HB7 := Flow.hide hb7
                        clear hb7
                        go_wp2_with fail
                        go_roundw
                        case rel => exact ⟨j + 1, by omega, by go_num, HBX.out.trans (HB7.out.mono HBX.out.size)⟩
                        case measure => simp [intOf]; omega
                      · by_cases hlt3 : e.en < d.st
                        · as_aux_lemma =>
                          have HAH := Flow.hide (show e.ahead d = true by unfold Rc.ahead; rw [HS.out, HN.out]; simp [hlt3])
                          go_upto_region 25 with fail
                          refine Flow.wp_region_all (by kernel_rfl) (by kernel_rfl) ?_
                          repeat (first
                            | (refine Flow.wpSeg_step (fun K' hK' => ?_)
                               go_simp
                               first
                                 | (refine hK' _ ?_; clear hK' K')
                                 | (apply Exists.intro
                                    refine ⟨fun p => ?_, hK' _ ?_⟩
                                    (first | with_reducible exact (ahead_is e d true _ HAH))
                                    clear hK' K')))
                          refine Flow.wpSeg_nil ?_
                          intro w7 hb7
                          clear a0 a1 a2 a3 a4 a5 a6 a7 a8 a9 a10 a11 a12 a13 a14 b5 r12 r13
                          have HB7 := Flow.hide hb7
                          clear hb7
                          go_wp2_with fail
                          go_roundw
                          case rel => exact ⟨j + 1, by omega, by go_num, HBX.out.trans (HB7.out.mono HBX.out.size)⟩
                          case measure => simp [intOf]; omega
                        · as_aux_lemma =>
                          have HAH := Flow.hide (show e.ahead d = false by unfold Rc.ahead; rw [HS.out, HN.out]; simp [hlt3])
                          go_upto_region 25 with fail
                          refine Flow.wp_region_all (by kernel_rfl) (by kernel_rfl) ?_
                          repeat (first
                            | (refine Flow.wpSeg_step (fun K' hK' => ?_)
                               go_simp
                               first
                                 | (refine hK' _ ?_; clear hK' K')
                                 | (apply Exists.intro
                                    refine ⟨fun p => ?_, hK' _ ?_⟩
                                    (first | with_reducible exact (ahead_is e d false _ HAH))
                                    clear hK' K')))
                          refine Flow.wpSeg_nil ?_
                          intro w7 hb7
                          clear a0 a1 a2 a3 a4 a5 a6 a7 a8 a9 a10 a11 a12 a13 a14 b5 r12 r13
                          have HB7 := Flow.hide hb7
                          clear hb7
                          go_wp2_with fail
                          go_roundw
                          case rel => exact ⟨j + 1, by omega, by go_num, HBX.out.trans (HB7.out.mono HBX.out.size)⟩
                          case measure => simp [intOf]; omega
                    · by_cases hlt3 : e.en < d.st
                      · as_aux_lemma =>
                        have HAH := Flow.hide (show e.ahead d = true by unfold Rc.ahead; rw [HS.out, HN.out]; simp [hlt3])
                        go_upto_region 25 with fail
                        refine Flow.wp_region_all (by kernel_rfl) (by kernel_rfl) ?_
                        repeat (first
                          | (refine Flow.wpSeg_step (fun K' hK' => ?_)
                             go_simp
                             first
                               | (refine hK' _ ?_; clear hK' K')
                               | (apply Exists.intro
                                  refine ⟨fun p => ?_, hK' _ ?_⟩
                                  (first | with_reducible exact (ahead_is e d true _ HAH))
                                  clear hK' K')))
                        refine Flow.wpSeg_nil ?_
                        intro w7 hb7
                        clear a0 a1 a2 a3 a4 a5 a6 a7 a8 a9 a10 a11 a12 a13 a14 b5 r12 r13
                        have HB7 := Flow.hide hb7
                        clear hb7
                        go_wp2_with fail
                        go_roundw
                        case rel => exact ⟨j + 1, by omega, by go_num, HBX.out.trans (HB7.out.mono HBX.out.size)⟩
                        case measure => simp [intOf]; omega
                      · as_aux_lemma =>
                        have HAH := Flow.hide (show e.ahead d = false by unfold Rc.ahead; rw [HS.out, HN.out]; simp [hlt3])
                        go_upto_region 25 with fail
                        refine Flow.wp_region_all (by kernel_rfl) (by kernel_rfl) ?_
                        repeat (first
                          | (refine Flow.wpSeg_step (fun K' hK' => ?_)
                             go_simp
                             first
                               | (refine hK' _ ?_; clear hK' K')
                               | (apply Exists.intro
                                  refine ⟨fun p => ?_, hK' _ ?_⟩
                                  (first | with_reducible exact (ahead_is e d false _ HAH))
                                  clear hK' K')))
                        refine Flow.wpSeg_nil ?_
                        intro w7 hb7
                        clear a0 a1 a2 a3 a4 a5 a6 a7 a8 a9 a10 a11 a12 a13 a14 b5 r12 r13
                        have HB7 := Flow.hide hb7
                        clear hb7
                        go_wp2_with fail
                        go_roundw
                        case rel => exact ⟨j + 1, by omega, by go_num, HBX.out.trans (HB7.out.mono HBX.out.size)⟩
                        case measure => simp [intOf]; omega
                  · obtain rfl : j = es.length := by omega
                    go_wp2_with fail
                    go_roundw
                    case rel => exact ⟨i + 1, by omega, by go_num, B7.out.trans (HBX.out.mono B7.out.size)⟩
                    case measure => simp [intOf]; omega
          · obtain rfl : i = es.length := by omega
            go_wp2_with fail
            go_ret
            exact ⟨rfl, HB4.out.trans (HBI.out.mono HB4.out.size)⟩
theorem own : ownKnob Try.prog.godebug = none := by kernel_rfl
theorem laidOut : laidOutB Try.prog = true := by kernel_rfl

set_option maxRecDepth 100000 in
theorem lifted (os : Os) (started : os.Started) (H : Type) (enc : TypeId × Value → H) :
    ReturnsInHanded {} Try.checked os 11 .any (Rows.historyOfSpec.pre6 enc Try.prog Try.f11 Rows.historyOfRow.domain false) (Rows.historyOfSpec.post enc Try.prog Try.f11 false true false false) := by
  refine returnsInHanded_of_change (C := Try.checked) own started (by kernel_rfl) Try.func11
    (ChangeSpec.witness6 (enc := enc) (C := Try.checked) false ⟨#[], #[.slice none 0 0, .int .i64 0], []⟩ 8 (by kernel_rfl) (by kernel_rfl) (by kernel_rfl) (by kernel_rfl)) ?_
  intro W base args ds gs before hval0 hW hcnd _
  have hval : ∀ (j : Nat) t v, Try.f11.params[j]? = some t → args[j]? = some v → Value.okWide Try.prog W .any base t v := hval0
  have hW' := hW
  obtain ⟨p, q, hA0, hV, rfl, hfz, hnd⟩ := hW
  have hA : DataW.TrodAll enc Try.prog W 0 (fun _ => true) true Try.f11.params.toList args.toList ds p := hA0
  rw [Try.params11] at hA hval
  obtain ⟨v0, v1, d0, d1, p0, p1, hargs, rfl, rfl, h0, h1⟩ := trodAll_two hA
  obtain ⟨rfl, rfl⟩ := trodVars_none hV
  subst hargs
  obtain ⟨A0, n0, cp0, rfl, hl0, _, hr0⟩ := Open.open_rows_arg 30 (ss := [.int .u8, .int .u32, .int .u32, .int .i64, .int .u32, .int .i64, .int .i64, .int .i64, .int .u32, .bool]) Try.underlying100 (by kernel_rfl) (by decide) (by kernel_rfl) (hval 0 100 v0 rfl rfl) h0
  obtain ⟨x0, hx0⟩ := acts_of hr0
  obtain ⟨x1, rfl, rfl, rfl, wx1⟩ := open_int Try.underlying3 (hval 1 3 v1 rfl rfl) h1
  clear hA0 hval0
  refine (walk A0 n0 cp0 x0 x1 W hl0 hx0).mono fun e W' ⟨he, hb⟩ => ?_
  subst he
  exact ⟨_, rfl, Open.law_post laidOut (by kernel_rfl) (by kernel_rfl) Try.underlying4 rfl rfl hW' hb⟩

theorem over : Rows.historyOfRow.holds Try.pinned (OpenSpec.ofChange Rows.historyOfSpec) :=
  OpenClaim.holds_of_wide 11 Try.f11 rfl rfl rfl rfl rfl rfl rfl ⟨rfl, rfl, rfl, rfl, rfl⟩ rfl rfl rfl rfl rfl (by kernel_rfl) Try.func11 (by kernel_rfl)
    (of_decide_eq_true (by kernel_rfl)) (by unfold Func.isWrapper; first | (rw [if_pos (by decide +kernel)]; kernel_rfl) | (rw [if_neg (by decide +kernel)]; exact ⟨rfl, rfl⟩))
    (fun os started H enc _ => lifted os started H enc)

theorem proved : Rows.HistoryOfSaid := over
#print axioms proved
end Go.Proofs.Ythkphapmnlndbab.HLaw
