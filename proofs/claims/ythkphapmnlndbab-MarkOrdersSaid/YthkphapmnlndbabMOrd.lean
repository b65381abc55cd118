/- MarkOrders: the four lists that the law collects. -/
import Derived.Test.YthkphapmnlndbabMark2
namespace Go.Proofs.Ythkphapmnlndbab.MOrders
open Go.RowKit
set_option maxHeartbeats 2000000
theorem info30 : (Try.prog.info? 30).map (fun i => (i.zero, i.size, i.bytes)) = some (some (.agg #[.int .u32 0, .int .u8 0, .int .u8 0]), 3, 12) := by kernel_rfl
theorem info38 : (Try.prog.info? 38).map (fun i => (i.zero, i.size, i.bytes)) = some (some (.agg #[.int .u32 0, .int .u8 0]), 2, 8) := by kernel_rfl
theorem info34 : (Try.prog.info? 34).map (fun i => (i.zero, i.size, i.bytes)) = some (some (.agg #[.int .u32 0, .int .u8 0, .int .u8 0]), 3, 8) := by kernel_rfl
def Rws (w : World) (B : Nat) (v1 v2 v3 v4 : Value) (n1 n2 n3 n4 : Nat) (x1 x2 x3 x4 : List Value) : Prop :=
  w.ownsRow B 30 3 v1 n1 x1 ∧ w.ownsRow B 38 2 v2 n2 x2 ∧ w.ownsRow B 34 3 v3 n3 x3 ∧ w.ownsRow B 34 3 v4 n4 x4 ∧ ∀ g, v3.ownBlock = some g → v4.ownBlock ≠ some g
section
variable {w w' : World} {B : Nat} {v1 v2 v3 v4 : Value} {n1 n2 n3 n4 : Nat} {x1 x2 x3 x4 : List Value}
theorem Rws.below (h : Rws w B v1 v2 v3 v4 n1 n2 n3 n4 x1 x2 x3 x4) (hb : Below w.heap.size w w') : Rws w' B v1 v2 v3 v4 n1 n2 n3 n4 x1 x2 x3 x4 := by
  obtain ⟨r1, r2, r3, r4, d⟩ := h
  have k := Flow.Chg.of_below hb
  exact ⟨Flow.ownsRow_chg r1 k (fun _ _ e => e), Flow.ownsRow_chg r2 k (fun _ _ e => e), Flow.ownsRow_chg r3 k (fun _ _ e => e), Flow.ownsRow_chg r4 k (fun _ _ e => e), d⟩
theorem flip_ne {v1 v2 : Value} (h : ∀ g, v1.ownBlock = some g → v2.ownBlock ≠ some g) : ∀ g, v2.ownBlock = some g → v1.ownBlock ≠ some g := fun g h2 h1 => h g h1 h2
theorem Rws.app1 (h : Rws w B v1 v2 v3 v4 n1 n2 n3 n4 x1 x2 x3 x4) (g : Nat) (a b c : Value) (hk : Flow.Blk w g 30 #[a, b, c]) (h1 : a.oneCell' = true ∧ b.oneCell' = true ∧ c.oneCell' = true) (hn : n1 < 1000) (hB : B ≤ w.heap.size) :
    ∃ v' w', (Builtin.append_ #[48, 48] 48 #[v1, .slice (some ⟨g, 0, none⟩) 1 1]).run Try.prog w = .ok v' w' ∧ Rws w' B v' v2 v3 v4 (n1 + 1) n2 n3 n4 (x1 ++ [a, b, c]) x2 x3 x4 ∧ Below B w w' ∧ Flow.Chg (fun k => some k = v1.ownBlock) w w' := by
  obtain ⟨r1, r2, r3, r4, d⟩ := h
  obtain ⟨v', w', hr, ho, hb, hc, _⟩ := Flow.append_row r1 48 Try.underlying48 info30 rfl (by decide) [a, b, c] rfl ⟨g, 0, none⟩ 1 hk.news (by simp; exact ⟨h1.1, h1.2.1, h1.2.2⟩) (by omega) (by omega) hB
  exact ⟨v', w', hr, ⟨ho, Flow.own_keep r2 hc (Flow.own_ne r1 r2 (by decide)), Flow.own_keep r3 hc (Flow.own_ne r1 r3 (by decide)), Flow.own_keep r4 hc (Flow.own_ne r1 r4 (by decide)), d⟩, hb, hc⟩
theorem Rws.app2 (h : Rws w B v1 v2 v3 v4 n1 n2 n3 n4 x1 x2 x3 x4) (g : Nat) (a b : Value) (hk : Flow.Blk w g 38 #[a, b]) (h1 : a.oneCell' = true ∧ b.oneCell' = true) (hn : n2 < 1000) (hB : B ≤ w.heap.size) :
    ∃ v' w', (Builtin.append_ #[49, 49] 49 #[v2, .slice (some ⟨g, 0, none⟩) 1 1]).run Try.prog w = .ok v' w' ∧ Rws w' B v1 v' v3 v4 n1 (n2 + 1) n3 n4 x1 (x2 ++ [a, b]) x3 x4 ∧ Below B w w' ∧ Flow.Chg (fun k => some k = v2.ownBlock) w w' := by
  obtain ⟨r1, r2, r3, r4, d⟩ := h
  obtain ⟨v', w', hr, ho, hb, hc, _⟩ := Flow.append_row r2 49 Try.underlying49 info38 rfl (by decide) [a, b] rfl ⟨g, 0, none⟩ 1 hk.news (by simp; exact h1) (by omega) (by omega) hB
  exact ⟨v', w', hr, ⟨Flow.own_keep r1 hc (Flow.own_ne r2 r1 (by decide)), ho, Flow.own_keep r3 hc (Flow.own_ne r2 r3 (by decide)), Flow.own_keep r4 hc (Flow.own_ne r2 r4 (by decide)), d⟩, hb, hc⟩
theorem Rws.app3 (h : Rws w B v1 v2 v3 v4 n1 n2 n3 n4 x1 x2 x3 x4) (g : Nat) (a b c : Value) (hk : Flow.Blk w g 34 #[a, b, c]) (h1 : a.oneCell' = true ∧ b.oneCell' = true ∧ c.oneCell' = true) (hn : n3 < 1000) (hB : B ≤ w.heap.size) :
    ∃ v' w', (Builtin.append_ #[50, 50] 50 #[v3, .slice (some ⟨g, 0, none⟩) 1 1]).run Try.prog w = .ok v' w' ∧ Rws w' B v1 v2 v' v4 n1 n2 (n3 + 1) n4 x1 x2 (x3 ++ [a, b, c]) x4 ∧ Below B w w' ∧ Flow.Chg (fun k => some k = v3.ownBlock) w w' := by
  obtain ⟨r1, r2, r3, r4, d⟩ := h
  obtain ⟨v', w', hr, ho, hb, hc, hw⟩ := Flow.append_row r3 50 Try.underlying50 info34 rfl (by decide) [a, b, c] rfl ⟨g, 0, none⟩ 1 hk.news (by simp; exact ⟨h1.1, h1.2.1, h1.2.2⟩) (by omega) (by omega) hB
  refine ⟨v', w', hr, ⟨Flow.own_keep r1 hc (Flow.own_ne r3 r1 (by decide)), Flow.own_keep r2 hc (Flow.own_ne r3 r2 (by decide)), ho, Flow.own_keep r4 hc d, fun j hj h4 => ?_⟩, hb, hc⟩
  rcases hw with hw | ⟨q, hq, hs⟩
  · exact d j (hw.symm.trans hj) h4
  · have h4l := (r4.lt j h4).2
    rw [hq] at hj
    cases hj
    omega
theorem Rws.app4 (h : Rws w B v1 v2 v3 v4 n1 n2 n3 n4 x1 x2 x3 x4) (g : Nat) (a b c : Value) (hk : Flow.Blk w g 34 #[a, b, c]) (h1 : a.oneCell' = true ∧ b.oneCell' = true ∧ c.oneCell' = true) (hn : n4 < 1000) (hB : B ≤ w.heap.size) :
    ∃ v' w', (Builtin.append_ #[50, 50] 50 #[v4, .slice (some ⟨g, 0, none⟩) 1 1]).run Try.prog w = .ok v' w' ∧ Rws w' B v1 v2 v3 v' n1 n2 n3 (n4 + 1) x1 x2 x3 (x4 ++ [a, b, c]) ∧ Below B w w' ∧ Flow.Chg (fun k => some k = v4.ownBlock) w w' := by
  obtain ⟨r1, r2, r3, r4, d⟩ := h
  obtain ⟨v', w', hr, ho, hb, hc, hw⟩ := Flow.append_row r4 50 Try.underlying50 info34 rfl (by decide) [a, b, c] rfl ⟨g, 0, none⟩ 1 hk.news (by simp; exact ⟨h1.1, h1.2.1, h1.2.2⟩) (by omega) (by omega) hB
  refine ⟨v', w', hr, ⟨Flow.own_keep r1 hc (Flow.own_ne r4 r1 (by decide)), Flow.own_keep r2 hc (Flow.own_ne r4 r2 (by decide)), Flow.own_keep r3 hc (flip_ne d), ho, fun j hj h4 => ?_⟩, hb, hc⟩
  rcases hw with hw | ⟨q, hq, hs⟩
  · exact d j hj (hw.symm.trans h4)
  · have h3l := (r3.lt j hj).2
    rw [hq] at h4
    cases h4
    omega
end
/-- the same stamp as a ballot's -/
def z0 (s : St) : St := (s.1, s.2.1, 0)
def xs3 (l : List St) : List Value := l.flatMap St.cells
def xs2 (l : List St) : List Value := l.flatMap St.cells2
theorem xs3_snoc (l : List St) (s : St) : xs3 (l ++ [s]) = xs3 l ++ St.cells s := by simp [xs3]
theorem xs2_snoc (l : List St) (s : St) : xs2 (l ++ [s]) = xs2 l ++ St.cells2 s := by simp [xs2]
theorem flat_get {α : Type} (f : α → List Value) (sz : Nat) (hf : ∀ s, (f s).length = sz) : ∀ (l : List α) (i : Nat) (s : α), l[i]? = some s → ∀ j, j < sz → (l.flatMap f)[i * sz + j]? = (f s)[j]?
  | x :: l, 0, s, h, j, hj => by
    simp at h; subst h
    rw [List.flatMap_cons, List.getElem?_append_left (by rw [hf]; omega)]
    simp
  | x :: l, i + 1, s, h, j, hj => by
    rw [List.flatMap_cons, List.getElem?_append_right (by rw [hf, Nat.add_mul]; omega), hf]
    rw [show (i + 1) * sz + j - sz = i * sz + j by rw [Nat.add_mul]; omega]
    exact flat_get f sz hf l i s (by simpa using h) j hj
theorem rd3 {w : World} {B n : Nat} {e : TypeId} {v : Value} {l : List St} (h : w.ownsRow B e 3 v n (xs3 l)) (hl : l.length = n) : ∃ A cap, v = .slice A n cap ∧ RdSt w.heap.size w A n l := by
  rcases Nat.eq_zero_or_pos n with rfl | hn
  · obtain ⟨A, cap, rfl, hc, _⟩ := Flow.ownsRow_form h
    exact ⟨A, cap, rfl, hl, fun h => by omega⟩
  · obtain ⟨g, cap, rfl, hb, hlt, hc, hcell, _⟩ := Flow.ownsRow_at h hn
    refine ⟨_, cap, rfl, hl, fun _ => ⟨g, 0, rfl, hlt, fun i s hs j hj => ?_⟩⟩
    have hi : i < n := by rw [← hl]; exact (List.getElem?_eq_some_iff.1 hs).1
    rw [Nat.zero_add, hcell _ (by omega)]
    exact flat_get St.cells 3 (fun _ => rfl) l i s hs j hj
theorem rd2 {w : World} {B n : Nat} {e : TypeId} {v : Value} {l : List St} (h : w.ownsRow B e 2 v n (xs2 l)) (hl : l.length = n) : ∃ A cap, v = .slice A n cap ∧ RdB w.heap.size w A n (l.map z0) := by
  rcases Nat.eq_zero_or_pos n with rfl | hn
  · obtain ⟨A, cap, rfl, hc, _⟩ := Flow.ownsRow_form h
    exact ⟨A, cap, rfl, by simpa using hl, fun h => by omega⟩
  · obtain ⟨g, cap, rfl, hb, hlt, hc, hcell, _⟩ := Flow.ownsRow_at h hn
    refine ⟨_, cap, rfl, by simpa using hl, fun _ => ⟨g, 0, rfl, hlt, fun i s hs j hj => ?_⟩⟩
    rw [List.getElem?_map] at hs
    rcases ht : l[i]? with _ | t
    · rw [ht] at hs; cases hs
    · rw [ht] at hs
      cases hs
      have hi : i < n := by rw [← hl]; exact (List.getElem?_eq_some_iff.1 ht).1
      rw [Nat.zero_add, hcell _ (by omega)]
      exact flat_get St.cells2 2 (fun _ => rfl) l i t ht j hj
theorem greatest_is (A : Option Addr) (n c : Nat) (xs : List St) (p q r : Int) (w : World) (hr : RdSt w.heap.size w A n xs) (hn : n ≤ 1000) (hm : Hid (great (0, 0, 0) xs = (p, q, r))) :
    Calls Try.prog 21 #[.slice A n c] w fun e w' => e = .returned (.agg #[.int .u32 p, .int .u8 q, .int .u8 r]) ∧ Below w.heap.size w w' := by
  have := greatest_any A n c xs w hr hn
  rw [hm.out] at this
  exact this
theorem rgreatest_is (A : Option Addr) (n c : Nat) (xs : List St) (p q r : Int) (w : World) (hr : RdSt w.heap.size w A n xs) (hn : n ≤ 1000) (hok : ∀ s ∈ xs, s.ok) (hm : Hid (great (0, 0, 0) xs = (p, q, r))) :
    Calls Try.prog 24 #[.slice A n c] w fun e w' => e = .returned (.agg #[.int .u32 p, .int .u8 q, .int .u8 r]) ∧ Below w.heap.size w w' := by
  have := rgreatest_any A n c xs w hr hn hok
  rw [hm.out] at this
  exact this
theorem highest_is (A : Option Addr) (n c : Nat) (xs : List St) (p q : Int) (w : World) (h0 : ∀ s ∈ xs, s.2.2 = 0) (hr : RdB w.heap.size w A n xs) (hn : n ≤ 1000) (hm : Hid (great (0, 0, 0) xs = (p, q, 0))) :
    Calls Try.prog 25 #[.slice A n c] w fun e w' => e = .returned (.agg #[.int .u32 p, .int .u8 q]) ∧ Below w.heap.size w w' := by
  have := highest_any A n c xs w h0 hr hn
  rw [hm.out] at this
  exact this
theorem z0_zero (l : List St) : ∀ s ∈ l.map z0, s.2.2 = 0 := by
  intro s hs
  obtain ⟨t, _, rfl⟩ := List.mem_map.1 hs
  rfl
theorem z0_ok {l : List St} (h : ∀ s ∈ l, s.ok) : ∀ s ∈ l.map z0, s.ok := by
  intro s hs
  obtain ⟨t, ht, rfl⟩ := List.mem_map.1 hs
  exact ⟨(h t ht).1, (h t ht).2.1, by simp [z0], by simp [z0]⟩
end Go.Proofs.Ythkphapmnlndbab.MOrders
