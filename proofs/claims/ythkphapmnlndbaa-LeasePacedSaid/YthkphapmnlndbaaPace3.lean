/- The contracts of package pace: New, Fair, Node, Stop. -/
import Derived.Test.YthkphapmnlndbaaPace2
import Derived.Test.YthkphapmnlndbaaChain
namespace Go.Proofs.Ythkphapmnlndbaa
open Go.RowKit
set_option maxHeartbeats 800000
set_option linter.unusedSimpArgs false
attribute [local irreducible] Flow.wpSeg Flow.wpF Flow.wpG Flow.wpS Flow.wpT
/-- A pace, as plain data. -/
structure PSt where
  m : Nat
  n : Int
  hold : Int
  wait : Int
  sp : List PS
  bh : Bool
structure PBnd (N : Nat) (st : PSt) : Prop where
  m : 1 ≤ st.m ∧ st.m ≤ 5
  n : 1 ≤ st.n ∧ st.n ≤ 8
  hold : 1 ≤ st.hold ∧ st.hold ≤ 1000
  wait : 1 ≤ st.wait ∧ st.wait ≤ 1000
  len : st.sp.length ≤ N
  sp : ∀ p ∈ st.sp, p.ms.length = st.m ∧ (0 ≤ p.ticks ∧ p.ticks ≤ N) ∧ ∀ c ∈ p.ms, 0 ≤ c ∧ c ≤ N
def PSt.cells (st : PSt) (v : Value) : Array Value := #[.int .i64 (st.m : Int), .int .i64 st.n, .int .i64 st.hold, .int .i64 st.wait, v, .bool st.bh]
def IsPace (w : World) (B g N : Nat) (st : PSt) : Prop := ∃ v l, Flow.Blk w g 113 (st.cells v) ∧ w.ownsRow B 115 1 v l.length (ptrs l) ∧ Sps w B l ∧ l.map (·.p) = st.sp ∧ B ≤ g ∧ PBnd N st
/-- The blocks of a pace are of these types. -/
def Foot (w : World) (j : Nat) : Prop := ∃ cs t, Flow.Blk w j t cs ∧ (t = 113 ∨ t = 115 ∨ t = 118 ∨ t = 3)
theorem Foot.not {w : World} {b : Nat} {t : TypeId} {cs : Array Value} (h : Flow.Blk w b t cs) (ht : t ≠ 113 ∧ t ≠ 115 ∧ t ≠ 118 ∧ t ≠ 3) : ¬ Foot w b := by
  rintro ⟨ds, u, k, hu⟩
  have e : t = u := by
    unfold Flow.Blk at h k
    rw [h] at k
    simp only [Option.some.injEq, Obj.cells.injEq] at k
    exact k.2.1
  subst e
  rcases hu with e | e | e | e
  · exact ht.1 e
  · exact ht.2.1 e
  · exact ht.2.2.1 e
  · exact ht.2.2.2 e
theorem Foot.back {w w1 : World} (hc : Flow.Chg (Foot w) w w1) {j : Nat} (hj : j < w.heap.size) (h : Foot w1 j) : Foot w j := by
  by_cases hn : Foot w j
  · exact hn
  · obtain ⟨cs, t, k, ht⟩ := h
    exact ⟨cs, t, (hc.block j hj hn).symm.trans k, ht⟩
theorem Foot.trans {w w1 w2 : World} (h : Flow.Chg (Foot w) w w1) (k : Flow.Chg (Foot w1) w1 w2) : Flow.Chg (Foot w) w w2 := Flow.Chg.trans h k (fun _ hj e => Foot.back h hj e)
theorem Foot.row {w : World} {B n : Nat} {v : Value} {x : List Value} (h : w.ownsRow B 115 1 v n x) {j : Nat} (e : some j = v.ownBlock) : Foot w j := by
  rcases h.2 with ⟨rfl, _⟩ | ⟨g1, c1, cur1, rfl, _, hg1, _⟩
  · cases e
  · simp only [Value.ownBlock, Option.some.injEq] at e
    subst e
    exact ⟨_, _, hg1, .inr (.inl rfl)⟩
theorem Foot.tch {w : World} {B : Nat} {l : List Sp} (h : Sps w B l) {j : Nat} (e : Tch l j) : Foot w j := by
  obtain ⟨s, hs, rfl⟩ := e
  exact ⟨_, _, (h.all s hs).sp, .inr (.inr (.inl rfl))⟩
theorem IsPace.chg {S : Nat → Prop} {w w' : World} {B g N : Nat} {st : PSt} (h : IsPace w B g N st) (hc : Flow.Chg S w w') (hs : ∀ j, Foot w j → ¬ S j) : IsPace w' B g N st := by
  obtain ⟨v, l, h1, h2, h3, h4⟩ := h
  exact ⟨v, l, h1.chg hc (hs _ ⟨_, _, h1, .inl rfl⟩), Flow.ownsRow_chg h2 hc (fun j hj => hs j (Foot.row h2 hj.symm)), h3.chg hc (fun s hm => ⟨hs _ ⟨_, _, (h3.all s hm).sp, .inr (.inr (.inl rfl))⟩, hs _ ⟨_, _, (h3.all s hm).ms, .inr (.inr (.inr rfl))⟩⟩), h4⟩
theorem IsPace.below {w w' : World} {B g N : Nat} {st : PSt} (h : IsPace w B g N st) (hb : Below w.heap.size w w') : IsPace w' B g N st := h.chg (Flow.Chg.of_below hb) (fun _ _ e => e)
/-- The field of the spans, stored. -/
theorem pace_put {w w' : World} {B g n : Nat} {v : Value} {x : List Value} {l : List Sp} {cs cs' : Array Value} (h1 : Flow.Blk w g 113 cs) (h2 : w.ownsRow B 115 1 v n x) (h3 : Sps w B l) (hc : Flow.Chg (· = g) w w') (_ : Flow.Blk w' g 113 cs') : w'.ownsRow B 115 1 v n x ∧ Sps w' B l :=
  ⟨Flow.ownsRow_chg h2 hc (fun j hj e => Flow.row_ne h2 h1 (by decide) (by rw [hj, e])), h3.chg hc (fun s hm => ⟨(h3.all s hm).sp.ne_type h1 (by decide), (h3.all s hm).ms.ne_type h1 (by decide)⟩)⟩
def PSt.fair (st : PSt) : Bool := !st.bh
theorem within_yes (n to : Int) (w : World) (h : 1 ≤ n ∧ n ≤ to) : Calls Try.prog 62 #[.int .i64 n, .int .i64 to] w fun e w' => e = .returned (.bool true) ∧ w = w' := by
  obtain ⟨h1, h2⟩ := h
  go_enter Try.func62, Try.ntmps62
  go_wp2_with fail
  go_ret
  exact ⟨rfl, rfl⟩
theorem within_no (n to : Int) (w : World) (h : ¬ (1 ≤ n ∧ n ≤ to)) : Calls Try.prog 62 #[.int .i64 n, .int .i64 to] w fun e w' => e = .returned (.bool false) ∧ w = w' := by
  by_cases h1 : 1 ≤ n
  · have h2 : ¬ n ≤ to := fun e => h ⟨h1, e⟩
    clear h
    go_enter Try.func62, Try.ntmps62
    go_wp2_with fail
    go_ret
    exact ⟨rfl, rfl⟩
  · clear h
    go_enter Try.func62, Try.ntmps62
    go_wp2_with fail
    go_ret
    exact ⟨rfl, rfl⟩
theorem pnew_yes (m : Nat) (n hold wait : Int) (w : World) (h1 : 1 ≤ m ∧ m ≤ 5) (h2 : 1 ≤ n ∧ n ≤ 8) (h3 : 1 ≤ hold ∧ hold ≤ 1000) (h4 : 1 ≤ wait ∧ wait ≤ 1000) :
    Calls Try.prog 46 #[.int .i64 (m : Int), .int .i64 n, .int .i64 hold, .int .i64 wait] w fun e w' => e = .returned (.tuple #[.pointer (some ⟨w.heap.size, 0, none⟩), .int .i64 0]) ∧ IsPace w' w.heap.size w.heap.size 0 ⟨m, n, hold, wait, [], false⟩ ∧ Below w.heap.size w w' := by
  have H1 := Flow.hide h1
  have H2 := Flow.hide h2
  have H3 := Flow.hide h3
  have H4 := Flow.hide h4
  clear h1 h2 h3 h4
  go_enter Try.func46, Try.ntmps46
  go_wp2_with fail
  (with_reducible refine (within_yes _ _ _ (by have := H1.out; omega)).mono ?_)
  rintro e w1 ⟨rfl, rfl⟩
  go_wp2_with fail
  (with_reducible refine (within_yes _ _ _ H2.out).mono ?_)
  rintro e w1 ⟨rfl, rfl⟩
  go_wp2_with fail
  (with_reducible refine (within_yes _ _ _ H3.out).mono ?_)
  rintro e w1 ⟨rfl, rfl⟩
  go_wp2_with fail
  (with_reducible refine (within_yes _ _ _ H4.out).mono ?_)
  rintro e w1 ⟨rfl, rfl⟩
  go_wp2_with fail
  go_ret2
  exact ⟨rfl, ⟨.slice none 0 0, [], Flow.Blk.new _ _ _, World.ownsRow_nil _ _ _ _, Sps.nil _ _, rfl, Nat.le_refl _, H1.out, H2.out, H3.out, H4.out, Nat.le_refl _, fun p hp => by cases hp⟩, Flow.below_alloc _ _⟩
theorem pnew_no (m n hold wait : Int) (w : World) (h : ¬ ((1 ≤ m ∧ m ≤ 5) ∧ (1 ≤ n ∧ n ≤ 8) ∧ (1 ≤ hold ∧ hold ≤ 1000) ∧ (1 ≤ wait ∧ wait ≤ 1000))) :
    Calls Try.prog 46 #[.int .i64 m, .int .i64 n, .int .i64 hold, .int .i64 wait] w fun e w' => e = .returned (.tuple #[.pointer none, .int .i64 1]) ∧ w = w' := by
  by_cases h1 : 1 ≤ m ∧ m ≤ 5
  · have H1 := Flow.hide h1
    by_cases h2 : 1 ≤ n ∧ n ≤ 8
    · have H2 := Flow.hide h2
      by_cases h3 : 1 ≤ hold ∧ hold ≤ 1000
      · have H3 := Flow.hide h3
        have H4 := Flow.hide (show ¬ (1 ≤ wait ∧ wait ≤ 1000) from fun h4 => h ⟨h1, h2, h3, h4⟩)
        clear h h1 h2 h3
        go_enter Try.func46, Try.ntmps46
        go_wp2_with fail
        (with_reducible refine (within_yes _ _ _ H1.out).mono ?_)
        rintro e w1 ⟨rfl, rfl⟩
        go_wp2_with fail
        (with_reducible refine (within_yes _ _ _ H2.out).mono ?_)
        rintro e w1 ⟨rfl, rfl⟩
        go_wp2_with fail
        (with_reducible refine (within_yes _ _ _ H3.out).mono ?_)
        rintro e w1 ⟨rfl, rfl⟩
        go_wp2_with fail
        (with_reducible refine (within_no _ _ _ H4.out).mono ?_)
        rintro e w1 ⟨rfl, rfl⟩
        go_wp2_with fail
        go_ret2
        exact ⟨rfl, rfl⟩
      · have H3 := Flow.hide h3
        clear h h1 h2 h3
        go_enter Try.func46, Try.ntmps46
        go_wp2_with fail
        (with_reducible refine (within_yes _ _ _ H1.out).mono ?_)
        rintro e w1 ⟨rfl, rfl⟩
        go_wp2_with fail
        (with_reducible refine (within_yes _ _ _ H2.out).mono ?_)
        rintro e w1 ⟨rfl, rfl⟩
        go_wp2_with fail
        (with_reducible refine (within_no _ _ _ H3.out).mono ?_)
        rintro e w1 ⟨rfl, rfl⟩
        go_wp2_with fail
        go_ret2
        exact ⟨rfl, rfl⟩
    · have H2 := Flow.hide h2
      clear h h1 h2
      go_enter Try.func46, Try.ntmps46
      go_wp2_with fail
      (with_reducible refine (within_yes _ _ _ H1.out).mono ?_)
      rintro e w1 ⟨rfl, rfl⟩
      go_wp2_with fail
      (with_reducible refine (within_no _ _ _ H2.out).mono ?_)
      rintro e w1 ⟨rfl, rfl⟩
      go_wp2_with fail
      go_ret2
      exact ⟨rfl, rfl⟩
  · have H1 := Flow.hide h1
    clear h h1
    go_enter Try.func46, Try.ntmps46
    go_wp2_with fail
    (with_reducible refine (within_no _ _ _ H1.out).mono ?_)
    rintro e w1 ⟨rfl, rfl⟩
    go_wp2_with fail
    go_ret2
    exact ⟨rfl, rfl⟩
theorem pfair_any (g B N : Nat) (st : PSt) (w : World) (h : IsPace w B g N st) : Calls Try.prog 50 #[.pointer (some ⟨g, 0, none⟩)] w fun e w' => e = .returned (.bool st.fair) ∧ w = w' := by
  obtain ⟨v, l, h1, h2, h3, h4, h5, h6⟩ := h
  have c := h1.cell
  simp only [PSt.cells] at c
  clear h1 h2 h3 h4 h5 h6
  go_enter Try.func50, Try.ntmps50
  go_wp2_with fail
  go_ret
  exact ⟨rfl, rfl⟩
theorem pfair_nil (w : World) : Calls Try.prog 50 #[.pointer none] w fun e w' => e = .returned (.bool false) ∧ w = w' := by
  go_enter Try.func50, Try.ntmps50
  go_wp2_with fail
  go_ret
  exact ⟨rfl, rfl⟩
theorem pask_nil (i : Int) (w : World) : Calls Try.prog 49 #[.pointer none, .int .i64 i] w fun e w' => e = .returned (.tuple #[]) ∧ w = w' := by
  go_enter Try.func49, Try.ntmps49
  go_wp2_with fail
  exact bodyPost_end (results_none rfl _ _ _) rfl ⟨rfl, rfl⟩
end Go.Proofs.Ythkphapmnlndbaa
