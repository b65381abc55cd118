/- The memory of a pace: its spans. -/
import Derived.Test.YthkphapmnlndbaaProg
import Derived.Test.YthkphapmnlndbaaOwn2
import Derived.Test.YthkphapmnlndbaaStores
import Derived.Lib.SliceRun
namespace Go.Proofs.Ythkphapmnlndbaa
open Go.RowKit
/-- Blocks of two types are two blocks. -/
theorem Flow.Blk.ne_type {w : World} {a b : Nat} {t u : TypeId} {cs ds : Array Value} (h : Flow.Blk w a t cs) (k : Flow.Blk w b u ds) (ht : t ≠ u) : a ≠ b := by
  intro e
  subst e
  unfold Flow.Blk at h k
  rw [h] at k
  simp only [Option.some.injEq, Obj.cells.injEq] at k
  exact ht k.2.1
theorem Flow.row_ne {w : World} {B n g : Nat} {e t : TypeId} {sz : Nat} {v : Value} {x : List Value} {cs : Array Value} (h : w.ownsRow B e sz v n x) (hb : Flow.Blk w g t cs) (ht : e ≠ t) : v.ownBlock ≠ some g := by
  intro hj
  rcases h.2 with ⟨rfl, _⟩ | ⟨g1, c1, cur1, rfl, _, hg1, _⟩
  · cases hj
  · simp only [Value.ownBlock, Option.some.injEq] at hj
    subst hj
    unfold Flow.Blk at hb
    rw [hg1] at hb
    simp only [Option.some.injEq, Obj.cells.injEq] at hb
    exact ht hb.2.1
/-- A span. -/
structure PS where
  node : Int
  ticks : Int
  ms : List Int
structure Sp where
  p : PS
  sb : Nat
  mb : Nat
def PS.cells (p : PS) (mb : Nat) : Array Value := #[.int .i64 p.node, .int .i64 p.ticks, .slice (some ⟨mb, 0, none⟩) p.ms.length p.ms.length]
structure SpAt (w : World) (B : Nat) (s : Sp) : Prop where
  sp : Flow.Blk w s.sb 118 (s.p.cells s.mb)
  ms : Flow.Blk w s.mb 3 (s.p.ms.map (Value.int .i64)).toArray
  lo : B ≤ s.sb
  hi : B ≤ s.mb
structure Sps (w : World) (B : Nat) (l : List Sp) : Prop where
  all : ∀ s ∈ l, SpAt w B s
  two : l.Pairwise fun a b => a.sb ≠ b.sb ∧ a.mb ≠ b.mb
def ptrs (l : List Sp) : List Value := l.map fun s => .pointer (some ⟨s.sb, 0, none⟩)
def Tch (l : List Sp) (j : Nat) : Prop := ∃ s ∈ l, j = s.sb
theorem ptrs_length (l : List Sp) : (ptrs l).length = l.length := by simp [ptrs]
theorem SpAt.chg {S : Nat → Prop} {w w' : World} {B : Nat} {s : Sp} (h : SpAt w B s) (hc : Flow.Chg S w w') (h1 : ¬ S s.sb) (h2 : ¬ S s.mb) : SpAt w' B s := ⟨h.sp.chg hc h1, h.ms.chg hc h2, h.lo, h.hi⟩
theorem SpAt.below {w w' : World} {B : Nat} {s : Sp} (h : SpAt w B s) (hb : Below w.heap.size w w') : SpAt w' B s := h.chg (Flow.Chg.of_below hb) (fun e => e) (fun e => e)
theorem Sps.nil (w : World) (B : Nat) : Sps w B [] := ⟨fun _ h => (by cases h), List.Pairwise.nil⟩
theorem Sps.chg {S : Nat → Prop} {w w' : World} {B : Nat} {l : List Sp} (h : Sps w B l) (hc : Flow.Chg S w w') (hn : ∀ s ∈ l, ¬ S s.sb ∧ ¬ S s.mb) : Sps w' B l := ⟨fun s hs => (h.all s hs).chg hc (hn s hs).1 (hn s hs).2, h.two⟩
theorem Sps.below {w w' : World} {B : Nat} {l : List Sp} (h : Sps w B l) (hb : Below w.heap.size w w') : Sps w' B l := h.chg (Flow.Chg.of_below hb) (fun _ _ => ⟨fun e => e, fun e => e⟩)
theorem Sps.sub {w : World} {B : Nat} {l l' : List Sp} (h : Sps w B l) (hs : l'.Sublist l) : Sps w B l' := ⟨fun s hm => h.all s (hs.subset hm), h.two.sublist hs⟩
theorem Sps.ne_sb {w : World} {B : Nat} {l : List Sp} (h : Sps w B l) {g : Nat} {t : TypeId} {cs : Array Value} (hb : Flow.Blk w g t cs) (ht : t ≠ 118) : ¬ Tch l g := by
  rintro ⟨s, hs, rfl⟩
  exact (h.all s hs).sp.ne_type hb (Ne.symm ht) rfl
/-- Of one span what it holds has turned. -/
theorem Sps.set {w w' : World} {B : Nat} {a b : List Sp} {s s' : Sp} (h : Sps w B (a ++ s :: b)) (hc : Flow.Chg (fun j => j = s.sb ∨ j = s.mb) w w') (h1 : s'.sb = s.sb) (h2 : s'.mb = s.mb) (hs : SpAt w' B s') : Sps w' B (a ++ s' :: b) := by
  have htw := List.pairwise_append.1 h.two
  have htb := List.pairwise_cons.1 htw.2.1
  have hsm : s ∈ a ++ s :: b := by simp
  have ks := h.all s hsm
  have other : ∀ t, t ∈ a ++ s :: b → (t.sb ≠ s.sb ∧ t.mb ≠ s.mb) → SpAt w' B t := fun t ht hne => by
    have k := h.all t ht
    exact k.chg hc (fun e => by
      rcases e with e | e
      · exact hne.1 e
      · exact k.sp.ne_type ks.ms (by decide) e) (fun e => by
      rcases e with e | e
      · exact k.ms.ne_type ks.sp (by decide) e
      · exact hne.2 e)
  refine ⟨fun t ht => ?_, ?_⟩
  · rcases List.mem_append.1 ht with ht | ht
    · exact other t (by simp [ht]) (htw.2.2 t ht s (by simp))
    · rcases List.mem_cons.1 ht with rfl | ht
      · exact hs
      · have := htb.1 t ht
        exact other t (by simp [ht]) ⟨Ne.symm this.1, Ne.symm this.2⟩
  · refine List.pairwise_append.2 ⟨htw.1, List.pairwise_cons.2 ⟨fun t ht => ?_, htb.2⟩, fun x hx y hy => ?_⟩
    · rw [h1, h2]; exact htb.1 t ht
    · rcases List.mem_cons.1 hy with rfl | hy
      · rw [h1, h2]; exact htw.2.2 x hx s (by simp)
      · exact htw.2.2 x hx y (by simp [hy])
/-- One span more. -/
theorem Sps.snoc {w : World} {B : Nat} {l : List Sp} {s : Sp} (h : Sps w B l) (hs : SpAt w B s) (hn : ∀ t ∈ l, t.sb ≠ s.sb ∧ t.mb ≠ s.mb) : Sps w B (l ++ [s]) := by
  refine ⟨fun t ht => ?_, List.pairwise_append.2 ⟨h.two, by simp, fun x hx y hy => ?_⟩⟩
  · rcases List.mem_append.1 ht with ht | ht
    · exact h.all t ht
    · simp at ht; subst ht; exact hs
  · simp at hy; subst hy; exact hn x hx
theorem Sps.lt {w : World} {B : Nat} {l : List Sp} (h : Sps w B l) {s : Sp} (hs : s ∈ l) : s.sb < w.heap.size ∧ s.mb < w.heap.size := ⟨(h.all s hs).sp.lt, (h.all s hs).ms.lt⟩
/-- What a span's number becomes. -/
def upS (f : PS → PS) (s : Sp) : Sp := { s with p := f s.p }
theorem Tch_up {f : PS → PS} {l : List Sp} {j : Nat} : Tch (l.map (upS f)) j ↔ Tch l j := by
  constructor
  · rintro ⟨s, hs, rfl⟩
    obtain ⟨t, ht, rfl⟩ := List.mem_map.1 hs
    exact ⟨t, ht, rfl⟩
  · rintro ⟨s, hs, rfl⟩
    exact ⟨upS f s, List.mem_map.2 ⟨s, hs, rfl⟩, rfl⟩
theorem Tch_app {a b : List Sp} {j : Nat} : Tch (a ++ b) j ↔ Tch a j ∨ Tch b j := by
  constructor
  · rintro ⟨s, hs, rfl⟩
    rcases List.mem_append.1 hs with h | h
    · exact .inl ⟨s, h, rfl⟩
    · exact .inr ⟨s, h, rfl⟩
  · rintro (⟨s, hs, rfl⟩ | ⟨s, hs, rfl⟩)
    · exact ⟨s, by simp [hs], rfl⟩
    · exact ⟨s, by simp [hs], rfl⟩
theorem ptrs_up (f : PS → PS) (l : List Sp) : ptrs (l.map (upS f)) = ptrs l := by simp [ptrs, upS]
theorem ptrs_app (a b : List Sp) : ptrs (a ++ b) = ptrs a ++ ptrs b := by simp [ptrs]
theorem ptrs_at (a b : List Sp) (s : Sp) : (ptrs (a ++ s :: b))[a.length]? = some (.pointer (some ⟨s.sb, 0, none⟩)) := by simp [ptrs]
theorem info115 : (Try.prog.info? 115).map (fun i => (i.zero, i.size, i.bytes)) = some (some (.pointer none), 1, 8) := by kernel_rfl
/-- The row's cells behind cell k are set to nil. -/
theorem clear_tail {P : Program} {w : World} {base n g cap : Nat} {xs : List Value} {e : TypeId} (h : w.ownsRow base e 1 (.slice (some ⟨g, 0, none⟩) n cap) n xs) (k : Nat) (hk : k < n) (t : TypeId) (ht : P.underlying t = some (.slice e)) {z : Value}
    (hz : z.cells = #[z]) (hz1 : z.oneCell' = true) (hv : ∀ w, (zeroValue e).run P w = .ok z w) :
    ∃ w2, (∀ (ty : TypeId) (c : Nat), (Builtin.clear_ #[t] ty #[.slice (some ⟨g, k, none⟩) (n - k) c]).run P w = .ok (.tuple #[]) w2) ∧ w2.ownsRow base e 1 (.slice (some ⟨g, 0, none⟩) k cap) k (xs.take k) ∧ Flow.Chg (· = g) w w2 := by
  have hxl := h.1
  rcases h.2 with ⟨h0, _⟩ | ⟨g', cap', cur, hv', hbg, hg, hnc, hcm, hcs, htake⟩
  · cases h0
  simp only [Value.slice.injEq, Option.some.injEq, Addr.mk.injEq, and_true, true_and] at hv'
  obtain ⟨rfl, rfl⟩ := hv'
  simp only [Nat.mul_one] at hxl hcs htake
  have hze : k + (List.replicate (n - k) z).length ≤ cur.size := by rw [List.length_replicate, hcs]; omega
  obtain ⟨hw2, hc2⟩ := Flow.setCells_heap g e (List.replicate (n - k) z) k w cur hg hze
  have hcl : cur.toList.length = cap := by simpa using hcs
  refine ⟨w.setCells g k (List.replicate (n - k) z), fun ty c => ?_, ⟨by rw [List.length_take, hxl, Nat.mul_one]; omega, .inr ⟨g, cap, _, rfl, hbg, hw2, by omega, hcm, ?_, ?_⟩⟩, hc2⟩
  · exact Lib.run_clear_slice w t e ty z ht hv hz hz1 g k (n - k) c (by omega) (fun j hj => by simp [World.cell?, hg]; omega) (fun j hj => by simp [World.frozen?, hg])
  · simp only [List.size_toArray, List.length_append, List.length_take, List.length_drop, Array.length_toList, List.length_replicate]
    omega
  · show (cur.toList.take k ++ List.replicate (n - k) z ++ cur.toList.drop (k + (List.replicate (n - k) z).length)).take (k * 1) = _
    rw [Nat.mul_one, List.append_assoc, List.take_append_of_le_length (by rw [List.length_take, hcl]; omega), List.take_take, ← htake, List.take_take]
    congr 1
    omega
end Go.Proofs.Ythkphapmnlndbaa
