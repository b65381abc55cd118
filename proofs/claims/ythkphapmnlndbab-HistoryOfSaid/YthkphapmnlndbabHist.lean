/- Package history: records, entries, and the contracts of the small functions. -/
import Derived.Test.YthkphapmnlndbabProg
import Derived.Test.YthkphapmnlndbabOwn3
import Derived.Test.YthkphapmnlndbabStores
import Derived.Test.YthkphapmnlndbabSteps
import Derived.WalkKit
import Derived.WalkLawsBesides
import Derived.WalkSpells
import Derived.Handy
import Derived.Deep.Cut
namespace Go.Proofs.Ythkphapmnlndbab
open Go.RowKit
set_option maxHeartbeats 1000000
set_option linter.unusedSimpArgs false
attribute [local irreducible] Flow.wpSeg Flow.wpF Flow.wpG Flow.wpS Flow.wpT Flow.wpK
/-- A record as plain data. -/
structure Rc where
  nd : Int
  ss : Int
  sq : Int
  ky : Int
  op : Int
  st : Int
  en : Int
  er : Int
  an : Int
  wr : Bool
/-- The statement's and the document's record. -/
def Rc.cells (r : Rc) : List Value := [.int .u8 r.nd, .int .u32 r.ss, .int .u32 r.sq, .int .i64 r.ky, .int .u32 r.op, .int .i64 r.st, .int .i64 r.en, .int .i64 r.er, .int .u32 r.an, .bool r.wr]
/-- The program's record. -/
def Rc.wcells (r : Rc) : List Value := [.int .u8 r.nd, .int .u32 r.ss, .int .u32 r.sq, .int .i64 5, .int .i64 r.ky, .string ⟨#[]⟩, .bool false, .string ⟨#[]⟩, .int .i64 r.op, .int .i64 r.st, .int .i64 r.en, .int .i64 r.er, .bool false, .string ⟨#[]⟩, .int .u32 r.an, .int .u8 0, .int .u8 0, .bool r.wr]
/-- The program's entry. -/
def Rc.ecells (r : Rc) : List Value := [.int .i64 5, .int .i64 r.ky, .string ⟨#[]⟩, .bool false, .string ⟨#[]⟩, .int .i64 r.op, .int .i64 r.st, .int .i64 r.en, .int .i64 r.er, .bool false, .string ⟨#[]⟩, .int .u32 r.an, .int .u8 0, .int .u8 0, .bool r.wr]
theorem info113 : (Try.prog.info? 113).map (fun i => (i.zero.map (·.cells.toList), i.size)) = some (some [.int .u8 0, .int .u32 0, .int .u32 0, .int .i64 0, .int .u32 0, .int .i64 0, .int .i64 0, .int .i64 0, .int .u32 0, .bool false], 10) := by kernel_rfl
theorem info111 : (Try.prog.info? 111).map (fun i => (i.zero.map (·.cells.toList), i.size)) = some (some [.int .u8 0, .int .u32 0, .int .u32 0, .int .i64 0, .int .i64 0, .string ⟨#[]⟩, .bool false, .string ⟨#[]⟩, .int .i64 0, .int .i64 0, .int .i64 0, .int .i64 0, .bool false, .string ⟨#[]⟩, .int .u32 0, .int .u8 0, .int .u8 0, .bool false], 18) := by kernel_rfl
theorem info118 : (Try.prog.info? 118).map (fun i => (i.zero.map (·.cells.toList), i.size)) = some (some [.int .i64 0, .int .i64 0, .string ⟨#[]⟩, .bool false, .string ⟨#[]⟩, .int .i64 0, .int .i64 0, .int .i64 0, .int .i64 0, .bool false, .string ⟨#[]⟩, .int .u32 0, .int .u8 0, .int .u8 0, .bool false], 15) := by kernel_rfl
def Rc.refused (r : Rc) : Bool := !(r.en == 0) && (r.er == 1 || r.er == 6 || r.er == 14 || r.er == 8 || r.er == 10)
def Rc.same (a b : Rc) : Bool := a.nd == b.nd && a.ss == b.ss && a.sq == b.sq
def Rc.never (r : Rc) : Bool := decide (0 < r.en) && r.er == 12
def Rc.sure (r : Rc) : Bool := decide (0 < r.en) && !(r.er == 13) && !r.never
theorem refused_cases (r : Rc) : r.en = 0 ∨ (¬ r.en = 0 ∧ r.er = 1) ∨ (¬ r.en = 0 ∧ r.er = 6) ∨ (¬ r.en = 0 ∧ r.er = 14) ∨ (¬ r.en = 0 ∧ r.er = 8) ∨ (¬ r.en = 0 ∧ r.er = 10) ∨ (¬ r.en = 0 ∧ ¬ r.er = 1 ∧ ¬ r.er = 6 ∧ ¬ r.er = 14 ∧ ¬ r.er = 8 ∧ ¬ r.er = 10) := by omega
theorem refused61 (r : Rc) (w : World) :
    Calls Try.prog 61 #[.agg #[.int .u8 r.nd, .int .u32 r.ss, .int .u32 r.sq, .int .i64 r.ky, .int .u32 r.op, .int .i64 r.st, .int .i64 r.en, .int .i64 r.er, .int .u32 r.an, .bool r.wr]] w fun e w' => e = .returned (.bool r.refused) ∧ Below w.heap.size w w' := by
  have hc := refused_cases r
  obtain ⟨nd, ss, sq, ky, op, st, en, er, an, wr⟩ := r
  simp only [Rc.refused] at hc ⊢
  rcases hc with rfl | ⟨h0, rfl⟩ | ⟨h0, rfl⟩ | ⟨h0, rfl⟩ | ⟨h0, rfl⟩ | ⟨h0, rfl⟩ | ⟨h0, h1, h2, h3, h4, h5⟩ <;>
  · go_enter Try.func61, Try.ntmps61
    go_wp2_with fail
    go_returns
    exact ⟨by simp_all [bne], by go_grown⟩
theorem refused60 (r : Rc) (w : World) :
    Calls Try.prog 60 #[.agg #[.int .u8 r.nd, .int .u32 r.ss, .int .u32 r.sq, .int .i64 5, .int .i64 r.ky, .string ⟨#[]⟩, .bool false, .string ⟨#[]⟩, .int .i64 r.op, .int .i64 r.st, .int .i64 r.en, .int .i64 r.er, .bool false, .string ⟨#[]⟩, .int .u32 r.an, .int .u8 0, .int .u8 0, .bool r.wr]] w fun e w' => e = .returned (.bool r.refused) ∧ Below w.heap.size w w' := by
  have hc := refused_cases r
  obtain ⟨nd, ss, sq, ky, op, st, en, er, an, wr⟩ := r
  simp only [Rc.refused] at hc ⊢
  rcases hc with rfl | ⟨h0, rfl⟩ | ⟨h0, rfl⟩ | ⟨h0, rfl⟩ | ⟨h0, rfl⟩ | ⟨h0, rfl⟩ | ⟨h0, h1, h2, h3, h4, h5⟩ <;>
  · go_enter Try.func60, Try.ntmps60
    go_wp2_with fail
    go_returns
    exact ⟨by simp_all, by go_grown⟩
theorem same62 (a b : Rc) (w : World) :
    Calls Try.prog 62 #[.agg #[.int .u8 a.nd, .int .u32 a.ss, .int .u32 a.sq, .int .i64 a.ky, .int .u32 a.op, .int .i64 a.st, .int .i64 a.en, .int .i64 a.er, .int .u32 a.an, .bool a.wr], .agg #[.int .u8 b.nd, .int .u32 b.ss, .int .u32 b.sq, .int .i64 b.ky, .int .u32 b.op, .int .i64 b.st, .int .i64 b.en, .int .i64 b.er, .int .u32 b.an, .bool b.wr]] w fun e w' => e = .returned (.bool (a.same b)) ∧ Below w.heap.size w w' := by
  obtain ⟨nd, ss, sq, ky, op, st, en, er, an, wr⟩ := a
  obtain ⟨nd', ss', sq', ky', op', st', en', er', an', wr'⟩ := b
  simp only [Rc.same]
  by_cases h0 : nd = nd'
  · by_cases h1 : ss = ss'
    · subst h0 h1
      go_enter Try.func62, Try.ntmps62
      go_wp2_with fail
      go_returns
      exact ⟨by simp, by go_grown⟩
    · subst h0
      go_enter Try.func62, Try.ntmps62
      go_wp2_with fail
      go_returns
      exact ⟨by simp_all, by go_grown⟩
  · go_enter Try.func62, Try.ntmps62
    go_wp2_with fail
    go_returns
    exact ⟨by simp_all, by go_grown⟩
theorem never47 (r : Rc) (w : World) :
    Calls Try.prog 47 #[.agg #[.int .i64 5, .int .i64 r.ky, .string ⟨#[]⟩, .bool false, .string ⟨#[]⟩, .int .i64 r.op, .int .i64 r.st, .int .i64 r.en, .int .i64 r.er, .bool false, .string ⟨#[]⟩, .int .u32 r.an, .int .u8 0, .int .u8 0, .bool r.wr]] w fun e w' => e = .returned (.bool r.never) ∧ Below w.heap.size w w' := by
  obtain ⟨nd, ss, sq, ky, op, st, en, er, an, wr⟩ := r
  simp only [Rc.never]
  by_cases h0 : 0 < en
  · rw [decide_eq_true h0]
    go_enter Try.func47, Try.ntmps47
    go_wp2_with fail
    go_returns
    exact ⟨by simp_all, by go_grown⟩
  · rw [decide_eq_false h0]
    go_enter Try.func47, Try.ntmps47
    go_wp2_with fail
    go_returns
    exact ⟨by simp_all, by go_grown⟩
theorem sure46 (r : Rc) (w : World) :
    Calls Try.prog 46 #[.agg #[.int .i64 5, .int .i64 r.ky, .string ⟨#[]⟩, .bool false, .string ⟨#[]⟩, .int .i64 r.op, .int .i64 r.st, .int .i64 r.en, .int .i64 r.er, .bool false, .string ⟨#[]⟩, .int .u32 r.an, .int .u8 0, .int .u8 0, .bool r.wr]] w fun e w' => e = .returned (.bool r.sure) ∧ Below w.heap.size w w' := by
  by_cases h0 : 0 < r.en
  · by_cases h1 : r.er = 13
    · have hr : r.sure = false := by simp [Rc.sure, h1]
      rw [hr, h1]
      go_enter Try.func46, Try.ntmps46
      go_wp2_with fail
      go_returns
      exact ⟨by simp_all, by go_grown⟩
    · have hr : r.sure = !r.never := by simp [Rc.sure, h0, h1]
      rw [hr]
      go_enter Try.func46, Try.ntmps46
      go_wp2_with (with_reducible refine (never47 r _).mono ?_)
      rintro e w1 ⟨rfl, hb⟩
      obtain ⟨k1, hB1, hz1⟩ := Flow.laid1 hb
      go_wp2_with fail
      go_returns
      exact ⟨by show Ending.returned (Value.bool _) = _; simp [h1], hB1⟩
  · have hr : r.sure = false := by simp [Rc.sure, h0]
    rw [hr]
    go_enter Try.func46, Try.ntmps46
    go_wp2_with fail
    go_returns
    exact ⟨by simp_all, by go_grown⟩
def Rc.ahead (a b : Rc) : Bool := (a.sure || a.never) && decide (a.en < b.st)
theorem ahead48 (a b : Rc) (w : World) :
    Calls Try.prog 48 #[.agg #[.int .i64 5, .int .i64 a.ky, .string ⟨#[]⟩, .bool false, .string ⟨#[]⟩, .int .i64 a.op, .int .i64 a.st, .int .i64 a.en, .int .i64 a.er, .bool false, .string ⟨#[]⟩, .int .u32 a.an, .int .u8 0, .int .u8 0, .bool a.wr], .agg #[.int .i64 5, .int .i64 b.ky, .string ⟨#[]⟩, .bool false, .string ⟨#[]⟩, .int .i64 b.op, .int .i64 b.st, .int .i64 b.en, .int .i64 b.er, .bool false, .string ⟨#[]⟩, .int .u32 b.an, .int .u8 0, .int .u8 0, .bool b.wr]] w fun e w' => e = .returned (.bool (a.ahead b)) ∧ Below w.heap.size w w' := by
  rcases hs : a.sure with _ | _
  · rcases hn : a.never with _ | _
    all_goals
      go_enter Try.func48, Try.ntmps48
      go_wp2_with (with_reducible refine (sure46 a _).mono ?_)
      rw [hs]
      rintro e w1 ⟨rfl, hb1⟩
      obtain ⟨k1, k2, hB1, hz1⟩ := Flow.laid2 hb1
      have q1 := k1.cell
      have q2 := k2.cell
      have z1 := k1.lt
      have z2 := k2.lt
      go_wp2_with (with_reducible refine (never47 a _).mono ?_)
      rw [hn]
      rintro e w2 ⟨rfl, hb2⟩
      have q1 := (k1.below hb2).cell
      have q2 := (k2.below hb2).cell
      go_wp2_with fail
      go_returns
      exact ⟨by simp [Rc.ahead, hs, hn], hB1.trans (hb2.mono hB1.size)⟩
  · go_enter Try.func48, Try.ntmps48
    go_wp2_with (with_reducible refine (sure46 a _).mono ?_)
    rw [hs]
    rintro e w1 ⟨rfl, hb1⟩
    obtain ⟨k1, k2, hB1, hz1⟩ := Flow.laid2 hb1
    have q1 := k1.cell
    have q2 := k2.cell
    go_wp2_with fail
    go_returns
    exact ⟨by simp [Rc.ahead, hs], hB1⟩
end Go.Proofs.Ythkphapmnlndbab
