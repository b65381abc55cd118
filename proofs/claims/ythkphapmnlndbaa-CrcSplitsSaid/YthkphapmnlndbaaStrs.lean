/- Slices of texts of the call's own. -/
import Derived.Test.YthkphapmnlndbaaCrc
import Derived.Test.YthkphapmnlndbaaOpen2
import Derived.Test.YthkphapmnlndbaaChain
import Derived.Laws.AppendOwn
namespace Go.Proofs.Ythkphapmnlndbaa
open Go.ChangeShapes Go.WideShapes Go.ChangeAt Go.RowKit Go.ChangeMaps CrcPlain
theorem info9 : (Try.prog.info? 9).map (fun i => (i.zero, i.size, i.bytes)) = some (some (.string ⟨#[]⟩), 1, 16) := by kernel_rfl
theorem strs_one (l : List ByteArray) : ∀ u ∈ l.map Value.string, u.oneCell' = true := by
  intro u hu
  obtain ⟨s, _, rfl⟩ := List.mem_map.1 hu
  rfl
/-- one text more -/
theorem append_str {w : World} {base n : Nat} {v : Value} {l : List ByteArray} (h : w.ownsRow base 9 1 v n (l.map Value.string)) (ad : Addr) (cp : Nat) (z : ByteArray) (hz : w.cell? ad = some (.string z)) (hn : n ≤ 1000) (hb : base ≤ w.heap.size) :
    ∃ v' w', (Builtin.append_ #[22, 22] 22 #[v, .slice (some ad) 1 cp]).run Try.prog w = .ok v' w' ∧ w'.ownsRow base 9 1 v' (n + 1) ((l ++ [z]).map Value.string) ∧ Below base w w' ∧ Flow.Chg (fun k => some k = v.ownBlock) w w' := by
  obtain ⟨i0, hi, hz0, hz1, hz2⟩ := info_parts info9
  obtain ⟨v', w', hr, ho, hg, _⟩ := run_append_own (P := Try.prog) w base 22 22 9 i0 _ 1 16 Try.underlying22 hi hz0 hz1 hz2 rfl (by decide) v n _ h ad 1 cp [.string z] rfl
    (fun j u hu => by
      match j, hu with
      | 0, hu =>
        have : ad.add 0 = ad := by unfold Addr.add; simp
        rw [this, hz]; exact hu) (fun u hu => by simp at hu; subst hu; rfl) (by unfold maxLen; omega) (by omega) hb
  exact ⟨v', w', hr, by rw [List.map_append]; exact ho, (Flow.Chg.of_grown hg).below (fun j _ e => (h.lt j e.symm).1) hb, Flow.Chg.of_grown hg⟩
/-- many texts more -/
theorem append_strs {w : World} {base n m : Nat} {v : Value} {l k : List ByteArray} (h : w.ownsRow base 9 1 v n (l.map Value.string)) {v2 : Value} {base2 : Nat} (h2 : w.ownsRow base2 9 1 v2 m (k.map Value.string)) (hm : 0 < m) (hn : n + m ≤ 1000) (hb : base ≤ w.heap.size) :
    ∃ v' w', (Builtin.append_ #[22, 22] 22 #[v, v2]).run Try.prog w = .ok v' w' ∧ w'.ownsRow base 9 1 v' (n + m) ((l ++ k).map Value.string) ∧ Below base w w' := by
  obtain ⟨i0, hi, hz0, hz1, hz2⟩ := info_parts info9
  obtain ⟨g, cap, rfl, _⟩ := Flow.ownsRow_at h2 hm
  have hc := h2.cells (g := g) rfl
  have hl : (k.map Value.string).length = m * 1 := h2.1
  obtain ⟨v', w', hr, ho, hg, _⟩ := run_append_own (P := Try.prog) w base 22 22 9 i0 _ 1 16 Try.underlying22 hi hz0 hz1 hz2 rfl (by decide) v n _ h ⟨g, 0, none⟩ m cap (k.map Value.string) hl hc (strs_one k) (by unfold maxLen; omega) (by omega) hb
  exact ⟨v', w', hr, by rw [List.map_append]; exact ho, (Flow.Chg.of_grown hg).below (fun j _ e => (h.lt j e.symm).1) hb⟩
/-- A slice of the call's own reads as texts. -/
theorem rd_of_own {w : World} {base n : Nat} {v : Value} {l : List ByteArray} (h : w.ownsRow base 9 1 v n (l.map Value.string)) (hl : l.length = n) :
    ∃ A cap, v = .slice A n cap ∧ n ≤ cap ∧ RdStr w.heap.size w A n l := by
  rcases Nat.eq_zero_or_pos n with rfl | hn
  · obtain ⟨A, cap, rfl, hc, _⟩ := Flow.ownsRow_form h
    exact ⟨A, cap, rfl, hc, hl, fun h => by omega⟩
  · obtain ⟨g, cap, rfl, hb, hlt, hc, hcell, _⟩ := Flow.ownsRow_at h hn
    refine ⟨_, cap, rfl, hc, hl, fun _ => ⟨g, 0, rfl, hlt, fun i s hs => ?_⟩⟩
    have hi : i < n := by rw [← hl]; exact (List.getElem?_eq_some_iff.1 hs).1
    rw [Nat.zero_add, hcell i (by omega), List.getElem?_map, hs]; rfl
/-- a slice of one text, laid by a literal -/
theorem own_lit (w : World) (base : Nat) (s : ByteArray) (hb : base ≤ w.heap.size) : (w.alloc (.cells #[.string s] 9)).ownsRow base 9 1 (.slice (some ⟨w.heap.size, 0, none⟩) 1 1) 1 ([s].map Value.string) :=
  ⟨rfl, .inr ⟨w.heap.size, 1, #[.string s], rfl, hb, heap_alloc_new w _, Nat.le_refl _, by unfold maxLen; omega, rfl, rfl⟩⟩
/-- A slice of bytes that came in. -/
def BytesIn (w : World) (A : Option Addr) (n : Nat) (ts : Nat → Int) : Prop := 0 < n → ∃ g off, A = some ⟨g, off, none⟩ ∧ g < w.heap.size ∧ ∀ i, i < n → w.cell? ⟨g, off + i, none⟩ = some (.int .u8 (ts i)) ∧ 0 ≤ ts i ∧ ts i ≤ 255
theorem bytes_of {H : Type} {enc : TypeId × Value → H} {base : Nat} {spare : Nat → Bool} {held : Bool} {w : World} {A : Option Addr} {n : Nat} (h : 0 < n → ∃ g off, A = some ⟨g, off, none⟩ ∧ g < w.heap.size ∧
    ∀ i, i < n → ∀ (j : Nat) (s : Open.Shp), ([.int .u8] : List Open.Shp)[j]? = some s → ∃ u, w.cell? ⟨g, off + (i * ([.int .u8] : List Open.Shp).length + j), none⟩ = some u ∧ Open.CellOk enc Try.prog w base spare held s u) :
    ∃ ts : Nat → Int, BytesIn w A n ts := by
  rcases Nat.eq_zero_or_pos n with h0 | h0
  · exact ⟨fun _ => 0, fun hn => by omega⟩
  · obtain ⟨g, off, rfl, hg, hc⟩ := h h0
    have hx : ∀ i, i < n → ∃ y : Int, w.cell? ⟨g, off + i, none⟩ = some (.int .u8 y) ∧ 0 ≤ y ∧ y ≤ 255 := by
      intro i hi
      obtain ⟨u0, e0, a0, rfl, w0⟩ := hc i hi 0 _ rfl
      have e : off + (i * ([.int .u8] : List Open.Shp).length + 0) = off + i := by simp
      rw [e] at e0
      exact ⟨a0, e0, bounds_u8 w0⟩
    obtain ⟨f, hf⟩ := Deep.choose_lt hx
    exact ⟨f, fun _ => ⟨g, off, rfl, hg, hf⟩⟩
end Go.Proofs.Ythkphapmnlndbaa
