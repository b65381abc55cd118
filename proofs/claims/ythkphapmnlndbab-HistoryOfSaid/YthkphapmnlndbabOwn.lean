/- One element more in a slice of the call's own. No program in sight. -/
import Derived.Test.YthkphapmnlndbabChain
import Derived.Laws.AppendOwn
namespace Go.Proofs.Ythkphapmnlndbab.Flow
open Go.RowKit
theorem Blk.news {w : World} {g : Nat} {t : TypeId} {cs : Array Value} (h : Blk w g t cs) : ∀ j u, cs.toList[j]? = some u → w.cell? ((⟨g, 0, none⟩ : Addr).add j) = some u := by
  intro j u hu
  have hadd : (⟨g, 0, none⟩ : Addr).add j = ⟨g, j, none⟩ := by unfold Addr.add; split <;> simp_all
  rw [hadd, h.cell]
  simpa using hu
theorem append_row {P : Program} {w : World} {base n : Nat} {v : Value} {xs : List Value} {e : TypeId} {sz : Nat} (h : w.ownsRow base e sz v n xs) (t : TypeId) (ht : P.underlying t = some (.slice e)) {z : Value} {bytes : Nat}
    (hinfo : (P.info? e).map (fun i => (i.zero, i.size, i.bytes)) = some (some z, sz, bytes)) (hzs : z.cells.size = sz) (hsz : 0 < sz) (news : List Value) (hl : news.length = sz) (ad : Addr) (cp : Nat)
    (hc : ∀ j u, news[j]? = some u → w.cell? (ad.add j) = some u) (h1 : ∀ u ∈ news, u.oneCell' = true) (hn : n < 1000000) (hby : bytes ≤ 1000000) (hb : base ≤ w.heap.size) :
    ∃ v' w', (Builtin.append_ #[t, t] t #[v, .slice (some ad) 1 cp]).run P w = .ok v' w' ∧ w'.ownsRow base e sz v' (n + 1) (xs ++ news) ∧ Below base w w' ∧ Chg (fun k => some k = v.ownBlock) w w' ∧ (v'.ownBlock = v.ownBlock ∨ ∃ g, v'.ownBlock = some g ∧ w.heap.size ≤ g) := by
  obtain ⟨i0, hi, hz0, hz1, hz2⟩ := info_parts hinfo
  have hm : (n + 1) * bytes ≤ 1000000 * 1000000 := Nat.mul_le_mul (by omega) hby
  obtain ⟨v', w', hr, ho, hg, _⟩ := run_append_own (P := P) w base t t e i0 z sz bytes ht hi hz0 hz1 hz2 hzs hsz v n xs h ad 1 cp news (by omega) hc h1 (by unfold maxLen; omega) (by omega) hb
  refine ⟨v', w', hr, ho, (Chg.of_grown hg).below (fun j _ e => (h.lt j e.symm).1) hb, Chg.of_grown hg, ?_⟩
  have hcc := fun (q : Nat) => h.cells (g := q)
  have hxl := h.1
  rcases h.2 with ⟨rfl, rfl⟩ | ⟨g, cap, cur, rfl, hbg, hgg, hnc, hcm, hcs, htake⟩
  · have h2 := run_append_nil (P := P) w t t e i0 z ht hi hz0 ad 1 cp news (by rw [hz1]; omega) hc (by omega) (by omega) (by rw [hz2]; omega)
    rw [hr] at h2
    injection h2 with h3 h4
    exact .inr ⟨w.heap.size, by rw [h3]; rfl, Nat.le_refl _⟩
  · by_cases hroom : n + 1 ≤ cap
    · have h2 := run_append_room (P := P) w t t e i0 ht hi g n cap cur hgg ad 1 cp news (by rw [hz1]; omega) hc h1 hroom (by rw [hz1, hl, hcs]; have := Nat.mul_le_mul_right sz hroom; rw [Nat.add_mul] at this; omega)
      rw [hr] at h2
      injection h2 with h3 h4
      exact .inl (by rw [h3]; rfl)
    · have h2 := run_append_grow (P := P) w t t e i0 z ht hi hz0 ⟨g, 0, none⟩ n cap xs (by rw [hz1]; exact hxl) (hcc g rfl) ad 1 cp news (by rw [hz1]; omega) hc (by omega) (by omega) (growslice_fits (by omega) (by rw [hz2]; omega))
      rw [hr] at h2
      injection h2 with h3 h4
      exact .inr ⟨w.heap.size, by rw [h3]; rfl, Nat.le_refl _⟩
/-- Rows of different types lie in different blocks. -/
theorem own_ne {w : World} {b1 b2 n1 n2 : Nat} {e1 e2 : TypeId} {s1 s2 : Nat} {v1 v2 : Value} {x1 x2 : List Value} (h : w.ownsRow b1 e1 s1 v1 n1 x1) (k : w.ownsRow b2 e2 s2 v2 n2 x2) (he : e1 ≠ e2) : ∀ g, v1.ownBlock = some g → v2.ownBlock ≠ some g := by
  intro g h1 h2
  rcases h.2 with ⟨rfl, _⟩ | ⟨g1, c1, cur1, rfl, _, hg1, _⟩
  · cases h1
  rcases k.2 with ⟨rfl, _⟩ | ⟨g2, c2, cur2, rfl, _, hg2, _⟩
  · cases h2
  simp only [Value.ownBlock, Option.some.injEq] at h1 h2
  subst h1
  subst h2
  rw [hg1] at hg2
  simp only [Option.some.injEq, Obj.cells.injEq] at hg2
  exact he hg2.2.1
/-- A row is kept where another one's block alone turns. -/
theorem own_keep {w w' : World} {b1 n1 : Nat} {e1 : TypeId} {s1 : Nat} {v1 v2 : Value} {x1 : List Value} (h : w.ownsRow b1 e1 s1 v1 n1 x1) (hc : Chg (fun k => some k = v2.ownBlock) w w') (hne : ∀ g, v2.ownBlock = some g → v1.ownBlock ≠ some g) : w'.ownsRow b1 e1 s1 v1 n1 x1 :=
  ownsRow_chg h hc (fun g hg e => hne g e.symm hg)
end Go.Proofs.Ythkphapmnlndbab.Flow
