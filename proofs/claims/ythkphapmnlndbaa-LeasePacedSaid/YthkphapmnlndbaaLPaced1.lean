/- LeasePaced, in plain words: a holder beside a pace. -/
import Derived.Test.YthkphapmnlndbaaPSpeaks
import Derived.Test.YthkphapmnlndbaaLSpeaks
namespace Go.Proofs.Ythkphapmnlndbaa
open Go.RowKit
def Has (st : PSt) (t c : Int) : Prop := ∃ p ∈ st.sp, p.ticks = t ∧ p.ms.getD 0 0 = c
structure QInv (n w : Int) (k : Nat) (s : Hs) (st : PSt) (A : Int → Int) (T last : Int) : Prop where
  hold : s.hold = n
  renew : s.renew = n
  now : 0 ≤ s.now ∧ s.now ≤ k
  made : 0 ≤ s.made ∧ s.made ≤ k
  req : ∀ r, s.req = some r → 0 ≤ r.at_ ∧ r.at_ ≤ s.now ∧ 1 ≤ r.num ∧ r.num ≤ s.made ∧ r.ep = 1 ∧ (st.bh = false → s.now - r.at_ < n → Has st (s.now - r.at_) (T - A r.num))
  fin : 0 ≤ s.fin ∧ s.fin ≤ s.now + n
  lst : s.epoch = 1 → 1 ≤ last ∧ last ≤ s.made ∧ (st.bh = false → s.now < s.fin → Has st (s.now - (s.fin - n)) (T - A last))
  a : ∀ c, 0 ≤ A c ∧ A c ≤ T
  t : 0 ≤ T ∧ T ≤ k
  last : 0 ≤ last ∧ last ≤ k
  m : st.m = 1
  n1 : st.n = 1
  ph : st.hold = n
  pw : st.wait = w
  sp : ∀ p ∈ st.sp, p.node = 1 ∧ p.ms.length = 1 ∧ (st.bh = false → p.ms.getD 0 0 < w)
variable {n w : Int} {k : Nat} {s : Hs} {st : PSt} {A : Int → Int} {T last : Int}
theorem QInv.bnd (h : QInv n w k s st A T last) (hn : 1 ≤ n ∧ n ≤ 20) (hk : k ≤ 100) : Bnd s := by
  have h1 := h.hold; have h2 := h.renew; have h3 := h.now; have h4 := h.made; have h5 := h.fin
  refine ⟨by omega, by omega, by omega, by omega, fun r e => ?_, by omega⟩
  obtain ⟨a, b, c, d, _⟩ := h.req r e
  exact ⟨a, b, c, d⟩
theorem QInv.more (h : QInv n w k s st A T last) : QInv n w (k + 1) s st A T last :=
  ⟨h.hold, h.renew, by have := h.now; omega, by have := h.made; omega, h.req, h.fin, h.lst, h.a, by have := h.t; omega, by have := h.last; omega, h.m, h.n1, h.ph, h.pw, h.sp⟩
/-- What the check asks. -/
theorem QInv.check (h : QInv n w k s st A T last) : st.fair = false ∨ holdsOf s 1 = false ∨ T - A last < w := by
  rcases hb : st.bh with _ | _
  · rcases hh : holdsOf s 1 with _ | _
    · exact .inr (.inl rfl)
    · unfold holdsOf at hh
      rw [decide_eq_true_eq] at hh
      obtain ⟨_, _, h3⟩ := h.lst hh.1
      obtain ⟨p, hp, e1, e2⟩ := h3 hb hh.2
      have := (h.sp p hp).2.2 hb
      exact .inr (.inr (by omega))
  · exact .inl (by simp [PSt.fair, hb])
theorem Has.node {t c : Int} (h : Has st t c) (hs : ∀ p ∈ st.sp, p.node = 1) (ht : t + 1 < st.hold) : Has (st.node 1) (t + 1) c := by
  obtain ⟨p, hp, e1, e2⟩ := h
  have e : upN 1 p = { p with ticks := p.ticks + 1 } := if_pos (hs p hp)
  refine ⟨upN 1 p, List.mem_filter.2 ⟨List.mem_map.2 ⟨p, hp, rfl⟩, ?_⟩, by rw [e]; simp only []; omega, by rw [e]; exact e2⟩
  rw [e]
  simp only [dlN, Bool.not_eq_true', decide_eq_false_iff_not]
  omega
theorem QInv.node (h : QInv n w k s st A T last) : QInv n w (k + 1) { s with now := s.now + 1 } (st.node 1) A T last := by
  have hn := h.now
  refine ⟨h.hold, h.renew, by simp only []; omega, by have := h.made; simp only []; omega, fun r e => ?_, by have := h.fin; simp only []; omega, fun e => ?_, h.a, by have := h.t; omega, by have := h.last; omega, h.m, h.n1, h.ph, h.pw, fun p hp => ?_⟩
  · obtain ⟨a, b, c, d, f, g⟩ := h.req r e
    refine ⟨a, by simp only []; omega, c, d, f, fun hb hl => ?_⟩
    simp only at hl
    have := (g hb (by omega)).node (fun p hp => (h.sp p hp).1) (by rw [h.ph]; omega)
    simp only
    rw [show s.now + 1 - r.at_ = s.now - r.at_ + 1 by omega]
    exact this
  · obtain ⟨a, b, g⟩ := h.lst e
    refine ⟨a, b, fun hb hl => ?_⟩
    simp only at hl
    have := (g hb (by omega)).node (fun p hp => (h.sp p hp).1) (by rw [h.ph]; omega)
    simp only
    rw [show s.now + 1 - (s.fin - n) = s.now - (s.fin - n) + 1 by omega]
    exact this
  · obtain ⟨q, hq, rfl⟩ := List.mem_map.1 (List.mem_filter.1 hp).1
    obtain ⟨a, b, c⟩ := h.sp q hq
    unfold upN
    split
    · exact ⟨a, b, c⟩
    · exact ⟨a, b, c⟩
theorem Has.master {t c : Int} (h : Has st t c) (hs : ∀ p ∈ st.sp, p.ms.length = 1) : Has (st.master 0) t (c + 1) := by
  obtain ⟨p, hp, e1, e2⟩ := h
  refine ⟨bump 0 p, List.mem_map.2 ⟨p, hp, rfl⟩, e1, ?_⟩
  have := hs p hp
  simp only [bump]
  rw [List.getD_eq_getElem?_getD, List.getElem?_set_self (by omega), Option.getD_some, e2]
theorem QInv.master (h : QInv n w k s st A T last) : QInv n w (k + 1) s (st.master 0) A (T + 1) last := by
  have hbh : (st.master 0).bh = false → st.bh = false := fun e => by simp only [PSt.master, Bool.or_eq_false_iff] at e; exact e.1
  refine ⟨h.hold, h.renew, by have := h.now; omega, by have := h.made; omega, fun r e => ?_, h.fin, fun e => ?_, fun c => by have := h.a c; omega, by have := h.t; omega, by have := h.last; omega, h.m, h.n1, h.ph, h.pw, fun p hp => ?_⟩
  · obtain ⟨a, b, c, d, f, g⟩ := h.req r e
    refine ⟨a, b, c, d, f, fun hb hl => ?_⟩
    rw [show T + 1 - A r.num = T - A r.num + 1 by omega]
    exact (g (hbh hb) hl).master (fun p hp => (h.sp p hp).2.1)
  · obtain ⟨a, b, g⟩ := h.lst e
    refine ⟨a, b, fun hb hl => ?_⟩
    rw [show T + 1 - A last = T - A last + 1 by omega]
    exact (g (hbh hb) hl).master (fun p hp => (h.sp p hp).2.1)
  · obtain ⟨q, hq, rfl⟩ := List.mem_map.1 hp
    obtain ⟨a, b, c⟩ := h.sp q hq
    refine ⟨a, by simp only [bump, List.length_set]; exact b, fun hb => ?_⟩
    simp only [PSt.master, Bool.or_eq_false_iff] at hb
    have hbad := List.any_eq_false.1 hb.2 q hq
    simp only [bad, decide_eq_true_eq, h.pw] at hbad
    simp only [bump]
    rw [List.getD_eq_getElem?_getD, List.getElem?_set_self (by omega), Option.getD_some]
    omega
theorem Has.ask {t c : Int} (h : Has st t c) (i : Int) : Has (st.ask i) t c := by
  obtain ⟨p, hp, e⟩ := h
  exact ⟨p, List.mem_append.2 (.inl hp), e⟩
theorem QInv.ask (h : QInv n w k s st A T last) (b : Nat) (hw : 1 ≤ w) : QInv n w (k + 1) { s with made := s.made + 1, req := some ⟨b, s.made + 1, 1, s.now⟩ } (st.ask 1) (fun x => if x = s.made + 1 then T else A x) T last := by
  have hm := h.made
  have hnw := h.now
  have hT := h.t
  refine ⟨h.hold, h.renew, by simp only []; omega, by simp only []; omega, fun r e => ?_, h.fin, fun e => ?_, fun c => ?_, by omega, by have := h.last; omega, h.m, h.n1, h.ph, h.pw, fun p hp => ?_⟩
  · cases e
    refine ⟨hnw.1, Int.le_refl _, by simp only []; omega, Int.le_refl _, rfl, fun _ _ => ?_⟩
    simp only [if_true]
    refine ⟨⟨1, 0, List.replicate st.m 0⟩, List.mem_append.2 (.inr (by simp)), by simp, ?_⟩
    rw [h.m]
    simp
  · obtain ⟨a, b', g⟩ := h.lst e
    refine ⟨a, by simp only []; omega, fun hb hl => ?_⟩
    rw [if_neg (by omega)]
    exact (g hb hl).ask 1
  · show 0 ≤ (if c = s.made + 1 then T else A c) ∧ (if c = s.made + 1 then T else A c) ≤ T
    have := h.a c
    split <;> omega
  · rcases List.mem_append.1 hp with hp | hp
    · exact h.sp p hp
    · simp only [List.mem_cons, List.not_mem_nil, or_false] at hp
      subst hp
      rw [h.m]
      exact ⟨rfl, rfl, fun _ => by show (0 : Int) < w; omega⟩
theorem QInv.grant (h : QInv n w k s st A T last) (r : Rq) (hr : s.req = some r) (hn : 1 ≤ n) : QInv n w (k + 1) { s with req := none, epoch := 1, fin := r.at_ + s.hold } st A T r.num := by
  obtain ⟨a, b, c, d, f, g⟩ := h.req r hr
  have hh := h.hold
  refine ⟨h.hold, h.renew, by have := h.now; simp only []; omega, by have := h.made; simp only []; omega, (fun r e => by cases e), ?_, fun _ => ⟨c, d, fun hb hl => ?_⟩, h.a, by have := h.t; omega, by have := h.made; omega, h.m, h.n1, h.ph, h.pw, h.sp⟩
  · have := h.now
    simp only []
    omega
  · simp only at hl ⊢
    rw [show s.now - (r.at_ + s.hold - n) = s.now - r.at_ by omega]
    exact g hb (by omega)
end Go.Proofs.Ythkphapmnlndbaa
