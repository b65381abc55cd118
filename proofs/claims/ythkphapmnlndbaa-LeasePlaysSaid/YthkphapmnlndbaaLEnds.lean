/- LeaseEnds: for every hold and every list of acts the law returns true and leaves its arguments as they were. No condition. -/
import Derived.Test.YthkphapmnlndbaaRows
import Derived.Test.YthkphapmnlndbaaLSpeaks
import Derived.Test.YthkphapmnlndbaaMapI
import Derived.Test.YthkphapmnlndbaaOpen
namespace Go.Proofs.Ythkphapmnlndbaa.LEnds
open Go.ChangeShapes Go.WideShapes Go.ChangeAt Go.RowKit
set_option maxHeartbeats 4000000
set_option linter.unusedSimpArgs false
attribute [local irreducible] Flow.wpSeg Flow.wpF Flow.wpG Flow.wpS

/-! ### The plain law -/
structure LInv (n : Int) (k : Nat) (s : Hs) (A E : Int → Int) (last : Int) (gr : Bool) : Prop where
  hold : s.hold = n
  renew : s.renew = 0
  now : 0 ≤ s.now ∧ s.now ≤ k
  made : 0 ≤ s.made ∧ s.made ≤ k
  req : ∀ r, s.req = some r → 0 ≤ r.at_ ∧ r.at_ ≤ s.now ∧ 1 ≤ r.num ∧ r.num ≤ s.made ∧ A r.num = r.at_ ∧ E r.num = r.ep
  fin : 0 ≤ s.fin ∧ s.fin ≤ s.now + n
  a : ∀ c, 0 ≤ A c ∧ A c ≤ s.now
  e : ∀ c, 0 ≤ E c ∧ E c ≤ 4294967295
  yes : gr = true → s.epoch = E last ∧ s.fin = A last + n ∧ 1 ≤ last ∧ last ≤ s.made
  no : gr = false → last = 0 ∧ s.epoch = 0 ∧ s.fin = 0
theorem LInv.bnd {n : Int} {k : Nat} {s : Hs} {A E : Int → Int} {last : Int} {gr : Bool} (h : LInv n k s A E last gr) (hn : 1 ≤ n ∧ n ≤ 30) (hk : k ≤ 80) : Bnd s := by
  have h1 := h.hold; have h2 := h.renew; have h3 := h.now; have h4 := h.made; have h5 := h.fin
  refine ⟨by omega, by omega, by omega, by omega, fun r e => ?_, by omega⟩
  obtain ⟨a, b, c, d, _⟩ := h.req r e
  exact ⟨a, b, c, d⟩
theorem LInv.last {n : Int} {k : Nat} {s : Hs} {A E : Int → Int} {last : Int} {gr : Bool} (h : LInv n k s A E last gr) : 0 ≤ last ∧ last ≤ k := by
  have := h.made
  cases hg : gr
  · have := h.no hg; omega
  · have := h.yes hg; omega
theorem LInv.held {n : Int} {k : Nat} {s : Hs} {A E : Int → Int} {last : Int} {gr : Bool} (h : LInv n k s A E last gr) : holdsOf s (E last) = (gr && decide (s.now - A last < n)) := by
  unfold holdsOf
  cases hg : gr
  · have := h.no hg; have := h.now
    rw [Bool.false_and, decide_eq_false_iff_not]
    omega
  · have := h.yes hg
    rw [Bool.true_and, decide_eq_decide]
    omega
theorem LInv.other {n : Int} {k : Nat} {s : Hs} {A E : Int → Int} {last : Int} {gr : Bool} (h : LInv n k s A E last gr) (x : Int) (hx : x ≠ E last) : holdsOf s x = false := by
  unfold holdsOf
  rw [decide_eq_false_iff_not]
  cases hg : gr
  · have := h.no hg; have := h.now; omega
  · have := h.yes hg; omega
theorem LInv.tick {n : Int} {k : Nat} {s : Hs} {A E : Int → Int} {last : Int} {gr : Bool} (h : LInv n k s A E last gr) : LInv n (k + 1) { s with now := s.now + 1 } A E last gr := by
  have h3 := h.now; have h4 := h.made; have h5 := h.fin
  refine ⟨h.hold, h.renew, by simp only; omega, by simp only; omega, fun r e => ?_, by simp only; omega, fun c => ?_, h.e, h.yes, h.no⟩
  · obtain ⟨a, b, c, d, e'⟩ := h.req r e
    exact ⟨a, by simp only; omega, c, d, e'⟩
  · have := h.a c; simp only; omega
theorem LInv.more {n : Int} {k : Nat} {s : Hs} {A E : Int → Int} {last : Int} {gr : Bool} (h : LInv n k s A E last gr) : LInv n (k + 1) s A E last gr :=
  ⟨h.hold, h.renew, by have := h.now; omega, by have := h.made; omega, h.req, h.fin, h.a, h.e, h.yes, h.no⟩
theorem LInv.ask {n : Int} {k : Nat} {s : Hs} {A E : Int → Int} {last : Int} {gr : Bool} (h : LInv n k s A E last gr) (b : Nat) (ep : Int) (hep : 0 ≤ ep ∧ ep ≤ 4294967295) :
    LInv n (k + 1) { s with made := s.made + 1, req := some ⟨b, s.made + 1, ep, s.now⟩ } (fun x => if x = s.made + 1 then s.now else A x) (fun x => if x = s.made + 1 then ep else E x) last gr := by
  have h3 := h.now; have h4 := h.made; have h5 := h.fin
  refine ⟨h.hold, h.renew, by simp only; omega, by simp only; omega, fun r e => ?_, h.fin, fun c => ?_, fun c => ?_, fun hg => ?_, fun hg => ?_⟩
  · cases e
    exact ⟨h3.1, Int.le_refl _, by show 1 ≤ s.made + 1; omega, Int.le_refl _, if_pos rfl, if_pos rfl⟩
  · show 0 ≤ (if c = s.made + 1 then s.now else A c) ∧ (if c = s.made + 1 then s.now else A c) ≤ s.now
    have := h.a c; split <;> omega
  · show 0 ≤ (if c = s.made + 1 then ep else E c) ∧ (if c = s.made + 1 then ep else E c) ≤ 4294967295
    have := h.e c; split <;> omega
  · obtain ⟨a1, a2, a3, a4⟩ := h.yes hg
    show s.epoch = (if last = s.made + 1 then ep else E last) ∧ s.fin = (if last = s.made + 1 then s.now else A last) + n ∧ 1 ≤ last ∧ last ≤ s.made + 1
    rw [if_neg (by omega), if_neg (by omega)]
    exact ⟨a1, a2, a3, by omega⟩
  · exact h.no hg
theorem LInv.grant {n : Int} {k : Nat} {s : Hs} {A E : Int → Int} {last : Int} {gr : Bool} (h : LInv n k s A E last gr) (r : Rq) (hr : s.req = some r) (hn : 1 ≤ n) :
    LInv n (k + 1) { s with req := none, epoch := E r.num, fin := r.at_ + s.hold } A E r.num true := by
  have h3 := h.now; have h4 := h.made; have h5 := h.fin; have h1 := h.hold
  obtain ⟨a, b, c, d, e1, e2⟩ := h.req r hr
  refine ⟨h.hold, h.renew, by simp only; omega, by simp only; omega, (fun r e => by cases e), by simp only; omega, h.a, h.e, fun _ => ?_, (fun hg => by cases hg)⟩
  simp only
  exact ⟨trivial, by omega, c, d⟩

/-! ### The walk -/
abbrev MA (w : World) (b k : Nat) (f : Int → Int) : Prop := Flow.MapIs Try.prog w b 24 3 .u32 .i64 k f
abbrev ME (w : World) (b k : Nat) (f : Int → Int) : Prop := Flow.MapIs Try.prog w b 24 24 .u32 .u32 k f
structure LMem (w : World) (h mA mE : Nat) (k : Nat) (s : Hs) (A E : Int → Int) : Prop where
  hs : IsH w h s
  blk : ∀ r, s.req = some r → mE < r.blk
  ma : MA w mA k A
  me : ME w mE k E
theorem LMem.below {w w' : World} {h mA mE k : Nat} {s : Hs} {A E : Int → Int} (m : LMem w h mA mE k s A E) (hb : Below w.heap.size w w') : LMem w' h mA mE k s A E :=
  ⟨m.hs.below hb, m.blk, m.ma.below hb, m.me.below hb⟩
theorem LMem.more {w : World} {h mA mE k : Nat} {s : Hs} {A E : Int → Int} (m : LMem w h mA mE k s A E) : LMem w h mA mE (k + 1) s A E :=
  ⟨m.hs, m.blk, let ⟨D, a, b⟩ := m.ma; ⟨D, a.mono (Nat.le_succ _), b⟩, let ⟨D, a, b⟩ := m.me; ⟨D, a.mono (Nat.le_succ _), b⟩⟩
theorem LMem.turn {w w' : World} {h mA mE k : Nat} {s s' : Hs} {A E : Int → Int} (m : LMem w h mA mE k s A E) (hc : Flow.Chg (· = h) w w') (h1 : h < mA) (h2 : mA < mE) (hs' : IsH w' h s') (hb : ∀ r, s'.req = some r → mE < r.blk) : LMem w' h mA mE k s' A E :=
  ⟨hs', hb, m.ma.chg hc (by omega), m.me.chg hc (by omega)⟩
theorem request_q {h : Nat} {s : Hs} {w : World} (H : IsH w h s) : Calls Try.prog 38 #[hp h] w fun e w' => e = .returned (.int .u32 (reqOf s)) ∧ Below w.heap.size w w' :=
  (request_any h s w H).mono fun _ _ ⟨h1, h2⟩ => ⟨h1, h2 ▸ Below.refl _ _⟩
theorem z3 (u : World) : (zeroValue 3).run Try.prog u = .ok (.int .i64 0) u := by kernel_rfl
theorem z24 (u : World) : (zeroValue 24).run Try.prog u = .ok (.int .u32 0) u := by kernel_rfl
theorem lookA {w : World} {b k : Nat} {f : Int → Int} (h : MA w b k f) (c : Int) (hc : 0 ≤ c ∧ c ≤ 4294967295) : (Instr.lookup 60 (.map (some b)) (.int .u32 c) false).run Try.prog w = .ok (.int .i64 (f c)) w :=
  h.look Try.underlying24 Try.underlying3 Try.underlying60 (z3 _) (WalkArith.wf_u32 (by omega))
theorem lookE {w : World} {b k : Nat} {f : Int → Int} (h : ME w b k f) (c : Int) (hc : 0 ≤ c ∧ c ≤ 4294967295) : (Instr.lookup 61 (.map (some b)) (.int .u32 c) false).run Try.prog w = .ok (.int .u32 (f c)) w :=
  h.look Try.underlying24 Try.underlying24 Try.underlying61 (z24 _) (WalkArith.wf_u32 (by omega))
/-- The list of acts: what each holds. -/
def Acts (B : Nat) (w : World) (A : Option Addr) (n : Nat) (q ep rq : Nat → Int) : Prop :=
  0 < n → ∃ g off, A = some ⟨g, off, none⟩ ∧ g < B ∧ ∀ i, i < n → w.cell? ⟨g, off + i * 3, none⟩ = some (.int .u8 (q i)) ∧ w.cell? ⟨g, off + i * 3 + 1, none⟩ = some (.int .u32 (ep i)) ∧ w.cell? ⟨g, off + i * 3 + 2, none⟩ = some (.int .u32 (rq i)) ∧
    (0 ≤ q i ∧ q i ≤ 255) ∧ (0 ≤ ep i ∧ ep i ≤ 4294967295) ∧ (0 ≤ rq i ∧ rq i ≤ 4294967295)
theorem acts_of {H : Type} {enc : TypeId × Value → H} {base : Nat} {spare : Nat → Bool} {held : Bool} {w : World} {A : Option Addr} {n : Nat} (h : 0 < n → ∃ g off, A = some ⟨g, off, none⟩ ∧ g < w.heap.size ∧
    ∀ i, i < n → ∀ (j : Nat) (s : Open.Shp), ([.int .u8, .int .u32, .int .u32] : List Open.Shp)[j]? = some s → ∃ u, w.cell? ⟨g, off + (i * ([.int .u8, .int .u32, .int .u32] : List Open.Shp).length + j), none⟩ = some u ∧ Open.CellOk enc Try.prog w base spare held s u) :
    ∃ q ep rq, Acts w.heap.size w A n q ep rq := by
  rcases Nat.eq_zero_or_pos n with h0 | h0
  · exact ⟨fun _ => 0, fun _ => 0, fun _ => 0, fun hn => by omega⟩
  · obtain ⟨g, off, rfl, hg, hc⟩ := h h0
    have hx : ∀ i, i < n → ∃ x : Int × Int × Int, w.cell? ⟨g, off + i * 3, none⟩ = some (.int .u8 x.1) ∧ w.cell? ⟨g, off + i * 3 + 1, none⟩ = some (.int .u32 x.2.1) ∧ w.cell? ⟨g, off + i * 3 + 2, none⟩ = some (.int .u32 x.2.2) ∧
        (0 ≤ x.1 ∧ x.1 ≤ 255) ∧ (0 ≤ x.2.1 ∧ x.2.1 ≤ 4294967295) ∧ (0 ≤ x.2.2 ∧ x.2.2 ≤ 4294967295) := by
      intro i hi
      obtain ⟨u0, e0, a, rfl, w0⟩ := hc i hi 0 _ rfl
      obtain ⟨u1, e1, b, rfl, w1⟩ := hc i hi 1 _ rfl
      obtain ⟨u2, e2, c, rfl, w2⟩ := hc i hi 2 _ rfl
      exact ⟨(a, b, c), e0, e1, e2, bounds_u8 w0, bounds_u32 w1, bounds_u32 w2⟩
    obtain ⟨f, hf⟩ := Deep.choose_lt hx
    exact ⟨fun i => (f i).1, fun i => (f i).2.1, fun i => (f i).2.2, fun _ => ⟨g, off, rfl, hg, fun i hi => hf i hi⟩⟩
set_option maxRecDepth 100000 in
theorem walk (hold : Int) (AA : Option Addr) (len cap : Nat) (q ep rq : Nat → Int) (w : World) (hh : 0 ≤ hold ∧ hold ≤ 255) (hl : len ≤ maxLen) (hacts : Acts w.heap.size w AA len q ep rq) :
    Calls Try.prog 9 #[.int .u8 hold, .slice AA len cap] w fun e w' => e = .returned (.bool true) ∧ Below w.heap.size w w' := by
  unfold maxLen at hl
  have hmm := @run_makeMap Try.prog
  obtain ⟨n, hn⟩ : ∃ n : Int, n = 1 + hold % 30 := ⟨_, rfl⟩
  have hn1 : 1 ≤ n ∧ n ≤ 30 := by omega
  have HN := Flow.hide hn
  have HA := Flow.hide hacts
  clear hn hacts
  go_enter Try.func9, Try.ntmps9
  go_wp2_with fail
  refine (speaks21 _).mono ?_
  rintro e w1 ⟨rfl, b1⟩
  go_wp2_with fail
  rw [← HN.out]
  refine (new_any n 0 _).mono ?_
  rintro e w2 ⟨rfl, hw2⟩
  have hmx : max n 1 = n := by omega
  rw [hmx] at hw2
  have HW2 := Flow.hide hw2
  clear hw2 hmx
  go_wp2_with fail
  obtain ⟨h, hh'⟩ : ∃ h, h = w1.heap.size := ⟨_, rfl⟩
  obtain ⟨mA, hmA⟩ : ∃ m, m = w2.heap.size := ⟨_, rfl⟩
  obtain ⟨mE, hmE⟩ : ∃ m, m = mA + 1 := ⟨_, rfl⟩
  obtain ⟨w3, hw3⟩ : ∃ w3, w3 = (w2.alloc (Obj.map #[] 0)).alloc (Obj.map #[] 0) := ⟨_, rfl⟩
  have hwh : w.heap.size ≤ h := by rw [hh']; exact b1.size
  have hhA : h < mA := by rw [hmA, HW2.out, hh']; simp
  have hAE : mA < mE := by omega
  have hz3 : mE < w3.heap.size := by rw [hw3, hmE, hmA]; simp
  have H2 : IsH w2 h ⟨n, 0, 0, 0, none, 0, 0⟩ := by rw [HW2.out, hh']; exact ⟨Flow.Blk.new _ _ _, fun _ e => by cases e⟩
  have c23 : Below w2.heap.size w2 w3 := by rw [hw3]; exact ((Below.refl _ _).alloc (Nat.le_refl _) _).alloc (by simp) _
  have M3 : LMem w3 h mA mE 0 ⟨n, 0, 0, 0, none, 0, 0⟩ (fun _ => 0) (fun _ => 0) := by
    refine ⟨H2.below c23, fun _ e => (by cases e), ?_, ?_⟩
    · have := Flow.MapIs.made w2 Try.prog 24 3 .u32 .i64
      rw [← hmA] at this
      have h5 := this.below (w' := w3) (by rw [hw3]; exact Flow.below_alloc _ _)
      exact h5
    · have := Flow.MapIs.made (w2.alloc (.map #[] 0)) Try.prog 24 24 .u32 .u32
      rw [World.size_alloc, ← hmA, ← hmE, ← hw3] at this
      exact this
  have b3 : Below w.heap.size w w3 := by
    have b2 : Below w.heap.size w w2 := by rw [HW2.out]; exact b1.alloc b1.size _
    exact b2.trans (c23.mono b2.size)
  have I3 : LInv n 0 ⟨n, 0, 0, 0, none, 0, 0⟩ (fun _ => 0) (fun _ => 0) 0 false :=
    ⟨rfl, rfl, by simp, by simp, (fun _ e => by cases e), by simp only; omega, fun _ => by simp, fun _ => by simp, (fun e => by cases e), fun _ => ⟨rfl, rfl, rfl⟩⟩
  rw [← hw3]
  rw [show w1.heap.size = h from hh'.symm, show w2.heap.size = mA from hmA.symm, show mA + 1 = mE from hmE.symm]
  have M3 := Flow.hide M3
  have b3 := Flow.hide b3
  have I3 := Flow.hide I3
  clear hh' hmA hmE hw3 H2 c23 HW2 b1 hmm
  go_loopw [7, 10, 11, 12] (fun t7 t10 t11 t12 wr => ∃ (k : Nat) (s : Hs) (A E : Int → Int) (last : Int) (gr : Bool), k ≤ len ∧ k ≤ 80 ∧ t12 = .int .i64 k ∧ t7 = .int .i64 s.now ∧ t10 = .int .u32 last ∧ t11 = .bool gr ∧ LInv n k s A E last gr ∧ LMem wr h mA mE k s A E ∧ Below w.heap.size w wr ∧ mE < wr.heap.size) (fun _ _ _ t12 _ => len - (intOf t12).toNat)
  case atStart => exact ⟨0, _, _, _, 0, false, by omega, by omega, rfl, rfl, rfl, rfl, I3.out, M3.out, b3.out, hz3⟩
  case round =>
    obtain ⟨k, s, A, E, last, gr, hk, hk80, rfl, rfl, rfl, rfl, I0, M0, B0, Z⟩ := hrel
    have I := Flow.hide I0
    have M := Flow.hide M0
    have BW := Flow.hide B0
    clear I3 M3 b3 hz3 I0 M0 B0
    by_cases hlt : k < len ∧ k < 80
    · obtain ⟨hlt, hlt80⟩ := hlt
      obtain ⟨ab, aoff, rfl, hab, hcells⟩ := HA.out (by omega)
      obtain ⟨x0, x1, x2, xq, xe, xr⟩ := hcells k hlt
      rw [← BW.out.cell (p := ⟨ab, _, none⟩) hab] at x0 x1 x2
      generalize q k = Q at *
      generalize ep k = EP at *
      generalize rq k = RQ at *
      clear hcells
      have bnd := I.out.bnd hn1 (by omega)
      have hnow := I.out.now
      have hmade := I.out.made
      by_cases hq2 : Q % 4 = 2
      · have q1 : (Q % 4 == 2) = true := by simp [hq2]
        clear hq2
        rcases hd : due s EP with _ | _
        · go_wp2_with fail
          (with_reducible refine (ask_no h s EP _ (M.out.hs.below (Flow.below_alloc _ _)) bnd hd).mono ?_)
          rintro e w4 ⟨rfl, c4⟩
          have c4' : Below wr.heap.size wr w4 := (Flow.below_alloc wr _).trans (c4.mono (by simp))
          have M1 := (M.out.below c4').more
          have B1 : Below w.heap.size w w4 := BW.out.trans (c4'.mono BW.out.size)
          have Z1 : mE < w4.heap.size := Nat.lt_of_lt_of_le Z c4'.size
          have I1 := I.out.more
          clear c4 c4' I M BW Z x0 x1 x2 q1 bnd hd
          obtain ⟨s1, hs1⟩ : ∃ s1 : Hs, s1 = s := ⟨_, rfl⟩
          rw [← hs1] at I1 M1
          have Hn : Hid (s1.now = s.now) := Flow.hide (by rw [hs1])
          have I := Flow.hide I1
          have M := Flow.hide M1
          have BW := Flow.hide B1
          have Z := Z1
          obtain ⟨A1, hA1⟩ : ∃ f, f = A := ⟨_, rfl⟩
          obtain ⟨E1, hE1⟩ : ∃ f, f = E := ⟨_, rfl⟩
          rw [← hA1, ← hE1] at I M
          clear hs1 I1 M1 B1 Z1 hA1 hE1
          have Hother := I.out.other ((E1 last + 1) % 4294967296) (by have h1 := I.out.e last; omega)
          have Hheld : holdsOf s1 (E1 last) = (gr && decide (s.now - A1 last < n)) := by rw [← Hn.out]; exact I.out.held
          have hla := I.out.last
          have la := lookA M.out.ma last (by omega)
          have le := lookE M.out.me last (by omega)
          have bnd := I.out.bnd hn1 (by omega)
          have ra := I.out.a last
          have re := I.out.e last
          have rn := I.out.now
          rw [Hn.out] at rn ra
          rcases gr with _ | _
          · rw [Bool.false_and] at Hheld
            go_wp2_with fail
            (with_reducible refine (holds_any h s1 (E1 last) _ M.out.hs bnd).mono ?_)
            rintro e w8 ⟨rfl, hb8⟩
            have M8 := Flow.hide (M.out.below hb8)
            have B8 : Hid (Below w.heap.size w w8) := BW.out.trans (hb8.mono BW.out.size)
            have Z8 : mE < w8.heap.size := Nat.lt_of_lt_of_le Z hb8.size
            have le8 := lookE M8.out.me last (by omega)
            rw [Hheld]
            clear hb8 la le Hheld 
            go_wp2_with fail
            (with_reducible refine (holds_any h s1 ((E1 last + 1) % 4294967296) _ M8.out.hs bnd).mono ?_)
            rintro e w9 ⟨rfl, hb9⟩
            have M9 := Flow.hide (M8.out.below hb9)
            have B9 : Hid (Below w.heap.size w w9) := B8.out.trans (hb9.mono B8.out.size)
            have Z9 : mE < w9.heap.size := Nat.lt_of_lt_of_le Z8 hb9.size
            rw [Hother]
            clear hb9 le8 Hother
            go_wp2_with fail
            go_roundw
            case rel => exact ⟨k + 1, s1, A1, E1, last, _, by omega, by omega, by go_num, by rw [Hn.out], rfl, rfl, I.out, M9.out, B9.out, Z9⟩
            case measure => simp [intOf]; omega
          · rw [Bool.true_and] at Hheld
            rcases hd : decide (s.now - A1 last < n) with _ | _
            · rw [hd] at Hheld
              go_wp2_with fail
              (with_reducible refine (holds_any h s1 (E1 last) _ M.out.hs bnd).mono ?_)
              rintro e w8 ⟨rfl, hb8⟩
              have M8 := Flow.hide (M.out.below hb8)
              have B8 : Hid (Below w.heap.size w w8) := BW.out.trans (hb8.mono BW.out.size)
              have Z8 : mE < w8.heap.size := Nat.lt_of_lt_of_le Z hb8.size
              have le8 := lookE M8.out.me last (by omega)
              rw [Hheld]
              clear hb8 la le Hheld hd
              go_wp2_with fail
              (with_reducible refine (holds_any h s1 ((E1 last + 1) % 4294967296) _ M8.out.hs bnd).mono ?_)
              rintro e w9 ⟨rfl, hb9⟩
              have M9 := Flow.hide (M8.out.below hb9)
              have B9 : Hid (Below w.heap.size w w9) := B8.out.trans (hb9.mono B8.out.size)
              have Z9 : mE < w9.heap.size := Nat.lt_of_lt_of_le Z8 hb9.size
              rw [Hother]
              clear hb9 le8 Hother
              go_wp2_with fail
              go_roundw
              case rel => exact ⟨k + 1, s1, A1, E1, last, _, by omega, by omega, by go_num, by rw [Hn.out], rfl, rfl, I.out, M9.out, B9.out, Z9⟩
              case measure => simp [intOf]; omega
            · rw [hd] at Hheld
              go_wp2_with fail
              (with_reducible refine (holds_any h s1 (E1 last) _ M.out.hs bnd).mono ?_)
              rintro e w8 ⟨rfl, hb8⟩
              have M8 := Flow.hide (M.out.below hb8)
              have B8 : Hid (Below w.heap.size w w8) := BW.out.trans (hb8.mono BW.out.size)
              have Z8 : mE < w8.heap.size := Nat.lt_of_lt_of_le Z hb8.size
              have le8 := lookE M8.out.me last (by omega)
              rw [Hheld]
              clear hb8 la le Hheld hd
              go_wp2_with fail
              (with_reducible refine (holds_any h s1 ((E1 last + 1) % 4294967296) _ M8.out.hs bnd).mono ?_)
              rintro e w9 ⟨rfl, hb9⟩
              have M9 := Flow.hide (M8.out.below hb9)
              have B9 : Hid (Below w.heap.size w w9) := B8.out.trans (hb9.mono B8.out.size)
              have Z9 : mE < w9.heap.size := Nat.lt_of_lt_of_le Z8 hb9.size
              rw [Hother]
              clear hb9 le8 Hother
              go_wp2_with fail
              go_roundw
              case rel => exact ⟨k + 1, s1, A1, E1, last, _, by omega, by omega, by go_num, by rw [Hn.out], rfl, rfl, I.out, M9.out, B9.out, Z9⟩
              case measure => simp [intOf]; omega
        · go_wp2_with fail
          (with_reducible refine (ask_yes h s EP _ (M.out.hs.below (Flow.below_alloc _ _)) bnd hd).mono ?_)
          rintro e w4 ⟨rfl, ⟨rb, H4, hrb⟩, c4⟩
          have c4' : Flow.Chg (· = h) wr w4 := (Flow.Chg.of_below (Flow.below_alloc wr _)).mono (fun _ _ e => e.elim) |>.trans c4 (fun _ _ e => e)
          have hxb : Flow.Blk w4 wr.heap.size 63 #[.int .u8 Q, .int .u32 EP, .int .u32 RQ] := (Flow.Blk.new wr 63 _).chg c4 (by have := M.out.hs.1.lt; omega)
          have M4 := M.out.turn c4' hhA hAE H4 (fun r e => by cases e; show mE < rb; simp at hrb; omega)
          have B4 : Below w.heap.size w w4 := c4'.onto BW.out (fun j e => by omega) BW.out.size
          have Z4 : mE < w4.heap.size := Nat.lt_of_lt_of_le Z c4'.size
          have I1 := I.out.ask rb EP xe
          have xbn : mE < wr.heap.size := Z
          generalize wr.heap.size = xb at *
          clear c4 c4' H4 I M BW Z x0 x1 x2 q1 bnd hd hrb
          obtain ⟨s1, hs1⟩ : ∃ s1 : Hs, s1 = { s with made := s.made + 1, req := some ⟨rb, s.made + 1, EP, s.now⟩ } := ⟨_, rfl⟩
          have hrq : reqOf s1 = s.made + 1 := by rw [hs1]; rfl
          rw [← hs1] at I1 M4
          have Hn : Hid (s1.now = s.now) := Flow.hide (by rw [hs1])
          have Hrq := Flow.hide hrq
          have M := Flow.hide M4
          have B4 := Flow.hide B4
          have I := Flow.hide I1
          clear hs1 hrq M4 I1
          go_wp2_with fail
          obtain ⟨C, hC⟩ : ∃ C, C = Flow.Chg (fun j => j = mA ∨ j = mE) w4 := ⟨_, rfl⟩
          have rx : ∀ (p : Flow.Wd C) (i : Nat), p.w.cell? ⟨xb, i, none⟩ = (#[.int .u8 Q, .int .u32 EP, .int .u32 RQ] : Array Value)[i]? := fun p => (hxb.chg (Eq.mp (congrFun hC p.w) p.ok) (by omega)).cell
          have rr : ∀ (p : Flow.Wd C), Calls Try.prog 38 #[hp h] p.w fun e w' => e = .returned (.int .u32 (s.made + 1)) ∧ Below p.w.heap.size p.w w' := fun p => by
            rw [← Hrq.out]
            exact request_q (M.out.hs.chg (Eq.mp (congrFun hC p.w) p.ok) (by omega) (fun r e => by have := M.out.blk r e; omega))
          have HC := Flow.hide hC
          have Hrr := Flow.hide rr
          have hCC : ∀ w, C w → C w := fun _ h => h
          have g0 : Flow.Good C (fun w => C w ∧ MA w mA k A ∧ ME w mE k E) := ⟨fun _ h => h.1, fun w w' h hb => ⟨by rw [hC] at h ⊢; exact h.1.trans (Flow.Chg.of_below hb) (fun _ _ e => e.elim), h.2.1.below hb, h.2.2.below hb⟩⟩
          have hR : ∀ w5, Below w4.heap.size w4 w5 → C w5 ∧ MA w5 mA k A ∧ ME w5 mE k E := fun w5 hb => ⟨by rw [hC]; exact (Flow.Chg.of_below hb).mono (fun _ _ e => e.elim), M.out.ma.below hb, M.out.me.below hb⟩
          have ne1 : Nonempty (Flow.Wd C) := ⟨⟨w4, (hR _ (Below.refl _ _)).1⟩⟩
          clear hC rr
          refine Flow.wp_region_gen 1000 (Flow.two C C) (fun w => C w ∧ MA w mA k A ∧ ME w mE k E) g0 hR (by kernel_rfl) 13 rfl ?_
          refine Flow.wpG_seg [0, 1, 2, 3, 4, 5, 6, 7, 8] 4 rfl (by kernel_rfl) (hCC) (g0) ?_
          dsimp only [Flow.pickIdx, List.getElem?_cons_zero, List.getElem?_cons_succ]
          iterate 9 (
              (refine Flow.wpS_weak (by kernel_rfl) (fun K' hK' => ?_)
               go_simp
               first
                 | (refine hK' _ ?_; clear hK' K')
                 | (apply Exists.intro
                    refine ⟨fun p => ?_, hK' _ ?_⟩
                    (first | with_reducible exact (Hrr.out p))
                    clear hK' K')))
          refine Flow.wpS_nil ?_
          have gC : Hid (∀ w w', C w → Below w.heap.size w w' → C w') := fun w w' h hb => by rw [HC.out] at h ⊢; exact h.trans (Flow.Chg.of_below hb) (fun _ _ e => e.elim)
          have gA : Hid (∀ w w', C w → Flow.Chg (· = mA) w w' → C w') := fun w w' h hb => by rw [HC.out] at h ⊢; exact h.trans hb (fun _ _ e => .inl e)
          have gE : Hid (∀ w w', C w → Flow.Chg (· = mE) w w' → C w') := fun w w' h hb => by rw [HC.out] at h ⊢; exact h.trans hb (fun _ _ e => .inr e)
          clear g0 hR rx Hrr
          refine Flow.wpG_next 9 _ (by kernel_rfl) rfl ?_
          intro w5 hw5
          obtain ⟨v0, st, o1, hrun, ho1, hch, hst⟩ := hw5.2.1.entry Try.underlying24 Try.underlying3 Try.underlying60 z3 (by unfold maxLen; omega) (c := s.made + 1) (WalkArith.wf_u32 (by omega))
          have Ho1 := Flow.hide ho1
          have Hch := Flow.hide hch
          have Hst := Flow.hide hst
          have Hw5 := Flow.hide hw5
          clear ho1 hch hst hw5
          go_simp
          refine ⟨fun w => C w ∧ w.heap[mA]? = some o1 ∧ ME w mE k E, ⟨fun _ h => h.1, fun w w' h hb => ⟨gC.out _ _ h.1 hb, ?_, h.2.2.below hb⟩⟩, ⟨gA.out _ _ Hw5.out.1 Hch.out, Ho1.out, Hw5.out.2.2.chg Hch.out (by omega)⟩, ?_⟩
          · have hl : mA < w.heap.size := by
              rcases Nat.lt_or_ge mA w.heap.size with hl | hg
              · exact hl
              · have h2 := h.2.1; rw [Array.getElem?_eq_none hg] at h2; cases h2
            rw [hb.block mA hl]; exact h.2.1
          have g1 : Flow.Good C (fun w => C w ∧ w.heap[mA]? = some o1 ∧ ME w mE k E) := ⟨fun _ h => h.1, fun w w' h hb => ⟨gC.out _ _ h.1 hb, by
              have hl : mA < w.heap.size := by
                rcases Nat.lt_or_ge mA w.heap.size with hl | hg
                · exact hl
                · have h2 := h.2.1; rw [Array.getElem?_eq_none hg] at h2; cases h2
              rw [hb.block mA hl]; exact h.2.1, h.2.2.below hb⟩⟩
          clear hrun Ho1 Hch Hw5 w5
          refine Flow.wpG_seg [10] 2 rfl (by kernel_rfl) (hCC) (g1) ?_
          dsimp only [Flow.pickIdx, List.getElem?_cons_zero, List.getElem?_cons_succ]
          iterate 1 (
              (refine Flow.wpS_weak (by kernel_rfl) (fun K' hK' => ?_)
               go_simp
               first
                 | (refine hK' _ ?_; clear hK' K')
                 | (apply Exists.intro
                    refine ⟨fun p => ?_, hK' _ ?_⟩
                    (first | fail)
                    clear hK' K')))
          refine Flow.wpS_nil ?_
          clear g1
          refine Flow.wpG_next 11 _ (by kernel_rfl) rfl ?_
          intro w5 hw5
          obtain ⟨w6, hrun, hM, hch⟩ := Hst.out w5 s.now (WalkArith.wf_i64 (by omega)) hw5.2.1
          have Hch := Flow.hide hch
          have HM := Flow.hide hM
          have Hw5 := Flow.hide hw5
          clear hM hch hw5
          go_simp
          refine ⟨fun w => C w ∧ MA w mA (k + 1) (fun x => if x = s.made + 1 then s.now else A x) ∧ ME w mE k E, ⟨fun _ h => h.1, fun w w' h hb => ⟨gC.out _ _ h.1 hb, h.2.1.below hb, h.2.2.below hb⟩⟩, ⟨gA.out _ _ Hw5.out.1 Hch.out, HM.out, Hw5.out.2.2.chg Hch.out (by omega)⟩, ?_⟩
          clear hrun Hch HM Hw5 Hst w6 w5
          refine Flow.wpG_next 12 _ (by kernel_rfl) rfl ?_
          intro w5 hw5
          obtain ⟨w6, hrun, hM, hch⟩ := hw5.2.2.update Try.underlying24 Try.underlying24 Try.underlying61 (by unfold maxLen; omega) (c := s.made + 1) (v := EP) (WalkArith.wf_u32 (by omega)) (WalkArith.wf_u32 (by omega))
          have Hch := Flow.hide hch
          have HM := Flow.hide hM
          have Hw5 := Flow.hide hw5
          clear hM hch hw5
          go_simp
          refine ⟨fun w => C w ∧ MA w mA (k + 1) (fun x => if x = s.made + 1 then s.now else A x) ∧ ME w mE (k + 1) (fun x => if x = s.made + 1 then EP else E x), ⟨fun _ h => h.1, fun w w' h hb => ⟨gC.out _ _ h.1 hb, h.2.1.below hb, h.2.2.below hb⟩⟩, ⟨gE.out _ _ Hw5.out.1 Hch.out, Hw5.out.2.1.chg Hch.out (by omega), HM.out⟩, ?_⟩
          clear hrun Hch HM Hw5 w6 w5
          refine Flow.wpG_done (by kernel_rfl) ?_
          intro w5 hw5
          have hc5 : Flow.Chg (fun j => j = mA ∨ j = mE) w4 w5 := Eq.mp (congrFun HC.out w5) hw5.1
          have M5 : LMem w5 h mA mE (k + 1) s1 _ _ := ⟨M.out.hs.chg hc5 (by omega) (fun r e => by have := M.out.blk r e; omega), M.out.blk, hw5.2.1, hw5.2.2⟩
          have B5 : Below w.heap.size w w5 := hc5.onto B4.out (fun j e => by omega) B4.out.size
          have Z : mE < w5.heap.size := Nat.lt_of_lt_of_le Z4 hc5.size
          have I5 := I.out
          clear hc5 hw5 M B4 I Z4 gC gA gE HC hCC ne1 C hxb
          obtain ⟨A1, hA1⟩ : ∃ f : Int → Int, f = (fun x => if x = s.made + 1 then s.now else A x) := ⟨_, rfl⟩
          obtain ⟨E1, hE1⟩ : ∃ f : Int → Int, f = (fun x => if x = s.made + 1 then EP else E x) := ⟨_, rfl⟩
          rw [← hA1, ← hE1] at M5 I5
          have I := Flow.hide I5
          have M := Flow.hide M5
          have BW := Flow.hide B5
          clear hA1 hE1 I5 M5 B5
          have Hother := I.out.other ((E1 last + 1) % 4294967296) (by have h1 := I.out.e last; omega)
          have Hheld : holdsOf s1 (E1 last) = (gr && decide (s.now - A1 last < n)) := by rw [← Hn.out]; exact I.out.held
          have hla := I.out.last
          have la := lookA M.out.ma last (by omega)
          have le := lookE M.out.me last (by omega)
          have bnd := I.out.bnd hn1 (by omega)
          have ra := I.out.a last
          have re := I.out.e last
          have rn := I.out.now
          rw [Hn.out] at rn ra
          rcases gr with _ | _
          · rw [Bool.false_and] at Hheld
            go_wp2_with fail
            (with_reducible refine (holds_any h s1 (E1 last) _ M.out.hs bnd).mono ?_)
            rintro e w8 ⟨rfl, hb8⟩
            have M8 := Flow.hide (M.out.below hb8)
            have B8 : Hid (Below w.heap.size w w8) := BW.out.trans (hb8.mono BW.out.size)
            have Z8 : mE < w8.heap.size := Nat.lt_of_lt_of_le Z hb8.size
            have le8 := lookE M8.out.me last (by omega)
            rw [Hheld]
            clear hb8 la le Hheld 
            go_wp2_with fail
            (with_reducible refine (holds_any h s1 ((E1 last + 1) % 4294967296) _ M8.out.hs bnd).mono ?_)
            rintro e w9 ⟨rfl, hb9⟩
            have M9 := Flow.hide (M8.out.below hb9)
            have B9 : Hid (Below w.heap.size w w9) := B8.out.trans (hb9.mono B8.out.size)
            have Z9 : mE < w9.heap.size := Nat.lt_of_lt_of_le Z8 hb9.size
            rw [Hother]
            clear hb9 le8 Hother
            go_wp2_with fail
            go_roundw
            case rel => exact ⟨k + 1, s1, A1, E1, last, _, by omega, by omega, by go_num, by rw [Hn.out], rfl, rfl, I.out, M9.out, B9.out, Z9⟩
            case measure => simp [intOf]; omega
          · rw [Bool.true_and] at Hheld
            rcases hd : decide (s.now - A1 last < n) with _ | _
            · rw [hd] at Hheld
              go_wp2_with fail
              (with_reducible refine (holds_any h s1 (E1 last) _ M.out.hs bnd).mono ?_)
              rintro e w8 ⟨rfl, hb8⟩
              have M8 := Flow.hide (M.out.below hb8)
              have B8 : Hid (Below w.heap.size w w8) := BW.out.trans (hb8.mono BW.out.size)
              have Z8 : mE < w8.heap.size := Nat.lt_of_lt_of_le Z hb8.size
              have le8 := lookE M8.out.me last (by omega)
              rw [Hheld]
              clear hb8 la le Hheld hd
              go_wp2_with fail
              (with_reducible refine (holds_any h s1 ((E1 last + 1) % 4294967296) _ M8.out.hs bnd).mono ?_)
              rintro e w9 ⟨rfl, hb9⟩
              have M9 := Flow.hide (M8.out.below hb9)
              have B9 : Hid (Below w.heap.size w w9) := B8.out.trans (hb9.mono B8.out.size)
              have Z9 : mE < w9.heap.size := Nat.lt_of_lt_of_le Z8 hb9.size
              rw [Hother]
              clear hb9 le8 Hother
              go_wp2_with fail
              go_roundw
              case rel => exact ⟨k + 1, s1, A1, E1, last, _, by omega, by omega, by go_num, by rw [Hn.out], rfl, rfl, I.out, M9.out, B9.out, Z9⟩
              case measure => simp [intOf]; omega
            · rw [hd] at Hheld
              go_wp2_with fail
              (with_reducible refine (holds_any h s1 (E1 last) _ M.out.hs bnd).mono ?_)
              rintro e w8 ⟨rfl, hb8⟩
              have M8 := Flow.hide (M.out.below hb8)
              have B8 : Hid (Below w.heap.size w w8) := BW.out.trans (hb8.mono BW.out.size)
              have Z8 : mE < w8.heap.size := Nat.lt_of_lt_of_le Z hb8.size
              have le8 := lookE M8.out.me last (by omega)
              rw [Hheld]
              clear hb8 la le Hheld hd
              go_wp2_with fail
              (with_reducible refine (holds_any h s1 ((E1 last + 1) % 4294967296) _ M8.out.hs bnd).mono ?_)
              rintro e w9 ⟨rfl, hb9⟩
              have M9 := Flow.hide (M8.out.below hb9)
              have B9 : Hid (Below w.heap.size w w9) := B8.out.trans (hb9.mono B8.out.size)
              have Z9 : mE < w9.heap.size := Nat.lt_of_lt_of_le Z8 hb9.size
              rw [Hother]
              clear hb9 le8 Hother
              go_wp2_with fail
              go_roundw
              case rel => exact ⟨k + 1, s1, A1, E1, last, _, by omega, by omega, by go_num, by rw [Hn.out], rfl, rfl, I.out, M9.out, B9.out, Z9⟩
              case measure => simp [intOf]; omega
      · have q1 : (Q % 4 == 2) = false := by simp [hq2]
        clear hq2
        by_cases hq3 : Q % 4 = 3
        · have q2 : (Q % 4 == 3) = true := by simp [hq3]
          clear hq3
          cases hr : s.req with
          | none =>
            have hrq : reqOf s = 0 := by unfold reqOf; rw [hr]
            have Hr := Flow.hide hr
            clear hr
            go_wp2_with fail
            (with_reducible refine (request_any h s _ (M.out.hs.below (Flow.below_alloc _ _))).mono ?_)
            rintro e w4 ⟨rfl, c4⟩
            rw [hrq]
            clear hrq
            have c4' : Below wr.heap.size wr w4 := c4 ▸ Flow.below_alloc wr _
            have hxb : Flow.Blk w4 wr.heap.size 63 #[.int .u8 Q, .int .u32 EP, .int .u32 RQ] := c4 ▸ Flow.Blk.new wr 63 _
            have cx := hxb.cell
            have M1 := (M.out.below c4').more
            have B1 : Below w.heap.size w w4 := BW.out.trans (c4'.mono BW.out.size)
            have Z1 : mE < w4.heap.size := Nat.lt_of_lt_of_le Z c4'.size
            have I1 := I.out.more
            clear c4 c4' I M BW Z x0 x1 x2 q1 q2 bnd hxb
            obtain ⟨s1, hs1⟩ : ∃ s1 : Hs, s1 = s := ⟨_, rfl⟩
            rw [← hs1] at I1 M1
            have Hn : Hid (s1.now = s.now) := Flow.hide (by rw [hs1])
            have I := Flow.hide I1
            have M := Flow.hide M1
            have BW := Flow.hide B1
            have Z := Z1
            obtain ⟨A1, hA1⟩ : ∃ f, f = A := ⟨_, rfl⟩
            obtain ⟨E1, hE1⟩ : ∃ f, f = E := ⟨_, rfl⟩
            rw [← hA1, ← hE1] at I M
            clear hs1 I1 M1 B1 Z1 hA1 hE1
            cases hbit : (bits BinOp.and IntKind.u32 RQ 1 == 0)
            · skip
              have Hother := I.out.other ((E1 last + 1) % 4294967296) (by have h1 := I.out.e last; omega)
              have Hheld : holdsOf s1 (E1 last) = (gr && decide (s.now - A1 last < n)) := by rw [← Hn.out]; exact I.out.held
              have hla := I.out.last
              have la := lookA M.out.ma last (by omega)
              have le := lookE M.out.me last (by omega)
              have bnd := I.out.bnd hn1 (by omega)
              have ra := I.out.a last
              have re := I.out.e last
              have rn := I.out.now
              rw [Hn.out] at rn ra
              rcases gr with _ | _
              · rw [Bool.false_and] at Hheld
                go_wp2_with fail
                (with_reducible refine (holds_any h s1 (E1 last) _ M.out.hs bnd).mono ?_)
                rintro e w8 ⟨rfl, hb8⟩
                have M8 := Flow.hide (M.out.below hb8)
                have B8 : Hid (Below w.heap.size w w8) := BW.out.trans (hb8.mono BW.out.size)
                have Z8 : mE < w8.heap.size := Nat.lt_of_lt_of_le Z hb8.size
                have le8 := lookE M8.out.me last (by omega)
                rw [Hheld]
                clear hb8 la le Hheld 
                go_wp2_with fail
                (with_reducible refine (holds_any h s1 ((E1 last + 1) % 4294967296) _ M8.out.hs bnd).mono ?_)
                rintro e w9 ⟨rfl, hb9⟩
                have M9 := Flow.hide (M8.out.below hb9)
                have B9 : Hid (Below w.heap.size w w9) := B8.out.trans (hb9.mono B8.out.size)
                have Z9 : mE < w9.heap.size := Nat.lt_of_lt_of_le Z8 hb9.size
                rw [Hother]
                clear hb9 le8 Hother
                go_wp2_with fail
                go_roundw
                case rel => exact ⟨k + 1, s1, A1, E1, last, _, by omega, by omega, by go_num, by rw [Hn.out], rfl, rfl, I.out, M9.out, B9.out, Z9⟩
                case measure => simp [intOf]; omega
              · rw [Bool.true_and] at Hheld
                rcases hd : decide (s.now - A1 last < n) with _ | _
                · rw [hd] at Hheld
                  go_wp2_with fail
                  (with_reducible refine (holds_any h s1 (E1 last) _ M.out.hs bnd).mono ?_)
                  rintro e w8 ⟨rfl, hb8⟩
                  have M8 := Flow.hide (M.out.below hb8)
                  have B8 : Hid (Below w.heap.size w w8) := BW.out.trans (hb8.mono BW.out.size)
                  have Z8 : mE < w8.heap.size := Nat.lt_of_lt_of_le Z hb8.size
                  have le8 := lookE M8.out.me last (by omega)
                  rw [Hheld]
                  clear hb8 la le Hheld hd
                  go_wp2_with fail
                  (with_reducible refine (holds_any h s1 ((E1 last + 1) % 4294967296) _ M8.out.hs bnd).mono ?_)
                  rintro e w9 ⟨rfl, hb9⟩
                  have M9 := Flow.hide (M8.out.below hb9)
                  have B9 : Hid (Below w.heap.size w w9) := B8.out.trans (hb9.mono B8.out.size)
                  have Z9 : mE < w9.heap.size := Nat.lt_of_lt_of_le Z8 hb9.size
                  rw [Hother]
                  clear hb9 le8 Hother
                  go_wp2_with fail
                  go_roundw
                  case rel => exact ⟨k + 1, s1, A1, E1, last, _, by omega, by omega, by go_num, by rw [Hn.out], rfl, rfl, I.out, M9.out, B9.out, Z9⟩
                  case measure => simp [intOf]; omega
                · rw [hd] at Hheld
                  go_wp2_with fail
                  (with_reducible refine (holds_any h s1 (E1 last) _ M.out.hs bnd).mono ?_)
                  rintro e w8 ⟨rfl, hb8⟩
                  have M8 := Flow.hide (M.out.below hb8)
                  have B8 : Hid (Below w.heap.size w w8) := BW.out.trans (hb8.mono BW.out.size)
                  have Z8 : mE < w8.heap.size := Nat.lt_of_lt_of_le Z hb8.size
                  have le8 := lookE M8.out.me last (by omega)
                  rw [Hheld]
                  clear hb8 la le Hheld hd
                  go_wp2_with fail
                  (with_reducible refine (holds_any h s1 ((E1 last + 1) % 4294967296) _ M8.out.hs bnd).mono ?_)
                  rintro e w9 ⟨rfl, hb9⟩
                  have M9 := Flow.hide (M8.out.below hb9)
                  have B9 : Hid (Below w.heap.size w w9) := B8.out.trans (hb9.mono B8.out.size)
                  have Z9 : mE < w9.heap.size := Nat.lt_of_lt_of_le Z8 hb9.size
                  rw [Hother]
                  clear hb9 le8 Hother
                  go_wp2_with fail
                  go_roundw
                  case rel => exact ⟨k + 1, s1, A1, E1, last, _, by omega, by omega, by go_num, by rw [Hn.out], rfl, rfl, I.out, M9.out, B9.out, Z9⟩
                  case measure => simp [intOf]; omega
            · skip
              have Hother := I.out.other ((E1 last + 1) % 4294967296) (by have h1 := I.out.e last; omega)
              have Hheld : holdsOf s1 (E1 last) = (gr && decide (s.now - A1 last < n)) := by rw [← Hn.out]; exact I.out.held
              have hla := I.out.last
              have la := lookA M.out.ma last (by omega)
              have le := lookE M.out.me last (by omega)
              have bnd := I.out.bnd hn1 (by omega)
              have ra := I.out.a last
              have re := I.out.e last
              have rn := I.out.now
              rw [Hn.out] at rn ra
              rcases gr with _ | _
              · rw [Bool.false_and] at Hheld
                go_wp2_with fail
                (with_reducible refine (holds_any h s1 (E1 last) _ M.out.hs bnd).mono ?_)
                rintro e w8 ⟨rfl, hb8⟩
                have M8 := Flow.hide (M.out.below hb8)
                have B8 : Hid (Below w.heap.size w w8) := BW.out.trans (hb8.mono BW.out.size)
                have Z8 : mE < w8.heap.size := Nat.lt_of_lt_of_le Z hb8.size
                have le8 := lookE M8.out.me last (by omega)
                rw [Hheld]
                clear hb8 la le Hheld 
                go_wp2_with fail
                (with_reducible refine (holds_any h s1 ((E1 last + 1) % 4294967296) _ M8.out.hs bnd).mono ?_)
                rintro e w9 ⟨rfl, hb9⟩
                have M9 := Flow.hide (M8.out.below hb9)
                have B9 : Hid (Below w.heap.size w w9) := B8.out.trans (hb9.mono B8.out.size)
                have Z9 : mE < w9.heap.size := Nat.lt_of_lt_of_le Z8 hb9.size
                rw [Hother]
                clear hb9 le8 Hother
                go_wp2_with fail
                go_roundw
                case rel => exact ⟨k + 1, s1, A1, E1, last, _, by omega, by omega, by go_num, by rw [Hn.out], rfl, rfl, I.out, M9.out, B9.out, Z9⟩
                case measure => simp [intOf]; omega
              · rw [Bool.true_and] at Hheld
                rcases hd : decide (s.now - A1 last < n) with _ | _
                · rw [hd] at Hheld
                  go_wp2_with fail
                  (with_reducible refine (holds_any h s1 (E1 last) _ M.out.hs bnd).mono ?_)
                  rintro e w8 ⟨rfl, hb8⟩
                  have M8 := Flow.hide (M.out.below hb8)
                  have B8 : Hid (Below w.heap.size w w8) := BW.out.trans (hb8.mono BW.out.size)
                  have Z8 : mE < w8.heap.size := Nat.lt_of_lt_of_le Z hb8.size
                  have le8 := lookE M8.out.me last (by omega)
                  rw [Hheld]
                  clear hb8 la le Hheld hd
                  go_wp2_with fail
                  (with_reducible refine (holds_any h s1 ((E1 last + 1) % 4294967296) _ M8.out.hs bnd).mono ?_)
                  rintro e w9 ⟨rfl, hb9⟩
                  have M9 := Flow.hide (M8.out.below hb9)
                  have B9 : Hid (Below w.heap.size w w9) := B8.out.trans (hb9.mono B8.out.size)
                  have Z9 : mE < w9.heap.size := Nat.lt_of_lt_of_le Z8 hb9.size
                  rw [Hother]
                  clear hb9 le8 Hother
                  go_wp2_with fail
                  go_roundw
                  case rel => exact ⟨k + 1, s1, A1, E1, last, _, by omega, by omega, by go_num, by rw [Hn.out], rfl, rfl, I.out, M9.out, B9.out, Z9⟩
                  case measure => simp [intOf]; omega
                · rw [hd] at Hheld
                  go_wp2_with fail
                  (with_reducible refine (holds_any h s1 (E1 last) _ M.out.hs bnd).mono ?_)
                  rintro e w8 ⟨rfl, hb8⟩
                  have M8 := Flow.hide (M.out.below hb8)
                  have B8 : Hid (Below w.heap.size w w8) := BW.out.trans (hb8.mono BW.out.size)
                  have Z8 : mE < w8.heap.size := Nat.lt_of_lt_of_le Z hb8.size
                  have le8 := lookE M8.out.me last (by omega)
                  rw [Hheld]
                  clear hb8 la le Hheld hd
                  go_wp2_with fail
                  (with_reducible refine (holds_any h s1 ((E1 last + 1) % 4294967296) _ M8.out.hs bnd).mono ?_)
                  rintro e w9 ⟨rfl, hb9⟩
                  have M9 := Flow.hide (M8.out.below hb9)
                  have B9 : Hid (Below w.heap.size w w9) := B8.out.trans (hb9.mono B8.out.size)
                  have Z9 : mE < w9.heap.size := Nat.lt_of_lt_of_le Z8 hb9.size
                  rw [Hother]
                  clear hb9 le8 Hother
                  go_wp2_with fail
                  go_roundw
                  case rel => exact ⟨k + 1, s1, A1, E1, last, _, by omega, by omega, by go_num, by rw [Hn.out], rfl, rfl, I.out, M9.out, B9.out, Z9⟩
                  case measure => simp [intOf]; omega
          | some r =>
            have hrq : reqOf s = r.num := by unfold reqOf; rw [hr]
            obtain ⟨ra0, ra1, rn1, rn2, rA, rE⟩ := I.out.req r hr
            have rn0 : (r.num != 0) = true := by simp; omega
            have Hr := Flow.hide hr
            have RA := Flow.hide rA
            have RE := Flow.hide rE
            clear hr rA rE
            go_wp2_with fail
            (with_reducible refine (request_any h s _ (M.out.hs.below (Flow.below_alloc _ _))).mono ?_)
            rintro e w4 ⟨rfl, c4⟩
            rw [hrq]
            clear hrq
            have c4' : Below wr.heap.size wr w4 := c4 ▸ Flow.below_alloc wr _
            have hxb : Flow.Blk w4 wr.heap.size 63 #[.int .u8 Q, .int .u32 EP, .int .u32 RQ] := c4 ▸ Flow.Blk.new wr 63 _
            have cx := hxb.cell
            have M4 := Flow.hide (M.out.below c4')
            have B4 : Hid (Below w.heap.size w w4) := BW.out.trans (c4'.mono BW.out.size)
            have Z4 : mE < w4.heap.size := Nat.lt_of_lt_of_le Z c4'.size
            clear c4 c4' M BW Z x0 x1 x2 q1 q2 hxb
            cases hbit : (bits BinOp.and IntKind.u32 RQ 1 == 0)
            · have M1 := M4.out.more
              have B1 := B4.out
              have Z1 := Z4
              have I1 := I.out.more
              clear I M4 B4 Z4 bnd rn0 Hr
              obtain ⟨s1, hs1⟩ : ∃ s1 : Hs, s1 = s := ⟨_, rfl⟩
              rw [← hs1] at I1 M1
              have Hn : Hid (s1.now = s.now) := Flow.hide (by rw [hs1])
              have I := Flow.hide I1
              have M := Flow.hide M1
              have BW := Flow.hide B1
              have Z := Z1
              obtain ⟨A1, hA1⟩ : ∃ f, f = A := ⟨_, rfl⟩
              obtain ⟨E1, hE1⟩ : ∃ f, f = E := ⟨_, rfl⟩
              rw [← hA1, ← hE1] at I M
              clear hs1 I1 M1 B1 Z1 hA1 hE1
              have Hother := I.out.other ((E1 last + 1) % 4294967296) (by have h1 := I.out.e last; omega)
              have Hheld : holdsOf s1 (E1 last) = (gr && decide (s.now - A1 last < n)) := by rw [← Hn.out]; exact I.out.held
              have hla := I.out.last
              have la := lookA M.out.ma last (by omega)
              have le := lookE M.out.me last (by omega)
              have bnd := I.out.bnd hn1 (by omega)
              have ra := I.out.a last
              have re := I.out.e last
              have rn := I.out.now
              rw [Hn.out] at rn ra
              rcases gr with _ | _
              · rw [Bool.false_and] at Hheld
                go_wp2_with fail
                (with_reducible refine (holds_any h s1 (E1 last) _ M.out.hs bnd).mono ?_)
                rintro e w8 ⟨rfl, hb8⟩
                have M8 := Flow.hide (M.out.below hb8)
                have B8 : Hid (Below w.heap.size w w8) := BW.out.trans (hb8.mono BW.out.size)
                have Z8 : mE < w8.heap.size := Nat.lt_of_lt_of_le Z hb8.size
                have le8 := lookE M8.out.me last (by omega)
                rw [Hheld]
                clear hb8 la le Hheld 
                go_wp2_with fail
                (with_reducible refine (holds_any h s1 ((E1 last + 1) % 4294967296) _ M8.out.hs bnd).mono ?_)
                rintro e w9 ⟨rfl, hb9⟩
                have M9 := Flow.hide (M8.out.below hb9)
                have B9 : Hid (Below w.heap.size w w9) := B8.out.trans (hb9.mono B8.out.size)
                have Z9 : mE < w9.heap.size := Nat.lt_of_lt_of_le Z8 hb9.size
                rw [Hother]
                clear hb9 le8 Hother
                go_wp2_with fail
                go_roundw
                case rel => exact ⟨k + 1, s1, A1, E1, last, _, by omega, by omega, by go_num, by rw [Hn.out], rfl, rfl, I.out, M9.out, B9.out, Z9⟩
                case measure => simp [intOf]; omega
              · rw [Bool.true_and] at Hheld
                rcases hd : decide (s.now - A1 last < n) with _ | _
                · rw [hd] at Hheld
                  go_wp2_with fail
                  (with_reducible refine (holds_any h s1 (E1 last) _ M.out.hs bnd).mono ?_)
                  rintro e w8 ⟨rfl, hb8⟩
                  have M8 := Flow.hide (M.out.below hb8)
                  have B8 : Hid (Below w.heap.size w w8) := BW.out.trans (hb8.mono BW.out.size)
                  have Z8 : mE < w8.heap.size := Nat.lt_of_lt_of_le Z hb8.size
                  have le8 := lookE M8.out.me last (by omega)
                  rw [Hheld]
                  clear hb8 la le Hheld hd
                  go_wp2_with fail
                  (with_reducible refine (holds_any h s1 ((E1 last + 1) % 4294967296) _ M8.out.hs bnd).mono ?_)
                  rintro e w9 ⟨rfl, hb9⟩
                  have M9 := Flow.hide (M8.out.below hb9)
                  have B9 : Hid (Below w.heap.size w w9) := B8.out.trans (hb9.mono B8.out.size)
                  have Z9 : mE < w9.heap.size := Nat.lt_of_lt_of_le Z8 hb9.size
                  rw [Hother]
                  clear hb9 le8 Hother
                  go_wp2_with fail
                  go_roundw
                  case rel => exact ⟨k + 1, s1, A1, E1, last, _, by omega, by omega, by go_num, by rw [Hn.out], rfl, rfl, I.out, M9.out, B9.out, Z9⟩
                  case measure => simp [intOf]; omega
                · rw [hd] at Hheld
                  go_wp2_with fail
                  (with_reducible refine (holds_any h s1 (E1 last) _ M.out.hs bnd).mono ?_)
                  rintro e w8 ⟨rfl, hb8⟩
                  have M8 := Flow.hide (M.out.below hb8)
                  have B8 : Hid (Below w.heap.size w w8) := BW.out.trans (hb8.mono BW.out.size)
                  have Z8 : mE < w8.heap.size := Nat.lt_of_lt_of_le Z hb8.size
                  have le8 := lookE M8.out.me last (by omega)
                  rw [Hheld]
                  clear hb8 la le Hheld hd
                  go_wp2_with fail
                  (with_reducible refine (holds_any h s1 ((E1 last + 1) % 4294967296) _ M8.out.hs bnd).mono ?_)
                  rintro e w9 ⟨rfl, hb9⟩
                  have M9 := Flow.hide (M8.out.below hb9)
                  have B9 : Hid (Below w.heap.size w w9) := B8.out.trans (hb9.mono B8.out.size)
                  have Z9 : mE < w9.heap.size := Nat.lt_of_lt_of_le Z8 hb9.size
                  rw [Hother]
                  clear hb9 le8 Hother
                  go_wp2_with fail
                  go_roundw
                  case rel => exact ⟨k + 1, s1, A1, E1, last, _, by omega, by omega, by go_num, by rw [Hn.out], rfl, rfl, I.out, M9.out, B9.out, Z9⟩
                  case measure => simp [intOf]; omega
            · have lr := lookE M4.out.me r.num (by omega)
              go_wp2_with fail
              (with_reducible refine (grant_yes h s r (E r.num) r.num _ M4.out.hs bnd Hr.out rfl RE.out.symm).mono ?_)
              rintro e w5 ⟨rfl, H5, c5⟩
              have M1 := (M4.out.turn c5 hhA hAE H5 (fun _ e => by cases e)).more
              have B1 : Below w.heap.size w w5 := c5.onto B4.out (fun j e => by omega) B4.out.size
              have Z1 : mE < w5.heap.size := Nat.lt_of_lt_of_le Z4 c5.size
              have I1 := I.out.grant r Hr.out hn1.1
              clear I M4 B4 Z4 bnd rn0 lr cx c5 H5 hbit
              obtain ⟨s1, hs1⟩ : ∃ s1 : Hs, s1 = { s with req := none, epoch := E r.num, fin := r.at_ + s.hold } := ⟨_, rfl⟩
              rw [← hs1] at I1 M1
              have Hn : Hid (s1.now = s.now) := Flow.hide (by rw [hs1])
              clear Hr RA RE ra0 ra1
              have I := Flow.hide I1
              have M := Flow.hide M1
              have BW := Flow.hide B1
              have Z := Z1
              obtain ⟨A1, hA1⟩ : ∃ f, f = A := ⟨_, rfl⟩
              obtain ⟨E1, hE1⟩ : ∃ f, f = E := ⟨_, rfl⟩
              rw [← hA1, ← hE1] at I M
              clear hs1 I1 M1 B1 Z1 hA1 hE1
              have Hother := I.out.other ((E1 r.num + 1) % 4294967296) (by have h1 := I.out.e r.num; omega)
              have Hheld : holdsOf s1 (E1 r.num) = (true && decide (s.now - A1 r.num < n)) := by rw [← Hn.out]; exact I.out.held
              have hla := I.out.last
              have la := lookA M.out.ma r.num (by omega)
              have le := lookE M.out.me r.num (by omega)
              have bnd := I.out.bnd hn1 (by omega)
              have ra := I.out.a r.num
              have re := I.out.e r.num
              have rn := I.out.now
              rw [Hn.out] at rn ra
              rw [Bool.true_and] at Hheld
              rcases hd : decide (s.now - A1 r.num < n) with _ | _
              · rw [hd] at Hheld
                go_wp2_with fail
                (with_reducible refine (holds_any h s1 (E1 r.num) _ M.out.hs bnd).mono ?_)
                rintro e w8 ⟨rfl, hb8⟩
                have M8 := Flow.hide (M.out.below hb8)
                have B8 : Hid (Below w.heap.size w w8) := BW.out.trans (hb8.mono BW.out.size)
                have Z8 : mE < w8.heap.size := Nat.lt_of_lt_of_le Z hb8.size
                have le8 := lookE M8.out.me r.num (by omega)
                rw [Hheld]
                clear hb8 la le Hheld hd
                go_wp2_with fail
                (with_reducible refine (holds_any h s1 ((E1 r.num + 1) % 4294967296) _ M8.out.hs bnd).mono ?_)
                rintro e w9 ⟨rfl, hb9⟩
                have M9 := Flow.hide (M8.out.below hb9)
                have B9 : Hid (Below w.heap.size w w9) := B8.out.trans (hb9.mono B8.out.size)
                have Z9 : mE < w9.heap.size := Nat.lt_of_lt_of_le Z8 hb9.size
                rw [Hother]
                clear hb9 le8 Hother
                go_wp2_with fail
                go_roundw
                case rel => exact ⟨k + 1, s1, A1, E1, r.num, _, by omega, by omega, by go_num, by rw [Hn.out], rfl, rfl, I.out, M9.out, B9.out, Z9⟩
                case measure => simp [intOf]; omega
              · rw [hd] at Hheld
                go_wp2_with fail
                (with_reducible refine (holds_any h s1 (E1 r.num) _ M.out.hs bnd).mono ?_)
                rintro e w8 ⟨rfl, hb8⟩
                have M8 := Flow.hide (M.out.below hb8)
                have B8 : Hid (Below w.heap.size w w8) := BW.out.trans (hb8.mono BW.out.size)
                have Z8 : mE < w8.heap.size := Nat.lt_of_lt_of_le Z hb8.size
                have le8 := lookE M8.out.me r.num (by omega)
                rw [Hheld]
                clear hb8 la le Hheld hd
                go_wp2_with fail
                (with_reducible refine (holds_any h s1 ((E1 r.num + 1) % 4294967296) _ M8.out.hs bnd).mono ?_)
                rintro e w9 ⟨rfl, hb9⟩
                have M9 := Flow.hide (M8.out.below hb9)
                have B9 : Hid (Below w.heap.size w w9) := B8.out.trans (hb9.mono B8.out.size)
                have Z9 : mE < w9.heap.size := Nat.lt_of_lt_of_le Z8 hb9.size
                rw [Hother]
                clear hb9 le8 Hother
                go_wp2_with fail
                go_roundw
                case rel => exact ⟨k + 1, s1, A1, E1, r.num, _, by omega, by omega, by go_num, by rw [Hn.out], rfl, rfl, I.out, M9.out, B9.out, Z9⟩
                case measure => simp [intOf]; omega
        · have q2 : (Q % 4 == 3) = false := by simp [hq3]
          clear hq3
          go_wp2_with fail
          (with_reducible refine (tick_any h s _ (M.out.hs.below (Flow.below_alloc _ _)) bnd).mono ?_)
          rintro e w4 ⟨rfl, H4, c4⟩
          have c4' : Flow.Chg (· = h) wr w4 := (Flow.Chg.of_below (Flow.below_alloc wr _)).mono (fun _ _ e => e.elim) |>.trans c4 (fun _ _ e => e)
          have M1 := (M.out.turn c4' hhA hAE H4 M.out.blk).more
          have B1 : Below w.heap.size w w4 := c4'.onto BW.out (fun j e => by omega) BW.out.size
          have Z1 : mE < w4.heap.size := Nat.lt_of_lt_of_le Z c4'.size
          have I1 := I.out.tick
          clear c4 c4' H4 I M BW Z x0 x1 x2 q1 q2 bnd
          obtain ⟨s1, hs1⟩ : ∃ s1 : Hs, s1 = { s with now := s.now + 1 } := ⟨_, rfl⟩
          rw [← hs1] at I1 M1
          have Hn : Hid (s1.now = s.now + 1) := Flow.hide (by rw [hs1])
          have I := Flow.hide I1
          have M := Flow.hide M1
          have BW := Flow.hide B1
          have Z := Z1
          obtain ⟨A1, hA1⟩ : ∃ f, f = A := ⟨_, rfl⟩
          obtain ⟨E1, hE1⟩ : ∃ f, f = E := ⟨_, rfl⟩
          rw [← hA1, ← hE1] at I M
          clear hs1 I1 M1 B1 Z1 hA1 hE1
          have Hother := I.out.other ((E1 last + 1) % 4294967296) (by have h1 := I.out.e last; omega)
          have Hheld : holdsOf s1 (E1 last) = (gr && decide ((s.now + 1) - A1 last < n)) := by rw [← Hn.out]; exact I.out.held
          have hla := I.out.last
          have la := lookA M.out.ma last (by omega)
          have le := lookE M.out.me last (by omega)
          have bnd := I.out.bnd hn1 (by omega)
          have ra := I.out.a last
          have re := I.out.e last
          have rn := I.out.now
          rw [Hn.out] at rn ra
          rcases gr with _ | _
          · rw [Bool.false_and] at Hheld
            go_wp2_with fail
            (with_reducible refine (holds_any h s1 (E1 last) _ M.out.hs bnd).mono ?_)
            rintro e w8 ⟨rfl, hb8⟩
            have M8 := Flow.hide (M.out.below hb8)
            have B8 : Hid (Below w.heap.size w w8) := BW.out.trans (hb8.mono BW.out.size)
            have Z8 : mE < w8.heap.size := Nat.lt_of_lt_of_le Z hb8.size
            have le8 := lookE M8.out.me last (by omega)
            rw [Hheld]
            clear hb8 la le Hheld 
            go_wp2_with fail
            (with_reducible refine (holds_any h s1 ((E1 last + 1) % 4294967296) _ M8.out.hs bnd).mono ?_)
            rintro e w9 ⟨rfl, hb9⟩
            have M9 := Flow.hide (M8.out.below hb9)
            have B9 : Hid (Below w.heap.size w w9) := B8.out.trans (hb9.mono B8.out.size)
            have Z9 : mE < w9.heap.size := Nat.lt_of_lt_of_le Z8 hb9.size
            rw [Hother]
            clear hb9 le8 Hother
            go_wp2_with fail
            go_roundw
            case rel => exact ⟨k + 1, s1, A1, E1, last, _, by omega, by omega, by go_num, by rw [Hn.out], rfl, rfl, I.out, M9.out, B9.out, Z9⟩
            case measure => simp [intOf]; omega
          · rw [Bool.true_and] at Hheld
            rcases hd : decide ((s.now + 1) - A1 last < n) with _ | _
            · rw [hd] at Hheld
              go_wp2_with fail
              (with_reducible refine (holds_any h s1 (E1 last) _ M.out.hs bnd).mono ?_)
              rintro e w8 ⟨rfl, hb8⟩
              have M8 := Flow.hide (M.out.below hb8)
              have B8 : Hid (Below w.heap.size w w8) := BW.out.trans (hb8.mono BW.out.size)
              have Z8 : mE < w8.heap.size := Nat.lt_of_lt_of_le Z hb8.size
              have le8 := lookE M8.out.me last (by omega)
              rw [Hheld]
              clear hb8 la le Hheld hd
              go_wp2_with fail
              (with_reducible refine (holds_any h s1 ((E1 last + 1) % 4294967296) _ M8.out.hs bnd).mono ?_)
              rintro e w9 ⟨rfl, hb9⟩
              have M9 := Flow.hide (M8.out.below hb9)
              have B9 : Hid (Below w.heap.size w w9) := B8.out.trans (hb9.mono B8.out.size)
              have Z9 : mE < w9.heap.size := Nat.lt_of_lt_of_le Z8 hb9.size
              rw [Hother]
              clear hb9 le8 Hother
              go_wp2_with fail
              go_roundw
              case rel => exact ⟨k + 1, s1, A1, E1, last, _, by omega, by omega, by go_num, by rw [Hn.out], rfl, rfl, I.out, M9.out, B9.out, Z9⟩
              case measure => simp [intOf]; omega
            · rw [hd] at Hheld
              go_wp2_with fail
              (with_reducible refine (holds_any h s1 (E1 last) _ M.out.hs bnd).mono ?_)
              rintro e w8 ⟨rfl, hb8⟩
              have M8 := Flow.hide (M.out.below hb8)
              have B8 : Hid (Below w.heap.size w w8) := BW.out.trans (hb8.mono BW.out.size)
              have Z8 : mE < w8.heap.size := Nat.lt_of_lt_of_le Z hb8.size
              have le8 := lookE M8.out.me last (by omega)
              rw [Hheld]
              clear hb8 la le Hheld hd
              go_wp2_with fail
              (with_reducible refine (holds_any h s1 ((E1 last + 1) % 4294967296) _ M8.out.hs bnd).mono ?_)
              rintro e w9 ⟨rfl, hb9⟩
              have M9 := Flow.hide (M8.out.below hb9)
              have B9 : Hid (Below w.heap.size w w9) := B8.out.trans (hb9.mono B8.out.size)
              have Z9 : mE < w9.heap.size := Nat.lt_of_lt_of_le Z8 hb9.size
              rw [Hother]
              clear hb9 le8 Hother
              go_wp2_with fail
              go_roundw
              case rel => exact ⟨k + 1, s1, A1, E1, last, _, by omega, by omega, by go_num, by rw [Hn.out], rfl, rfl, I.out, M9.out, B9.out, Z9⟩
              case measure => simp [intOf]; omega
    · have hend : k = len ∨ k = 80 := by omega
      have hx : ¬ (k : Int) < len ∨ ¬ (k : Int) < 80 := by omega
      by_cases hlen : k < len
      · obtain rfl : k = 80 := by omega
        clear hx hend hlt
        go_wp2_with fail
        go_ret
        exact ⟨rfl, BW.out⟩
      · clear hx hend hlt
        go_wp2_with fail
        go_ret
        exact ⟨rfl, BW.out⟩

theorem own : ownKnob Try.prog.godebug = none := by kernel_rfl
theorem laidOut : laidOutB Try.prog = true := by kernel_rfl

set_option maxRecDepth 100000 in
theorem lifted (os : Os) (started : os.Started) (H : Type) (enc : TypeId × Value → H) :
    ReturnsInHanded {} Try.checked os 9 .any (Rows.leaseEndsSpec.pre6 enc Try.prog Try.f9 Rows.leaseEndsRow.domain false) (Rows.leaseEndsSpec.post enc Try.prog Try.f9 false true false false) := by
  refine returnsInHanded_of_change (C := Try.checked) own started (by kernel_rfl) Try.func9
    (ChangeSpec.witness6 (enc := enc) (C := Try.checked) false ⟨#[], #[.int .u8 0, .slice none 0 0], []⟩ 8 (by kernel_rfl) (by kernel_rfl) (by kernel_rfl) (by kernel_rfl)) ?_
  intro W base args ds gs before hval0 hW hcnd _
  have hval : ∀ (j : Nat) t v, Try.f9.params[j]? = some t → args[j]? = some v → Value.okWide Try.prog W .any base t v := hval0
  have hW' := hW
  obtain ⟨p, q, hA0, hV, rfl, hfz, hnd⟩ := hW
  have hA : DataW.TrodAll enc Try.prog W 0 (fun _ => true) true Try.f9.params.toList args.toList ds p := hA0
  rw [Try.params9] at hA hval
  obtain ⟨v0, v1, d0, d1, p0, p1, hargs, rfl, rfl, h0, h1⟩ := trodAll_two hA
  obtain ⟨rfl, rfl⟩ := trodVars_none hV
  subst hargs
  obtain ⟨x0, rfl, rfl, rfl, wx0⟩ := open_int Try.underlying5 (hval 0 5 v0 rfl rfl) h0
  obtain ⟨A1, n1, c1, rfl, hl1, _, hr1⟩ := Open.open_rows_arg 30 (ss := [.int .u8, .int .u32, .int .u32]) Try.underlying57 (by kernel_rfl) (by decide) (by kernel_rfl) (hval 1 57 v1 rfl rfl) h1
  obtain ⟨q1, e1, r1, ha1⟩ := acts_of hr1
  clear hA0 hval0
  refine (walk x0 A1 n1 c1 q1 e1 r1 W (bounds_u8 wx0) hl1 ha1).mono fun e W' ⟨he, hb⟩ => ?_
  subst he
  exact ⟨_, rfl, Open.law_post laidOut (by kernel_rfl) (by kernel_rfl) Try.underlying4 rfl rfl hW' hb⟩

theorem over : Rows.leaseEndsRow.holds Try.pinned (OpenSpec.ofChange Rows.leaseEndsSpec) :=
  OpenClaim.holds_of_wide 9 Try.f9 rfl rfl rfl rfl rfl rfl rfl ⟨rfl, rfl, rfl, rfl, rfl⟩ rfl rfl rfl rfl rfl (by kernel_rfl) Try.func9 (by kernel_rfl)
    (of_decide_eq_true (by kernel_rfl)) (by unfold Func.isWrapper; first | (rw [if_pos (by decide +kernel)]; kernel_rfl) | (rw [if_neg (by decide +kernel)]; exact ⟨rfl, rfl⟩))
    (fun os started H enc _ => lifted os started H enc)

theorem proved : Rows.LeaseEndsSaid := over
#print axioms proved
end Go.Proofs.Ythkphapmnlndbaa.LEnds
