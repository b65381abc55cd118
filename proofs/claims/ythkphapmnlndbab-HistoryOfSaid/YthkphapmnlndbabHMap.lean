/- The map of history: from a call's id to its entry's block. No walk in sight. -/
import Derived.Test.YthkphapmnlndbabHRows
import Derived.WideKeyEntry
import Derived.Maps.OwnSet
import Derived.Maps.Views
import Derived.DeepKeys4
namespace Go.Proofs.Ythkphapmnlndbab
open Go.RowKit Go.Maps Go.ChangeMaps
open Go.WideElems (Fit)
set_option linter.unusedSimpArgs false
def Rc.kl (r : Rc) : Lit := .string (keyBytes [.int .u8 r.nd, .int .u32 r.ss, .int .u32 r.sq])
def Rc.wf (r : Rc) : Prop := (Lit.int .u8 r.nd).wf = true ∧ (Lit.int .u32 r.ss).wf = true ∧ (Lit.int .u32 r.sq).wf = true
theorem laidOutH : laidOutB Try.prog = true := by kernel_rfl
theorem wide150 : (match Try.prog.underlying 150 with | some (.array _ _) | some (.struct _) => true | _ => false) = true := by rw [Try.underlying150]
theorem row150 : (150 : TypeId) < Try.prog.types.size := of_decide_eq_true (by kernel_rfl)
theorem keyType150 : Try.prog.keyType 150 = true := by kernel_rfl
theorem cells150 : Try.prog.cellsOf 150 = 3 := by kernel_rfl
theorem cells5 : Try.prog.cellsOf 5 = 1 := by kernel_rfl
theorem cells22 : Try.prog.cellsOf 22 = 1 := by kernel_rfl
theorem keyAt150 : Try.prog.keyTypeAt 2 150 = true := by kernel_rfl
set_option maxRecDepth 20000 in
theorem keyed150 : Keyed Try.prog 150 := Keyed.of_law (deep_law_laid laidOutH (m := 2) (by omega) row150 keyAt150 wide150)
theorem succ_of {n k : Nat} (h : k < n) : ∃ m, n = m + 1 := ⟨n - 1, by omega⟩
theorem types_size : ∃ m, Try.prog.types.size = m + 1 := succ_of row150
theorem key_rc (r : Rc) (h : r.wf) : keyOf Try.prog 150 (.agg #[.int .u8 r.nd, .int .u32 r.ss, .int .u32 r.sq]) = some r.kl := by
  obtain ⟨h1, h2, h3⟩ := h
  obtain ⟨m, hm⟩ := types_size
  unfold keyOf
  simp only [Try.underlying150]
  rw [if_pos (by simp [keyType150, Value.formed, Try.underlying150, cells150]), hm]
  unfold Program.keyLits
  simp only [Try.underlying150, Value.cells]
  rw [if_pos (by simp [cells150])]
  simp [Program.keyLits, Try.underlying5, Try.underlying22, cells5, cells22, h1, h2, h3, Rc.kl]
theorem kl_inj {a b : Rc} (ha : a.wf) (hb : b.wf) (h : a.kl = b.kl) : a.same b = true := by
  have h1 := key_rc a ha
  have h2 := key_rc b hb
  rw [← h] at h2
  have := keyed150.inj h1 h2
  simp only [Value.agg.injEq, Array.mk.injEq, List.cons.injEq, Value.int.injEq, true_and, and_true] at this
  exact (same_iff a b).2 this
theorem kl_same {a b : Rc} (h : a.same b = true) : a.kl = b.kl := by
  obtain ⟨h1, h2, h3⟩ := (same_iff a b).1 h
  unfold Rc.kl
  rw [h1, h2, h3]
/-- How a pointer to a whole block reads. -/
def Rp : Value → Option (DataW Unit × List MemPlace)
  | .pointer (some ⟨b, 0, none⟩) => some (.lit (.int .i64 b), [])
  | _ => none
theorem Rp_inv {v : Value} {y : DataW Unit × List MemPlace} (h : Rp v = some y) : ∃ b : Nat, v = .pointer (some ⟨b, 0, none⟩) ∧ y.1 = .lit (.int .i64 b) := by
  unfold Rp at h
  split at h
  · cases h; exact ⟨_, rfl, rfl⟩
  · cases h
/-- The map's block, as it stands for the entries' blocks. -/
def PM (w : World) (b : Nat) (all : List Rc) (ads : List Nat) : Prop :=
  ∃ (n : Nat) (D : DataW Unit), w.ownsMap Try.prog 150 Rp b n D ∧ n ≤ all.length ∧ (∀ e ∈ all, e.wf) ∧ (∀ r : Rc, r.wf → (∀ e ∈ all, e.same r = false) → ∀ z, D.atKey r.kl z = z) ∧
    ∀ (i : Nat) (e : Rc) (a : Nat), all[i]? = some e → ads[i]? = some a → ∀ z, D.atKey e.kl z = .lit (.int .i64 (a : Int))
theorem PM.made (w : World) : PM (w.alloc (.map #[] 0)) w.heap.size [] [] :=
  ⟨0, _, World.ownsMap_made w Try.prog 150 Rp, Nat.le_refl _, by simp, fun _ _ _ _ => rfl, by simp⟩
theorem PM.chg {S : Nat → Prop} {w w' : World} {b : Nat} {all : List Rc} {ads : List Nat} (h : PM w b all ads) (hc : Flow.Chg S w w') (hb : ¬ S b) : PM w' b all ads := by
  obtain ⟨n, D, ⟨es, clock, h1, h2⟩, h3⟩ := h
  have hlt : b < w.heap.size := (Array.getElem?_eq_some_iff.1 h1).1
  exact ⟨n, D, ⟨es, clock, (hc.block b hlt hb).trans h1, h2⟩, h3⟩
theorem PM.below {w w' : World} {b : Nat} {all : List Rc} {ads : List Nat} (h : PM w b all ads) (hb : Below w.heap.size w w') : PM w' b all ads := h.chg (Flow.Chg.of_below hb) (fun e => e)
theorem PM.lt {w : World} {b : Nat} {all : List Rc} {ads : List Nat} (h : PM w b all ads) : b < w.heap.size := let ⟨_, _, h, _⟩ := h; h.lt
/-- Other entries with the same ids. -/
theorem PM.upd {w : World} {b : Nat} {all all' : List Rc} {ads : List Nat} (h : PM w b all ads) (hl : all'.length = all.length) (hs : ∀ (i : Nat) (e e' : Rc), all[i]? = some e → all'[i]? = some e' → e'.nd = e.nd ∧ e'.ss = e.ss ∧ e'.sq = e.sq) : PM w b all' ads := by
  obtain ⟨n, D, h1, h2, h3, h4, h5⟩ := h
  have old : ∀ (i : Nat) (e' : Rc), all'[i]? = some e' → ∃ e, all[i]? = some e ∧ e'.nd = e.nd ∧ e'.ss = e.ss ∧ e'.sq = e.sq := fun i e' he => by
    have hi := (List.getElem?_eq_some_iff.1 he).1
    exact ⟨_, List.getElem?_eq_getElem (by omega), hs i _ e' (List.getElem?_eq_getElem (by omega)) he⟩
  refine ⟨n, D, h1, by omega, fun e' he' => ?_, fun r hr ha z => h4 r hr (fun e he => ?_) z, fun i e' a he' ha z => ?_⟩
  · obtain ⟨i, hi, rfl⟩ := List.getElem_of_mem he'
    obtain ⟨e, he, e1, e2, e3⟩ := old i _ (List.getElem?_eq_getElem hi)
    have := h3 e (List.mem_of_getElem? he)
    unfold Rc.wf at this ⊢
    rw [e1, e2, e3]; exact this
  · obtain ⟨i, hi, rfl⟩ := List.getElem_of_mem he
    have hx : all'[i]? = some (all'[i]'(by omega)) := List.getElem?_eq_getElem (by omega)
    have h6 := ha _ (List.mem_of_getElem? hx)
    obtain ⟨e1, e2, e3⟩ := hs i _ _ (List.getElem?_eq_getElem hi) hx
    unfold Rc.same at h6 ⊢
    rw [e1, e2, e3] at h6; exact h6
  · obtain ⟨e, he, e1, e2, e3⟩ := old i _ he'
    have : e'.kl = e.kl := by unfold Rc.kl; rw [e1, e2, e3]
    rw [this]; exact h5 i e a he ha z
theorem zero151 (w : World) : (zeroValue 151).run Try.prog w = .ok (.pointer none) w := by kernel_rfl
theorem PM.look {w : World} {b : Nat} {all : List Rc} {ads : List Nat} (h : PM w b all ads) (hl : ads.length = all.length) (r : Rc) (hr : r.wf) :
    ((Instr.lookup 147 (.map (some b)) (.agg #[.int .u8 r.nd, .int .u32 r.ss, .int .u32 r.sq]) true).run Try.prog w = .ok (.tuple #[.pointer none, .bool false]) w ∧ ∀ e ∈ all, e.same r = false) ∨
    ∃ (i : Nat) (e : Rc) (a : Nat), all[i]? = some e ∧ ads[i]? = some a ∧ e.same r = true ∧ (Instr.lookup 147 (.map (some b)) (.agg #[.int .u8 r.nd, .int .u32 r.ss, .int .u32 r.sq]) true).run Try.prog w = .ok (.tuple #[.pointer (some ⟨a, 0, none⟩), .bool true]) w := by
  obtain ⟨n, D, ⟨es, clock, hb, F, _, rfl⟩, h2, h3, h4, h5⟩ := h
  have dec : (∀ e ∈ all, e.same r = false) ∨ ∃ (i : Nat) (e : Rc), all[i]? = some e ∧ e.same r = true := by
    by_cases hh : ∃ e ∈ all, e.same r = true
    · obtain ⟨e, he, hs⟩ := hh
      obtain ⟨i, hi, rfl⟩ := List.getElem_of_mem he
      exact .inr ⟨i, _, List.getElem?_eq_getElem hi, hs⟩
    · refine .inl (fun e he => ?_)
      rcases hq : e.same r with _ | _
      · rfl
      · exact absurd ⟨e, he, hq⟩ hh
  rcases fit_look true keyed150 Try.underlying147 (zero151 w) hb F (key_rc r hr) with ⟨hrun, _, hat⟩ | ⟨e0, y, _, _, hrun, hR, hat, _⟩
  · rcases dec with hd | ⟨i, e, he, hs⟩
    · exact .inl ⟨hrun, hd⟩
    · obtain ⟨a, ha⟩ : ∃ a, ads[i]? = some a := ⟨_, List.getElem?_eq_getElem (by have := (List.getElem?_eq_some_iff.1 he).1; omega)⟩
      have h6 := h5 i e a he ha (.lit (.bool true))
      rw [kl_same hs, hat] at h6
      injection h6 with h7
      cases h7
  · obtain ⟨b', hv, hy⟩ := Rp_inv hR
    rcases dec with hd | ⟨i, e, he, hs⟩
    · have h6 := h4 r hr hd (.lit (.bool true))
      rw [hat, hy] at h6
      injection h6 with h7
      cases h7
    · obtain ⟨a, ha⟩ : ∃ a, ads[i]? = some a := ⟨_, List.getElem?_eq_getElem (by have := (List.getElem?_eq_some_iff.1 he).1; omega)⟩
      have h6 := h5 i e a he ha (.lit (.bool true))
      rw [kl_same hs, hat, hy] at h6
      have hab : b' = a := by
        simp only [DataW.lit.injEq, Lit.int.injEq, true_and] at h6
        exact Int.ofNat.inj h6
      refine .inr ⟨i, e, a, he, ha, hs, ?_⟩
      rw [hrun, hv, hab]
      rfl
theorem PM.put {w : World} {b : Nat} {all : List Rc} {ads : List Nat} (h : PM w b all ads) (hl : ads.length = all.length) (hn : all.length ≤ 1000) (r : Rc) (hr : r.wf) (hd : ∀ e ∈ all, e.same r = false) (a : Nat) :
    ∃ w', (Instr.mapUpdate 147 (.map (some b)) (.agg #[.int .u8 r.nd, .int .u32 r.ss, .int .u32 r.sq]) (.pointer (some ⟨a, 0, none⟩))).run Try.prog w = .ok () w' ∧ PM w' b (all ++ [r]) (ads ++ [a]) ∧ Flow.Chg (· = b) w w' := by
  obtain ⟨n, D, h1, h2, h3, h4, h5⟩ := h
  have hD : IsMap D := by obtain ⟨es, clock, _, _, _, e⟩ := h1; exact ⟨_, e⟩
  obtain ⟨w', hrun, ho, hg⟩ := h1.update keyed150 Try.underlying147 (by unfold maxLen; omega) (key_rc r hr) (d := .lit (.int .i64 (a : Int))) (ps := []) (val := .pointer (some ⟨a, 0, none⟩)) rfl
  refine ⟨w', hrun, ⟨n + 1, _, ho, by simp; omega, fun e he => ?_, fun q hq hqa z => ?_, fun i e a' he ha z => ?_⟩, Flow.Chg.of_grown1 hg⟩
  · rcases List.mem_append.1 he with he | he
    · exact h3 e he
    · rw [List.mem_singleton] at he; subst he; exact hr
  · have hne : q.kl ≠ r.kl := fun e => by
      have h6 := hqa r (by simp)
      rw [same_comm, kl_inj hq hr e] at h6
      cases h6
    rw [atKey_put_other hne]
    exact h4 q hq (fun e he => hqa e (by simp [he])) z
  · by_cases hi : i < all.length
    · rw [List.getElem?_append_left hi] at he
      rw [List.getElem?_append_left (by omega)] at ha
      have hm := List.mem_of_getElem? he
      have hne : e.kl ≠ r.kl := fun e1 => by
        have h6 := hd e hm
        rw [kl_inj (h3 e hm) hr e1] at h6
        cases h6
      rw [atKey_put_other hne]
      exact h5 i e a' he ha z
    · have hi2 : i = all.length := by have := (List.getElem?_eq_some_iff.1 he).1; simp at this; omega
      subst hi2
      rw [List.getElem?_append_right (Nat.le_refl _)] at he
      rw [← hl, List.getElem?_append_right (Nat.le_refl _)] at ha
      simp at he ha
      subst he ha
      exact atKey_put_same hD (keyed150.key (key_rc _ hr)) _ _
/-- The entries' blocks. -/
def Ents (w : World) (B : Nat) (all : List Rc) (ads : List Nat) : Prop :=
  ads.length = all.length ∧ ads.Nodup ∧ (∀ a ∈ ads, B ≤ a ∧ a < w.heap.size) ∧ ∀ (i : Nat) (e : Rc) (a : Nat), all[i]? = some e → ads[i]? = some a → Flow.Blk w a 118 #[.int .i64 5, .int .i64 e.ky, .string ⟨#[]⟩, .bool false, .string ⟨#[]⟩, .int .i64 e.op, .int .i64 e.st, .int .i64 e.en, .int .i64 e.er, .bool false, .string ⟨#[]⟩, .int .u32 e.an, .int .u8 0, .int .u8 0, .bool e.wr]
theorem Ents.nil (w : World) (B : Nat) : Ents w B [] [] := ⟨rfl, List.nodup_nil, by simp, by simp⟩
theorem Ents.chg {S : Nat → Prop} {w w' : World} {B : Nat} {all : List Rc} {ads : List Nat} (h : Ents w B all ads) (hc : Flow.Chg S w w') (hn : ∀ a ∈ ads, ¬ S a) : Ents w' B all ads :=
  ⟨h.1, h.2.1, fun a ha => ⟨(h.2.2.1 a ha).1, Nat.lt_of_lt_of_le (h.2.2.1 a ha).2 hc.size⟩, fun i e a he ha => (h.2.2.2 i e a he ha).chg hc (hn a (List.mem_of_getElem? ha))⟩
theorem Ents.below {w w' : World} {B : Nat} {all : List Rc} {ads : List Nat} (h : Ents w B all ads) (hb : Below w.heap.size w w') : Ents w' B all ads := h.chg (Flow.Chg.of_below hb) (fun _ _ e => e)
theorem Ents.push {w : World} {B : Nat} {all : List Rc} {ads : List Nat} (h : Ents w B all ads) {a : Nat} (hB : B ≤ a) (ha : a ∉ ads) {e : Rc} (hb : Flow.Blk w a 118 #[.int .i64 5, .int .i64 e.ky, .string ⟨#[]⟩, .bool false, .string ⟨#[]⟩, .int .i64 e.op, .int .i64 e.st, .int .i64 e.en, .int .i64 e.er, .bool false, .string ⟨#[]⟩, .int .u32 e.an, .int .u8 0, .int .u8 0, .bool e.wr]) : Ents w B (all ++ [e]) (ads ++ [a]) := by
  refine ⟨by simp [h.1], ?_, fun x hx => ?_, fun i x a' hx ha' => ?_⟩
  · refine List.nodup_append.2 ⟨h.2.1, by simp, fun x hx y hy e => ?_⟩
    rw [List.mem_singleton] at hy
    subst hy e
    exact ha hx
  · rcases List.mem_append.1 hx with hx | hx
    · exact h.2.2.1 x hx
    · rw [List.mem_singleton] at hx; subst hx; exact ⟨hB, hb.lt⟩
  · by_cases hi : i < all.length
    · rw [List.getElem?_append_left hi] at hx
      rw [List.getElem?_append_left (by have := h.1; omega)] at ha'
      exact h.2.2.2 i x a' hx ha'
    · have hi2 : i = all.length := by have := (List.getElem?_eq_some_iff.1 hx).1; simp at this; omega
      subst hi2
      rw [List.getElem?_append_right (Nat.le_refl _)] at hx
      rw [← h.1, List.getElem?_append_right (Nat.le_refl _)] at ha'
      simp at hx ha'
      subst hx ha'
      exact hb
/-- One entry's block written anew. -/
theorem Ents.set {w w' : World} {B : Nat} {all : List Rc} {ads : List Nat} (h : Ents w B all ads) {i a : Nat} (ha : ads[i]? = some a) (hc : Flow.Chg (· = a) w w') {e : Rc} (hb : Flow.Blk w' a 118 #[.int .i64 5, .int .i64 e.ky, .string ⟨#[]⟩, .bool false, .string ⟨#[]⟩, .int .i64 e.op, .int .i64 e.st, .int .i64 e.en, .int .i64 e.er, .bool false, .string ⟨#[]⟩, .int .u32 e.an, .int .u8 0, .int .u8 0, .bool e.wr]) : Ents w' B (all.set i e) ads := by
  refine ⟨by simp [h.1], h.2.1, fun x hx => ⟨(h.2.2.1 x hx).1, Nat.lt_of_lt_of_le (h.2.2.1 x hx).2 hc.size⟩, fun j x a' hx ha' => ?_⟩
  have hil := (List.getElem?_eq_some_iff.1 ha).1
  by_cases hij : i = j
  · subst hij
    rw [List.getElem?_set_self (by have := h.1; omega)] at hx
    rw [ha] at ha'
    cases hx
    cases ha'
    exact hb
  · rw [List.getElem?_set_ne hij] at hx
    have hne : a' ≠ a := fun e1 => by
      subst e1
      exact hij ((List.getElem?_inj hil h.2.1).1 (ha.trans ha'.symm))
    exact (h.2.2.2 j x a' hx ha').chg hc hne
/-- The step, where the entry is at a place. -/
theorem map_set {all : List Rc} {i : Nat} {e r : Rc} (hp : all.Pairwise (fun x y => x.same y = false)) (he : all[i]? = some e) (hs : e.same r = true) : all.map (fun x => if x.same r = true then x.upd r else x) = all.set i (e.upd r) := by
  apply List.ext_getElem?
  intro j
  rw [List.getElem?_map]
  by_cases hij : i = j
  · subst hij
    rw [List.getElem?_set_self (List.getElem?_eq_some_iff.1 he).1, he]
    simp [hs]
  · rw [List.getElem?_set_ne hij]
    rcases hx : all[j]? with _ | x
    · rfl
    · simp only [Option.map_some, Option.some.injEq]
      have hxs : x.same r = false := by
        rcases hq : x.same r with _ | _
        · rfl
        · exfalso
          have h1 := (List.getElem?_eq_some_iff.1 he)
          have h2 := (List.getElem?_eq_some_iff.1 hx)
          have hxe : ∀ {p q : Rc}, p.same q = false → (p.same r = true) → q.same r = true → False := fun {p q} h h1 h2 => by
            have := same_congr (a := p) (b := r) h1 q
            rw [this, same_comm, h2] at h
            cases h
          rcases Nat.lt_or_gt_of_ne hij with hlt | hlt
          · have := List.pairwise_iff_getElem.1 hp i j h1.1 h2.1 hlt
            rw [h1.2, h2.2] at this
            exact hxe this hs hq
          · have := List.pairwise_iff_getElem.1 hp j i h2.1 h1.1 hlt
            rw [h1.2, h2.2] at this
            exact hxe this hq hs
      rw [hxs]
      simp
theorem stepE_refused {a : List Rc} {r : Rc} (h : r.refused = true) : stepE a r = a := by unfold stepE; rw [if_pos h]
theorem stepE_new {a : List Rc} {r : Rc} (h : r.refused = false) (hn : ∀ e ∈ a, e.same r = false) : stepE a r = a ++ [r.new.upd r] := by unfold stepE; rw [if_neg (by rw [h]; simp), if_pos hn]
theorem stepE_old {a : List Rc} {r : Rc} (h : r.refused = false) (hp : a.Pairwise (fun x y => x.same y = false)) {i : Nat} {e : Rc} (he : a[i]? = some e) (hs : e.same r = true) : stepE a r = a.set i (e.upd r) := by
  unfold stepE
  rw [if_neg (by rw [h]; simp), if_neg (fun c => by have := c e (List.mem_of_getElem? he); rw [hs] at this; cases this), map_set hp he hs]
theorem refFrom_apart (l : List Rc) : ∀ k, (refFrom [] (l.take k)).Pairwise (fun x y => x.same y = false)
  | 0 => by simp [refFrom]
  | k + 1 => by
    rcases hx : l[k]? with _ | x
    · rw [List.take_add_one, hx]; simpa using refFrom_apart l k
    · rw [List.take_add_one, hx]
      show (refFrom [] (l.take k ++ [x])).Pairwise _
      rw [refFrom_step]
      exact stepE_apart _ _ (refFrom_apart l k)
theorem refFrom_at {l : List Rc} {k : Nat} {r : Rc} (h : l[k]? = some r) : refFrom [] (l.take (k + 1)) = stepE (refFrom [] (l.take k)) r := by
  rw [List.take_add_one, h]
  exact refFrom_step _ _
theorem refFrom_len (l : List Rc) : ∀ pre, (refFrom pre l).length ≤ l.length := by
  induction l with
  | nil => intro pre; simp [refFrom]
  | cons x l ih =>
    intro pre
    simp only [refFrom, List.length_append, List.length_cons]
    have := ih (pre ++ [x])
    split <;> simp <;> omega
end Go.Proofs.Ythkphapmnlndbab
