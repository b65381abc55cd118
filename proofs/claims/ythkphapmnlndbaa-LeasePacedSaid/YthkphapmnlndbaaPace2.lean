/- slices.IndexFunc and slices.DeleteFunc on a pace's spans. -/
import Derived.Test.YthkphapmnlndbaaPace1
namespace Go.Proofs.Ythkphapmnlndbaa
open Go.RowKit
set_option maxHeartbeats 800000
set_option linter.unusedSimpArgs false
attribute [local irreducible] Flow.wpSeg Flow.wpF Flow.wpG Flow.wpS Flow.wpT
theorem row_tch {w : World} {B B' n : Nat} {v : Value} {l : List Sp} {x : List Value} (h : w.ownsRow B' 115 1 v n x) (hs : Sps w B l) : ∀ g, v.ownBlock = some g → ¬ Tch l g := by
  rintro g hg ⟨s, hm, rfl⟩
  exact Flow.row_ne h (hs.all s hm).sp (by decide) hg
/-- What slices.IndexFunc has found, and done. -/
def Idx (B : Nat) (l : List Sp) (up : PS → PS) (dl : PS → Bool) (w : World) (e : Ending) (w' : World) : Prop :=
  ∃ r : Int, e = .returned (.int .i64 r) ∧ Flow.Chg (Tch l) w w' ∧
    ((r = -1 ∧ Sps w' B (l.map (upS up)) ∧ ∀ s ∈ l, dl (up s.p) = false) ∨ ∃ a s b, l = a ++ s :: b ∧ r = a.length ∧ (∀ x ∈ a, dl (up x.p) = false) ∧ dl (up s.p) = true ∧ Sps w' B (a.map (upS up) ++ upS up s :: b))
/-- What slices.DeleteFunc has left. -/
def Del (B : Nat) (l : List Sp) (up : PS → PS) (dl : PS → Bool) (v : Value) (w : World) (e : Ending) (w' : World) : Prop :=
  ∃ v' l', e = .returned v' ∧ l' = (l.map (upS up)).filter (fun s => !dl s.p) ∧ w'.ownsRow B 115 1 v' l'.length (ptrs l') ∧ Sps w' B l' ∧ v'.ownBlock = v.ownBlock ∧ Flow.Chg (fun j => some j = v.ownBlock ∨ Tch l j) w w'
/-- Of an own row, the pointer at a place. -/
theorem row_at {w : World} {B n : Nat} {v : Value} {a b : List Sp} {s : Sp} (h : w.ownsRow B 115 1 v n (ptrs (a ++ s :: b))) :
    ∃ g cap, v = .slice (some ⟨g, 0, none⟩) n cap ∧ g < w.heap.size ∧ a.length < n ∧ w.cell? ⟨g, a.length, none⟩ = some (.pointer (some ⟨s.sb, 0, none⟩)) := by
  have hl := h.1
  rw [ptrs_length] at hl
  simp only [List.length_append, List.length_cons, Nat.mul_one] at hl
  obtain ⟨g, cap, rfl, _, hlt, _, hcell, _⟩ := Flow.ownsRow_at h (by omega)
  refine ⟨g, cap, rfl, hlt, by omega, ?_⟩
  rw [hcell _ (by omega)]
  exact ptrs_at a b s
theorem One.tch {B : Nat} {a b l : List Sp} {s : Sp} {up : PS → PS} {dl : PS → Bool} {w : World} {e : Ending} {w' : World} (h : One B s up dl w e w') (hs : Sps w B (a ++ s :: b)) (hm : s ∈ l) : Sps w' B (a ++ upS up s :: b) ∧ Flow.Chg (Tch l) w w' :=
  ⟨hs.set (h.2.2.mono (fun _ _ e => .inl e)) rfl rfl h.2.1, h.2.2.mono (fun _ _ e => ⟨s, hm, e⟩)⟩
theorem pidxN (v : Value) (n : Nat) (l : List Sp) (B g ib pb : Nat) (a0 a1 hold a3 i : Int) (u : Value) (bb : Bool) (w : World) (hrow : w.ownsRow B 115 1 v n (ptrs l)) (hl : l.length = n) (hn : n ≤ 1000000)
    (hs : Sps w B l) (he : EnvN w g ib pb a0 a1 hold a3 i u bb) (ht : ∀ s ∈ l, 0 ≤ s.p.ticks ∧ s.p.ticks ≤ 1000000) :
    Calls Try.prog 66 #[v, .func (.func 64) #[] #[.pointer (some ⟨ib, 0, none⟩), .pointer (some ⟨pb, 0, none⟩)]] w (Idx B l (upN i) (dlN hold) w) := by
  obtain ⟨A, cap, hv, _⟩ := Flow.ownsRow_form hrow
  subst hv
  have HR := Flow.hide hrow
  have HL := Flow.hide hl
  have HS := Flow.hide hs
  have HE := Flow.hide he
  have HT := Flow.hide ht
  clear hrow hl hs he ht
  go_enter Try.func66, Try.ntmps66
  go_wp2_with fail
  go_loopw [8] (fun i8 wr => ∃ (k : Nat) (a b : List Sp), l = a ++ b ∧ a.length = k ∧ i8 = .int .i64 k ∧ (∀ x ∈ a, (dlN hold) (upN i x.p) = false) ∧ Sps wr B (a.map (upS (upN i)) ++ b) ∧ Flow.Chg (Tch l) w wr) (fun i8 _ => n - (intOf i8).toNat)
  case atStart => exact ⟨0, [], l, rfl, rfl, rfl, fun _ h => (by cases h), HS.out, Flow.Chg.refl _ _⟩
  case round =>
    obtain ⟨k, a, b, hab, hak, rfl, hno, hsp, hc⟩ := hrel
    have HAB := Flow.hide hab
    have HAK := Flow.hide hak
    have HNO := Flow.hide hno
    have HC := Flow.hide hc
    have HSP := Flow.hide hsp
    have HRW := Flow.ownsRow_chg HR.out hc (row_tch HR.out HS.out)
    clear hab hak hno hc hsp
    rcases b with _ | ⟨s, b⟩
    · have hkn : k = n := by rw [← HAK.out, ← HL.out, HAB.out]; simp
      have hkI : ¬ (k : Int) < (n : Int) := by omega
      have HKN := Flow.hide hkn
      clear hkn HRW
      go_wp2_with fail
      go_ret
      refine ⟨-1, rfl, HC.out, .inl ⟨rfl, ?_, ?_⟩⟩
      · have h1 := HSP.out
        rw [List.append_nil] at h1
        rw [HAB.out, List.append_nil]
        exact h1
      · intro s hs
        rw [HAB.out, List.append_nil] at hs
        exact HNO.out s hs
    · rw [HAB.out] at HRW
      obtain ⟨gr, cap', e1, hgr, hkn, hcell⟩ := row_at HRW
      cases e1
      rw [HAK.out] at hkn hcell
      have hknI : (k : Int) < (n : Int) := by omega
      have HM := Flow.hide (show s ∈ l by rw [HAB.out]; simp)
      have hsw : SpAt wr B s := HSP.out.all s (by simp)
      have HSW := Flow.hide hsw
      have HEW := Flow.hide (HE.out.tch HS.out HC.out)
      have HRW' := Flow.hide HRW
      have hdd : ∃ d, d = (dlN hold) (upN i s.p) := ⟨_, rfl⟩
      obtain ⟨d, hd⟩ := hdd
      have HD := Flow.hide hd
      clear hd hsw HRW
      go_wp2_with fail
      (with_reducible refine (cl64 s B g ib pb a0 a1 hold a3 i u bb _ HEW.out HSW.out (HT.out s HM.out)).mono ?_)
      rintro e w1 ⟨rfl, hs1, hc1⟩
      rw [← HD.out]
      have ho : One B s (upN i) (dlN hold) wr (.returned (.bool ((dlN hold) (upN i s.p)))) w1 := ⟨rfl, hs1, hc1⟩
      obtain ⟨hs2, hc2⟩ := ho.tch (l := l) HSP.out HM.out
      have HS2 := Flow.hide hs2
      have HC2 := Flow.hide (HC.out.trans hc2 (fun _ _ e => e))
      clear hs1 hc1 ho hs2 hc2 HEW HSW HRW' HSP HC hcell
      rcases d with _ | _
      · go_wp2_with fail
        go_roundw
        case rel =>
          refine ⟨k + 1, a ++ [s], b, by rw [HAB.out]; simp, by rw [List.length_append, HAK.out]; rfl, by go_num, fun x hx => ?_, by have := HS2.out; simpa using this, HC2.out⟩
          rcases List.mem_append.1 hx with h | h
          · exact HNO.out x h
          · simp at h; subst h; exact HD.out.symm
        case measure => simp [intOf]; omega
      · go_wp2_with fail
        go_ret
        exact ⟨k, rfl, HC2.out, .inr ⟨a, s, b, HAB.out, by rw [HAK.out], HNO.out, HD.out.symm, HS2.out⟩⟩
theorem pidxS (v : Value) (n : Nat) (l : List Sp) (B g ib pb : Nat) (a0 a1 hold a3 i : Int) (u : Value) (bb : Bool) (w : World) (hrow : w.ownsRow B 115 1 v n (ptrs l)) (hl : l.length = n) (hn : n ≤ 1000000)
    (hs : Sps w B l) (he : EnvS w g ib pb a0 a1 hold a3 i u bb) (ht : ∀ s ∈ l, 0 ≤ s.p.ticks ∧ s.p.ticks ≤ 1000000) :
    Calls Try.prog 66 #[v, .func (.func 65) #[] #[.pointer (some ⟨ib, 0, none⟩)]] w (Idx B l (upI i) (dlS i) w) := by
  obtain ⟨A, cap, hv, _⟩ := Flow.ownsRow_form hrow
  subst hv
  have HR := Flow.hide hrow
  have HL := Flow.hide hl
  have HS := Flow.hide hs
  have HE := Flow.hide he
  have HT := Flow.hide ht
  clear hrow hl hs he ht
  go_enter Try.func66, Try.ntmps66
  go_wp2_with fail
  go_loopw [8] (fun i8 wr => ∃ (k : Nat) (a b : List Sp), l = a ++ b ∧ a.length = k ∧ i8 = .int .i64 k ∧ (∀ x ∈ a, (dlS i) (upI i x.p) = false) ∧ Sps wr B (a.map (upS (upI i)) ++ b) ∧ Flow.Chg (Tch l) w wr) (fun i8 _ => n - (intOf i8).toNat)
  case atStart => exact ⟨0, [], l, rfl, rfl, rfl, fun _ h => (by cases h), HS.out, Flow.Chg.refl _ _⟩
  case round =>
    obtain ⟨k, a, b, hab, hak, rfl, hno, hsp, hc⟩ := hrel
    have HAB := Flow.hide hab
    have HAK := Flow.hide hak
    have HNO := Flow.hide hno
    have HC := Flow.hide hc
    have HSP := Flow.hide hsp
    have HRW := Flow.ownsRow_chg HR.out hc (row_tch HR.out HS.out)
    clear hab hak hno hc hsp
    rcases b with _ | ⟨s, b⟩
    · have hkn : k = n := by rw [← HAK.out, ← HL.out, HAB.out]; simp
      have hkI : ¬ (k : Int) < (n : Int) := by omega
      have HKN := Flow.hide hkn
      clear hkn HRW
      go_wp2_with fail
      go_ret
      refine ⟨-1, rfl, HC.out, .inl ⟨rfl, ?_, ?_⟩⟩
      · have h1 := HSP.out
        rw [List.append_nil] at h1
        rw [HAB.out, List.append_nil]
        exact h1
      · intro s hs
        rw [HAB.out, List.append_nil] at hs
        exact HNO.out s hs
    · rw [HAB.out] at HRW
      obtain ⟨gr, cap', e1, hgr, hkn, hcell⟩ := row_at HRW
      cases e1
      rw [HAK.out] at hkn hcell
      have hknI : (k : Int) < (n : Int) := by omega
      have HM := Flow.hide (show s ∈ l by rw [HAB.out]; simp)
      have hsw : SpAt wr B s := HSP.out.all s (by simp)
      have HSW := Flow.hide hsw
      have HEW := Flow.hide (HE.out.tch HS.out HC.out)
      have HRW' := Flow.hide HRW
      have hdd : ∃ d, d = (dlS i) (upI i s.p) := ⟨_, rfl⟩
      obtain ⟨d, hd⟩ := hdd
      have HD := Flow.hide hd
      clear hd hsw HRW
      go_wp2_with fail
      (with_reducible refine (cl65 s B g ib pb a0 a1 hold a3 i u bb _ HEW.out HSW.out ).mono ?_)
      rintro e w1 ⟨rfl, hs1, hc1⟩
      rw [← HD.out]
      have ho : One B s (upI i) (dlS i) wr (.returned (.bool ((dlS i) (upI i s.p)))) w1 := ⟨rfl, hs1, hc1⟩
      obtain ⟨hs2, hc2⟩ := ho.tch (l := l) HSP.out HM.out
      have HS2 := Flow.hide hs2
      have HC2 := Flow.hide (HC.out.trans hc2 (fun _ _ e => e))
      clear hs1 hc1 ho hs2 hc2 HEW HSW HRW' HSP HC hcell
      rcases d with _ | _
      · go_wp2_with fail
        go_roundw
        case rel =>
          refine ⟨k + 1, a ++ [s], b, by rw [HAB.out]; simp, by rw [List.length_append, HAK.out]; rfl, by go_num, fun x hx => ?_, by have := HS2.out; simpa using this, HC2.out⟩
          rcases List.mem_append.1 hx with h | h
          · exact HNO.out x h
          · simp at h; subst h; exact HD.out.symm
        case measure => simp [intOf]; omega
      · go_wp2_with fail
        go_ret
        exact ⟨k, rfl, HC2.out, .inr ⟨a, s, b, HAB.out, by rw [HAK.out], HNO.out, HD.out.symm, HS2.out⟩⟩
theorem tch_mid {l a b : List Sp} {s : Sp} (f : PS → PS) (h : l = a ++ s :: b) (j : Nat) : Tch (a.map (upS f) ++ s :: b) j ↔ Tch l j := by rw [h, Tch_app, Tch_app, Tch_up]
theorem EnvN.both {w w' : World} {g ib pb B B' n : Nat} {a0 a1 hold a3 i : Int} {u v : Value} {b : Bool} {l : List Sp} {x : List Value} (h : EnvN w g ib pb a0 a1 hold a3 i u b) (hr : w.ownsRow B' 115 1 v n x) (hs : Sps w B l) (hc : Flow.Chg (fun j => some j = v.ownBlock ∨ Tch l j) w w') : EnvN w' g ib pb a0 a1 hold a3 i u b :=
  h.chg hc (fun e => e.elim (fun e => Flow.row_ne hr h.k (by decide) e.symm) (hs.ne_sb h.k (by decide))) (fun e => e.elim (fun e => Flow.row_ne hr h.i (by decide) e.symm) (hs.ne_sb h.i (by decide))) (fun e => e.elim (fun e => Flow.row_ne hr h.p (by decide) e.symm) (hs.ne_sb h.p (by decide)))
theorem EnvS.both {w w' : World} {g ib pb B B' n : Nat} {a0 a1 hold a3 i : Int} {u v : Value} {b : Bool} {l : List Sp} {x : List Value} (h : EnvS w g ib pb a0 a1 hold a3 i u b) (hr : w.ownsRow B' 115 1 v n x) (hs : Sps w B l) (hc : Flow.Chg (fun j => some j = v.ownBlock ∨ Tch l j) w w') : EnvS w' g ib pb a0 a1 hold a3 i u b :=
  h.chg hc (fun e => e.elim (fun e => Flow.row_ne hr h.k (by decide) e.symm) (hs.ne_sb h.k (by decide))) (fun e => e.elim (fun e => Flow.row_ne hr h.i (by decide) e.symm) (hs.ne_sb h.i (by decide)))
def left (up : PS → PS) (dl : PS → Bool) (a : List Sp) : List Sp := (a.map (upS up)).filter (fun s => !dl s.p)
theorem left_snoc (up : PS → PS) (dl : PS → Bool) (a : List Sp) (s : Sp) : left up dl (a ++ [s]) = left up dl a ++ if dl (up s.p) then [] else [upS up s] := by
  unfold left
  rw [List.map_append, List.filter_append]
  congr 1
  rcases h : dl (up s.p) with _ | _ <;> simp [upS, h]
theorem left_all {up : PS → PS} {dl : PS → Bool} {a : List Sp} (h : ∀ x ∈ a, dl (up x.p) = false) : left up dl a = a.map (upS up) := by
  unfold left
  rw [List.filter_eq_self]
  intro s hs
  obtain ⟨t, ht, rfl⟩ := List.mem_map.1 hs
  simp [upS, h t ht]
theorem row_keep {w w' : World} {g k n cap B : Nat} {xs : List Value} (h : w.ownsRow B 115 1 (.slice (some ⟨g, 0, none⟩) n cap) n xs) (u : Value) (he : w' = w.setCell ⟨g, k, none⟩ u) :
    w'.ownsRow B 115 1 (.slice (some ⟨g, 0, none⟩) n cap) n (xs.set k u) ∧ Flow.Chg (· = g) w w' := by
  subst he
  obtain ⟨h1, h2⟩ := h.stored k u
  exact ⟨h1, Flow.Chg.of_grown1 h2⟩
theorem take_put (xs : List Value) (k : Nat) (u : Value) (h : k < xs.length) : (xs.set k u).take (k + 1) = xs.take k ++ [u] := by
  induction xs generalizing k with
  | nil => simp at h
  | cons x xs ih =>
    match k with
    | 0 => simp
    | k + 1 => simp only [List.set_cons_succ, List.take_succ_cons, List.cons_append]; rw [ih k (by simpa using h)]
theorem pdelN (v : Value) (n : Nat) (l : List Sp) (B g ib pb : Nat) (a0 a1 hold a3 i : Int) (u : Value) (bb : Bool) (w : World) (hrow : w.ownsRow B 115 1 v n (ptrs l)) (hl : l.length = n) (hn : n ≤ 1000000)
    (hs : Sps w B l) (he : EnvN w g ib pb a0 a1 hold a3 i u bb) (ht : ∀ s ∈ l, 0 ≤ s.p.ticks ∧ s.p.ticks ≤ 1000000) :
    Calls Try.prog 63 #[v, .func (.func 64) #[] #[.pointer (some ⟨ib, 0, none⟩), .pointer (some ⟨pb, 0, none⟩)]] w (Del B l (upN i) (dlN hold) v w) := by
  obtain ⟨A, cap, hv, hcap, _⟩ := Flow.ownsRow_form hrow
  subst hv
  have HR := Flow.hide hrow
  have HL := Flow.hide hl
  have HS := Flow.hide hs
  have HE := Flow.hide he
  have HT := Flow.hide ht
  clear hrow hl hs he ht
  go_enter Try.func63, Try.ntmps63
  go_wp2_with fail
  (with_reducible refine (pidxN _ n l B g ib pb a0 a1 hold a3 i u bb _ HR.out HL.out hn HS.out HE.out HT.out).mono ?_)
  rintro e w1 ⟨r, rfl, hc1, hor⟩
  have HRW := Flow.ownsRow_chg HR.out hc1 (row_tch HR.out HS.out)
  rcases hor with ⟨rfl, hsp, hno⟩ | ⟨a, s, b, hab, rfl, hno, hyes, hsp⟩
  · have HNO := Flow.hide hno
    have HSP := Flow.hide hsp
    have HC1 := Flow.hide hc1
    have HRW' := Flow.hide HRW
    clear hno hsp hc1 HRW
    go_wp2_with fail
    go_ret
    refine ⟨_, _, rfl, (left_all HNO.out).symm, ?_, HSP.out, rfl, HC1.out.mono (fun _ _ e => .inr e)⟩
    rw [ptrs_up, List.length_map, HL.out]
    exact HRW'.out
  · obtain ⟨k, hk⟩ : ∃ k, k = a.length := ⟨_, rfl⟩
    have hkn : k < n := by rw [hk, ← HL.out, hab]; simp
    have START : Hid (∃ (a b : List Sp) (xs : List Value), l = a ++ b ∧ a.length = k + 1 ∧ (left (upN i) (dlN hold) a).length = k ∧ w1.ownsRow B 115 1 (.slice A n cap) n xs ∧ xs.take k = ptrs (left (upN i) (dlN hold) a) ∧ xs.drop (k + 1) = ptrs b ∧ Sps w1 B (a.map (upS (upN i)) ++ b) ∧ Flow.Chg (fun j => some j = (Value.slice A n cap).ownBlock ∨ Tch l j) w w1) := by
      have e1 : left (upN i) (dlN hold) (a ++ [s]) = a.map (upS (upN i)) := by rw [left_snoc, left_all hno, hyes]; simp
      refine ⟨a ++ [s], b, ptrs l, by rw [hab]; simp, by rw [List.length_append, hk]; rfl, by rw [e1, List.length_map, hk], HRW, ?_, ?_, by simpa using hsp, hc1.mono (fun _ _ e => .inr e)⟩
      · rw [e1, ptrs_up, hab, ptrs_app, hk]
        exact List.take_left' (ptrs_length a)
      · rw [hab, show a ++ s :: b = (a ++ [s]) ++ b by simp, ptrs_app, hk]
        exact List.drop_left' (by rw [ptrs_length]; simp)
    have hk1 : ((k : Int) == -1) = false := by rw [beq_eq_false_iff_ne]; omega
    rw [← hk]
    have hknI : (k : Int) < (n : Int) := by omega
    clear hab hno hyes hsp hc1 HRW hk
    go_wp2_with fail
    go_loopw [5, 6] (fun t5 t6 wr => ∃ (k m : Nat), t5 = .int .i64 k ∧ t6 = .int .i64 m ∧ k < m ∧ m ≤ n ∧ (∃ (a b : List Sp) (xs : List Value), l = a ++ b ∧ a.length = m ∧ (left (upN i) (dlN hold) a).length = k ∧ wr.ownsRow B 115 1 (.slice A n cap) n xs ∧ xs.take k = ptrs (left (upN i) (dlN hold) a) ∧ xs.drop m = ptrs b ∧ Sps wr B (a.map (upS (upN i)) ++ b) ∧ Flow.Chg (fun j => some j = (Value.slice A n cap).ownBlock ∨ Tch l j) w wr)) (fun _ t6 _ => n - (intOf t6).toNat)
    case atStart => exact ⟨k, k + 1, rfl, by go_num, by omega, by omega, START.out⟩
    case round =>
      clear hk1 START hknI hkn
      obtain ⟨k, m, rfl, rfl, hkm, hmn, a, b, xs, hab, ham, hlk, hrw, htk, hdr, hsp, hc⟩ := hrel
      have hknI : (k : Int) < (n : Int) := by omega
      have hkcI : (k : Int) ≤ (cap : Int) := by omega
      have hkc : k < cap := by omega
      have hkm' : ¬ cap = k := by omega
      obtain ⟨gr, cap', e1, hBg, hgr, _, hcells, hfroz⟩ := Flow.ownsRow_at hrw (by omega)
      cases e1
      have HAB := Flow.hide hab
      have HAM := Flow.hide ham
      have HLK := Flow.hide hlk
      have HRW := Flow.hide hrw
      have HTK := Flow.hide htk
      have HDR := Flow.hide hdr
      have HSP := Flow.hide hsp
      have HC := Flow.hide hc
      have HCE := Flow.hide hcells
      have HFR := Flow.hide hfroz
      clear hab ham hlk hrw htk hdr hsp hc hcells hfroz
      rcases b with _ | ⟨s, b⟩
      · have hmn' : m = n := by rw [← HAM.out, ← HL.out, HAB.out]; simp
        subst hmn'
        have hmI : ¬ (m : Int) < (m : Int) := by omega
        obtain ⟨w2, hclr, hown2, hc2⟩ := clear_tail HRW.out k hkm 111 Try.underlying111 (z := .pointer none) rfl rfl (fun w => by kernel_rfl)
        have HO2 := Flow.hide hown2
        have HC2 := Flow.hide hc2
        have HGR : Hid (∀ s ∈ a.map (upS (upN i)) ++ [], ¬ s.sb = gr ∧ ¬ s.mb = gr) := fun s hs => ⟨fun e => Flow.row_ne HRW.out (HSP.out.all s hs).sp (by decide) (by rw [e]; rfl), fun e => Flow.row_ne HRW.out (HSP.out.all s hs).ms (by decide) (by rw [e]; rfl)⟩
        clear hown2 hc2
        go_wp2_with fail
        go_ret
        have hleft : left (upN i) (dlN hold) a = (l.map (upS (upN i))).filter (fun s => !(dlN hold) s.p) := by rw [HAB.out, List.append_nil]; rfl
        refine ⟨_, left (upN i) (dlN hold) a, rfl, hleft, ?_, ?_, rfl, HC.out.trans HC2.out (fun j _ e => .inl (by rw [e]; rfl))⟩
        · rw [HLK.out, ← HTK.out]
          exact HO2.out
        · refine ((HSP.out.chg HC2.out HGR.out).sub ?_)
          rw [List.append_nil]
          exact List.filter_sublist
      · have hml : m < n := by rw [← HAM.out, ← HL.out, HAB.out]; simp
        have hmI : (m : Int) < (n : Int) := by omega
        have hcell : wr.cell? ⟨gr, m, none⟩ = some (.pointer (some ⟨s.sb, 0, none⟩)) := by
          rw [HCE.out m (by omega)]
          have h := congrArg (fun l => l[0]?) HDR.out
          simpa [ptrs] using h
        have HM := Flow.hide (show s ∈ l by rw [HAB.out]; simp)
        have HSW := Flow.hide (HSP.out.all s (by simp))
        have HEW := Flow.hide (HE.out.both HR.out HS.out HC.out)
        obtain ⟨d, hd⟩ : ∃ d, d = (dlN hold) (upN i s.p) := ⟨_, rfl⟩
        have HD := Flow.hide hd
        clear hd
        go_wp2_with fail
        (with_reducible refine (cl64 s B g ib pb a0 a1 hold a3 i u bb _ HEW.out HSW.out (HT.out s HM.out)).mono ?_)
        rintro e w2 ⟨rfl, hs1, hc1⟩
        rw [← HD.out]
        have ho : One B s (upN i) (dlN hold) wr (.returned (.bool ((dlN hold) (upN i s.p)))) w2 := ⟨rfl, hs1, hc1⟩
        obtain ⟨hs2, hc2⟩ := ho.tch (l := l) HSP.out HM.out
        have HS2 := Flow.hide hs2
        have HC2 := Flow.hide (HC.out.trans hc2 (fun _ _ e => .inr e))
        have hr2 := Flow.ownsRow_chg HRW.out hc1 (fun j hj e => Flow.row_ne HRW.out HSW.out.sp (by decide) (by rw [hj, e]))
        have hfr := hr2.frozenAt k
        have hcl := hr2.cellAt k (by omega)
        have hxl : xs.length = n := by have := HRW.out.1; omega
        obtain ⟨uu, hu⟩ : ∃ uu, xs[k]? = some uu := ⟨_, List.getElem?_eq_getElem (by omega)⟩
        have hgr2 : gr < w2.heap.size := hc1.lt hgr
        rw [hu] at hcl
        have HR2 := Flow.hide hr2
        have HXL := Flow.hide hxl
        clear hs1 hc1 ho hs2 hc2 HEW HSW HSP HC hcell HRW hr2 hu hgr HCE HFR hxl
        have hl2 : Hid (left (upN i) (dlN hold) (a ++ [s]) = left (upN i) (dlN hold) a ++ if d then [] else [upS (upN i) s]) := by rw [HD.out]; exact left_snoc _ _ _ _
        have hdr1 := Flow.hide (show xs.drop (m + 1) = ptrs b by
          have h := congrArg (fun l => l.drop 1) HDR.out
          rw [show m + 1 = 1 + m by omega]
          simpa [ptrs, List.drop_drop, Nat.add_comm] using h)
        rcases d with _ | _
        · go_wp2_with fail
          obtain ⟨hr3, hc3⟩ := row_keep HR2.out (k := k) (.pointer (some ⟨s.sb, 0, none⟩)) rfl
          have HGR : ∀ t ∈ a.map (upS (upN i)) ++ upS (upN i) s :: b, ¬ t.sb = gr ∧ ¬ t.mb = gr := fun t ht => ⟨fun e => Flow.row_ne HR2.out (HS2.out.all t ht).sp (by decide) (by rw [e]; rfl), fun e => Flow.row_ne HR2.out (HS2.out.all t ht).ms (by decide) (by rw [e]; rfl)⟩
          go_roundw
          case rel =>
            refine ⟨k + 1, m + 1, by go_num, by go_num, by omega, by omega, a ++ [s], b, xs.set k (.pointer (some ⟨s.sb, 0, none⟩)), by rw [HAB.out]; simp, by rw [List.length_append, HAM.out]; rfl, by rw [hl2.out, List.length_append, HLK.out]; rfl, hr3, ?_, ?_, ?_, HC2.out.trans hc3 (fun j _ e => .inl (by rw [e]; rfl))⟩
            · rw [hl2.out, ptrs_app, ← HTK.out]; exact take_put xs k _ (by rw [HXL.out]; omega)
            · rw [List.drop_set, if_pos (by omega)]
              exact hdr1.out
            · have h := HS2.out.chg hc3 HGR
              simpa using h
          case measure => simp [intOf]; omega
        · go_wp2_with fail
          go_roundw
          case rel =>
            refine ⟨k, m + 1, rfl, by go_num, by omega, by omega, a ++ [s], b, xs, by rw [HAB.out]; simp, by rw [List.length_append, HAM.out]; rfl, by rw [hl2.out]; simpa using HLK.out, HR2.out, by rw [hl2.out]; simpa using HTK.out, hdr1.out, by simpa using HS2.out, HC2.out⟩
          case measure => simp [intOf]; omega
theorem pdelS (v : Value) (n : Nat) (l : List Sp) (B g ib pb : Nat) (a0 a1 hold a3 i : Int) (u : Value) (bb : Bool) (w : World) (hrow : w.ownsRow B 115 1 v n (ptrs l)) (hl : l.length = n) (hn : n ≤ 1000000)
    (hs : Sps w B l) (he : EnvS w g ib pb a0 a1 hold a3 i u bb) (ht : ∀ s ∈ l, 0 ≤ s.p.ticks ∧ s.p.ticks ≤ 1000000) :
    Calls Try.prog 63 #[v, .func (.func 65) #[] #[.pointer (some ⟨ib, 0, none⟩)]] w (Del B l (upI i) (dlS i) v w) := by
  obtain ⟨A, cap, hv, hcap, _⟩ := Flow.ownsRow_form hrow
  subst hv
  have HR := Flow.hide hrow
  have HL := Flow.hide hl
  have HS := Flow.hide hs
  have HE := Flow.hide he
  have HT := Flow.hide ht
  clear hrow hl hs he ht
  go_enter Try.func63, Try.ntmps63
  go_wp2_with fail
  (with_reducible refine (pidxS _ n l B g ib pb a0 a1 hold a3 i u bb _ HR.out HL.out hn HS.out HE.out HT.out).mono ?_)
  rintro e w1 ⟨r, rfl, hc1, hor⟩
  have HRW := Flow.ownsRow_chg HR.out hc1 (row_tch HR.out HS.out)
  rcases hor with ⟨rfl, hsp, hno⟩ | ⟨a, s, b, hab, rfl, hno, hyes, hsp⟩
  · have HNO := Flow.hide hno
    have HSP := Flow.hide hsp
    have HC1 := Flow.hide hc1
    have HRW' := Flow.hide HRW
    clear hno hsp hc1 HRW
    go_wp2_with fail
    go_ret
    refine ⟨_, _, rfl, (left_all HNO.out).symm, ?_, HSP.out, rfl, HC1.out.mono (fun _ _ e => .inr e)⟩
    rw [ptrs_up, List.length_map, HL.out]
    exact HRW'.out
  · obtain ⟨k, hk⟩ : ∃ k, k = a.length := ⟨_, rfl⟩
    have hkn : k < n := by rw [hk, ← HL.out, hab]; simp
    have START : Hid (∃ (a b : List Sp) (xs : List Value), l = a ++ b ∧ a.length = k + 1 ∧ (left (upI i) (dlS i) a).length = k ∧ w1.ownsRow B 115 1 (.slice A n cap) n xs ∧ xs.take k = ptrs (left (upI i) (dlS i) a) ∧ xs.drop (k + 1) = ptrs b ∧ Sps w1 B (a.map (upS (upI i)) ++ b) ∧ Flow.Chg (fun j => some j = (Value.slice A n cap).ownBlock ∨ Tch l j) w w1) := by
      have e1 : left (upI i) (dlS i) (a ++ [s]) = a.map (upS (upI i)) := by rw [left_snoc, left_all hno, hyes]; simp
      refine ⟨a ++ [s], b, ptrs l, by rw [hab]; simp, by rw [List.length_append, hk]; rfl, by rw [e1, List.length_map, hk], HRW, ?_, ?_, by simpa using hsp, hc1.mono (fun _ _ e => .inr e)⟩
      · rw [e1, ptrs_up, hab, ptrs_app, hk]
        exact List.take_left' (ptrs_length a)
      · rw [hab, show a ++ s :: b = (a ++ [s]) ++ b by simp, ptrs_app, hk]
        exact List.drop_left' (by rw [ptrs_length]; simp)
    have hk1 : ((k : Int) == -1) = false := by rw [beq_eq_false_iff_ne]; omega
    rw [← hk]
    have hknI : (k : Int) < (n : Int) := by omega
    clear hab hno hyes hsp hc1 HRW hk
    go_wp2_with fail
    go_loopw [5, 6] (fun t5 t6 wr => ∃ (k m : Nat), t5 = .int .i64 k ∧ t6 = .int .i64 m ∧ k < m ∧ m ≤ n ∧ (∃ (a b : List Sp) (xs : List Value), l = a ++ b ∧ a.length = m ∧ (left (upI i) (dlS i) a).length = k ∧ wr.ownsRow B 115 1 (.slice A n cap) n xs ∧ xs.take k = ptrs (left (upI i) (dlS i) a) ∧ xs.drop m = ptrs b ∧ Sps wr B (a.map (upS (upI i)) ++ b) ∧ Flow.Chg (fun j => some j = (Value.slice A n cap).ownBlock ∨ Tch l j) w wr)) (fun _ t6 _ => n - (intOf t6).toNat)
    case atStart => exact ⟨k, k + 1, rfl, by go_num, by omega, by omega, START.out⟩
    case round =>
      clear hk1 START hknI hkn
      obtain ⟨k, m, rfl, rfl, hkm, hmn, a, b, xs, hab, ham, hlk, hrw, htk, hdr, hsp, hc⟩ := hrel
      have hknI : (k : Int) < (n : Int) := by omega
      have hkcI : (k : Int) ≤ (cap : Int) := by omega
      have hkc : k < cap := by omega
      have hkm' : ¬ cap = k := by omega
      obtain ⟨gr, cap', e1, hBg, hgr, _, hcells, hfroz⟩ := Flow.ownsRow_at hrw (by omega)
      cases e1
      have HAB := Flow.hide hab
      have HAM := Flow.hide ham
      have HLK := Flow.hide hlk
      have HRW := Flow.hide hrw
      have HTK := Flow.hide htk
      have HDR := Flow.hide hdr
      have HSP := Flow.hide hsp
      have HC := Flow.hide hc
      have HCE := Flow.hide hcells
      have HFR := Flow.hide hfroz
      clear hab ham hlk hrw htk hdr hsp hc hcells hfroz
      rcases b with _ | ⟨s, b⟩
      · have hmn' : m = n := by rw [← HAM.out, ← HL.out, HAB.out]; simp
        subst hmn'
        have hmI : ¬ (m : Int) < (m : Int) := by omega
        obtain ⟨w2, hclr, hown2, hc2⟩ := clear_tail HRW.out k hkm 111 Try.underlying111 (z := .pointer none) rfl rfl (fun w => by kernel_rfl)
        have HO2 := Flow.hide hown2
        have HC2 := Flow.hide hc2
        have HGR : Hid (∀ s ∈ a.map (upS (upI i)) ++ [], ¬ s.sb = gr ∧ ¬ s.mb = gr) := fun s hs => ⟨fun e => Flow.row_ne HRW.out (HSP.out.all s hs).sp (by decide) (by rw [e]; rfl), fun e => Flow.row_ne HRW.out (HSP.out.all s hs).ms (by decide) (by rw [e]; rfl)⟩
        clear hown2 hc2
        go_wp2_with fail
        go_ret
        have hleft : left (upI i) (dlS i) a = (l.map (upS (upI i))).filter (fun s => !(dlS i) s.p) := by rw [HAB.out, List.append_nil]; rfl
        refine ⟨_, left (upI i) (dlS i) a, rfl, hleft, ?_, ?_, rfl, HC.out.trans HC2.out (fun j _ e => .inl (by rw [e]; rfl))⟩
        · rw [HLK.out, ← HTK.out]
          exact HO2.out
        · refine ((HSP.out.chg HC2.out HGR.out).sub ?_)
          rw [List.append_nil]
          exact List.filter_sublist
      · have hml : m < n := by rw [← HAM.out, ← HL.out, HAB.out]; simp
        have hmI : (m : Int) < (n : Int) := by omega
        have hcell : wr.cell? ⟨gr, m, none⟩ = some (.pointer (some ⟨s.sb, 0, none⟩)) := by
          rw [HCE.out m (by omega)]
          have h := congrArg (fun l => l[0]?) HDR.out
          simpa [ptrs] using h
        have HM := Flow.hide (show s ∈ l by rw [HAB.out]; simp)
        have HSW := Flow.hide (HSP.out.all s (by simp))
        have HEW := Flow.hide (HE.out.both HR.out HS.out HC.out)
        obtain ⟨d, hd⟩ : ∃ d, d = (dlS i) (upI i s.p) := ⟨_, rfl⟩
        have HD := Flow.hide hd
        clear hd
        go_wp2_with fail
        (with_reducible refine (cl65 s B g ib pb a0 a1 hold a3 i u bb _ HEW.out HSW.out ).mono ?_)
        rintro e w2 ⟨rfl, hs1, hc1⟩
        rw [← HD.out]
        have ho : One B s (upI i) (dlS i) wr (.returned (.bool ((dlS i) (upI i s.p)))) w2 := ⟨rfl, hs1, hc1⟩
        obtain ⟨hs2, hc2⟩ := ho.tch (l := l) HSP.out HM.out
        have HS2 := Flow.hide hs2
        have HC2 := Flow.hide (HC.out.trans hc2 (fun _ _ e => .inr e))
        have hr2 := Flow.ownsRow_chg HRW.out hc1 (fun j hj e => Flow.row_ne HRW.out HSW.out.sp (by decide) (by rw [hj, e]))
        have hfr := hr2.frozenAt k
        have hcl := hr2.cellAt k (by omega)
        have hxl : xs.length = n := by have := HRW.out.1; omega
        obtain ⟨uu, hu⟩ : ∃ uu, xs[k]? = some uu := ⟨_, List.getElem?_eq_getElem (by omega)⟩
        have hgr2 : gr < w2.heap.size := hc1.lt hgr
        rw [hu] at hcl
        have HR2 := Flow.hide hr2
        have HXL := Flow.hide hxl
        clear hs1 hc1 ho hs2 hc2 HEW HSW HSP HC hcell HRW hr2 hu hgr HCE HFR hxl
        have hl2 : Hid (left (upI i) (dlS i) (a ++ [s]) = left (upI i) (dlS i) a ++ if d then [] else [upS (upI i) s]) := by rw [HD.out]; exact left_snoc _ _ _ _
        have hdr1 := Flow.hide (show xs.drop (m + 1) = ptrs b by
          have h := congrArg (fun l => l.drop 1) HDR.out
          rw [show m + 1 = 1 + m by omega]
          simpa [ptrs, List.drop_drop, Nat.add_comm] using h)
        rcases d with _ | _
        · go_wp2_with fail
          obtain ⟨hr3, hc3⟩ := row_keep HR2.out (k := k) (.pointer (some ⟨s.sb, 0, none⟩)) rfl
          have HGR : ∀ t ∈ a.map (upS (upI i)) ++ upS (upI i) s :: b, ¬ t.sb = gr ∧ ¬ t.mb = gr := fun t ht => ⟨fun e => Flow.row_ne HR2.out (HS2.out.all t ht).sp (by decide) (by rw [e]; rfl), fun e => Flow.row_ne HR2.out (HS2.out.all t ht).ms (by decide) (by rw [e]; rfl)⟩
          go_roundw
          case rel =>
            refine ⟨k + 1, m + 1, by go_num, by go_num, by omega, by omega, a ++ [s], b, xs.set k (.pointer (some ⟨s.sb, 0, none⟩)), by rw [HAB.out]; simp, by rw [List.length_append, HAM.out]; rfl, by rw [hl2.out, List.length_append, HLK.out]; rfl, hr3, ?_, ?_, ?_, HC2.out.trans hc3 (fun j _ e => .inl (by rw [e]; rfl))⟩
            · rw [hl2.out, ptrs_app, ← HTK.out]; exact take_put xs k _ (by rw [HXL.out]; omega)
            · rw [List.drop_set, if_pos (by omega)]
              exact hdr1.out
            · have h := HS2.out.chg hc3 HGR
              simpa using h
          case measure => simp [intOf]; omega
        · go_wp2_with fail
          go_roundw
          case rel =>
            refine ⟨k, m + 1, rfl, by go_num, by omega, by omega, a ++ [s], b, xs, by rw [HAB.out]; simp, by rw [List.length_append, HAM.out]; rfl, by rw [hl2.out]; simpa using HLK.out, HR2.out, by rw [hl2.out]; simpa using HTK.out, hdr1.out, by simpa using HS2.out, HC2.out⟩
          case measure => simp [intOf]; omega
end Go.Proofs.Ythkphapmnlndbaa
