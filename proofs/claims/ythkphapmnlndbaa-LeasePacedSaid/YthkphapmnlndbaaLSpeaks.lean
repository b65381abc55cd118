/- The statements' helper of package lease. -/
import Derived.Test.YthkphapmnlndbaaLease3
namespace Go.Proofs.Ythkphapmnlndbaa
open Go.RowKit
set_option maxHeartbeats 1000000
theorem Flow.Chg.onto {S : Nat → Prop} {B : Nat} {w w1 w2 : World} (h : Below B w w1) (hc : Flow.Chg S w1 w2) (hs : ∀ j, S j → B ≤ j) (hB : B ≤ w1.heap.size) : Below B w w2 :=
  h.trans (hc.below (fun j _ hj => hs j hj) hB)
theorem bnd_lit (hold renew now made num ep at_ fin epoch : Int) (b : Nat) (h : 1 ≤ hold ∧ hold ≤ 1000 ∧ 0 ≤ renew ∧ renew ≤ 1000 ∧ 0 ≤ now ∧ now ≤ 100000 ∧ 0 ≤ made ∧ made ≤ 100000 ∧ 0 ≤ at_ ∧ at_ ≤ now ∧ 1 ≤ num ∧ num ≤ made ∧ 0 ≤ fin ∧ fin ≤ 200000) : Bnd ⟨hold, renew, now, made, some ⟨b, num, ep, at_⟩, epoch, fin⟩ :=
  ⟨by dsimp only; omega, by dsimp only; omega, by dsimp only; omega, by dsimp only; omega, (fun r e => by cases e; dsimp only; omega), by dsimp only; omega⟩
theorem bnd_none (hold renew now made fin epoch : Int) (h : 1 ≤ hold ∧ hold ≤ 1000 ∧ 0 ≤ renew ∧ renew ≤ 1000 ∧ 0 ≤ now ∧ now ≤ 100000 ∧ 0 ≤ made ∧ made ≤ 100000 ∧ 0 ≤ fin ∧ fin ≤ 200000) : Bnd ⟨hold, renew, now, made, none, epoch, fin⟩ :=
  ⟨by dsimp only; omega, by dsimp only; omega, by dsimp only; omega, by dsimp only; omega, (fun r e => by cases e), by dsimp only; omega⟩
set_option maxRecDepth 20000 in
theorem speaks21 (w : World) : Calls Try.prog 35 #[] w fun e w' => e = .returned (.bool true) ∧ Below w.heap.size w w' := by
  go_enter Try.func35, Try.ntmps35
  go_wp2_with fail
  refine (new_any 3 1 _).mono ?_
  rintro e w1 ⟨rfl, hw1⟩
  obtain ⟨h, hh⟩ : ∃ h, h = w.heap.size := ⟨_, rfl⟩
  have H : Hid (IsH w1 h ⟨3, 1, 0, 0, none, 0, 0⟩) := by rw [hw1, hh]; exact ⟨Flow.Blk.new _ _ _, fun _ e => by cases e⟩
  have HB : Below w.heap.size w w1 := by rw [hw1]; exact Flow.below_alloc _ _
  have Z : w.heap.size ≤ w1.heap.size := HB.size
  rw [← hh] at HB Z ⊢
  have HB := Flow.hide HB
  have HH := Flow.hide hh
  clear hw1 hh
  go_wp2_with fail
  (with_reducible refine (ask_yes h ⟨3, 1, 0, 0, none, 0, 0⟩ 1 _ H.out (bnd_none _ _ _ _ _ _ (by decide)) rfl).mono ?_)
  rintro e w2 ⟨rfl, ⟨b, H2, _⟩, C⟩
  have H : Hid (IsH w2 h ⟨3, 1, 0, 1, some ⟨b, 1, 1, 0⟩, 0, 0⟩) := H2
  have HB : Hid (Below h w w2) := C.onto HB.out (fun j e => by omega) (by omega)
  have Z : h ≤ w2.heap.size := Nat.le_trans Z C.size
  clear C H2
  go_wp2_with fail
  (with_reducible refine (tick_any h ⟨3, 1, 0, 1, some ⟨b, 1, 1, 0⟩, 0, 0⟩ _ H.out (bnd_lit _ _ _ _ _ _ _ _ _ _ (by decide))).mono ?_)
  rintro e w3 ⟨rfl, H2, C⟩
  have H : Hid (IsH w3 h ⟨3, 1, 1, 1, some ⟨b, 1, 1, 0⟩, 0, 0⟩) := H2
  have HB : Hid (Below h w w3) := C.onto HB.out (fun j e => by omega) (by omega)
  have Z : h ≤ w3.heap.size := Nat.le_trans Z C.size
  clear C H2
  go_wp2_with fail
  (with_reducible refine (grant_yes h ⟨3, 1, 1, 1, some ⟨b, 1, 1, 0⟩, 0, 0⟩ ⟨b, 1, 1, 0⟩ 1 1 _ H.out (bnd_lit _ _ _ _ _ _ _ _ _ _ (by decide)) rfl rfl rfl).mono ?_)
  rintro e w4 ⟨rfl, H2, C⟩
  have H : Hid (IsH w4 h ⟨3, 1, 1, 1, none, 1, 3⟩) := H2
  have HB : Hid (Below h w w4) := C.onto HB.out (fun j e => by omega) (by omega)
  have Z : h ≤ w4.heap.size := Nat.le_trans Z C.size
  clear C H2
  go_wp2_with fail
  (with_reducible refine (holds_any h ⟨3, 1, 1, 1, none, 1, 3⟩ 1 _ H.out (bnd_none _ _ _ _ _ _ (by decide))).mono ?_)
  rintro e w5 ⟨rfl, C⟩
  have H : Hid (IsH w5 h ⟨3, 1, 1, 1, none, 1, 3⟩) := H.out.below C
  have HB : Hid (Below h w w5) := HB.out.trans (C.mono Z)
  have Z : h ≤ w5.heap.size := Nat.le_trans Z C.size
  clear C
  rw [show holdsOf ⟨3, 1, 1, 1, none, 1, 3⟩ 1 = true from by decide]
  go_wp2_with fail
  (with_reducible refine (tick_any h ⟨3, 1, 1, 1, none, 1, 3⟩ _ H.out (bnd_none _ _ _ _ _ _ (by decide))).mono ?_)
  rintro e w6 ⟨rfl, H2, C⟩
  have H : Hid (IsH w6 h ⟨3, 1, 2, 1, none, 1, 3⟩) := H2
  have HB : Hid (Below h w w6) := C.onto HB.out (fun j e => by omega) (by omega)
  have Z : h ≤ w6.heap.size := Nat.le_trans Z C.size
  clear C H2
  go_wp2_with fail
  (with_reducible refine (holds_any h ⟨3, 1, 2, 1, none, 1, 3⟩ 1 _ H.out (bnd_none _ _ _ _ _ _ (by decide))).mono ?_)
  rintro e w7 ⟨rfl, C⟩
  have H : Hid (IsH w7 h ⟨3, 1, 2, 1, none, 1, 3⟩) := H.out.below C
  have HB : Hid (Below h w w7) := HB.out.trans (C.mono Z)
  have Z : h ≤ w7.heap.size := Nat.le_trans Z C.size
  clear C
  rw [show holdsOf ⟨3, 1, 2, 1, none, 1, 3⟩ 1 = true from by decide]
  go_wp2_with fail
  (with_reducible refine (tick_any h ⟨3, 1, 2, 1, none, 1, 3⟩ _ H.out (bnd_none _ _ _ _ _ _ (by decide))).mono ?_)
  rintro e w8 ⟨rfl, H2, C⟩
  have H : Hid (IsH w8 h ⟨3, 1, 3, 1, none, 1, 3⟩) := H2
  have HB : Hid (Below h w w8) := C.onto HB.out (fun j e => by omega) (by omega)
  have Z : h ≤ w8.heap.size := Nat.le_trans Z C.size
  clear C H2
  go_wp2_with fail
  (with_reducible refine (holds_any h ⟨3, 1, 3, 1, none, 1, 3⟩ 1 _ H.out (bnd_none _ _ _ _ _ _ (by decide))).mono ?_)
  rintro e w9 ⟨rfl, C⟩
  have H : Hid (IsH w9 h ⟨3, 1, 3, 1, none, 1, 3⟩) := H.out.below C
  have HB : Hid (Below h w w9) := HB.out.trans (C.mono Z)
  have Z : h ≤ w9.heap.size := Nat.le_trans Z C.size
  clear C
  rw [show holdsOf ⟨3, 1, 3, 1, none, 1, 3⟩ 1 = false from by decide]
  go_wp2_with fail
  (with_reducible refine (holds_any h ⟨3, 1, 3, 1, none, 1, 3⟩ 2 _ H.out (bnd_none _ _ _ _ _ _ (by decide))).mono ?_)
  rintro e w10 ⟨rfl, C⟩
  have H : Hid (IsH w10 h ⟨3, 1, 3, 1, none, 1, 3⟩) := H.out.below C
  have HB : Hid (Below h w w10) := HB.out.trans (C.mono Z)
  have Z : h ≤ w10.heap.size := Nat.le_trans Z C.size
  clear C
  rw [show holdsOf ⟨3, 1, 3, 1, none, 1, 3⟩ 2 = false from by decide]
  go_wp2_with fail
  go_ret
  exact ⟨rfl, by rw [← HH.out]; exact HB.out⟩
end Go.Proofs.Ythkphapmnlndbaa
