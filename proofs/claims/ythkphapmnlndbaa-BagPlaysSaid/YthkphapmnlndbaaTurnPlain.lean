/- Plain law of turning bits of a text: what Turn computes, by bits; it is its own inverse; a turn within 32 bits side by side spoils a sealed text. No program in sight. -/
import Derived.Test.YthkphapmnlndbaaCrcPlain
namespace Go.Proofs.Ythkphapmnlndbaa.CrcPlain

/-- Bit i of a text. -/
def tb (l : List Nat) (i : Nat) : Bool := (l.getD (i / 8) 0).testBit (i % 8)
/-- Is bit i turned? -/
def msk (len : Nat) (at_ : Int) (bits : Nat) (i : Nat) : Bool := decide (i < 8 * len ∧ at_ ≤ (i : Int) ∧ (i : Int) - at_ < 32) && bits.testBit ((i : Int) - at_).toNat
/-- y is x with those bits turned that 'm' tells. -/
structure Turned (m : Nat → Bool) (x y : List Nat) : Prop where
  len : y.length = x.length
  lt : ∀ c ∈ y, c < 256
  bit : ∀ i, tb y i = Bool.xor (tb x i) (m i)
theorem getD_lt {l : List Nat} (h : ∀ c ∈ l, c < 256) (j : Nat) : l.getD j 0 < 256 := by
  rw [List.getD_eq_getElem?_getD]
  rcases hj : l[j]? with _ | c
  · simp
  · simpa using h c (List.mem_of_getElem? hj)
theorem tb_set {l : List Nat} {j q : Nat} (hj : j < l.length) (hq : q < 8) (i : Nat) : tb (l.set j (l.getD j 0 ^^^ 2 ^ q)) i = Bool.xor (tb l i) (decide (i = 8 * j + q)) := by
  unfold tb
  rw [List.getD_eq_getElem?_getD, List.getElem?_set]
  by_cases h : j = i / 8
  · subst h
    rw [if_pos rfl, if_pos hj]
    simp only [Option.getD_some, Nat.testBit_xor, Nat.testBit_two_pow]
    congr 1
    exact decide_eq_decide.2 (by omega)
  · rw [if_neg h, ← List.getD_eq_getElem?_getD]
    have : decide (i = 8 * j + q) = false := decide_eq_false (by omega)
    rw [this, Bool.xor_false]
theorem set_lt {l : List Nat} (h : ∀ c ∈ l, c < 256) (j q : Nat) (hq : q < 8) : ∀ c ∈ l.set j (l.getD j 0 ^^^ 2 ^ q), c < 256 := by
  intro c hc
  rcases List.mem_or_eq_of_mem_set hc with hc | rfl
  · exact h c hc
  · exact Nat.xor_lt_two_pow (n := 8) (getD_lt h j) (Nat.pow_lt_pow_right (by omega) hq)
theorem Turned.refl {l : List Nat} (h : ∀ c ∈ l, c < 256) : Turned (fun _ => false) l l := ⟨rfl, h, fun i => by simp⟩
theorem Turned.set {m : Nat → Bool} {x y : List Nat} (h : Turned m x y) {j q : Nat} (hj : j < y.length) (hq : q < 8) : Turned (fun i => Bool.xor (m i) (decide (i = 8 * j + q))) x (y.set j (y.getD j 0 ^^^ 2 ^ q)) :=
  ⟨by rw [List.length_set]; exact h.len, set_lt h.lt j q hq, fun i => by rw [tb_set hj hq, h.bit, Bool.xor_assoc]⟩
theorem Turned.congr {m m' : Nat → Bool} {x y : List Nat} (h : Turned m x y) (he : ∀ i, m i = m' i) : Turned m' x y := ⟨h.len, h.lt, fun i => by rw [h.bit, he]⟩
theorem list_of_tb {x y : List Nat} (hl : y.length = x.length) (hx : ∀ c ∈ x, c < 256) (hy : ∀ c ∈ y, c < 256) (h : ∀ i, tb y i = tb x i) : y = x := by
  apply List.ext_getElem hl
  intro j h1 h2
  apply Nat.eq_of_testBit_eq
  intro i
  by_cases hi : i < 8
  · have := h (8 * j + i)
    unfold tb at this
    have e1 : (8 * j + i) / 8 = j := by omega
    have e2 : (8 * j + i) % 8 = i := by omega
    rw [e1, e2] at this
    simpa [List.getD_eq_getElem?_getD, h1, h2] using this
  · have big : ∀ c, c < 256 → c.testBit i = false := fun c hc => Nat.testBit_lt_two_pow (Nat.lt_of_lt_of_le (by omega : c < 2 ^ 8) (Nat.pow_le_pow_right (by omega) (by omega)))
    rw [big _ (hy _ (List.getElem_mem h1)), big _ (hx _ (List.getElem_mem h2))]
theorem Turned.unique {m : Nat → Bool} {x y z : List Nat} (h : Turned m x y) (k : Turned m x z) : y = z :=
  list_of_tb (h.len.trans k.len.symm) k.lt h.lt (fun i => by rw [h.bit, k.bit])
theorem Turned.back {m : Nat → Bool} {x y z : List Nat} (hx : ∀ c ∈ x, c < 256) (h : Turned m x y) (k : Turned m y z) : z = x :=
  list_of_tb (k.len.trans h.len) hx k.lt (fun i => by rw [k.bit, h.bit, Bool.xor_assoc, Bool.xor_self, Bool.xor_false])

theorem num_testBit : ∀ (l : List Nat), (∀ c ∈ l, c < 256) → ∀ i, (num l).testBit i = tb l i
  | [], _, i => by simp [num, tb]
  | c :: l, h, i => by
    have ih := num_testBit l (fun x hx => h x (by simp [hx]))
    have hc : c < 2 ^ 8 := h c (by simp)
    rw [num_cons, show c + 256 * num l = 2 ^ 8 * num l + c by omega, Nat.testBit_two_pow_mul_add _ hc]
    unfold tb
    by_cases hi : i < 8
    · rw [if_pos hi, show i / 8 = 0 by omega, show i % 8 = i by omega]; rfl
    · rw [if_neg hi, ih]
      unfold tb
      obtain ⟨j, rfl⟩ : ∃ j, i = j + 8 := ⟨i - 8, by omega⟩
      rw [show j + 8 - 8 = j by omega, show (j + 8) / 8 = j / 8 + 1 by omega, show (j + 8) % 8 = j % 8 by omega]
      rfl
theorem run_turned {x y : List Nat} (r : Nat) (hx : ∀ c ∈ x, c < 256) {at_ : Int} {bits : Nat} (h : Turned (msk x.length at_ bits) x y) (hne : x ≠ y) : run r x ≠ run r y := by
  obtain ⟨p, hp⟩ : ∃ p : Nat, p ≤ 8 * x.length ∧ (∀ i, i < p → msk x.length at_ bits i = false) ∧ ∀ i, p + 32 ≤ i → msk x.length at_ bits i = false := by
    refine ⟨min at_.toNat (8 * x.length), Nat.min_le_right _ _, fun i hi => ?_, fun i hi => ?_⟩
    · unfold msk
      rw [decide_eq_false (by omega)]; rfl
    · unfold msk
      rw [decide_eq_false (by omega)]; rfl
  obtain ⟨hp, hlo, hhi⟩ := hp
  have hX := num_testBit x hx
  have hY := num_testBit y h.lt
  have hz : ∀ i, (num x ^^^ num y).testBit i = msk x.length at_ bits i := fun i => by
    rw [Nat.testBit_xor, hX, hY, h.bit, ← Bool.xor_assoc, Bool.xor_self, Bool.false_xor]
  have hB : num y = num x ^^^ (2 ^ p * ((num x ^^^ num y) >>> p)) := by
    apply Nat.eq_of_testBit_eq
    intro i
    rw [Nat.testBit_xor, Nat.testBit_two_pow_mul]
    by_cases hi : p ≤ i
    · rw [Nat.testBit_shiftRight, show p + (i - p) = i by omega, hz, hX, hY, h.bit]
      simp [hi]
    · have h0 := hlo i (by omega)
      rw [hX, hY, h.bit, h0]
      simp [hi]
  have hb : (num x ^^^ num y) >>> p < 4294967296 := by
    refine Nat.lt_pow_two_of_testBit (n := 32) _ (fun i hi => ?_)
    rw [Nat.testBit_shiftRight, hz]
    exact hhi _ (by omega)
  refine burst r x y hx h.lt h.len.symm p _ hb ?_ hp hB
  intro h0
  rw [h0, Nat.mul_zero, Nat.xor_zero] at hB
  exact hne (list_of_tb h.len.symm h.lt hx (fun i => by rw [← hX, ← hY, hB]))
/-- Is a text sealed? Its last four bytes are its own sum, exactly if all of it leaves that number. -/
theorem le4_num {a b : Nat} (ha : a < 4294967296) (hb : b < 4294967296) (h : le4 a = le4 b) : a = b := by
  rw [← num_le4 a ha, ← num_le4 b hb, h]
theorem crc_lt (l : List Nat) : crc l < 4294967296 := by unfold crc; omega
end Go.Proofs.Ythkphapmnlndbaa.CrcPlain
