/- The plain mathematics of CRC-32: one bit's step is linear and has no kernel, so a burst within 32 bits always changes the residue. -/
namespace Go.Proofs.Ythkphapmnlndbaa.CrcPlain

/-- one bit's step of the register -/
def F (r : Nat) : Nat := if r % 2 = 1 then (r / 2) ^^^ 3988292384 else r / 2
/-- n steps -/
def feed : Nat → Nat → Nat
  | 0, r => r
  | n + 1, r => feed n (F r)
theorem feed_add (a b r : Nat) : feed (a + b) r = feed b (feed a r) := by
  induction a generalizing r with
  | zero => simp [feed]
  | succ a ih => rw [show a + 1 + b = (a + b) + 1 by omega]; simp only [feed]; exact ih _
theorem feed_succ' (n r : Nat) : feed (n + 1) r = F (feed n r) := feed_add n 1 r

theorem F_lt {r : Nat} (h : r < 4294967296) : F r < 4294967296 := by
  unfold F
  split
  · exact Nat.xor_lt_two_pow (n := 32) (by omega) (by omega)
  · omega
theorem feed_lt (n : Nat) : ∀ {r : Nat}, r < 4294967296 → feed n r < 4294967296 := by
  induction n with
  | zero => intro r h; exact h
  | succ n ih => intro r h; exact ih (F_lt h)
theorem xor_div2 (a b : Nat) : (a ^^^ b) / 2 = (a / 2) ^^^ (b / 2) := by
  apply Nat.eq_of_testBit_eq
  intro i
  simp [Nat.testBit_div_two, Nat.testBit_xor]
theorem xor_mod2 (a b : Nat) : (a ^^^ b) % 2 = (a % 2 + b % 2) % 2 := by
  have := Nat.testBit_xor (x := a) (y := b) (i := 0)
  simp only [Nat.testBit_zero] at this
  have h := Nat.mod_two_eq_zero_or_one (a ^^^ b)
  rcases Nat.mod_two_eq_zero_or_one a with ha | ha <;> rcases Nat.mod_two_eq_zero_or_one b with hb | hb <;> rcases h with h | h <;> rw [ha, hb, h] at this <;> revert this <;> rw [ha, hb, h] <;> decide
theorem F_xor (a b : Nat) : F (a ^^^ b) = F a ^^^ F b := by
  unfold F
  rw [xor_div2, xor_mod2]
  rcases Nat.mod_two_eq_zero_or_one a with ha | ha <;> rcases Nat.mod_two_eq_zero_or_one b with hb | hb <;> simp only [ha, hb] <;> simp
  · rw [Nat.xor_assoc]
  · rw [Nat.xor_assoc, Nat.xor_assoc, Nat.xor_comm 3988292384]
  · apply Nat.eq_of_testBit_eq; intro i; simp only [Nat.testBit_xor]; cases (a / 2).testBit i <;> cases (b/2).testBit i <;> cases (3988292384 : Nat).testBit i <;> rfl
theorem F_zero : F 0 = 0 := rfl
theorem F_ne {r : Nat} (h : r < 4294967296) (h0 : r ≠ 0) : F r ≠ 0 := by
  unfold F
  split
  · intro he
    have h31 : ((r / 2) ^^^ 3988292384).testBit 31 = true := by
      rw [Nat.testBit_xor]
      have : (r / 2).testBit 31 = false := Nat.testBit_lt_two_pow (by omega)
      rw [this]; decide
    rw [he] at h31
    simp at h31
  · omega
theorem feed_xor (n : Nat) : ∀ a b, feed n (a ^^^ b) = feed n a ^^^ feed n b := by
  induction n with
  | zero => intro a b; rfl
  | succ n ih => intro a b; simp only [feed, F_xor, ih]
theorem feed_zero (n : Nat) : feed n 0 = 0 := by
  induction n with
  | zero => rfl
  | succ n ih => simpa [feed, F_zero] using ih
theorem feed_ne (n : Nat) : ∀ {r : Nat}, r < 4294967296 → r ≠ 0 → feed n r ≠ 0 := by
  induction n with
  | zero => intro r _ h; exact h
  | succ n ih => intro r h h0; exact ih (F_lt h) (F_ne h h0)

/-- a byte into the register -/
def stp (r c : Nat) : Nat := feed 8 (r ^^^ c)
/-- bytes into the register -/
def run : Nat → List Nat → Nat
  | r, [] => r
  | r, c :: l => run (stp r c) l
theorem run_append (r : Nat) (a b : List Nat) : run r (a ++ b) = run (run r a) b := by
  induction a generalizing r with
  | nil => rfl
  | cons c a ih => exact ih _
theorem stp_lt {r c : Nat} (h : r < 4294967296) (hc : c < 256) : stp r c < 4294967296 :=
  feed_lt 8 (Nat.xor_lt_two_pow (n := 32) (by omega) (by omega))
theorem run_lt {r : Nat} (h : r < 4294967296) {l : List Nat} (hl : ∀ c ∈ l, c < 256) : run r l < 4294967296 := by
  induction l generalizing r with
  | nil => exact h
  | cons c l ih => exact ih (stp_lt h (hl c (by simp))) (fun x hx => hl x (by simp [hx]))
/-- the sum -/
def crc (l : List Nat) : Nat := 4294967295 - run 4294967295 l
/-- four bytes of a number, the low one first -/
def le4 (n : Nat) : List Nat := [n % 256, n / 256 % 256, n / 65536 % 256, n / 16777216 % 256]
def sealed (l : List Nat) : List Nat := l ++ le4 (crc l)

/-- the xor of two texts, place by place -/
def xors : List Nat → List Nat → List Nat
  | a :: l, b :: m => (a ^^^ b) :: xors l m
  | _, _ => []
theorem run_xors (l m : List Nat) (h : l.length = m.length) (r s : Nat) : run (r ^^^ s) (xors l m) = run r l ^^^ run s m := by
  induction l generalizing m r s with
  | nil =>
    match m, h with
    | [], _ => rfl
  | cons c l ih =>
    match m, h with
    | d :: m, h =>
      show run (stp (r ^^^ s) (c ^^^ d)) (xors l m) = run (stp r c) l ^^^ run (stp s d) m
      have e : stp (r ^^^ s) (c ^^^ d) = stp r c ^^^ stp s d := by
        unfold stp
        rw [← feed_xor]
        congr 1
        apply Nat.eq_of_testBit_eq; intro i; simp only [Nat.testBit_xor]
        cases r.testBit i <;> cases s.testBit i <;> cases c.testBit i <;> cases d.testBit i <;> rfl
      rw [e]
      exact ih m (by simpa using h) _ _


/-- the text as one number, the first byte lowest -/
def num : List Nat → Nat
  | [] => 0
  | c :: l => c + 256 * num l
theorem num_lt : ∀ {l : List Nat}, (∀ c ∈ l, c < 256) → num l < 256 ^ l.length
  | [], _ => by simp [num]
  | c :: l, h => by
    have ih := num_lt (l := l) (fun x hx => h x (by simp [hx]))
    have hc := h c (by simp)
    simp only [num, List.length_cons, Nat.pow_succ]
    omega
theorem F_double (x : Nat) : F (2 * x) = x := by unfold F; rw [if_neg (by omega)]; omega
theorem feed_shift (n x : Nat) : feed n (2 ^ n * x) = x := by
  induction n with
  | zero => simp [feed]
  | succ n ih =>
    rw [show 2 ^ (n + 1) * x = 2 * (2 ^ n * x) by rw [Nat.pow_succ, Nat.mul_assoc, Nat.mul_comm (2 ^ n), Nat.mul_assoc, Nat.mul_comm x]]
    simp only [feed, F_double]
    exact ih
theorem add_is_xor (c x : Nat) (h : c < 256) : c + 256 * x = c ^^^ (256 * x) := by
  apply Nat.eq_of_testBit_eq
  intro i
  rw [Nat.testBit_xor, show c + 256 * x = 2 ^ 8 * x + c by omega, show 256 * x = 2 ^ 8 * x by omega, Nat.testBit_two_pow_mul_add x (by omega : c < 2 ^ 8), Nat.testBit_two_pow_mul]
  by_cases hi : i < 8
  · have h8 : ¬ 8 ≤ i := by omega
    simp [hi, h8]
  · have : c.testBit i = false := Nat.testBit_lt_two_pow (Nat.lt_of_lt_of_le (by omega : c < 2 ^ 8) (Nat.pow_le_pow_right (by omega) (by omega)))
    simp [hi, this]; omega
theorem run_cons (r c : Nat) (l : List Nat) : run r (c :: l) = run (stp r c) l := by with_unfolding_all rfl
theorem num_cons (c : Nat) (l : List Nat) : num (c :: l) = c + 256 * num l := by with_unfolding_all rfl
/-- a whole text is one number fed in -/
theorem run_num : ∀ (l : List Nat) (r : Nat), (∀ c ∈ l, c < 256) → run r l = feed (8 * l.length) (r ^^^ num l)
  | [], r, _ => by
    rw [show 8 * ([] : List Nat).length = 0 from rfl]
    show r = r ^^^ 0
    rw [Nat.xor_zero]
  | c :: l, r, h => by
    have ih := run_num l (stp r c) (fun x hx => h x (by simp [hx]))
    rw [run_cons, num_cons, ih, add_is_xor c (num l) (h c (by simp)), show 8 * (c :: l).length = 8 + 8 * l.length by simp only [List.length_cons]; omega, feed_add, ← Nat.xor_assoc, feed_xor 8 (r ^^^ c)]
    congr 2
    exact (feed_shift 8 (num l)).symm
/-- A burst within 32 bits changes what is left in the register. -/
theorem burst (r : Nat) (x y : List Nat) (hx : ∀ c ∈ x, c < 256) (hy : ∀ c ∈ y, c < 256) (hl : x.length = y.length) (p b : Nat) (hb : b < 4294967296) (hb0 : b ≠ 0) (hp : p ≤ 8 * x.length)
    (h : num y = num x ^^^ (2 ^ p * b)) : run r x ≠ run r y := by
  rw [run_num x r hx, run_num y r hy, ← hl, h, ← Nat.xor_assoc, feed_xor _ (r ^^^ num x)]
  have hz : feed (8 * x.length) (2 ^ p * b) ≠ 0 := by
    obtain ⟨k, hk⟩ := Nat.exists_eq_add_of_le hp
    rw [hk, feed_add, feed_shift]
    exact feed_ne k hb hb0
  intro e
  apply hz
  have := congrArg (fun t => feed (8 * x.length) (r ^^^ num x) ^^^ t) e
  simp only [← Nat.xor_assoc, Nat.xor_self, Nat.zero_xor] at this
  exact this.symm
theorem num_append (a b : List Nat) : num (a ++ b) = num a + 256 ^ a.length * num b := by
  induction a with
  | nil => simp [num]
  | cons c a ih => simp only [List.cons_append, num, ih, List.length_cons, Nat.pow_succ]; rw [Nat.mul_add, ← Nat.mul_assoc, Nat.mul_comm 256 (256 ^ a.length)]; omega
theorem le4_lt (n : Nat) : ∀ c ∈ le4 n, c < 256 := by
  intro c hc; simp [le4] at hc; omega
theorem num_le4 (n : Nat) (h : n < 4294967296) : num (le4 n) = n := by simp [num, le4]; omega
/-- what a sealed text leaves: one number for all texts -/
theorem run_sealed (l : List Nat) (h : ∀ c ∈ l, c < 256) : run 4294967295 (sealed l) = feed 32 4294967295 := by
  unfold sealed crc
  have hr : run 4294967295 l < 4294967296 := run_lt (by omega) h
  rw [run_append, run_num _ _ (le4_lt _), num_le4 _ (by omega)]
  show feed 32 _ = _
  congr 1
  generalize run 4294967295 l = r at *
  have : r ^^^ (4294967295 - r) = 4294967295 := by
    apply Nat.eq_of_testBit_eq
    intro i
    rw [Nat.testBit_xor, show 4294967295 - r = 2 ^ 32 - (r + 1) by omega, Nat.testBit_two_pow_sub_succ (by omega : r < 2 ^ 32), show (4294967295 : Nat) = 2 ^ 32 - 1 by rfl, Nat.testBit_two_pow_sub_one]
    by_cases hi : i < 32
    · simp [hi]
    · have : r.testBit i = false := Nat.testBit_lt_two_pow (Nat.lt_of_lt_of_le (by omega : r < 2 ^ 32) (Nat.pow_le_pow_right (by omega) (by omega)))
      simp [hi, this]
  exact this
end Go.Proofs.Ythkphapmnlndbaa.CrcPlain
