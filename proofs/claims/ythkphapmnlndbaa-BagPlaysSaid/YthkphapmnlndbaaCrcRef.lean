/- The document's sum, bit by bit, is the program's. No program in sight. -/
import Derived.Test.YthkphapmnlndbaaTurnPlain
namespace Go.Proofs.Ythkphapmnlndbaa.CrcPlain
/-- one bit into the register, the document's way -/
def G (r b : Nat) : Nat := if r % 2 = b then r / 2 else (r / 2) ^^^ 3988292384
/-- bits into the register -/
def gun (l : List Nat) : Nat → Nat
  | 0 => 4294967295
  | n + 1 => G (gun l n) ((l.getD (n / 8) 0) / 2 ^ (n % 8) % 2)
theorem G_lt {r b : Nat} (h : r < 4294967296) : G r b < 4294967296 := by
  unfold G
  split
  · omega
  · exact Nat.xor_lt_two_pow (n := 32) (by omega) (by omega)
theorem gun_lt (l : List Nat) (n : Nat) : gun l n < 4294967296 := by
  induction n with
  | zero => show 4294967295 < 4294967296; omega
  | succ n ih => exact G_lt ih
theorem F_mix (x y : Nat) : F (x ^^^ y) = G x (y % 2) ^^^ (y / 2) := by
  unfold F G
  rw [xor_div2, xor_mod2]
  rcases Nat.mod_two_eq_zero_or_one x with ha | ha <;> rcases Nat.mod_two_eq_zero_or_one y with hb | hb <;> simp only [ha, hb] <;> simp <;>
    (apply Nat.eq_of_testBit_eq; intro i; simp only [Nat.testBit_xor]; cases (x / 2).testBit i <;> cases (y / 2).testBit i <;> cases (3988292384 : Nat).testBit i <;> rfl)
theorem gun_step (l : List Nat) (j : Nat) (hc : l.getD j 0 < 256) : ∀ i, i ≤ 8 → feed i (gun l (8 * j) ^^^ l.getD j 0) = gun l (8 * j + i) ^^^ (l.getD j 0 / 2 ^ i)
  | 0, _ => by simp [feed]
  | i + 1, hi => by
    rw [feed_succ', gun_step l j hc i (by omega), F_mix]
    have e1 : (8 * j + i) / 8 = j := by omega
    have e2 : (8 * j + i) % 8 = i := by omega
    have e3 : gun l (8 * j + (i + 1)) = G (gun l (8 * j + i)) ((l.getD j 0) / 2 ^ i % 2) := by
      show G (gun l (8 * j + i)) ((l.getD ((8 * j + i) / 8) 0) / 2 ^ ((8 * j + i) % 8) % 2) = _
      rw [e1, e2]
    rw [e3, Nat.pow_succ, Nat.div_div_eq_div_mul]
theorem gun_run (l : List Nat) (h : ∀ c ∈ l, c < 256) : ∀ j, j ≤ l.length → gun l (8 * j) = run 4294967295 (l.take j)
  | 0, _ => rfl
  | j + 1, hj => by
    have ih := gun_run l h j (by omega)
    have hlt : j < l.length := by omega
    have hs := gun_step l j (getD_lt h j) 8 (Nat.le_refl _)
    have hz : l.getD j 0 / 2 ^ 8 = 0 := by have := getD_lt h j; omega
    rw [hz, Nat.xor_zero, ih] at hs
    have ht : l.take (j + 1) = l.take j ++ [l.getD j 0] := by
      rw [List.take_add_one, List.getElem?_eq_getElem hlt, List.getD_eq_getElem?_getD, List.getElem?_eq_getElem hlt]; rfl
    rw [ht, run_append, run_cons, show 8 * (j + 1) = 8 * j + 8 by omega, ← hs]
    rfl
theorem gun_all (l : List Nat) (h : ∀ c ∈ l, c < 256) : 4294967295 - gun l (8 * l.length) = crc l := by
  rw [gun_run l h _ (Nat.le_refl _), List.take_length]; rfl
/-- Four bytes of a sum, one at a time. -/
theorem le4_get (n : Nat) : ∀ k, k < 4 → (le4 n)[k]? = some (n / 256 ^ k % 256)
  | 0, _ => by simp [le4]
  | 1, _ => by simp [le4]
  | 2, _ => by simp [le4]
  | 3, _ => by simp [le4]
theorem le4_take (n : Nat) (k : Nat) (hk : k < 4) : (le4 n).take (k + 1) = (le4 n).take k ++ [n / 256 ^ k % 256] := by
  rw [List.take_add_one, le4_get n k hk]; rfl
theorem sealed_length (l : List Nat) : (sealed l).length = l.length + 4 := by simp [sealed, le4]
theorem sealed_lt {l : List Nat} (h : ∀ c ∈ l, c < 256) : ∀ c ∈ sealed l, c < 256 := by
  intro c hc
  rcases List.mem_append.1 hc with hc | hc
  · exact h c hc
  · exact le4_lt _ c hc
/-- A sealed text with some bits turned within 32 side by side, not the text itself, is no sealed one. -/
theorem not_sealed {l y : List Nat} (hl : ∀ c ∈ l, c < 256) {at_ : Int} {bits : Nat} (h : Turned (msk (sealed l).length at_ bits) (sealed l) y) (hne : sealed l ≠ y) : sealed (y.take l.length) ≠ y := by
  intro he
  have hr := run_turned 4294967295 (sealed_lt hl) h hne
  apply hr
  rw [run_sealed l hl, ← he, run_sealed _ (fun c hc => h.lt c (List.mem_of_mem_take hc))]
end Go.Proofs.Ythkphapmnlndbaa.CrcPlain
