/- Plain laws: words by columns: a number's digits, c bits each. -/
import Derived.Test.YtgiggomcpifjmaaMb
set_option linter.unusedVariables false
namespace Plm

/-- The number with these digits of c bits each. -/
def dig (c : Nat) (d : Nat → Nat) : Nat → Nat
  | 0 => 0
  | n + 1 => 2 ^ (n * c) * d n + dig c d n
theorem dig_lt (c : Nat) (d : Nat → Nat) (n : Nat) (h : ∀ x, x < n → d x < 2 ^ c) : dig c d n < 2 ^ (n * c) := by
  induction n with
  | zero => simp [dig]
  | succ n ih =>
    have h1 := ih (fun x hx => h x (by omega))
    have h2 := h n (by omega)
    simp only [dig]
    have e : 2 ^ ((n + 1) * c) = 2 ^ (n * c) * 2 ^ c := by rw [Nat.add_mul, Nat.pow_add, Nat.one_mul]
    rw [e]
    have : 2 ^ (n * c) * d n + 2 ^ (n * c) ≤ 2 ^ (n * c) * 2 ^ c := by
      rw [← Nat.mul_succ]; exact Nat.mul_le_mul_left _ h2
    omega
theorem dig_bit_ge (c : Nat) (d : Nat → Nat) (n i : Nat) (h : ∀ x, x < n → d x < 2 ^ c) (hi : n * c ≤ i) : (dig c d n).testBit i = false := by
  apply Nat.testBit_lt_two_pow
  exact Nat.lt_of_lt_of_le (dig_lt c d n h) (Nat.pow_le_pow_right (by decide) hi)
theorem dig_bit (c : Nat) (d : Nat → Nat) (n : Nat) (h : ∀ x, x < n → d x < 2 ^ c) (x y : Nat) (hx : x < n) (hy : y < c) : (dig c d n).testBit (x * c + y) = (d x).testBit y := by
  induction n with
  | zero => omega
  | succ n ih =>
    have hl := dig_lt c d n (fun x hx => h x (by omega))
    simp only [dig]
    rw [Nat.testBit_two_pow_mul_add _ hl]
    by_cases e : x = n
    · subst e
      rw [if_neg (by omega)]; congr 1; omega
    · have : x * c + c ≤ n * c := by
        rw [← Nat.succ_mul]; exact Nat.mul_le_mul_right _ (by omega)
      rw [if_pos (by omega)]
      exact ih (fun x hx => h x (by omega)) (by omega)
/-- By the digit and the place in it. -/
theorem dig_bit' (c : Nat) (hc : 0 < c) (d : Nat → Nat) (n : Nat) (h : ∀ x, x < n → d x < 2 ^ c) (i : Nat) : (dig c d n).testBit i = (decide (i / c < n) && (d (i / c)).testBit (i % c)) := by
  by_cases hi : i / c < n
  · have e : i = i / c * c + i % c := by rw [Nat.mul_comm]; exact (Nat.div_add_mod i c).symm
    have := dig_bit c d n h (i / c) (i % c) hi (Nat.mod_lt _ hc)
    rw [← e] at this
    rw [this]; simp [hi]
  · rw [dig_bit_ge c d n i h]
    · simp [hi]
    · have := Nat.div_mul_le_self i c
      exact Nat.le_trans (Nat.mul_le_mul_right c (by omega)) this
theorem dig_congr (c : Nat) (d e : Nat → Nat) (n : Nat) (h : ∀ x, x < n → d x = e x) : dig c d n = dig c e n := by
  induction n with
  | zero => rfl
  | succ n ih => simp only [dig]; rw [h n (by omega), ih (fun x hx => h x (by omega))]
theorem dig_add (c : Nat) (d e : Nat → Nat) (n : Nat) : dig c d n + dig c e n = dig c (fun x => d x + e x) n := by
  induction n with
  | zero => rfl
  | succ n ih => simp only [dig]; rw [← ih, Nat.mul_add]; omega
theorem dig_inj (c : Nat) (hc : 0 < c) (d e : Nat → Nat) (n : Nat) (h : ∀ x, x < n → d x < 2 ^ c) (h' : ∀ x, x < n → e x < 2 ^ c) (he : dig c d n = dig c e n) (x : Nat) (hx : x < n) : d x = e x := by
  apply Nat.eq_of_testBit_eq; intro y
  by_cases hy : y < c
  · rw [← dig_bit c d n h x y hx hy, ← dig_bit c e n h' x y hx hy, he]
  · rw [Nat.testBit_lt_two_pow (Nat.lt_of_lt_of_le (h x hx) (Nat.pow_le_pow_right (by decide) (by omega))), Nat.testBit_lt_two_pow (Nat.lt_of_lt_of_le (h' x hx) (Nat.pow_le_pow_right (by decide) (by omega)))]
theorem dig_op (c : Nat) (hc : 0 < c) (d e : Nat → Nat) (n : Nat) (h : ∀ x, x < n → d x < 2 ^ c) (h' : ∀ x, x < n → e x < 2 ^ c) :
    dig c d n &&& dig c e n = dig c (fun x => d x &&& e x) n ∧ dig c d n ||| dig c e n = dig c (fun x => d x ||| e x) n ∧ dig c d n ^^^ dig c e n = dig c (fun x => d x ^^^ e x) n := by
  refine ⟨?_, ?_, ?_⟩ <;> apply Nat.eq_of_testBit_eq <;> intro i
  · rw [Nat.testBit_and, dig_bit' c hc d n h, dig_bit' c hc e n h', dig_bit' c hc _ n (fun x hx => Nat.and_lt_two_pow _ (h' x hx)), Nat.testBit_and]
    cases decide (i / c < n) <;> simp
  · rw [Nat.testBit_or, dig_bit' c hc d n h, dig_bit' c hc e n h', dig_bit' c hc _ n (fun x hx => Nat.or_lt_two_pow (h x hx) (h' x hx)), Nat.testBit_or]
    cases decide (i / c < n) <;> simp
  · rw [Nat.testBit_xor, dig_bit' c hc d n h, dig_bit' c hc e n h', dig_bit' c hc _ n (fun x hx => Nat.xor_lt_two_pow (h x hx) (h' x hx)), Nat.testBit_xor]
    cases decide (i / c < n) <;> simp
end Plm
