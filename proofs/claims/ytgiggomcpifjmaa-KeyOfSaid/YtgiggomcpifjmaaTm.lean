/- A word of 128 places, put together place by place from the greatest one on. -/
import Derived.Test.YtgiggomcpifjmaaMb
namespace Plm
open Go
def acc (f : Nat → Bool) (base : Nat) : Nat → Nat
  | 0 => 0
  | k + 1 => 2 * acc f base k + (f (base + 63 - k)).toNat
theorem acc_succ (f : Nat → Bool) (base k : Nat) : acc f base (k + 1) = 2 * acc f base k + (f (base + 63 - k)).toNat := rfl
theorem acc_lt (f : Nat → Bool) (base : Nat) : ∀ k, acc f base k < 2 ^ k
  | 0 => by simp [acc]
  | k + 1 => by
    have := acc_lt f base k
    have h : (f (base + 63 - k)).toNat ≤ 1 := Bool.toNat_le _
    rw [acc_succ, Nat.pow_succ]; omega
theorem acc_bit (f : Nat → Bool) (base : Nat) : ∀ k, k ≤ 64 → ∀ j, (acc f base k).testBit j = (decide (j < k) && f (base + 64 - k + j))
  | 0, _, j => by simp [acc]
  | k + 1, hk, j => by
    rw [acc_succ]
    cases j with
    | zero =>
      rw [Nat.testBit_zero, show base + 64 - (k + 1) + 0 = base + 63 - k by omega]
      cases f (base + 63 - k) <;> simp [Nat.add_mod]
    | succ j =>
      rw [Nat.testBit_succ, show (2 * acc f base k + (f (base + 63 - k)).toNat) / 2 = acc f base k by have h : (f (base + 63 - k)).toNat ≤ 1 := Bool.toNat_le _; omega,
        acc_bit f base k (by omega) j, show base + 64 - (k + 1) + (j + 1) = base + 64 - k + j by omega]
      simp
theorem acc_t (f : Nat → Bool) (base k i : Nat) (hi : base + 63 - k = i) (h : f i = true) : ((acc f base (k + 1) : Nat) : Int) = 2 * (acc f base k : Nat) + 1 := by
  rw [acc_succ, hi, h]; simp only [Bool.toNat_true]; omega
theorem acc_f (f : Nat → Bool) (base k i : Nat) (hi : base + 63 - k = i) (h : f i = false) : ((acc f base (k + 1) : Nat) : Int) = 2 * (acc f base k : Nat) := by
  rw [acc_succ, hi, h]; simp only [Bool.toNat_false]; omega
def wordF (f : Nat → Bool) : W := mk (BitVec.ofNat 64 (acc f 64 64)) (BitVec.ofNat 64 (acc f 0 64))
theorem bit_wordF (f : Nat → Bool) (i : Nat) (h : i < 128) : bit (wordF f) i = f i := by
  unfold wordF
  rw [bit_mk]
  by_cases h1 : i < 64
  · rw [if_pos h1, BitVec.getLsbD_ofNat, acc_bit f 0 64 (by omega)]; simp [h1]
  · rw [if_neg h1, BitVec.getLsbD_ofNat, acc_bit f 64 64 (by omega), show 64 + 64 - 64 + (i - 64) = i by omega]
    have : i - 64 < 64 := by omega
    simp [this]
theorem wordF_eq (f : Nat → Bool) (x : W) (h : ∀ i, i < 128 → f i = bit x i) : wordF f = x := ext _ _ fun i hi => by rw [bit_wordF f i hi, h i hi]
theorem ui_ofNat (n : Nat) (h : n < 2 ^ 64) : ui (BitVec.ofNat 64 n) = (n : Int) := by
  unfold ui; rw [BitVec.toNat_ofNat, Nat.mod_eq_of_lt h]
theorem hi_wordF (f : Nat → Bool) : hi (wordF f) = (acc f 64 64 : Nat) := by unfold wordF; rw [hi_mk, ui_ofNat _ (acc_lt f 64 64)]
theorem lo_wordF (f : Nat → Bool) : lo (wordF f) = (acc f 0 64 : Nat) := by unfold wordF; rw [lo_mk, ui_ofNat _ (acc_lt f 0 64)]
theorem acc_dbl (f : Nat → Bool) (base k : Nat) (hk : k < 64) : IntKind.u64.wrap (2 * (acc f base k : Nat)) = 2 * (acc f base k : Nat) := by
  have h := acc_lt f base k
  have h2 : 2 ^ k ≤ 2 ^ 63 := Nat.pow_le_pow_right (by decide) (by omega)
  have h3 : acc f base k < 9223372036854775808 := Nat.lt_of_lt_of_le h (Nat.le_trans h2 (by decide))
  show _ % (18446744073709551616 : Int) = _
  exact Int.emod_eq_of_lt (by omega) (by omega)
theorem acc_dbl1 (f : Nat → Bool) (base k : Nat) (hk : k < 64) : IntKind.u64.wrap (2 * (acc f base k : Nat) + 1) = 2 * (acc f base k : Nat) + 1 := by
  have h := acc_lt f base k
  have h2 : 2 ^ k ≤ 2 ^ 63 := Nat.pow_le_pow_right (by decide) (by omega)
  have h3 : acc f base k < 9223372036854775808 := Nat.lt_of_lt_of_le h (Nat.le_trans h2 (by decide))
  show _ % (18446744073709551616 : Int) = _
  exact Int.emod_eq_of_lt (by omega) (by omega)
end Plm
