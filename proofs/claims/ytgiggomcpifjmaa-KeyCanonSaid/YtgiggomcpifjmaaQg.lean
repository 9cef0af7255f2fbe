/- Plain laws: the code's Flip, the reference's Flip, Less. -/
import Derived.Test.YtgiggomcpifjmaaFa
import Derived.Test.YtgiggomcpifjmaaQf
set_option linter.unusedVariables false
namespace Go.Proofs.Ytgiggomcpifjmaa
open Plm
theorem fo_rest (H : Nat) (x : W) : ∀ k i, bit (foF H x k).2 i = bit x (k * (H + 1) + i)
  | 0, i => by rw [Nat.zero_mul, Nat.zero_add]; rfl
  | k + 1, i => by
    show bit (wdown (foF H x k).2 ((H : Int) + 1)) i = _
    rw [bit_wdown, fo_rest H x k, show ((H : Int) + 1).toNat = H + 1 by omega, Nat.succ_mul]
    congr 1; omega
theorem fo_out (H : Nat) (hH : H ≤ 8) (x : W) : ∀ k, k ≤ 8 → ∀ i, bit (foF H x k).1 i = (decide (i < k * (H + 1)) && bit x ((k - 1 - i / (H + 1)) * (H + 1) + i % (H + 1)))
  | 0, _, i => by rw [Nat.zero_mul]; show bit wz i = _; rw [bit_wz]; simp
  | k + 1, hk, i => by
    have hkc : (k + 1) * (H + 1) ≤ 8 * 9 := Nat.mul_le_mul hk (by omega)
    have hs : (k + 1) * (H + 1) = k * (H + 1) + (H + 1) := Nat.succ_mul _ _
    show bit (wor (wup (foF H x k).1 ((H : Int) + 1)) (wand (foF H x k).2 (wcolmask H))) i = _
    rw [bit_wor, bit_wup, bit_wand, bit_mask H i hH, fo_rest, show ((H : Int) + 1).toNat = H + 1 by omega]
    by_cases hi : i < H + 1
    · rw [Nat.div_eq_of_lt hi, Nat.mod_eq_of_lt hi, show k + 1 - 1 - 0 = k by omega]
      simp [hi, show i < (k + 1) * (H + 1) by omega]
    · rw [fo_out H hH x k (by omega)]
      obtain ⟨j, rfl⟩ : ∃ j, i = j + (H + 1) := ⟨i - (H + 1), by omega⟩
      rw [Nat.add_sub_cancel, Nat.add_div_right _ (by omega), Nat.add_mod_right, show k + 1 - 1 - (j / (H + 1)).succ = k - 1 - j / (H + 1) by omega]
      have a1 : decide (j + (H + 1) < (k + 1) * (H + 1)) = decide (j < k * (H + 1)) := by rw [decide_eq_decide]; omega
      rw [a1]
      rw [decide_eq_false hi]
      by_cases hj : j < k * (H + 1)
      · simp [hj, show j + (H + 1) < 128 by omega]
      · simp [hj]
theorem fo_flip (Wd H : Nat) (hm : mayB Wd H = true) (x : W) : (foF H x Wd).1 = wflip Wd H x := by
  obtain ⟨h1, h2, h3, h4⟩ := mayB_nat hm
  apply ext; intro i hi
  rw [fo_out H h4 x Wd h2, bit_wflip Wd H x (mayB_pl hm)]; rfl
/-- The reference's list. -/
def flCol (k : W) (c Wd x n : Nat) : List Int := ((List.range n).filter fun y => bit k (x * c + y)).map fun (y : Nat) => (((Wd - 1 - x) * c + y : Nat) : Int)
def flAll (k : W) (c Wd : Nat) : Nat → List Int
  | 0 => []
  | x + 1 => flAll k c Wd x ++ flCol k c Wd x c
theorem flCol_yes (k : W) (c Wd x n : Nat) (h : bit k (x * c + n) = true) : flCol k c Wd x (n + 1) = flCol k c Wd x n ++ [(((Wd - 1 - x) * c + n : Nat) : Int)] := by
  unfold flCol; rw [List.range_succ, List.filter_append, List.map_append]; simp [h]
theorem flCol_no (k : W) (c Wd x n : Nat) (h : bit k (x * c + n) = false) : flCol k c Wd x (n + 1) = flCol k c Wd x n := by
  unfold flCol; rw [List.range_succ, List.filter_append, List.map_append]; simp [h]
theorem flCol_len (k : W) (c Wd x n : Nat) : (flCol k c Wd x n).length ≤ n := by unfold flCol; rw [List.length_map]; exact Nat.le_trans (List.length_filter_le _ _) (by simp)
theorem flAll_len (k : W) (c Wd : Nat) : ∀ x, (flAll k c Wd x).length ≤ x * c
  | 0 => by simp [flAll]
  | x + 1 => by
    have h1 := flAll_len k c Wd x
    have h2 := flCol_len k c Wd x c
    rw [flAll, List.length_append, Nat.succ_mul]; omega
theorem mem_flCol (k : W) (c Wd x n : Nat) (p : Int) : p ∈ flCol k c Wd x n ↔ ∃ y, y < n ∧ bit k (x * c + y) = true ∧ p = (((Wd - 1 - x) * c + y : Nat) : Int) := by
  unfold flCol; simp only [List.mem_map, List.mem_filter, List.mem_range]
  constructor
  · rintro ⟨y, ⟨h, h2⟩, rfl⟩; exact ⟨y, h, h2, rfl⟩
  · rintro ⟨y, h, h2, rfl⟩; exact ⟨y, ⟨h, h2⟩, rfl⟩
theorem mem_flAll (k : W) (c Wd : Nat) : ∀ n (p : Int), p ∈ flAll k c Wd n ↔ ∃ x y, x < n ∧ y < c ∧ bit k (x * c + y) = true ∧ p = (((Wd - 1 - x) * c + y : Nat) : Int)
  | 0, p => by simp [flAll]
  | n + 1, p => by
    rw [flAll, List.mem_append, mem_flAll k c Wd n p, mem_flCol]
    constructor
    · rintro (⟨x, y, h1, h2, h3⟩ | ⟨y, h1, h2⟩)
      · exact ⟨x, y, by omega, h2, h3⟩
      · exact ⟨n, y, by omega, h1, h2⟩
    · rintro ⟨x, y, h1, h2, h3⟩
      by_cases e : x = n
      · subst e; exact .inr ⟨y, h2, h3⟩
      · exact .inl ⟨x, y, by omega, h2, h3⟩
theorem fl_flip (Wd H : Nat) (hm : mayB Wd H = true) (k : W) : wofs (flAll k (H + 1) Wd Wd) = wflip Wd H k := by
  have hp := mayB_pl hm
  apply ext; intro i hi
  rw [bit_wofs, any_iff]
  by_cases hlt : i < Wd * (H + 1)
  · obtain ⟨x, y, hx, hy, rfl⟩ := split_pl i (H + 1) Wd (by omega) hlt
    rw [flip_at Wd H k hp x y hx hy, Bool.eq_iff_iff]
    simp only [Bool.and_eq_true, decide_eq_true_eq, mem_flAll]
    constructor
    · rintro ⟨_, x', y', h1, h2, h3, h4⟩
      have e : x * (H + 1) + y = (Wd - 1 - x') * (H + 1) + y' := by omega
      have e1 := (place_iff _ x (H + 1) y hy).1 rfl
      have e2 := (place_iff _ (Wd - 1 - x') (H + 1) y' h2).1 e
      obtain rfl : y = y' := by omega
      rw [show Wd - 1 - x = x' by omega]; exact h3
    · intro hb
      exact ⟨hi, Wd - 1 - x, y, by omega, hy, hb, by rw [show Wd - 1 - (Wd - 1 - x) = x by omega]⟩
  · rw [flip_over Wd H k hp i (by omega), Bool.eq_false_iff]
    intro hh
    simp only [Bool.and_eq_true, decide_eq_true_eq, mem_flAll] at hh
    obtain ⟨_, x, y, h1, h2, h3, h4⟩ := hh
    have : (Wd - 1 - x + 1) * (H + 1) ≤ Wd * (H + 1) := Nat.mul_le_mul_right _ (by omega)
    rw [Nat.succ_mul] at this; omega
theorem lt_of_bit (n m i : Nat) (hn : n.testBit i = false) (hm : m.testBit i = true) (h : ∀ j, i < j → n.testBit j = m.testBit j) : n < m := by
  have e : n / 2 ^ (i + 1) = m / 2 ^ (i + 1) := by
    apply Nat.eq_of_testBit_eq; intro j
    rw [Nat.testBit_div_two_pow, Nat.testBit_div_two_pow]
    exact h _ (by omega)
  have a : n % 2 ^ (i + 1) < 2 ^ i := by
    apply Nat.lt_pow_two_of_testBit; intro j hj
    rw [Nat.testBit_mod_two_pow]
    by_cases e : j = i
    · subst e; rw [hn]; simp
    · rw [decide_eq_false (by omega)]; rfl
  have b : 2 ^ i ≤ m % 2 ^ (i + 1) := by
    apply Nat.ge_two_pow_of_testBit
    rw [Nat.testBit_mod_two_pow, hm]; simp
  have c1 := Nat.div_add_mod n (2 ^ (i + 1))
  have c2 := Nat.div_add_mod m (2 ^ (i + 1))
  rw [e] at c1; omega
theorem less_at (a b : W) (i : Nat) (h : ∀ j, i < j → bit a j = bit b j) (hn : bit a i ≠ bit b i) : wless a b = bit b i := by
  unfold wless
  cases hb : bit b i
  · have ha : bit a i = true := by cases h' : bit a i <;> simp_all
    have := lt_of_bit (nat b) (nat a) i hb ha (fun j hj => (h j hj).symm)
    rw [decide_eq_false (by omega)]
  · have ha : bit a i = false := by cases h' : bit a i <;> simp_all
    have := lt_of_bit (nat a) (nat b) i ha hb (fun j hj => h j hj)
    rw [decide_eq_true this]
theorem less_same (a b : W) (h : ∀ j, j < 128 → bit a j = bit b j) : wless a b = false := by
  obtain rfl : a = b := ext _ _ h
  unfold wless; simp
end Go.Proofs.Ytgiggomcpifjmaa
