/- Plain laws: four in a row, by cells. -/
import Derived.Test.YtgiggomcpifjmaaQb
set_option linter.unusedVariables false
namespace Go.Proofs.Ytgiggomcpifjmaa
open Plm
/-- Has a word a cell of the board? -/
def celB (Wd H : Nat) (x : W) (a b : Int) : Bool := decide (0 ≤ a ∧ a < Wd ∧ 0 ≤ b ∧ b < H) && bit x (a.toNat * (H + 1) + b.toNat)
def lineB (Wd H : Nat) (x : W) (a b da db : Int) : Bool := celB Wd H x a b && (celB Wd H x (a + da) (b + db) && (celB Wd H x (a + 2 * da) (b + 2 * db) && celB Wd H x (a + 3 * da) (b + 3 * db)))
def Dir (H d : Nat) (da db : Int) : Prop := (d = 1 ∧ da = 0 ∧ db = 1) ∨ (d = H ∧ da = 1 ∧ db = -1) ∨ (d = H + 1 ∧ da = 1 ∧ db = 0) ∨ (d = H + 2 ∧ da = 1 ∧ db = 1)
theorem bit_full (Wd H : Nat) (hm : mayB Wd H = true) (p : Nat) : bit (wfull Wd H) p = (decide (p / (H + 1) < Wd) && decide (p % (H + 1) < H)) := by
  rw [bit_nat, nat_wfull Wd H hm, dig_bit' (H + 1) (by omega) (fun _ => 2 ^ H - 1) Wd (fun x hx => Nat.lt_of_le_of_lt (Nat.sub_le _ _) (Nat.pow_lt_pow_right (by decide) (by omega))) p, Nat.testBit_two_pow_sub_one]
theorem bit_in (Wd H : Nat) (hm : mayB Wd H = true) (x : W) (p : Nat) : bit (wand x (wfull Wd H)) p = true ↔ p / (H + 1) < Wd ∧ p % (H + 1) < H ∧ bit x p = true := by
  rw [bit_wand, bit_full Wd H hm]; simp only [Bool.and_eq_true, decide_eq_true_eq]
  exact ⟨fun h => ⟨h.2.1, h.2.2, h.1⟩, fun h => ⟨h.2.2, h.1, h.2.1⟩⟩
theorem celB_iff (Wd H : Nat) (x : W) (a b : Int) : celB Wd H x a b = true ↔ ∃ A B : Nat, a = A ∧ b = B ∧ A < Wd ∧ B < H ∧ bit x (A * (H + 1) + B) = true := by
  unfold celB
  rw [Bool.and_eq_true, decide_eq_true_eq]
  constructor
  · rintro ⟨⟨h1, h2, h3, h4⟩, h5⟩
    exact ⟨a.toNat, b.toNat, by omega, by omega, by omega, by omega, h5⟩
  · rintro ⟨A, B, rfl, rfl, h1, h2, h3⟩
    exact ⟨by omega, by simpa using h3⟩
theorem cel_bit (Wd H : Nat) (hm : mayB Wd H = true) (x : W) (A B : Nat) : celB Wd H x A B = true ↔ B < H ∧ bit (wand x (wfull Wd H)) (A * (H + 1) + B) = true := by
  rw [celB_iff]
  constructor
  · rintro ⟨A', B', h1, h2, h3, h4, h5⟩
    obtain rfl : A = A' := by omega
    obtain rfl : B = B' := by omega
    have e := div_place A (H + 1) B (by omega)
    exact ⟨h4, (bit_in Wd H hm x _).2 ⟨by rw [e.1]; exact h3, by rw [e.2]; exact h4, h5⟩⟩
  · rintro ⟨h1, h2⟩
    have e := div_place A (H + 1) B (by omega)
    obtain ⟨g1, g2, g3⟩ := (bit_in Wd H hm x _).1 h2
    rw [e.1] at g1
    exact ⟨A, B, rfl, rfl, g1, h1, g3⟩
theorem four1_iff (y : W) (d : Nat) : wfour1 y d ≠ wz ↔ ∃ p, p + 3 * d < 128 ∧ bit y p = true ∧ bit y (p + d) = true ∧ bit y (p + 2 * d) = true ∧ bit y (p + 3 * d) = true := by
  have hb : ∀ i, bit (wfour1 y d) i = (decide (i < 128) && (decide (3 * d ≤ i) && (bit y i && (bit y (i - d) && (bit y (i - 2 * d) && bit y (i - 3 * d)))))) := by
    intro i
    have hs : ∀ s : Nat, wmove y d s = wup y ((s * d : Nat) : Int) := fun s => by unfold wmove; rw [if_neg (by omega)]; simp
    have hs0 := hs 0; have hs1 := hs 1; have hs2 := hs 2; have hs3 := hs 3
    simp only [Int.natCast_zero, Int.natCast_one] at hs0 hs1
    rw [show ((2 : Nat) : Int) = 2 from rfl] at hs2
    rw [show ((3 : Nat) : Int) = 3 from rfl] at hs3
    unfold wfour1 wall
    simp only [List.foldl_cons, List.foldl_nil]
    rw [hs0, hs1, hs2, hs3, bit_wand, bit_wand, bit_wand, bit_wup, bit_wup, bit_wup, bit_wup, Int.toNat_natCast, Int.toNat_natCast, Int.toNat_natCast, Int.toNat_natCast, Bool.eq_iff_iff]
    simp only [Bool.and_eq_true, Bool.not_eq_true', decide_eq_true_eq, decide_eq_false_iff_not, Nat.zero_mul, Nat.one_mul, Nat.sub_zero]
    constructor
    · rintro ⟨⟨⟨⟨⟨a1, a2⟩, a3⟩, ⟨b1, b2⟩, b3⟩, ⟨c1, c2⟩, c3⟩, ⟨d1, d2⟩, d3⟩; exact ⟨a1, by omega, a3, b3, c3, d3⟩
    · rintro ⟨a1, a2, a3, b3, c3, d3⟩; exact ⟨⟨⟨⟨⟨a1, by omega⟩, a3⟩, ⟨a1, by omega⟩, b3⟩, ⟨a1, by omega⟩, c3⟩, ⟨a1, by omega⟩, d3⟩
  constructor
  · intro h
    have hex : ∃ i, i < 128 ∧ bit (wfour1 y d) i = true := by
      apply Classical.byContradiction; intro hn
      apply h; apply ext; intro i hi
      rw [bit_wz, Bool.eq_false_iff]; intro hb'; exact hn ⟨i, hi, hb'⟩
    obtain ⟨i, hi, hbi⟩ := hex
    rw [hb] at hbi
    simp only [Bool.and_eq_true, decide_eq_true_eq] at hbi
    obtain ⟨_, h1, h2, h3, h4, h5⟩ := hbi
    refine ⟨i - 3 * d, by omega, h5, ?_, ?_, ?_⟩
    · rw [show i - 3 * d + d = i - 2 * d by omega]; exact h4
    · rw [show i - 3 * d + 2 * d = i - d by omega]; exact h3
    · rw [show i - 3 * d + 3 * d = i by omega]; exact h2
  · rintro ⟨p, h0, h1, h2, h3, h4⟩ he
    have := hb (p + 3 * d)
    rw [he, bit_wz, show p + 3 * d - d = p + 2 * d by omega, show p + 3 * d - 2 * d = p + d by omega, show p + 3 * d - 3 * d = p by omega, h1, h2, h3, h4] at this
    simp [h0] at this
theorem wor_wz_iff (x y : W) : wor x y ≠ wz ↔ x ≠ wz ∨ y ≠ wz := by
  constructor
  · intro h
    by_cases hx : x = wz
    · by_cases hy : y = wz
      · subst hx hy; exact absurd (wor_wz wz) h
      · exact .inr hy
    · exact .inl hx
  · intro h he
    have hb : ∀ i, bit x i = false ∧ bit y i = false := fun i => by
      have := bit_wor x y i
      rw [he, bit_wz] at this
      cases h1 : bit x i <;> cases h2 : bit y i <;> simp [h1, h2] at this <;> simp
    rcases h with h | h
    · exact h (ext _ _ fun i _ => by rw [(hb i).1, bit_wz])
    · exact h (ext _ _ fun i _ => by rw [(hb i).2, bit_wz])
theorem wfour_iff (Wd H : Nat) (hm : mayB Wd H = true) (x : W) : wfour Wd H x = true ↔ ∃ d da db, Dir H d da db ∧ wfour1 (wand x (wfull Wd H)) d ≠ wz := by
  unfold wfour wways
  rw [if_pos hm, decide_eq_true_eq, wor_wz_iff, wor_wz_iff, wor_wz_iff, wor_wz_iff]
  constructor
  · rintro ((((h | h) | h) | h) | h)
    · exact absurd rfl h
    · exact ⟨1, 0, 1, .inl ⟨rfl, rfl, rfl⟩, h⟩
    · exact ⟨H, 1, -1, .inr (.inl ⟨rfl, rfl, rfl⟩), h⟩
    · exact ⟨H + 1, 1, 0, .inr (.inr (.inl ⟨rfl, rfl, rfl⟩)), h⟩
    · exact ⟨H + 2, 1, 1, .inr (.inr (.inr ⟨rfl, rfl, rfl⟩)), h⟩
  · rintro ⟨d, da, db, ⟨rfl, _, _⟩ | ⟨rfl, _, _⟩ | ⟨rfl, _, _⟩ | ⟨rfl, _, _⟩, h⟩
    · exact .inl (.inl (.inl (.inr h)))
    · exact .inl (.inl (.inr h))
    · exact .inl (.inr h)
    · exact .inr h
/-- One step in a direction, both ends cells. -/
theorem dir_step (Wd H : Nat) (h4 : 4 ≤ H) (d : Nat) (da db : Int) (hd : Dir H d da db) (A B : Nat) (hB : B < H) (hr : (A * (H + 1) + B + d) % (H + 1) < H) :
    ∃ A' B' : Nat, (A' : Int) = A + da ∧ (B' : Int) = B + db ∧ B' < H ∧ A * (H + 1) + B + d = A' * (H + 1) + B' := by
  rcases hd with ⟨rfl, rfl, rfl⟩ | ⟨rfl, rfl, rfl⟩ | ⟨rfl, rfl, rfl⟩ | ⟨rfl, rfl, rfl⟩
  · rw [show A * (H + 1) + B + 1 = A * (H + 1) + (B + 1) by omega, (div_place A (H + 1) (B + 1) (by omega)).2] at hr
    exact ⟨A, B + 1, by omega, by omega, hr, by omega⟩
  · by_cases h0 : B = 0
    · subst h0
      rw [show A * (d + 1) + 0 + d = A * (d + 1) + d by omega, (div_place A (d + 1) d (by omega)).2] at hr
      omega
    · exact ⟨A + 1, B - 1, by omega, by omega, by omega, by rw [Nat.succ_mul]; omega⟩
  · exact ⟨A + 1, B, by omega, by omega, hB, by rw [Nat.succ_mul]; omega⟩
  · rw [show A * (H + 1) + B + (H + 2) = (A + 1) * (H + 1) + (B + 1) by rw [Nat.succ_mul]; omega, (div_place (A + 1) (H + 1) (B + 1) (by omega)).2] at hr
    exact ⟨A + 1, B + 1, by omega, by omega, hr, by rw [Nat.succ_mul]; omega⟩
theorem dir_place (H d : Nat) (da db : Int) (hd : Dir H d da db) (A B A' B' : Nat) (h1 : (A' : Int) = A + da) (h2 : (B' : Int) = B + db) : A * (H + 1) + B + d = A' * (H + 1) + B' := by
  rcases hd with ⟨rfl, rfl, rfl⟩ | ⟨rfl, rfl, rfl⟩ | ⟨rfl, rfl, rfl⟩ | ⟨rfl, rfl, rfl⟩
  · obtain rfl : A' = A := by omega
    omega
  · obtain rfl : A' = A + 1 := by omega
    rw [Nat.succ_mul]; omega
  · obtain rfl : A' = A + 1 := by omega
    rw [Nat.succ_mul]; omega
  · obtain rfl : A' = A + 1 := by omega
    rw [Nat.succ_mul]; omega
/-- FOUR IN A ROW, BY CELLS. -/
theorem four_line (Wd H : Nat) (hm : mayB Wd H = true) (x : W) : wfour Wd H x = true ↔ ∃ d a b da db, Dir H d da db ∧ lineB Wd H x a b da db = true := by
  obtain ⟨h1, h2, h3, h4⟩ := mayB_nat hm
  rw [wfour_iff Wd H hm]
  constructor
  · rintro ⟨d, da, db, hd, h⟩
    obtain ⟨p, g0, g1, g2, g3, g5⟩ := (four1_iff _ _).1 h
    obtain ⟨i1, i2, _⟩ := (bit_in Wd H hm x _).1 g1
    obtain ⟨_, j2, _⟩ := (bit_in Wd H hm x _).1 g2
    obtain ⟨_, k2, _⟩ := (bit_in Wd H hm x _).1 g3
    obtain ⟨_, l2, _⟩ := (bit_in Wd H hm x _).1 g5
    have ep : p = p / (H + 1) * (H + 1) + p % (H + 1) := by rw [Nat.mul_comm]; exact (Nat.div_add_mod p (H + 1)).symm
    generalize p / (H + 1) = A at *
    generalize p % (H + 1) = B at *
    subst ep
    obtain ⟨A1, B1, a1, b1, c1, e1⟩ := dir_step Wd H h3 d da db hd A B i2 j2
    rw [e1] at g2
    rw [show A * (H + 1) + B + 2 * d = A1 * (H + 1) + B1 + d by omega] at g3 k2
    obtain ⟨A2, B2, a2, b2, c2, e2⟩ := dir_step Wd H h3 d da db hd A1 B1 c1 k2
    rw [e2] at g3
    rw [show A * (H + 1) + B + 3 * d = A2 * (H + 1) + B2 + d by omega] at g5 l2
    obtain ⟨A3, B3, a3, b3, c3, e3⟩ := dir_step Wd H h3 d da db hd A2 B2 c2 l2
    rw [e3] at g5
    refine ⟨d, A, B, da, db, hd, ?_⟩
    unfold lineB
    rw [Bool.and_eq_true, Bool.and_eq_true, Bool.and_eq_true, ← a1, ← b1, show (A : Int) + 2 * da = A2 by omega, show (B : Int) + 2 * db = B2 by omega, show (A : Int) + 3 * da = A3 by omega, show (B : Int) + 3 * db = B3 by omega]
    exact ⟨(cel_bit Wd H hm x A B).2 ⟨i2, g1⟩, (cel_bit Wd H hm x A1 B1).2 ⟨c1, g2⟩, (cel_bit Wd H hm x A2 B2).2 ⟨c2, g3⟩, (cel_bit Wd H hm x A3 B3).2 ⟨c3, g5⟩⟩
  · rintro ⟨d, a, b, da, db, hd, h⟩
    unfold lineB at h
    rw [Bool.and_eq_true, Bool.and_eq_true, Bool.and_eq_true] at h
    obtain ⟨g0, g1, g2, g3⟩ := h
    obtain ⟨A, B, rfl, rfl, _, _, _⟩ := (celB_iff Wd H x _ _).1 g0
    obtain ⟨A1, B1, a1, b1, _, _, _⟩ := (celB_iff Wd H x _ _).1 g1
    obtain ⟨A2, B2, a2, b2, _, _, _⟩ := (celB_iff Wd H x _ _).1 g2
    obtain ⟨A3, B3, a3, b3, _, _, _⟩ := (celB_iff Wd H x _ _).1 g3
    rw [a1, b1] at g1; rw [a2, b2] at g2; rw [a3, b3] at g3
    have q0 := ((cel_bit Wd H hm x A B).1 g0).2
    have q1 := ((cel_bit Wd H hm x A1 B1).1 g1).2
    have q2 := ((cel_bit Wd H hm x A2 B2).1 g2).2
    have q3 := ((cel_bit Wd H hm x A3 B3).1 g3).2
    have p1 := dir_place H d da db hd A B A1 B1 (by omega) (by omega)
    have p2 := dir_place H d da db hd A1 B1 A2 B2 (by omega) (by omega)
    have p3 := dir_place H d da db hd A2 B2 A3 B3 (by omega) (by omega)
    have hlt : A * (H + 1) + B + 3 * d < 128 := by
      rcases Nat.lt_or_ge (A * (H + 1) + B + 3 * d) 128 with g | g
      · exact g
      · rw [show A * (H + 1) + B + 3 * d = A3 * (H + 1) + B3 by omega] at g
        rw [bit_ge _ _ g] at q3; cases q3
    refine ⟨d, da, db, hd, (four1_iff _ _).2 ⟨A * (H + 1) + B, hlt, q0, ?_, ?_, ?_⟩⟩
    · rw [p1]; exact q1
    · rw [show A * (H + 1) + B + 2 * d = A2 * (H + 1) + B2 by omega]; exact q2
    · rw [show A * (H + 1) + B + 3 * d = A3 * (H + 1) + B3 by omega]; exact q3
end Go.Proofs.Ytgiggomcpifjmaa
