/- Plain laws: the code's positions and the reference's go together. Plain laws: a stone more, in both. Plain laws: a whole play, in both; the key of what it comes to. -/
import Derived.Test.YtgiggomcpifjmaaQe
import Derived.Test.YtgiggomcpifjmaaUg
import Derived.Test.YtgiggomcpifjmaaVe
set_option linter.unusedVariables false
set_option linter.unusedSimpArgs false

namespace Go.Proofs.Ytgiggomcpifjmaa
open Plm
def turnN (n : Int) : Int := if n % 2 = 0 then 1 else 2
theorem turn_next (n : Int) : turnN (n + 1) = 3 - turnN n := by unfold turnN; split <;> split <;> omega
theorem turn_12 (n : Int) : turnN n = 1 ∨ turnN n = 2 := by unfold turnN; split <;> simp
theorem good_stepE {Wd H : Nat} {t : St} {h d : Nat → Nat} (hm : mayB Wd H = true) (g : Good Wd H t h d) (X : Nat) (hX : X < Wd) (lt : h X < H) :
    Good Wd H (stepS Wd H t X) (fun z => if z = X then h z + 1 else h z) (fun z => (2 ^ h z - 1) ^^^ d z) := by
  have e := nat_wat Wd H X t.s h hm hX g.hh g.hs
  refine ⟨?_, ?_, ?_, ?_⟩
  · intro z hz
    show (if z = X then h z + 1 else h z) ≤ H
    have := g.hh z hz
    split
    · rename_i q; subst q; omega
    · exact this
  · intro z hz
    have := low_xor (h z) (d z) (g.hd z hz)
    show (2 ^ h z - 1) ^^^ d z < 2 ^ (if z = X then h z + 1 else h z)
    split
    · exact Nat.lt_trans this (Nat.pow_lt_pow_right (by decide) (by omega))
    · exact this
  · show nat (wor t.s (wat Wd H t.s X)) = _
    have l : ∀ z, z < Wd → (fun z => if z = X ∧ h z < H then 2 ^ h z else 0) z < 2 ^ (H + 1) := fun z hz => by
      show (if z = X ∧ h z < H then 2 ^ h z else 0) < _
      split
      · exact g.lt z hz
      · exact Nat.two_pow_pos _
    rw [nat_wor, e, g.hs, (dig_op (H + 1) (by omega) (fun z => 2 ^ h z - 1) _ Wd g.lts l).2.1]
    refine dig_congr _ _ _ _ fun z hz => ?_
    by_cases q : z = X
    · subst q; rw [if_pos ⟨rfl, lt⟩, if_pos rfl, low_or]
    · have n : ¬ (z = X ∧ h z < H) := fun r => q r.1
      rw [if_neg n, if_neg q, Nat.or_zero]
  · show nat (wxor t.s t.m) = _
    rw [nat_wxor, g.hs, g.hm, (dig_op (H + 1) (by omega) (fun z => 2 ^ h z - 1) d Wd g.lts g.ltd).2.2]
/-- What a cell of the reference holds. -/
def cellV (n : Int) (h d : Nat → Nat) (x y : Nat) : Int := if y < h x then (if (d x).testBit y = true then turnN n else 3 - turnN n) else 0
structure Rel (Wd H : Nat) (t : St) (h d : Nat → Nat) (f : Nat → Int) : Prop where
  g : Good Wd H t h d
  f0 : f 0 = Wd
  f1 : f 1 = H
  n : f 130 = t.n
  c : ∀ x y, x < Wd → y < H → f (2 + x * 8 + y) = cellV t.n h d x y
  won : f 131 ≠ 0 ↔ t.won = true
  no : t.won = false → wfour Wd H t.m = false ∧ wfour Wd H (wxor t.s t.m) = false
  inn : PosIn f
  bal : Bal t
section
variable {Wd H : Nat} {t : St} {h d : Nat → Nat} {f : Nat → Int}
theorem Rel.at (r : Rel Wd H t h d f) (x y : Nat) (hx : x < Wd) (hy : y < H) : pAt f x y = cellV t.n h d x y := by
  unfold pAt
  rw [if_pos ⟨by omega, by rw [r.f0]; omega, by omega, by rw [r.f1]; omega⟩, Int.toNat_natCast, Int.toNat_natCast, r.c x y hx hy]
theorem pAt_out (f : Nat → Int) (x y : Int) (h : ¬ (0 ≤ x ∧ x < f 0 ∧ 0 ≤ y ∧ y < f 1)) : pAt f x y = 0 := by unfold pAt; rw [if_neg h]
theorem cellV_zero (n : Int) (h d : Nat → Nat) (x y : Nat) : cellV n h d x y = 0 ↔ h x ≤ y := by
  unfold cellV
  have := turn_12 n
  split
  · split <;> omega
  · omega
theorem Rel.pH (r : Rel Wd H t h d f) (x : Nat) (hx : x < Wd) : ∀ n, n ≤ H → pH f x n = ((if n ≤ h x then n else h x : Nat) : Int)
  | 0, _ => by rw [Proofs.Ytgiggomcpifjmaa.pH]; simp
  | n + 1, hn => by
    have ih := r.pH x hx n (by omega)
    by_cases hz : pAt f x n = 0
    · rw [pH_no f x n hz, ih]
      rw [r.at x n hx (by omega), cellV_zero] at hz
      rw [if_neg (show ¬ n + 1 ≤ h x by omega)]
      split <;> omega
    · rw [pH_yes f x n hz, ih]
      rw [r.at x n hx (by omega), cellV_zero] at hz
      rw [if_pos (show n ≤ h x by omega), if_pos (show n + 1 ≤ h x by omega)]
      omega
theorem Rel.height (r : Rel Wd H t h d f) (x : Nat) (hx : x < Wd) : Proofs.Ytgiggomcpifjmaa.pH f x (f 1).toNat = (h x : Int) := by
  have hh := r.g.hh x hx
  rw [r.f1, Int.toNat_natCast, r.pH x hx H (Nat.le_refl _)]
  split <;> omega
theorem pH_out (f : Nat → Int) (x : Int) (hx : x < 0 ∨ f 0 ≤ x) : ∀ n, pH f x n = 0
  | 0 => rfl
  | n + 1 => by rw [pH_no f x n (pAt_out f x n (by omega)), pH_out f x hx n]
theorem Rel.can (hm : mayB Wd H = true) (r : Rel Wd H t h d f) (x : Int) : pCan f x = canS Wd H t x := by
  unfold pCan canS canP pOver posOver
  have e1 : (decide (f 131 ≠ 0) || decide (f 130 = f 0 * f 1)) = (t.won || (t.n == (Wd : Int) * (H : Int))) := by
    rw [r.n, r.f0, r.f1]
    have h1 : decide (f 131 ≠ 0) = t.won := by
      rw [Bool.eq_iff_iff, decide_eq_true_eq]; exact r.won
    rw [h1]
    congr 1
  rw [e1, r.f0]
  split
  · rfl
  · split
    · rfl
    · rename_i a b
      obtain ⟨X, rfl⟩ := Int.eq_ofNat_of_zero_le (show 0 ≤ x by omega)
      have hX : X < Wd := by omega
      have hh := r.g.hh X hX
      rw [r.height X hX, r.f1, wat_eq (h := h) X hm hX r.g.hh r.g.hs]
      obtain ⟨h1, h2, h3, h4⟩ := mayB_nat hm
      have hp : X * (H + 1) ≤ 7 * 9 := Nat.mul_le_mul (by omega) (by omega)
      by_cases e : h X = H
      · rw [if_pos (by omega), if_neg (show ¬ h X < H by omega), if_pos rfl]
      · rw [if_neg (by omega), if_pos (show h X < H by omega), if_neg (wof_ne _ (by omega))]
end
end Go.Proofs.Ytgiggomcpifjmaa

namespace Go.Proofs.Ytgiggomcpifjmaa
open Plm
theorem line_all (Wd H : Nat) (u : W) (a b da db : Int) : lineB Wd H u a b da db = true ↔ ∀ i : Nat, i < 4 → celB Wd H u (a + i * da) (b + i * db) = true := by
  unfold lineB
  simp only [Bool.and_eq_true]
  constructor
  · rintro ⟨h0, h1, h2, h3⟩ i hi
    have : i = 0 ∨ i = 1 ∨ i = 2 ∨ i = 3 := by omega
    rcases this with rfl | rfl | rfl | rfl
    · simpa using h0
    · simpa using h1
    · exact h2
    · exact h3
  · intro h
    have h0 := h 0 (by omega); have h1 := h 1 (by omega); have h2 := h 2 (by omega); have h3 := h 3 (by omega)
    exact ⟨by simpa using h0, by simpa using h1, h2, h3⟩
theorem rowOk_all (f : Nat → Int) (who : Int) (Wd H : Nat) (u : W) (hp : ∀ a b : Int, pAt f a b = who ↔ celB Wd H u a b = true) (a b dx dy : Int) : rowOk f a b dx dy who 4 ↔ lineB Wd H u a b dx dy = true := by
  rw [line_all]
  unfold rowOk
  exact ⟨fun h i hi => (hp _ _).1 (h i hi), fun h i hi => (hp _ _).2 (h i hi)⟩
theorem line_rev (Wd H : Nat) (u : W) (a b da db : Int) (h : lineB Wd H u a b da db = true) : lineB Wd H u (a + 3 * da) (b + 3 * db) (-da) (-db) = true := by
  rw [line_all] at h ⊢
  intro i hi
  have := h (3 - i) (by omega)
  have e : ((3 - i : Nat) : Int) = 3 - (i : Int) := by omega
  rw [e] at this
  have e1 : a + 3 * da + (i : Int) * -da = a + (3 - (i : Int)) * da := by rw [Int.sub_mul, Int.mul_neg]; omega
  have e2 : b + 3 * db + (i : Int) * -db = b + (3 - (i : Int)) * db := by rw [Int.sub_mul, Int.mul_neg]; omega
  rw [e1, e2]; exact this
/-- Rows through a cell, and rows of four anywhere: the cell is the only new one. -/
theorem win_iff (Wd H : Nat) (hm : mayB Wd H = true) (f3 : Nat → Int) (who : Int) (m own : W) (X Y : Nat) (hp : ∀ a b : Int, pAt f3 a b = who ↔ celB Wd H own a b = true)
    (hnew : ∀ a b : Int, celB Wd H own a b = true → celB Wd H m a b = true ∨ (a = X ∧ b = Y)) (hno : wfour Wd H m = false) : 0 < cA f3 who X Y H Wd ↔ wfour Wd H own = true := by
  rw [cA_pos, four_line Wd H hm]
  constructor
  · rintro ⟨a, b, d, h1, h2, h3, h4, _⟩
    rw [rowOk_all f3 who Wd H own hp] at h4
    have : d = 0 ∨ d = 1 ∨ d = 2 ∨ d = 3 := by omega
    rcases this with rfl | rfl | rfl | rfl
    · exact ⟨H + 1, a, b, 1, 0, .inr (.inr (.inl ⟨rfl, rfl, rfl⟩)), h4⟩
    · exact ⟨H + 2, a, b, 1, 1, .inr (.inr (.inr ⟨rfl, rfl, rfl⟩)), h4⟩
    · exact ⟨1, a, b, 0, 1, .inl ⟨rfl, rfl, rfl⟩, h4⟩
    · exact ⟨H, _, _, 1, -1, .inr (.inl ⟨rfl, rfl, rfl⟩), line_rev Wd H own a b (-1) 1 h4⟩
  · rintro ⟨d, a, b, da, db, hd, hl⟩
    have hon : ∃ i : Nat, i < 4 ∧ a + i * da = X ∧ b + i * db = Y := by
      apply Classical.byContradiction; intro hn
      have : wfour Wd H m = true := by
        rw [four_line Wd H hm]
        refine ⟨d, a, b, da, db, hd, ?_⟩
        rw [line_all] at hl ⊢
        intro i hi
        rcases hnew _ _ (hl i hi) with g | g
        · exact g
        · exact absurd ⟨i, hi, g.1, g.2⟩ hn
      rw [hno] at this; cases this
    obtain ⟨i, hi, hx, hy⟩ := hon
    have start : ∀ a b da db : Int, lineB Wd H own a b da db = true → ∃ A B : Nat, a = A ∧ b = B ∧ A < Wd ∧ B < H := fun a b da db h => by
      have := (line_all Wd H own a b da db).1 h 0 (by omega)
      obtain ⟨A, B, h1, h2, h3, h4, _⟩ := (celB_iff Wd H own _ _).1 this
      exact ⟨A, B, by simpa using h1, by simpa using h2, h3, h4⟩
    rcases hd with ⟨_, rfl, rfl⟩ | ⟨_, rfl, rfl⟩ | ⟨_, rfl, rfl⟩ | ⟨_, rfl, rfl⟩
    · obtain ⟨A, B, rfl, rfl, hA, hB⟩ := start _ _ _ _ hl
      exact ⟨A, B, 2, hA, hB, by omega, (rowOk_all f3 who Wd H own hp _ _ _ _).2 hl, i, hi, hx, hy⟩
    · have hl' := line_rev Wd H own a b 1 (-1) hl
      obtain ⟨A, B, hA1, hB1, hA, hB⟩ := start _ _ _ _ hl'
      rw [hA1, hB1] at hl'
      refine ⟨A, B, 3, hA, hB, by omega, (rowOk_all f3 who Wd H own hp _ _ _ _).2 hl', 3 - i, by omega, ?_, ?_⟩
      · show (A : Int) + ((3 - i : Nat) : Int) * -1 = X; omega
      · show (B : Int) + ((3 - i : Nat) : Int) * 1 = Y; omega
    · obtain ⟨A, B, rfl, rfl, hA, hB⟩ := start _ _ _ _ hl
      exact ⟨A, B, 0, hA, hB, by omega, (rowOk_all f3 who Wd H own hp _ _ _ _).2 hl, i, hi, hx, hy⟩
    · obtain ⟨A, B, rfl, rfl, hA, hB⟩ := start _ _ _ _ hl
      exact ⟨A, B, 1, hA, hB, by omega, (rowOk_all f3 who Wd H own hp _ _ _ _).2 hl, i, hi, hx, hy⟩
section
variable {Wd H : Nat} {t : St} {h d : Nat → Nat} {f : Nat → Int}
theorem celB_nat (u : W) (x y : Nat) : celB Wd H u x y = (decide (x < Wd ∧ y < H) && bit u (x * (H + 1) + y)) := by
  unfold celB
  rw [Int.toNat_natCast, Int.toNat_natCast]
  congr 1
  rw [decide_eq_decide]; omega
theorem Rel.step (hm : mayB Wd H = true) (r : Rel Wd H t h d f) (X : Nat) (hX : X < Wd) (hc : canS Wd H t X = 0) :
    Rel Wd H (stepS Wd H t X) (fun z => if z = X then h z + 1 else h z) (fun z => (2 ^ h z - 1) ^^^ d z) (dropF f X) := by
  obtain ⟨w1, w2, h1, h2⟩ := mayB_nat hm
  have hpX : X * (H + 1) ≤ 7 * 9 := Nat.mul_le_mul (by omega) (by omega)
  have hcan : pCan f X = 0 := by rw [r.can hm]; exact hc
  obtain ⟨_, _, hpH, hov⟩ := pCan_zero f X hcan
  have hheight := r.height X hX
  have hhX := r.g.hh X hX
  have hlt : h X < H := by
    rw [hheight, r.f1] at hpH; omega
  have hwon : t.won = false := by
    unfold pOver at hov
    simp only [Bool.or_eq_false_iff, decide_eq_false_iff_not] at hov
    cases e : t.won
    · rfl
    · exact absurd (r.won.2 e) hov.1
  have hf131 : f 131 = 0 := by
    unfold pOver at hov
    simp only [Bool.or_eq_false_iff, decide_eq_false_iff_not] at hov
    exact Decidable.not_not.1 hov.1
  have hn64 := (r.inn.lt hcan).2
  have hn0 := r.inn.ok.n1
  have hY : dropY f X = h X := by unfold dropY; rw [hheight, Int.toNat_natCast]
  have hT : pTurn f = turnN t.n := by unfold pTurn turnN; rw [r.n]
  have hwat : wat Wd H t.s X = wof ((X * (H + 1) + h X : Nat) : Int) := by rw [wat_eq (h := h) X hm hX r.g.hh r.g.hs, if_pos hlt]
  have g' := good_stepE hm r.g X hX hlt
  -- the cells behind the drop
  have hcells : ∀ x y, x < Wd → y < H → drop3 f X (2 + x * 8 + y) = if x = X ∧ y = h X then turnN t.n else f (2 + x * 8 + y) := by
    intro x y hx hy
    unfold drop3 drop2 drop1
    rw [upd_ne _ _ _ _ (by omega), upd_ne _ _ _ _ (by omega), hY, hT]
    by_cases e : x = X ∧ y = h X
    · rw [if_pos e, e.1, e.2, upd_at]
    · rw [if_neg e, upd_ne _ _ _ _ (by omega)]
  have e0 : drop3 f X 0 = Wd := by rw [drop3_ne f X 0 (by omega) (by omega) (by omega), r.f0]
  have e1 : drop3 f X 1 = H := by rw [drop3_ne f X 1 (by omega) (by omega) (by omega), r.f1]
  have e130 : drop3 f X 130 = t.n + 1 := by unfold drop3; rw [upd_at, r.n]
  have e131 : drop3 f X 131 = 0 := by rw [drop3_ne f X 131 (by omega) (by omega) (by omega), hf131]
  have hd0 : ∀ z, z < Wd → (d z).testBit (h z) = false := fun z hz => r.g.d_above z (h z) hz (Nat.le_refl _)
  -- own cells
  have hbit : ∀ x y, x < Wd → y < H + 1 → bit (wor t.m (wat Wd H t.s X)) (x * (H + 1) + y) = ((d x).testBit y || decide (x = X ∧ y = h X)) := by
    intro x y hx hy
    rw [bit_wor, r.g.bit_m x y hx hy, hwat, bit_wof]
    congr 1
    rw [Bool.eq_iff_iff]
    simp only [Bool.and_eq_true, decide_eq_true_eq]
    have hlt' : x * (H + 1) + y < 128 := by
      have : (x + 1) * (H + 1) ≤ 8 * 9 := Nat.mul_le_mul (by omega) (by omega)
      rw [Nat.succ_mul] at this; omega
    constructor
    · rintro ⟨_, he⟩
      have he' : x * (H + 1) + y = X * (H + 1) + h X := by omega
      have a1 := (place_iff _ x (H + 1) y hy).1 rfl
      have a2 := (place_iff _ X (H + 1) (h X) (by omega)).1 he'
      omega
    · rintro ⟨rfl, rfl⟩; exact ⟨⟨by omega, hlt'⟩, rfl⟩
  have hwho := turn_12 t.n
  have hp : ∀ a b : Int, pAt (drop3 f X) a b = turnN t.n ↔ celB Wd H (wor t.m (wat Wd H t.s X)) a b = true := by
    intro a b
    by_cases hin : 0 ≤ a ∧ a < Wd ∧ 0 ≤ b ∧ b < H
    · obtain ⟨i1, i2, i3, i4⟩ := hin
      obtain ⟨x, rfl⟩ := Int.eq_ofNat_of_zero_le i1
      obtain ⟨y, rfl⟩ := Int.eq_ofNat_of_zero_le i3
      have hx : x < Wd := by omega
      have hy : y < H := by omega
      have hpa : pAt (drop3 f X) x y = drop3 f X (2 + x * 8 + y) := by
        unfold pAt; rw [if_pos ⟨by omega, by rw [e0]; omega, by omega, by rw [e1]; omega⟩, Int.toNat_natCast, Int.toNat_natCast]
      rw [hpa, hcells x y hx hy, celB_nat, hbit x y hx (by omega)]
      by_cases e : x = X ∧ y = h X
      · rw [if_pos e]; simp [e.1, e.2, hX, hlt]
      · rw [if_neg e, r.c x y hx hy]
        unfold cellV
        simp only [e, decide_false, Bool.or_false, hx, hy, and_self, decide_true, Bool.true_and]
        by_cases hyh : y < h x
        · rw [if_pos hyh]
          split
          · rename_i hb; simp [hb]
          · rename_i hb; simp [hb]; omega
        · rw [if_neg hyh, r.g.d_above x y hx (by omega)]; simp; omega
    · rw [pAt_out _ _ _ (by rw [e0, e1]; exact hin)]
      have hcb : celB Wd H (wor t.m (wat Wd H t.s X)) a b = false := by
        rw [Bool.eq_false_iff]; intro hcb
        obtain ⟨A, B, rfl, rfl, q1, q2, _⟩ := (celB_iff Wd H _ _ _).1 hcb
        exact hin ⟨by omega, by omega, by omega, by omega⟩
      rw [hcb]; simp; omega
  have hnew : ∀ a b : Int, celB Wd H (wor t.m (wat Wd H t.s X)) a b = true → celB Wd H t.m a b = true ∨ (a = X ∧ b = (h X : Nat)) := by
    intro a b hcb
    obtain ⟨A, B, rfl, rfl, q1, q2, q3⟩ := (celB_iff Wd H _ _ _).1 hcb
    rw [hbit A B q1 (by omega)] at q3
    simp only [Bool.or_eq_true, decide_eq_true_eq] at q3
    rcases q3 with q3 | q3
    · left; rw [celB_nat, r.g.bit_m A B q1 (by omega), q3]; simp [q1, q2]
    · right; exact ⟨by omega, by omega⟩
  have hwin : 0 < dropWin f X ↔ wfour Wd H (wor t.m (wat Wd H t.s X)) = true := by
    unfold dropWin
    rw [hY, hT, r.f0, r.f1, Int.toNat_natCast, Int.toNat_natCast]
    exact win_iff Wd H hm _ _ t.m _ X (h X) hp hnew (r.no hwon).1
  have hdj : ∀ j, j ≠ 131 → dropF f X j = drop3 f X j := fun j hj => by
    unfold dropF; split
    · exact upd_ne _ _ _ _ hj
    · rfl
  have hsub := r.g.sub
  have hcs : ∀ i, bit (wat Wd H t.s X) i = true → bit t.s i = false := by
    intro i hi
    rw [hwat, bit_wof] at hi
    simp only [Bool.and_eq_true, decide_eq_true_eq] at hi
    obtain rfl : i = X * (H + 1) + h X := by omega
    rw [r.g.bit_s X (h X) hX (by omega)]; simp
  refine ⟨g', ?_, ?_, ?_, ?_, ?_, ?_, r.inn.drop hcan, bal_step hm r.g r.bal hc⟩
  · rw [hdj 0 (by omega), e0]
  · rw [hdj 1 (by omega), e1]
  · rw [hdj 130 (by omega), e130]; rfl
  · intro x y hx hy
    rw [hdj _ (by omega), hcells x y hx hy]
    show _ = cellV (t.n + 1) _ _ x y
    unfold cellV
    have hxor : ∀ y, y < h x → ((2 ^ h x - 1) ^^^ d x).testBit y = !(d x).testBit y := fun y hy => by
      rw [Nat.testBit_xor, Nat.testBit_two_pow_sub_one]; simp [hy]
    by_cases e : x = X ∧ y = h X
    · obtain ⟨rfl, rfl⟩ := e
      rw [if_pos ⟨rfl, rfl⟩]
      have hb : ((2 ^ h x - 1) ^^^ d x).testBit (h x) = false := by
        rw [Nat.testBit_xor, Nat.testBit_two_pow_sub_one, hd0 x hx]; simp
      simp only [if_true, hb]
      rw [if_pos (by omega), if_neg (by simp), turn_next]; omega
    · rw [if_neg e, r.c x y hx hy]
      unfold cellV
      by_cases hyh : y < h x
      · rw [if_pos hyh]
        have : y < (if x = X then h x + 1 else h x) := by split <;> omega
        rw [if_pos this]
        rw [hxor y hyh, turn_next]
        cases (d x).testBit y <;> simp <;> omega
      · rw [if_neg hyh]
        have : ¬ y < (if x = X then h x + 1 else h x) := by
          split
          · rename_i q; intro hh; exact e ⟨q, by subst q; omega⟩
          · exact hyh
        rw [if_neg this]
  · show dropF f X 131 ≠ 0 ↔ wonP Wd H t.m t.s X = true
    unfold wonP
    rw [← hwin]
    unfold dropF
    by_cases hw : 0 < dropWin f X
    · rw [if_pos hw, upd_at, hT]
      exact ⟨fun _ => hw, fun _ => by omega⟩
    · rw [if_neg hw, e131]
      exact ⟨fun q => absurd rfl q, fun q => absurd q hw⟩
  · intro hwn
    have hwn' : wfour Wd H (wor t.m (wat Wd H t.s X)) = false := hwn
    refine ⟨(r.no hwon).2, ?_⟩
    have : wxor (wor t.s (wat Wd H t.s X)) (wxor t.s t.m) = wor t.m (wat Wd H t.s X) := by
      apply ext; intro i hi
      rw [bit_wxor, bit_wor, bit_wxor, bit_wor]
      have q1 := hcs i
      have q2 := hsub i
      revert q1 q2
      cases bit (wat Wd H t.s X) i <;> cases bit t.s i <;> cases bit t.m i <;> simp
    show wfour Wd H (wxor (wor t.s (wat Wd H t.s X)) (wxor t.s t.m)) = false
    rw [this]; exact hwn'
end
end Go.Proofs.Ytgiggomcpifjmaa

namespace Go.Proofs.Ytgiggomcpifjmaa
open Plm
theorem four_wz (Wd H : Nat) (hm : mayB Wd H = true) (u : W) (hu : ∀ i, bit u i = false) : wfour Wd H u = false := by
  rw [Bool.eq_false_iff]; intro h
  rw [four_line Wd H hm] at h
  obtain ⟨_, a, b, da, db, _, hl⟩ := h
  have := (line_all Wd H u a b da db).1 hl 0 (by omega)
  obtain ⟨A, B, _, _, _, _, h5⟩ := (celB_iff Wd H u _ _).1 this
  rw [hu] at h5; cases h5
theorem rel_zero (Wd H : Nat) (hm : mayB Wd H = true) : Rel Wd H st0 (fun _ => 0) (fun _ => 0) (posZ Wd H) := by
  refine ⟨good_zero Wd H, ?_, ?_, ?_, ?_, ?_, ?_, posZ_in Wd H hm, bal_zero⟩
  · unfold posZ; rw [upd_ne _ _ _ _ (by omega), upd_at]
  · unfold posZ; rw [upd_at]
  · unfold posZ; rw [upd_ne _ _ _ _ (by omega), upd_ne _ _ _ _ (by omega)]; rfl
  · intro x y hx hy
    unfold posZ; rw [upd_ne _ _ _ _ (by omega), upd_ne _ _ _ _ (by omega)]
    unfold cellV; rw [if_neg (Nat.not_lt_zero y)]
  · unfold posZ; rw [upd_ne _ _ _ _ (by omega), upd_ne _ _ _ _ (by omega)]
    exact ⟨fun h => absurd rfl h, fun h => by cases h⟩
  · intro _
    exact ⟨four_wz Wd H hm wz bit_wz, four_wz Wd H hm _ fun i => by rw [bit_wxor]; show (bit wz i ^^ bit wz i) = false; simp⟩
theorem rel_play {Wd H : Nat} (hm : mayB Wd H = true) (l : List Int) : ∀ {t : St} {h d : Nat → Nat} {f : Nat → Int}, Rel Wd H t h d f →
    ∃ h' d', Rel Wd H (playS Wd H t l).1 h' d' (playR f l).1 ∧ (playR f l).2 = (playS Wd H t l).2 := by
  induction l with
  | nil => intro t h d f r; exact ⟨h, d, r, rfl⟩
  | cons x l ih =>
    intro t h d f r
    by_cases hc : canS Wd H t x = 0
    · have hp : pCan f x = 0 := by rw [r.can hm]; exact hc
      obtain ⟨a1, a2, a3⟩ := canS_zero hc
      obtain ⟨X, rfl⟩ := Int.eq_ofNat_of_zero_le a1
      obtain ⟨h', d', r', e⟩ := ih (r.step hm X (by omega) hc)
      refine ⟨h', d', ?_, ?_⟩
      · rw [playR_yes f _ l hp, playS, if_pos hc, Int.toNat_natCast]; exact r'
      · rw [playR_yes f _ l hp, playS, if_pos hc, Int.toNat_natCast]; simp only [e]
    · have hp : pCan f x ≠ 0 := by rw [r.can hm]; exact hc
      refine ⟨h, d, ?_, ?_⟩
      · rw [playR_no f x l hp, playS, if_neg hc]; exact r
      · rw [playR_no f x l hp, playS, if_neg hc]; simp only [r.can hm]
theorem mem_plL (H : Nat) (l : List (Int × Int)) (p : Int) : p ∈ plL H l ↔ ∃ q, q ∈ l ∧ p = q.1 * ((H : Int) + 1) + q.2 := by
  unfold plL; rw [List.mem_map]
  exact ⟨fun ⟨q, h1, h2⟩ => ⟨q, h1, h2.symm⟩, fun ⟨q, h1, h2⟩ => ⟨q, h1, h2.symm⟩⟩
theorem mem_freeL (f : Nat → Int) (H : Nat) : ∀ n (p : Int), p ∈ freeL f H n ↔ ∃ x : Nat, x < n ∧ p = (x : Int) * ((H : Int) + 1) + Proofs.Ytgiggomcpifjmaa.pH f x H
  | 0, p => by simp [freeL]
  | n + 1, p => by
    rw [freeL, List.mem_append, mem_freeL f H n p]
    constructor
    · rintro (⟨x, h1, h2⟩ | h1)
      · exact ⟨x, by omega, h2⟩
      · exact ⟨n, by omega, by simpa using h1⟩
    · rintro ⟨x, h1, h2⟩
      by_cases e : x = n
      · subst e; exact .inr (by simp [h2])
      · exact .inl ⟨x, by omega, h2⟩
theorem ext_pl {Wd H : Nat} (hm : mayB Wd H = true) (u v : W) (hu : ∀ i, Wd * (H + 1) ≤ i → bit u i = false) (hv : ∀ i, Wd * (H + 1) ≤ i → bit v i = false)
    (h : ∀ x y, x < Wd → y < H + 1 → x * (H + 1) + y < 128 → bit u (x * (H + 1) + y) = bit v (x * (H + 1) + y)) : u = v := by
  apply ext; intro i hi
  by_cases hlt : i < Wd * (H + 1)
  · obtain ⟨x, y, hx, hy, rfl⟩ := split_pl i (H + 1) Wd (by omega) hlt
    exact h x y hx hy hi
  · rw [hu i (by omega), hv i (by omega)]
theorem pl_lt {Wd H x y : Nat} (hx : x < Wd) (hy : y < H + 1) : x * (H + 1) + y < Wd * (H + 1) := by
  have : (x + 1) * (H + 1) ≤ Wd * (H + 1) := Nat.mul_le_mul_right _ hx
  rw [Nat.succ_mul] at this; omega
theorem pl_inj {H x y x' y' : Nat} (hy : y < H + 1) (hy' : y' < H + 1) (h : x * (H + 1) + y = x' * (H + 1) + y') : x = x' ∧ y = y' := by
  have a1 := (place_iff _ x (H + 1) y hy).1 rfl
  have a2 := (place_iff _ x' (H + 1) y' hy').1 h
  omega
theorem cast_pl (x y H : Nat) : ((x * (H + 1) + y : Nat) : Int) = (x : Int) * ((H : Int) + 1) + (y : Int) := by
  rw [Int.natCast_add, Int.natCast_mul]; rfl
section
variable {Wd H : Nat} {t : St} {h d : Nat → Nat} {f : Nat → Int}
theorem Rel.turn (r : Rel Wd H t h d f) : pTurn f = turnN t.n := by unfold pTurn turnN; rw [r.n]
theorem Rel.w (r : Rel Wd H t h d f) : (f 0).toNat = Wd := by rw [r.f0, Int.toNat_natCast]
theorem Rel.hgt (r : Rel Wd H t h d f) : (f 1).toNat = H := by rw [r.f1, Int.toNat_natCast]
theorem Rel.mine (hm : mayB Wd H = true) (r : Rel Wd H t h d f) : rMineW f = t.m := by
  unfold rMineW
  rw [r.turn, r.w, r.hgt]
  have hwho := turn_12 t.n
  have key : ∀ i : Nat, (i : Int) ∈ plL H (ofAll f (turnN t.n) H Wd) ↔ ∃ x y : Nat, x < Wd ∧ y < H ∧ cellV t.n h d x y = turnN t.n ∧ i = x * (H + 1) + y := by
    intro i
    rw [mem_plL]
    constructor
    · rintro ⟨q, hq, he⟩
      obtain ⟨x, y, h1, h2, h3, rfl⟩ := (mem_ofAll f _ H Wd q).1 hq
      simp only at he
      rw [r.at x y h1 h2] at h3
      refine ⟨x, y, h1, h2, h3, ?_⟩
      rw [← cast_pl] at he; omega
    · rintro ⟨x, y, h1, h2, h3, rfl⟩
      refine ⟨(x, y), (mem_ofAll f _ H Wd _).2 ⟨x, y, h1, h2, by rw [r.at x y h1 h2]; exact h3, rfl⟩, cast_pl x y H⟩
  have cm : ∀ x y, x < Wd → (cellV t.n h d x y = turnN t.n ↔ (d x).testBit y = true) := by
    intro x y hx
    unfold cellV
    by_cases hy : y < h x
    · rw [if_pos hy]
      by_cases hb : (d x).testBit y = true
      · rw [if_pos hb]; simp [hb]
      · rw [if_neg hb]; constructor
        · intro q; omega
        · intro q; exact absurd q hb
    · rw [if_neg hy, r.g.d_above x y hx (by omega)]; constructor
      · intro q; omega
      · intro q; cases q
  refine ext_pl hm _ _ (fun i hi => ?_) (fun i hi => r.g.overB t.m _ r.g.ltd r.g.hm i hi) fun x y hx hy hlt => ?_
  · rw [bit_wofs, any_iff, Bool.eq_false_iff]; intro hh
    simp only [Bool.and_eq_true, decide_eq_true_eq] at hh
    obtain ⟨x, y, h1, h2, _, rfl⟩ := (key i).1 hh.2
    have := pl_lt h1 (show y < H + 1 by omega); omega
  · rw [bit_wofs, any_iff, r.g.bit_m x y hx hy, Bool.eq_iff_iff]
    simp only [Bool.and_eq_true, decide_eq_true_eq]
    rw [key]
    constructor
    · rintro ⟨_, x', y', h1, h2, h3, h4⟩
      obtain ⟨rfl, rfl⟩ := pl_inj hy (by omega) h4
      exact (cm x y hx).1 h3
    · intro hb
      have hyh : y < h x := by
        rcases Nat.lt_or_ge y (h x) with q | q
        · exact q
        · rw [r.g.d_above x y hx q] at hb; cases hb
      exact ⟨hlt, x, y, hx, by have := r.g.hh x hx; omega, (cm x y hx).2 hb, rfl⟩
theorem Rel.free (hm : mayB Wd H = true) (r : Rel Wd H t h d f) : wofs (freeL f H Wd) = wadd t.s (wbot Wd H) := by
  have hn := nat_up Wd H t.s h hm r.g.hh r.g.hs
  have hH := r.hgt
  have pe : ∀ x : Nat, x < Wd → Proofs.Ytgiggomcpifjmaa.pH f x H = (h x : Int) := fun x hx => by have := r.height x hx; rw [hH] at this; exact this
  refine ext_pl hm _ _ (fun i hi => ?_) (fun i hi => r.g.overB _ _ r.g.lt hn i hi) fun x y hx hy hlt => ?_
  · rw [bit_wofs, any_iff, Bool.eq_false_iff]; intro hh
    simp only [Bool.and_eq_true, decide_eq_true_eq] at hh
    obtain ⟨x, h1, h2⟩ := (mem_freeL f H Wd _).1 hh.2
    rw [pe x h1, ← cast_pl] at h2
    have := r.g.hh x h1
    have := pl_lt h1 (show h x < H + 1 by omega); omega
  · rw [bit_wofs, any_iff, dig_place (H + 1) _ Wd _ r.g.lt hn x y hx hy, Nat.testBit_two_pow, Bool.eq_iff_iff]
    simp only [Bool.and_eq_true, decide_eq_true_eq, mem_freeL]
    constructor
    · rintro ⟨_, x', h1, h2⟩
      rw [pe x' h1, ← cast_pl] at h2
      have := r.g.hh x' h1
      obtain ⟨rfl, rfl⟩ := pl_inj hy (show h x' < H + 1 by omega) (show x * (H + 1) + y = x' * (H + 1) + h x' by omega)
      rfl
    · rintro rfl
      exact ⟨hlt, x, hx, by rw [pe x hx, cast_pl]⟩
theorem Rel.key (hm : mayB Wd H = true) (r : Rel Wd H t h d f) : rKeyW f = wkey Wd H t.m t.s := by
  unfold rKeyW wkey
  rw [r.mine hm, r.w, r.hgt, r.free hm]
theorem Rel.cnt (hm : mayB Wd H = true) (r : Rel Wd H t h d f) (X : Nat) (hX : X < Wd) : cnt (wand t.s (wcol Wd H X)) = h X := by
  obtain ⟨w1, w2, h1, h2⟩ := mayB_nat hm
  have hh := r.g.hh X hX
  have hc := nat_wcol Wd H X hm hX
  have lc : ∀ z, z < Wd → (fun z => if z = X then 2 ^ H - 1 else 0) z < 2 ^ (H + 1) := fun z hz => by
    show (if z = X then 2 ^ H - 1 else 0) < _
    split
    · exact Nat.lt_of_le_of_lt (Nat.sub_le _ _) (Nat.pow_lt_pow_right (by decide) (by omega))
    · exact Nat.two_pow_pos _
  have hpX : X * (H + 1) ≤ 7 * 9 := Nat.mul_le_mul (by omega) (by omega)
  have mem : ∀ p : Int, p ∈ (List.range (h X)).map (fun y => ((X * (H + 1) + y : Nat) : Int)) ↔ ∃ y : Nat, y < h X ∧ p = ((X * (H + 1) + y : Nat) : Int) := by
    intro p; rw [List.mem_map]
    exact ⟨fun ⟨y, h1, h2⟩ => ⟨y, List.mem_range.1 h1, h2.symm⟩, fun ⟨y, h1, h2⟩ => ⟨y, List.mem_range.2 h1, h2.symm⟩⟩
  have e : wofs ((List.range (h X)).map fun y => ((X * (H + 1) + y : Nat) : Int)) = wand t.s (wcol Wd H X) := by
    refine ext_pl hm _ _ (fun i hi => ?_) (fun i hi => ?_) fun x y hx hy hlt => ?_
    · rw [bit_wofs, any_iff, Bool.eq_false_iff]; intro hq
      simp only [Bool.and_eq_true, decide_eq_true_eq] at hq
      obtain ⟨y, g1, g2⟩ := (mem _).1 hq.2
      have := pl_lt hX (show y < H + 1 by omega); omega
    · rw [bit_wand, r.g.overB t.s _ r.g.lts r.g.hs i hi]; rfl
    · rw [bit_wofs, any_iff, bit_wand, r.g.bit_s x y hx hy, dig_place (H + 1) _ Wd _ lc hc x y hx hy, Bool.eq_iff_iff]
      simp only [Bool.and_eq_true, decide_eq_true_eq, mem]
      constructor
      · rintro ⟨_, y', g1, g2⟩
        obtain ⟨rfl, rfl⟩ := pl_inj hy (show y' < H + 1 by omega) (by omega : x * (H + 1) + y = X * (H + 1) + y')
        refine ⟨g1, ?_⟩
        rw [if_pos rfl, Nat.testBit_two_pow_sub_one, decide_eq_true_eq]; omega
      · rintro ⟨g1, g2⟩
        by_cases q : x = X
        · subst q; exact ⟨hlt, y, g1, rfl⟩
        · rw [if_neg q] at g2; simp at g2
  rw [← e, cnt_list, List.length_map, List.length_range]
  · rw [List.pairwise_map]
    exact List.pairwise_lt_range.imp fun h => by omega
  · intro p hp
    obtain ⟨y, g1, rfl⟩ := (mem p).1 hp
    omega
theorem cnt_out (s : W) (bw bh x : Int) (hx : x < 0 ∨ bw ≤ x) : Plm.cnt (wand s (wcol bw bh x)) = 0 := by
  have : wcol bw bh x = wz := by unfold wcol; rw [if_neg (by omega)]
  rw [this]
  have : wand s wz = wz := by apply ext; intro i _; rw [bit_wand, bit_wz]; simp
  rw [this]; decide +kernel
theorem Rel.colH (hm : mayB Wd H = true) (r : Rel Wd H t h d f) (x : Int) : (Plm.cnt (wand t.s (wcol Wd H x)) : Int) = Proofs.Ytgiggomcpifjmaa.pH f x (f 1).toNat := by
  by_cases hx : x < 0 ∨ (Wd : Int) ≤ x
  · rw [cnt_out _ _ _ _ hx, pH_out f x (by rw [r.f0]; exact hx)]; rfl
  · obtain ⟨X, rfl⟩ := Int.eq_ofNat_of_zero_le (show 0 ≤ x by omega)
    rw [r.cnt hm X (by omega), r.height X (by omega)]
end
/-- What a play comes to, in the program and in the reference. -/
structure Both (bw bh : Int) (l : List Int) : Prop where
  e : (playR (posZ bw bh) l).2 = (playS bw bh st0 l).2
  ok : PosOk (playR (posZ bw bh) l).1
  n : (playR (posZ bw bh) l).1 130 = (playS bw bh st0 l).1.n
  key : rKeyW (playR (posZ bw bh) l).1 = wkey bw bh (playS bw bh st0 l).1.m (playS bw bh st0 l).1.s
  mine : rMineW (playR (posZ bw bh) l).1 = (playS bw bh st0 l).1.m
  kE : kE bw bh (wkey bw bh (playS bw bh st0 l).1.m (playS bw bh st0 l).1.s) = 0
  kM : kM bw bh (wkey bw bh (playS bw bh st0 l).1.m (playS bw bh st0 l).1.s) = (playS bw bh st0 l).1.m
  kS : kS bw bh (wkey bw bh (playS bw bh st0 l).1.m (playS bw bh st0 l).1.s) = (playS bw bh st0 l).1.s
  col : ∀ x : Int, (Plm.cnt (wand (playS bw bh st0 l).1.s (wcol bw bh x)) : Int) = pH (playR (posZ bw bh) l).1 x ((playR (posZ bw bh) l).1 1).toNat
  f0 : (playR (posZ bw bh) l).1 0 = bw
  stones : (playS bw bh st0 l).1.n = (Plm.cnt (playS bw bh st0 l).1.s : Int)
theorem both (bw bh : Int) (hm : mayB bw bh = true) (l : List Int) : Both bw bh l := by
  obtain ⟨h1, h2, h3, h4⟩ := mayB_iff.1 hm
  obtain ⟨Wd, rfl⟩ := Int.eq_ofNat_of_zero_le (show 0 ≤ bw by omega)
  obtain ⟨H, rfl⟩ := Int.eq_ofNat_of_zero_le (show 0 ≤ bh by omega)
  obtain ⟨h', d', r, e⟩ := rel_play hm l (rel_zero Wd H hm)
  exact ⟨e, r.inn.ok, r.n, r.key hm, r.mine hm, by rw [kE_ref _ _ _ hm, r.g.key_ok hm r.bal.2, if_pos rfl], by rw [kM_ref]; exact r.g.refM hm r.bal.2, by rw [kS_ref]; exact r.g.refS hm r.bal.2, r.colH hm, r.f0, r.bal.1⟩
end Go.Proofs.Ytgiggomcpifjmaa
