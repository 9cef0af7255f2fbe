/- Plain laws on positions: the words of a board by columns. -/
import Derived.Test.YtgiggomcpifjmaaKa
import Derived.Test.YtgiggomcpifjmaaPc
import Derived.Test.YtgiggomcpifjmaaMc
set_option linter.unusedVariables false
namespace Go.Proofs.Ytgiggomcpifjmaa
open Plm

theorem bit_fold (l : List Int) (i : Nat) : ∀ x0 : W, bit (l.foldl (fun x p => wor x (wof p)) x0) i = (bit x0 i || (decide (i < 128) && l.any fun p => decide ((i : Int) = p))) := by
  induction l with
  | nil => intro x0; simp
  | cons p l ih =>
    intro x0
    rw [List.foldl_cons, ih, bit_wor, bit_wof, List.any_cons]
    by_cases h : (i : Int) = p
    · have : 0 ≤ p := by omega
      simp only [h, this, decide_true, Bool.true_and, Bool.true_or, Bool.and_true]
      cases bit x0 i <;> cases decide (i < 128) <;> simp
    · simp only [h, decide_false, Bool.and_false, Bool.or_false, Bool.false_or]
theorem bit_wofs (l : List Int) (i : Nat) : bit (wofs l) i = (decide (i < 128) && l.any fun p => decide ((i : Int) = p)) := by
  unfold wofs; rw [bit_fold, bit_wz, Bool.false_or]
theorem eq_place (i x H y : Nat) : ((i : Int) = (x : Int) * ((H : Int) + 1) + (y : Int)) ↔ i = x * (H + 1) + y := by
  have : ((x * (H + 1) + y : Nat) : Int) = (x : Int) * ((H : Int) + 1) + (y : Int) := by simp
  rw [← this]; omega
theorem div_place (x c y : Nat) (hy : y < c) : (x * c + y) / c = x ∧ (x * c + y) % c = y := by
  constructor
  · rw [Nat.add_comm, Nat.add_mul_div_right _ _ (by omega), Nat.div_eq_of_lt hy, Nat.zero_add]
  · rw [Nat.add_comm, Nat.add_mul_mod_self_right, Nat.mod_eq_of_lt hy]
theorem place_iff (i x c y : Nat) (hy : y < c) : i = x * c + y ↔ i / c = x ∧ i % c = y := by
  constructor
  · rintro rfl; exact div_place x c y hy
  · rintro ⟨rfl, rfl⟩; rw [Nat.mul_comm]; exact (Nat.div_add_mod i c).symm
theorem nat_weach (Wd H y : Nat) (hW : Wd ≤ 8) (hH : H ≤ 8) (hy : y ≤ H) : nat (weach Wd H y) = dig (H + 1) (fun _ => 2 ^ y) Wd := by
  have hd : ∀ x, x < Wd → (fun _ : Nat => 2 ^ y) x < 2 ^ (H + 1) := fun x _ => Nat.pow_lt_pow_right (by decide) (by omega)
  apply Nat.eq_of_testBit_eq; intro i
  rw [dig_bit' (H + 1) (by omega) _ Wd hd, ← bit_nat]
  unfold weach rowBits
  rw [bit_wofs, Nat.testBit_two_pow, Bool.eq_iff_iff]
  simp only [Bool.and_eq_true, decide_eq_true_eq, List.any_map, List.any_eq_true, List.mem_range, Function.comp, Int.toNat_natCast, eq_place]
  constructor
  · rintro ⟨h1, x, hx, rfl⟩
    have := div_place x (H + 1) y (by omega)
    rw [this.1, this.2]; exact ⟨hx, rfl⟩
  · rintro ⟨h1, h2⟩
    have e := (place_iff i (i / (H + 1)) (H + 1) y (by omega)).2 ⟨rfl, h2.symm⟩
    refine ⟨?_, _, h1, e⟩
    have : i / (H + 1) * (H + 1) ≤ 7 * 9 := Nat.mul_le_mul (by omega) (by omega)
    omega
theorem mayB_nat {Wd H : Nat} (hm : mayB Wd H = true) : 4 ≤ Wd ∧ Wd ≤ 8 ∧ 4 ≤ H ∧ H ≤ 8 := by have := mayB_iff.1 hm; omega
theorem nat_wbot (Wd H : Nat) (hm : mayB Wd H = true) : nat (wbot Wd H) = dig (H + 1) (fun _ => 1) Wd := by
  obtain ⟨h1, h2, h3, h4⟩ := mayB_nat hm
  unfold wbot weachG; rw [if_pos ⟨hm, by omega, by omega⟩]
  exact nat_weach Wd H 0 h2 h4 (by omega)
theorem nat_wtops (Wd H : Nat) (hm : mayB Wd H = true) : nat (wtops Wd H) = dig (H + 1) (fun _ => 2 ^ H) Wd := by
  obtain ⟨h1, h2, h3, h4⟩ := mayB_nat hm
  unfold wtops weachG; rw [if_pos ⟨hm, by omega, by omega⟩]
  exact nat_weach Wd H H h2 h4 (by omega)
theorem dig_small (H Wd : Nat) (d : Nat → Nat) (h : ∀ x, x < Wd → d x < 2 ^ (H + 1)) (h2 : Wd ≤ 8) (h4 : H ≤ 8) : dig (H + 1) d Wd < 2 ^ 72 :=
  Nat.lt_of_lt_of_le (dig_lt _ _ _ h) (Nat.pow_le_pow_right (by decide) (Nat.le_trans (Nat.mul_le_mul h2 (by omega : H + 1 ≤ 9)) (by decide)))
theorem pow_pred (H : Nat) : 2 ^ H - 1 + 1 = 2 ^ H := by have := Nat.two_pow_pos H; omega
theorem nat_wfull (Wd H : Nat) (hm : mayB Wd H = true) : nat (wfull Wd H) = dig (H + 1) (fun _ => 2 ^ H - 1) Wd := by
  obtain ⟨h1, h2, h3, h4⟩ := mayB_nat hm
  have e : dig (H + 1) (fun _ => 2 ^ H - 1) Wd + dig (H + 1) (fun _ => 1) Wd = dig (H + 1) (fun _ => 2 ^ H) Wd := by
    rw [dig_add]; exact dig_congr _ _ _ _ (fun x _ => pow_pred H)
  have l := dig_small H Wd (fun _ => 2 ^ H) (fun _ _ => Nat.pow_lt_pow_right (by decide) (by omega)) h2 h4
  unfold wfull; rw [nat_wsub, nat_wtops Wd H hm, nat_wbot Wd H hm, ← e]
  rw [← e] at l
  omega
theorem nat_wand (x y : W) : nat (wand x y) = nat x &&& nat y := rfl
theorem nat_wor (x y : W) : nat (wor x y) = nat x ||| nat y := rfl
theorem nat_wxor (x y : W) : nat (wxor x y) = nat x ^^^ nat y := rfl
theorem nat_wof (p : Nat) (hp : p < 128) : nat (wof p) = 2 ^ p := by
  apply Nat.eq_of_testBit_eq; intro i
  rw [← bit_nat, bit_wof, Nat.testBit_two_pow, Bool.eq_iff_iff]; simp; omega
theorem dig_one (c Wd x v : Nat) (hx : x < Wd) : dig c (fun z => if z = x then v else 0) Wd = 2 ^ (x * c) * v := by
  induction Wd with
  | zero => omega
  | succ n ih =>
    simp only [dig]
    by_cases e : x = n
    · subst e
      have : ∀ k, k ≤ x → dig c (fun z => if z = x then v else 0) k = 0 := by
        intro k; induction k with
        | zero => intro _; rfl
        | succ k ihk => intro hk; simp only [dig]; rw [if_neg (by omega), ihk (by omega)]; simp
      rw [if_pos rfl, this x (Nat.le_refl _)]; simp
    · rw [if_neg (by omega), ih (by omega)]; simp
theorem nat_wcol (Wd H x : Nat) (hm : mayB Wd H = true) (hx : x < Wd) : nat (wcol Wd H x) = dig (H + 1) (fun z => if z = x then 2 ^ H - 1 else 0) Wd := by
  obtain ⟨h1, h2, h3, h4⟩ := mayB_nat hm
  have hp : x * (H + 1) ≤ 7 * 9 := Nat.mul_le_mul (by omega) (by omega)
  have e1 : ((x : Int) * ((H : Int) + 1) + (H : Int)) = ((x * (H + 1) + H : Nat) : Int) := by simp
  have e2 : ((x : Int) * ((H : Int) + 1)) = ((x * (H + 1) : Nat) : Int) := by simp
  unfold wcol; rw [if_pos ⟨hm, by omega, by omega⟩, e1, e2, nat_wsub, nat_wof _ (by omega), nat_wof _ (by omega), dig_one _ _ _ _ hx, Nat.pow_add, Nat.mul_sub, Nat.mul_one]
  have a := Nat.mul_le_mul_left (2 ^ (x * (H + 1))) (Nat.two_pow_pos H)
  have b : 2 ^ (x * (H + 1)) * 2 ^ H < 340282366920938463463374607431768211456 := by
    rw [← Nat.pow_add]; exact (Nat.pow_lt_pow_right (a := 2) (m := x * (H + 1) + H) (n := 128) (by decide) (by omega))
  generalize 2 ^ (x * (H + 1)) * 2 ^ H = P at *
  generalize 2 ^ (x * (H + 1)) = R at *
  omega
/-- Heaped stones, and one at the bottom. -/
theorem nat_up (Wd H : Nat) (s : W) (h : Nat → Nat) (hm : mayB Wd H = true) (hh : ∀ x, x < Wd → h x ≤ H) (hs : nat s = dig (H + 1) (fun x => 2 ^ h x - 1) Wd) : nat (wadd s (wbot Wd H)) = dig (H + 1) (fun x => 2 ^ h x) Wd := by
  obtain ⟨h1, h2, h3, h4⟩ := mayB_nat hm
  have e : dig (H + 1) (fun x => 2 ^ h x - 1) Wd + dig (H + 1) (fun _ => 1) Wd = dig (H + 1) (fun x => 2 ^ h x) Wd := by
    rw [dig_add]; exact dig_congr _ _ _ _ (fun x _ => pow_pred (h x))
  have l := dig_small H Wd (fun x => 2 ^ h x) (fun x hx => Nat.pow_lt_pow_right (by decide) (by have := hh x hx; omega)) h2 h4
  rw [nat_wadd, hs, nat_wbot Wd H hm, e]; omega

/-! ### Bits of one digit -/
theorem low_and (k H : Nat) : 2 ^ k &&& (2 ^ H - 1) = if k < H then 2 ^ k else 0 := by
  apply Nat.eq_of_testBit_eq; intro i
  rw [Nat.testBit_and, Nat.testBit_two_pow_sub_one, Nat.testBit_two_pow]
  split
  · rw [Nat.testBit_two_pow, Bool.eq_iff_iff]; simp; omega
  · rw [Nat.zero_testBit, Bool.eq_iff_iff]; simp; omega
theorem low_or (k : Nat) : (2 ^ k - 1) ||| 2 ^ k = 2 ^ (k + 1) - 1 := by
  apply Nat.eq_of_testBit_eq; intro i
  rw [Nat.testBit_or, Nat.testBit_two_pow_sub_one, Nat.testBit_two_pow_sub_one, Nat.testBit_two_pow, Bool.eq_iff_iff]; simp; omega
theorem low_xor (k m : Nat) (h : m < 2 ^ k) : (2 ^ k - 1) ^^^ m < 2 ^ k := Nat.xor_lt_two_pow (by have := Nat.two_pow_pos k; omega) h
theorem key_digit (k m : Nat) (h : m < 2 ^ k) : m ||| 2 ^ k = m + 2 ^ k := by
  have := Nat.two_pow_add_eq_or_of_lt h 1
  rw [Nat.mul_one] at this
  rw [Nat.or_comm, ← this]; omega
theorem key_digit_inj {k m k' m' : Nat} (h : m < 2 ^ k) (h' : m' < 2 ^ k') (e : m + 2 ^ k = m' + 2 ^ k') : k = k' ∧ m = m' := by
  have a : k = k' := by
    rcases Nat.lt_trichotomy k k' with g | g | g
    · have : 2 ^ (k + 1) ≤ 2 ^ k' := Nat.pow_le_pow_right (by decide) g
      rw [Nat.pow_succ] at this; omega
    · exact g
    · have : 2 ^ (k' + 1) ≤ 2 ^ k := Nat.pow_le_pow_right (by decide) g
      rw [Nat.pow_succ] at this; omega
  subst a; exact ⟨rfl, by omega⟩

/-- What holds of each position that a play comes to: so many stones in each column, those of who is to move among them. -/
structure Good (Wd H : Nat) (t : St) (h d : Nat → Nat) : Prop where
  hh : ∀ x, x < Wd → h x ≤ H
  hd : ∀ x, x < Wd → d x < 2 ^ h x
  hs : nat t.s = dig (H + 1) (fun x => 2 ^ h x - 1) Wd
  hm : nat t.m = dig (H + 1) d Wd
theorem Good.lt {Wd H : Nat} {t : St} {h d : Nat → Nat} (g : Good Wd H t h d) : ∀ x, x < Wd → 2 ^ h x < 2 ^ (H + 1) := fun x hx => Nat.pow_lt_pow_right (by decide) (by have := g.hh x hx; omega)
theorem Good.lts {Wd H : Nat} {t : St} {h d : Nat → Nat} (g : Good Wd H t h d) : ∀ x, x < Wd → 2 ^ h x - 1 < 2 ^ (H + 1) := fun x hx => Nat.lt_of_le_of_lt (Nat.sub_le _ _) (g.lt x hx)
theorem Good.ltd {Wd H : Nat} {t : St} {h d : Nat → Nat} (g : Good Wd H t h d) : ∀ x, x < Wd → d x < 2 ^ (H + 1) := fun x hx => Nat.lt_trans (g.hd x hx) (g.lt x hx)
/-- A position's key by columns. -/
theorem Good.key {Wd H : Nat} {t : St} {h d : Nat → Nat} (hm : mayB Wd H = true) (g : Good Wd H t h d) : nat (wkey Wd H t.m t.s) = dig (H + 1) (fun x => d x + 2 ^ h x) Wd := by
  unfold wkey
  rw [nat_wor, nat_up Wd H t.s h hm g.hh g.hs, g.hm, (dig_op (H + 1) (by omega) d (fun x => 2 ^ h x) Wd g.ltd g.lt).2.1]
  exact dig_congr _ _ _ _ (fun x hx => key_digit _ _ (g.hd x hx))
/-- TWO POSITIONS WITH ONE KEY HAVE THE SAME CELLS. -/
theorem key_apart {Wd H : Nat} {t u : St} {h d h' d' : Nat → Nat} (hm : mayB Wd H = true) (g : Good Wd H t h d) (g' : Good Wd H u h' d') :
    wkey Wd H t.m t.s = wkey Wd H u.m u.s ↔ t.m = u.m ∧ t.s = u.s := by
  constructor
  · intro e
    have e1 : dig (H + 1) (fun x => d x + 2 ^ h x) Wd = dig (H + 1) (fun x => d' x + 2 ^ h' x) Wd := by rw [← g.key hm, ← g'.key hm, e]
    have b : ∀ (k m : Nat), k ≤ H → m < 2 ^ k → m + 2 ^ k < 2 ^ (H + 1) := fun k m hk hm => by
      have : 2 ^ (k + 1) ≤ 2 ^ (H + 1) := Nat.pow_le_pow_right (by decide) (by omega)
      rw [Nat.pow_succ] at this; omega
    have e2 := fun x hx => dig_inj (H + 1) (by omega) _ _ Wd (fun x hx => b _ _ (g.hh x hx) (g.hd x hx)) (fun x hx => b _ _ (g'.hh x hx) (g'.hd x hx)) e1 x hx
    have e3 := fun x hx => key_digit_inj (g.hd x hx) (g'.hd x hx) (e2 x hx)
    refine ⟨nat_inj ?_, nat_inj ?_⟩
    · rw [g.hm, g'.hm]; exact dig_congr _ _ _ _ (fun x hx => (e3 x hx).2)
    · rw [g.hs, g'.hs]; exact dig_congr _ _ _ _ (fun x hx => by simp only [(e3 x hx).1])
  · rintro ⟨e1, e2⟩; rw [e1, e2]
end Go.Proofs.Ytgiggomcpifjmaa
