/- Plain laws: the key of a position is one, and is split into what the position has. -/
import Derived.Test.YtgiggomcpifjmaaQc
import Derived.Test.YtgiggomcpifjmaaQd
set_option linter.unusedVariables false
namespace Go.Proofs.Ytgiggomcpifjmaa
open Plm
theorem mem_stAll (k : W) (c : Nat) : ∀ n (p : Int), p ∈ stAll k c n ↔ ∃ x y, x < n ∧ y < (topR k c x c).toNat ∧ p = ((x * c + y : Nat) : Int)
  | 0, p => by simp [stAll]
  | n + 1, p => by
    rw [stAll, List.mem_append, mem_stAll k c n p, mem_stCol]
    constructor
    · rintro (⟨x, y, h1, h2, h3⟩ | ⟨y, h1, h2⟩)
      · exact ⟨x, y, by omega, h2, h3⟩
      · exact ⟨n, y, by omega, h1, h2⟩
    · rintro ⟨x, y, h1, h2, h3⟩
      by_cases e : x = n
      · subst e; exact .inr ⟨y, h2, h3⟩
      · exact .inl ⟨x, y, by omega, h2, h3⟩
theorem mem_miAll (k : W) (c : Nat) : ∀ n (p : Int), p ∈ miAll k c n ↔ ∃ x y, x < n ∧ y < (topR k c x c).toNat ∧ bit k (x * c + y) = true ∧ p = ((x * c + y : Nat) : Int)
  | 0, p => by simp [miAll]
  | n + 1, p => by
    rw [miAll, List.mem_append, mem_miAll k c n p, mem_miCol]
    constructor
    · rintro (⟨x, y, h1, h2, h3⟩ | ⟨y, h1, h2⟩)
      · exact ⟨x, y, by omega, h2, h3⟩
      · exact ⟨n, y, by omega, h1, h2⟩
    · rintro ⟨x, y, h1, h2, h3⟩
      by_cases e : x = n
      · subst e; exact .inr ⟨y, h2, h3⟩
      · exact .inl ⟨x, y, by omega, h2, h3⟩
theorem topR_eq (k : W) (c x t : Nat) (n : Nat) (ht : t < n) (h1 : bit k (x * c + t) = true) (h2 : ∀ y, t < y → y < n → bit k (x * c + y) = false) : topR k c x n = (t : Int) := by
  have hl := topR_lt k c x n
  by_cases h : topR k c x n < 0
  · have := topR_none k c x n h t ht
    rw [h1] at this; cases this
  · obtain ⟨u, hu⟩ := Int.eq_ofNat_of_zero_le (show 0 ≤ topR k c x n by omega)
    obtain ⟨g1, g2, g3⟩ := topR_some k c x n u hu
    rcases Nat.lt_trichotomy u t with g | g | g
    · have := g3 t g ht; rw [h1] at this; cases this
    · rw [hu, g]
    · have := h2 u g g1; rw [g2] at this; cases this
theorem dig_place (c : Nat) (d : Nat → Nat) (n : Nat) (x : W) (h : ∀ z, z < n → d z < 2 ^ c) (hx : nat x = dig c d n) (z y : Nat) (hz : z < n) (hy : y < c) : bit x (z * c + y) = (d z).testBit y := by
  rw [bit_nat, hx, dig_bit c d n h z y hz hy]
section
variable {Wd H : Nat} {t : St} {h d : Nat → Nat}
theorem Good.ltk (g : Good Wd H t h d) : ∀ x, x < Wd → d x + 2 ^ h x < 2 ^ (H + 1) := fun x hx => by
  have h1 := g.hd x hx
  have h2 : 2 ^ (h x + 1) ≤ 2 ^ (H + 1) := Nat.pow_le_pow_right (by decide) (by have := g.hh x hx; omega)
  rw [Nat.pow_succ] at h2; omega
theorem Good.bit_s (g : Good Wd H t h d) (x y : Nat) (hx : x < Wd) (hy : y < H + 1) : bit t.s (x * (H + 1) + y) = decide (y < h x) := by
  rw [dig_place (H + 1) _ Wd t.s g.lts g.hs x y hx hy, Nat.testBit_two_pow_sub_one]
theorem Good.bit_m (g : Good Wd H t h d) (x y : Nat) (hx : x < Wd) (hy : y < H + 1) : bit t.m (x * (H + 1) + y) = (d x).testBit y :=
  dig_place (H + 1) _ Wd t.m g.ltd g.hm x y hx hy
theorem Good.bit_k (hm : mayB Wd H = true) (g : Good Wd H t h d) (x y : Nat) (hx : x < Wd) (hy : y < H + 1) : bit (wkey Wd H t.m t.s) (x * (H + 1) + y) = (d x ||| 2 ^ h x).testBit y := by
  rw [dig_place (H + 1) _ Wd _ g.ltk (g.key hm) x y hx hy, key_digit _ _ (g.hd x hx)]
theorem Good.overB (g : Good Wd H t h d) (u : W) (e : Nat → Nat) (he : ∀ x, x < Wd → e x < 2 ^ (H + 1)) (hu : nat u = dig (H + 1) e Wd) (i : Nat) (hi : Wd * (H + 1) ≤ i) : bit u i = false := by
  rw [bit_nat, hu, dig_bit_ge (H + 1) e Wd i he hi]
theorem Good.d_above (g : Good Wd H t h d) (x y : Nat) (hx : x < Wd) (hy : h x ≤ y) : (d x).testBit y = false :=
  Nat.testBit_lt_two_pow (Nat.lt_of_lt_of_le (g.hd x hx) (Nat.pow_le_pow_right (by decide) hy))
theorem Good.top (hm : mayB Wd H = true) (g : Good Wd H t h d) (x : Nat) (hx : x < Wd) : topR (wkey Wd H t.m t.s) (H + 1) x (H + 1) = (h x : Int) := by
  have hh := g.hh x hx
  refine topR_eq _ _ _ _ _ (by omega) ?_ fun y h1 h2 => ?_
  · rw [g.bit_k hm x (h x) hx (by omega), Nat.testBit_or, Nat.testBit_two_pow]; simp
  · rw [g.bit_k hm x y hx h2, Nat.testBit_or, Nat.testBit_two_pow, g.d_above x y hx (by omega)]; simp; omega
theorem split_pl (i c Wd : Nat) (hc : 0 < c) (hi : i < Wd * c) : ∃ x y, x < Wd ∧ y < c ∧ i = x * c + y := by
  refine ⟨i / c, i % c, Nat.div_lt_of_lt_mul (by rw [Nat.mul_comm]; exact hi), Nat.mod_lt _ hc, ?_⟩
  rw [Nat.mul_comm]; exact (Nat.div_add_mod i c).symm
theorem Good.st_eq (hm : mayB Wd H = true) (g : Good Wd H t h d) : wofs (stAll (wkey Wd H t.m t.s) (H + 1) Wd) = t.s := by
  apply ext; intro i hi
  rw [bit_wofs, any_iff]
  by_cases hlt : i < Wd * (H + 1)
  · obtain ⟨x, y, hx, hy, rfl⟩ := split_pl i (H + 1) Wd (by omega) hlt
    rw [g.bit_s x y hx hy, Bool.eq_iff_iff]
    simp only [Bool.and_eq_true, decide_eq_true_eq, mem_stAll]
    constructor
    · rintro ⟨_, x', y', h1, h2, h3⟩
      rw [g.top hm x' h1] at h2
      have := g.hh x' h1
      have e : x * (H + 1) + y = x' * (H + 1) + y' := by omega
      have e1 := (place_iff _ x (H + 1) y hy).1 rfl
      have e2 := (place_iff _ x' (H + 1) y' (by omega)).1 e
      obtain rfl : x = x' := by omega
      obtain rfl : y = y' := by omega
      omega
    · intro hyh; exact ⟨hi, x, y, hx, by rw [g.top hm x hx]; omega, rfl⟩
  · rw [g.overB t.s _ g.lts g.hs i (by omega), Bool.eq_false_iff]
    intro hh
    simp only [Bool.and_eq_true, decide_eq_true_eq] at hh
    have := stAll_in _ _ _ _ hh.2
    omega
theorem Good.mi_eq (hm : mayB Wd H = true) (g : Good Wd H t h d) : wofs (miAll (wkey Wd H t.m t.s) (H + 1) Wd) = t.m := by
  apply ext; intro i hi
  rw [bit_wofs, any_iff]
  by_cases hlt : i < Wd * (H + 1)
  · obtain ⟨x, y, hx, hy, rfl⟩ := split_pl i (H + 1) Wd (by omega) hlt
    rw [g.bit_m x y hx hy, Bool.eq_iff_iff]
    simp only [Bool.and_eq_true, decide_eq_true_eq, mem_miAll]
    constructor
    · rintro ⟨_, x', y', h1, h2, hb, h3⟩
      rw [g.top hm x' h1] at h2
      have := g.hh x' h1
      have e : x * (H + 1) + y = x' * (H + 1) + y' := by omega
      have e1 := (place_iff _ x (H + 1) y hy).1 rfl
      have e2 := (place_iff _ x' (H + 1) y' (by omega)).1 e
      obtain rfl : x = x' := by omega
      obtain rfl : y = y' := by omega
      rw [g.bit_k hm x y hx hy, Nat.testBit_or, Nat.testBit_two_pow] at hb
      simp at hb
      rcases hb with hb | hb
      · exact hb
      · omega
    · intro hyh
      have hlt' : y < h x := by
        rcases Nat.lt_or_ge y (h x) with q | q
        · exact q
        · rw [g.d_above x y hx q] at hyh; cases hyh
      exact ⟨hi, x, y, hx, by rw [g.top hm x hx]; omega, by rw [g.bit_k hm x y hx hy, Nat.testBit_or, hyh]; rfl, rfl⟩
  · rw [g.overB t.m _ g.ltd g.hm i (by omega), Bool.eq_false_iff]
    intro hh
    simp only [Bool.and_eq_true, decide_eq_true_eq] at hh
    have := miAll_in _ _ _ _ hh.2
    omega
/-- A position's key is one, if half of its stones are those of who is to move. -/
theorem Good.key_ok (hm : mayB Wd H = true) (g : Good Wd H t h d) (hb : cnt t.m = cnt t.s / 2) : refOk Wd H (wkey Wd H t.m t.s) = true := by
  obtain ⟨h1, h2, h3, h4⟩ := mayB_nat hm
  have e0 : ((H : Int) + 1).toNat = H + 1 := by omega
  have hp : Wd * (H + 1) ≤ 8 * 9 := Nat.mul_le_mul (by omega) (by omega)
  have c1 : (miAll (wkey Wd H t.m t.s) (H + 1) Wd).length = cnt t.m := by
    rw [← cnt_list _ (miAll_pw _ _ _) fun p hp' => by have := miAll_in _ _ _ p hp'; omega, g.mi_eq hm]
  have c2 : (stAll (wkey Wd H t.m t.s) (H + 1) Wd).length = cnt t.s := by
    rw [← cnt_list _ (stAll_pw _ _ _) fun p hp' => by have := stAll_in _ _ _ p hp'; omega, g.st_eq hm]
  unfold refOk
  rw [hm, e0, Int.toNat_natCast, (tops_iff _ (H + 1) Wd).2 fun j hj => by rw [g.top hm j hj]; omega, above Wd H, c1, c2, hb]
  have e1 : wdown (wkey Wd H t.m t.s) ((Wd : Int) * ((H : Int) + 1)) = wz := by
    apply ext; intro i hi
    rw [bit_wdown, toN, bit_wz, g.overB _ _ g.ltk (g.key hm) _ (by omega)]
  rw [e1]; simp
theorem Good.refM (hm : mayB Wd H = true) (g : Good Wd H t h d) (hb : cnt t.m = cnt t.s / 2) : refM Wd H (wkey Wd H t.m t.s) = t.m := by
  have e0 : ((H : Int) + 1).toNat = H + 1 := by omega
  unfold Proofs.Ytgiggomcpifjmaa.refM; rw [if_pos (g.key_ok hm hb), e0, Int.toNat_natCast, g.mi_eq hm]
theorem Good.refS (hm : mayB Wd H = true) (g : Good Wd H t h d) (hb : cnt t.m = cnt t.s / 2) : refS Wd H (wkey Wd H t.m t.s) = t.s := by
  have e0 : ((H : Int) + 1).toNat = H + 1 := by omega
  unfold Proofs.Ytgiggomcpifjmaa.refS; rw [if_pos (g.key_ok hm hb), e0, Int.toNat_natCast, g.st_eq hm]
end
/-! ### How many stones -/
theorem filter_xor (p q : Nat → Bool) : ∀ l : List Nat, (∀ i, q i = true → p i = true) → (l.filter fun i => p i ^^ q i).length + (l.filter q).length = (l.filter p).length
  | [], _ => rfl
  | i :: l, h => by
    have ih := filter_xor p q l h
    cases h1 : p i <;> cases h2 : q i <;> simp [h1, h2]
    · exact ih
    · have := h i h2; rw [h1] at this; cases this
    · omega
    · omega
theorem cnt_wxor (s m : W) (h : ∀ i, bit m i = true → bit s i = true) : cnt (wxor s m) + cnt m = cnt s := by
  unfold cnt
  have := filter_xor (fun i => bit s i) (fun i => bit m i) (List.range 128) h
  simp only [bit_wxor]; exact this
theorem wxor_wxor_self (s c : W) (h : ∀ i, bit c i = true → bit s i = false) : wxor (wor s c) c = s := by
  apply ext; intro i hi
  rw [bit_wxor, bit_wor]
  cases h1 : bit c i
  · simp
  · rw [h i h1]; rfl
theorem cnt_wor (s c : W) (h : ∀ i, bit c i = true → bit s i = false) : cnt (wor s c) = cnt s + cnt c := by
  have := cnt_wxor (wor s c) c fun i hi => by rw [bit_wor, hi]; simp
  rw [wxor_wxor_self s c h] at this; omega
theorem wofs_one (p : Int) : wofs [p] = wof p := by
  apply ext; intro i hi
  show bit (wor wz (wof p)) i = _
  rw [bit_wor, bit_wz, Bool.false_or]
theorem cnt_wof (p : Nat) (hp : p < 128) : cnt (wof p) = 1 := by
  rw [← wofs_one, cnt_list [(p : Int)] (List.pairwise_singleton _ _) fun q hq => by simp at hq; omega]; rfl
/-- Where a stone comes to lie. -/
theorem wat_eq {Wd H : Nat} {s : W} {h : Nat → Nat} (x : Nat) (hm : mayB Wd H = true) (hx : x < Wd) (hh : ∀ x, x < Wd → h x ≤ H) (hs : nat s = dig (H + 1) (fun x => 2 ^ h x - 1) Wd) :
    wat Wd H s x = if h x < H then wof ((x * (H + 1) + h x : Nat) : Int) else wz := by
  obtain ⟨h1, h2, h3, h4⟩ := mayB_nat hm
  have hp : x * (H + 1) ≤ 7 * 9 := Nat.mul_le_mul (by omega) (by omega)
  apply nat_inj
  rw [nat_wat Wd H x s h hm hx hh hs]
  split
  · rename_i hlt
    rw [nat_wof _ (by omega), Nat.pow_add, ← dig_one (H + 1) Wd x (2 ^ h x) hx]
    refine dig_congr _ _ _ _ fun z hz => ?_
    by_cases e : z = x
    · subst e; rw [if_pos ⟨rfl, hlt⟩, if_pos rfl]
    · have n : ¬ (z = x ∧ h z < H) := fun r => e r.1
      rw [if_neg n, if_neg e]
  · rename_i hge
    refine (dig_congr (H + 1) _ (fun _ => 0) Wd fun z hz => if_neg ?_).trans (dig_zero (H + 1) Wd)
    rintro ⟨rfl, q⟩; omega
theorem wof_ne (p : Nat) (hp : p < 128) : wof (p : Int) ≠ wz := fun e => by
  have := bit_wof (p : Int) p
  rw [e, bit_wz] at this; simp [hp] at this
/-- How many stones a position has. -/
def Bal (t : St) : Prop := t.n = (cnt t.s : Int) ∧ cnt t.m = cnt t.s / 2
theorem Good.sub {Wd H : Nat} {t : St} {h d : Nat → Nat} (g : Good Wd H t h d) : ∀ i, bit t.m i = true → bit t.s i = true := by
  intro i hi
  by_cases hlt : i < Wd * (H + 1)
  · obtain ⟨x, y, hx, hy, rfl⟩ := split_pl i (H + 1) Wd (by omega) hlt
    rw [g.bit_m x y hx hy] at hi
    rw [g.bit_s x y hx hy, decide_eq_true_eq]
    rcases Nat.lt_or_ge y (h x) with q | q
    · exact q
    · rw [g.d_above x y hx q] at hi; cases hi
  · rw [g.overB t.m _ g.ltd g.hm i (by omega)] at hi; cases hi
theorem bal_step {Wd H : Nat} {t : St} {h d : Nat → Nat} (hm : mayB Wd H = true) (g : Good Wd H t h d) (b : Bal t) {x : Int} (hc : canS Wd H t x = 0) : Bal (stepS Wd H t x) := by
  obtain ⟨h1, h2, h3, h4⟩ := mayB_nat hm
  obtain ⟨a1, a2, a3⟩ := canS_zero hc
  obtain ⟨X, rfl⟩ := Int.eq_ofNat_of_zero_le a1
  have hX : X < Wd := by omega
  have hp : X * (H + 1) ≤ 7 * 9 := Nat.mul_le_mul (by omega) (by omega)
  have e := wat_eq (h := h) X hm hX g.hh g.hs
  have hlt : h X < H := by
    rcases Nat.lt_or_ge (h X) H with q | q
    · exact q
    · rw [if_neg (by omega)] at e; exact absurd e a3
  rw [if_pos hlt] at e
  have hd : ∀ i, bit (wof ((X * (H + 1) + h X : Nat) : Int)) i = true → bit t.s i = false := by
    intro i hi
    rw [bit_wof] at hi
    simp only [Bool.and_eq_true, decide_eq_true_eq] at hi
    obtain rfl : i = X * (H + 1) + h X := by omega
    rw [g.bit_s X (h X) hX (by omega)]; simp
  have c1 := cnt_wor t.s _ hd
  rw [cnt_wof _ (by omega)] at c1
  have c2 := cnt_wxor t.s t.m g.sub
  unfold Bal stepS
  rw [e]
  show t.n + 1 = (cnt (wor t.s _) : Int) ∧ cnt (wxor t.s t.m) = cnt (wor t.s _) / 2
  rw [c1]
  have := b.1; have := b.2
  omega
theorem bal_zero : Bal st0 := by unfold Bal; decide +kernel
theorem good_play2 {Wd H : Nat} (hm : mayB Wd H = true) (l : List Int) : ∀ {t : St} {h d : Nat → Nat}, Good Wd H t h d → Bal t → ∃ h' d', Good Wd H (playS Wd H t l).1 h' d' ∧ Bal (playS Wd H t l).1 := by
  induction l with
  | nil => intro t h d g b; exact ⟨h, d, g, b⟩
  | cons x l ih =>
    intro t h d g b
    rw [playS]
    split
    · rename_i c
      obtain ⟨h', d', g'⟩ := good_step hm g c
      exact ih g' (bal_step hm g b c)
    · exact ⟨h, d, g, b⟩
end Go.Proofs.Ytgiggomcpifjmaa
