/- The plain law of KeySplit: what the code's split comes to is what the reference's comes to. -/
import Derived.Test.YtgiggomcpifjmaaKe
import Derived.Test.YtgiggomcpifjmaaTe
set_option linter.unusedVariables false
namespace Go.Proofs.Ytgiggomcpifjmaa
open Plm
theorem wofs_append (a b : List Int) : wofs (a ++ b) = wor (wofs a) (wofs b) := by
  apply ext; intro i hi
  rw [bit_wor, bit_wofs, bit_wofs, bit_wofs, List.any_append]
  cases decide (i < 128) <;> simp
theorem any_iff (l : List Int) (i : Nat) : (l.any fun p => decide ((i : Int) = p)) = decide ((i : Int) ∈ l) := by
  rw [Bool.eq_iff_iff]; simp
theorem mem_stCol (c x n : Nat) (p : Int) : p ∈ stCol c x n ↔ ∃ y, y < n ∧ p = ((x * c + y : Nat) : Int) := by
  unfold stCol; simp only [List.mem_map, List.mem_range]
  constructor
  · rintro ⟨y, h, rfl⟩; exact ⟨y, h, rfl⟩
  · rintro ⟨y, h, rfl⟩; exact ⟨y, h, rfl⟩
theorem mem_miCol (k : W) (c x n : Nat) (p : Int) : p ∈ miCol k c x n ↔ ∃ y, y < n ∧ bit k (x * c + y) = true ∧ p = ((x * c + y : Nat) : Int) := by
  unfold miCol; simp only [List.mem_map, List.mem_filter, List.mem_range]
  constructor
  · rintro ⟨y, ⟨h, h2⟩, rfl⟩; exact ⟨y, h, h2, rfl⟩
  · rintro ⟨y, h, h2, rfl⟩; exact ⟨y, ⟨h, h2⟩, rfl⟩
/-! ### the greatest place of a column -/
theorem topR_none (k : W) (c x : Nat) : ∀ n, topR k c x n < 0 → ∀ y, y < n → bit k (x * c + y) = false
  | 0, _, y, hy => by omega
  | n + 1, h, y, hy => by
    rw [topR] at h
    split at h
    · omega
    · rename_i hb
      by_cases e : y = n
      · subst e; simpa using hb
      · exact topR_none k c x n h y (by omega)
theorem topR_some (k : W) (c x : Nat) : ∀ n (t : Nat), topR k c x n = (t : Int) → t < n ∧ bit k (x * c + t) = true ∧ ∀ y, t < y → y < n → bit k (x * c + y) = false
  | 0, t, h => by rw [topR] at h; omega
  | n + 1, t, h => by
    rw [topR] at h
    split at h
    · rename_i hb
      have : n = t := by omega
      subst this
      exact ⟨by omega, hb, fun y h1 h2 => by omega⟩
    · rename_i hb
      obtain ⟨h1, h2, h3⟩ := topR_some k c x n t h
      refine ⟨by omega, h2, fun y g1 g2 => ?_⟩
      by_cases e : y = n
      · subst e; simpa using hb
      · exact h3 y g1 (by omega)
theorem bit_mask (H i : Nat) (hH : H ≤ 8) : bit (wcolmask H) i = decide (i < H + 1) := by
  unfold wcolmask
  have e1 : nat (wof ((H : Int) + 1)) = 2 ^ (H + 1) := nat_wof (H + 1) (by omega)
  have e2 : nat (wof 0) = 1 := nat_wof 0 (by omega)
  have h1 : 2 ^ (H + 1) ≤ 2 ^ 9 := Nat.pow_le_pow_right (by decide) (by omega)
  have h2 : 0 < 2 ^ (H + 1) := Nat.two_pow_pos _
  rw [bit_nat, nat_wsub, e1, e2]
  rw [show 340282366920938463463374607431768211456 - 1 + 2 ^ (H + 1) = (2 ^ (H + 1) - 1) + 340282366920938463463374607431768211456 by omega, Nat.add_mod_right, Nat.mod_eq_of_lt (by omega), Nat.testBit_two_pow_sub_one]
theorem bit_places (H : Nat) (k : W) (x y : Nat) (hH : H ≤ 8) : bit (wplaces H k x) y = (decide (y < H + 1) && bit k (x * (H + 1) + y)) := by
  unfold wplaces
  rw [bit_wand, bit_mask H y hH, bit_wdown, show ((x : Int) * ((H : Int) + 1)).toNat = x * (H + 1) by rw [show (x : Int) * ((H : Int) + 1) = ((x * (H + 1) : Nat) : Int) by simp, Int.toNat_natCast], Bool.and_comm]
theorem whigh_top (H : Nat) (k : W) (x : Nat) (hH : H ≤ 8) : whigh (wplaces H k x) = topR k (H + 1) x (H + 1) := by
  have hl := topR_lt k (H + 1) x (H + 1)
  by_cases h : topR k (H + 1) x (H + 1) < 0
  · have h0 : nat (wplaces H k x) = 0 := by
      apply Nat.eq_of_testBit_eq; intro y
      rw [← bit_nat, bit_places H k x y hH]
      by_cases hy : y < H + 1
      · simp [topR_none k (H + 1) x (H + 1) h y hy]
      · simp [hy]
    unfold whigh; rw [if_pos h0]; omega
  · obtain ⟨t, ht⟩ := Int.eq_ofNat_of_zero_le (show 0 ≤ topR k (H + 1) x (H + 1) by omega)
    obtain ⟨h1, h2, h3⟩ := topR_some k (H + 1) x (H + 1) t ht
    have hb : (nat (wplaces H k x)).testBit t = true := by rw [← bit_nat, bit_places H k x t hH, h2]; simp; omega
    have hge := Nat.ge_two_pow_of_testBit hb
    have hne : nat (wplaces H k x) ≠ 0 := by have := Nat.two_pow_pos t; omega
    have hlt : nat (wplaces H k x) < 2 ^ (t + 1) := by
      apply Nat.lt_pow_two_of_testBit; intro i hi
      rw [← bit_nat, bit_places H k x i hH]
      by_cases hy : i < H + 1
      · simp [h3 i (by omega) hy]
      · simp [hy]
    unfold whigh
    rw [if_neg hne, ht, (Nat.log2_eq_iff hne).2 ⟨hge, hlt⟩]
theorem bit_low (t i : Nat) (ht : t < 128) : bit (wsub (wof (t : Int)) (wof 0)) i = decide (i < t) := by
  have e1 : nat (wof (t : Int)) = 2 ^ t := nat_wof t ht
  have e2 : nat (wof 0) = 1 := nat_wof 0 (by omega)
  have h1 : 2 ^ t < 2 ^ 128 := Nat.pow_lt_pow_right (by decide) ht
  have h2 : 0 < 2 ^ t := Nat.two_pow_pos _
  rw [bit_nat, nat_wsub, e1, e2]
  rw [show 340282366920938463463374607431768211456 - 1 + 2 ^ t = (2 ^ t - 1) + 340282366920938463463374607431768211456 by omega, Nat.add_mod_right, Nat.mod_eq_of_lt (by omega), Nat.testBit_two_pow_sub_one]
theorem toN (x H : Nat) : ((x : Int) * ((H : Int) + 1)).toNat = x * (H + 1) := by
  rw [show (x : Int) * ((H : Int) + 1) = ((x * (H + 1) : Nat) : Int) by simp, Int.toNat_natCast]
theorem st_col (H x t : Nat) (hH : H ≤ 8) (hx : x < 8) (ht : t < H + 1) : wup (wsub (wof (t : Int)) (wof 0)) ((x : Int) * ((H : Int) + 1)) = wofs (stCol (H + 1) x t) := by
  have hp : x * (H + 1) ≤ 7 * 9 := Nat.mul_le_mul (by omega) (by omega)
  apply ext; intro i hi
  rw [bit_wup, toN, bit_low t _ (by omega), bit_wofs, any_iff, Bool.eq_iff_iff]
  simp only [Bool.and_eq_true, Bool.not_eq_true', decide_eq_true_eq, decide_eq_false_iff_not, mem_stCol]
  constructor
  · rintro ⟨⟨_, h1⟩, h2⟩; exact ⟨hi, i - x * (H + 1), h2, by omega⟩
  · rintro ⟨_, y, h1, h2⟩; have h2' : i = x * (H + 1) + y := by omega
    subst h2'; exact ⟨⟨hi, by omega⟩, by omega⟩
theorem mi_col (H x t : Nat) (k : W) (hH : H ≤ 8) (hx : x < 8) (ht : topR k (H + 1) x (H + 1) = (t : Int)) : wup (wxor (wplaces H k x) (wof (t : Int))) ((x : Int) * ((H : Int) + 1)) = wofs (miCol k (H + 1) x t) := by
  have hp : x * (H + 1) ≤ 7 * 9 := Nat.mul_le_mul (by omega) (by omega)
  obtain ⟨h1, h2, h3⟩ := topR_some k (H + 1) x (H + 1) t ht
  have hbit : ∀ y, bit (wxor (wplaces H k x) (wof (t : Int))) y = (decide (y < t) && bit k (x * (H + 1) + y)) := by
    intro y
    rw [bit_wxor, bit_places H k x y hH, bit_wof]
    by_cases e : y = t
    · subst e; have : y < 128 := by omega
      simp [h1, h2, this]
    · have e' : ¬ (y : Int) = (t : Int) := by omega
      by_cases hy : y < t
      · simp [e', hy, show y < H + 1 by omega]
      · by_cases hy2 : y < H + 1
        · simp [e', hy, hy2, h3 y (by omega) hy2]
        · simp [e', hy, hy2]
  apply ext; intro i hi
  rw [bit_wup, toN, hbit, bit_wofs, any_iff, Bool.eq_iff_iff]
  simp only [Bool.and_eq_true, Bool.not_eq_true', decide_eq_true_eq, decide_eq_false_iff_not, mem_miCol]
  constructor
  · rintro ⟨⟨_, g1⟩, g2, g3⟩
    rw [show x * (H + 1) + (i - x * (H + 1)) = i by omega] at g3
    exact ⟨hi, i - x * (H + 1), g2, by rw [show x * (H + 1) + (i - x * (H + 1)) = i by omega]; exact g3, by omega⟩
  · rintro ⟨_, y, g1, g2, g3⟩; have g3' : i = x * (H + 1) + y := by omega
    subst g3'
    exact ⟨⟨hi, by omega⟩, by omega, by rw [show x * (H + 1) + y - x * (H + 1) = y by omega]; exact g2⟩
theorem sp_step (H x t : Nat) (k : W) (u : Sp) (hH : H ≤ 8) (hx : x < 8) (ht : topR k (H + 1) x (H + 1) = (t : Int)) :
    spStep H k u x = ⟨wor u.m (wofs (miCol k (H + 1) x t)), wor u.s (wofs (stCol (H + 1) x t)), u.r⟩ := by
  have h1 := (topR_some k (H + 1) x (H + 1) t ht).1
  have hw : whigh (wplaces H k x) = (t : Int) := by rw [whigh_top H k x hH, ht]
  unfold spStep spM spS spR
  rw [hw, if_neg (by omega), if_neg (by omega), if_neg (by omega), mi_col H x t k hH hx ht, st_col H x t hH hx h1]
theorem sp_all (H : Nat) (k : W) (r : Bool) (hH : H ≤ 8) : ∀ n, n ≤ 8 → (∀ j, j < n → 0 ≤ topR k (H + 1) j (H + 1)) → spAll H k ⟨wz, wz, r⟩ n = ⟨wofs (miAll k (H + 1) n), wofs (stAll k (H + 1) n), r⟩
  | 0, _, _ => rfl
  | n + 1, hn, h => by
    obtain ⟨t, ht⟩ := Int.eq_ofNat_of_zero_le (h n (by omega))
    rw [spAll, sp_all H k r hH n (by omega) (fun j hj => h j (by omega)), sp_step H n t k _ hH (by omega) ht, miAll, stAll, ht, Int.toNat_natCast, wofs_append, wofs_append]
theorem sp_false (H : Nat) (k : W) (r : Bool) (hH : H ≤ 8) : ∀ n j, j < n → topR k (H + 1) j (H + 1) < 0 → ∀ u, (spAll H k u n).r = false
  | 0, j, hj, _, _ => by omega
  | n + 1, j, hj, h, u => by
    rw [spAll]
    show spR _ _ = false
    unfold spR
    by_cases e : j = n
    · subst e; rw [whigh_top H k j hH, if_pos h]
    · rw [sp_false H k r hH n j (by omega) h u]; simp
/-! ### counts -/
theorem cnt_list (l : List Int) (hl : l.Pairwise (· < ·)) (hr : ∀ p, p ∈ l → 0 ≤ p ∧ p < 128) : cnt (wofs l) = l.length := by
  unfold cnt
  rw [show l.length = (l.map Int.toNat).length from (List.length_map _).symm]
  apply List.Perm.length_eq
  rw [List.perm_ext_iff_of_nodup]
  · intro i
    simp only [List.mem_filter, List.mem_range, bit_wofs, any_iff, Bool.and_eq_true, decide_eq_true_eq, List.mem_map]
    constructor
    · rintro ⟨h1, _, h2⟩; exact ⟨i, h2, by simp⟩
    · rintro ⟨p, hp, rfl⟩
      have := hr p hp
      refine ⟨by omega, by omega, ?_⟩
      rw [Int.toNat_of_nonneg this.1]; exact hp
  · exact List.Pairwise.filter _ List.nodup_range
  · unfold List.Nodup
    rw [List.pairwise_map]
    refine List.Pairwise.imp_of_mem (R := (· < ·)) ?_ hl
    intro a b ha hb hab
    have := hr a ha; have := hr b hb; omega
theorem stCol_pw (c x n : Nat) : (stCol c x n).Pairwise (· < ·) := by
  unfold stCol; rw [List.pairwise_map]
  refine List.Pairwise.imp ?_ List.pairwise_lt_range
  intro a b h; omega
theorem miCol_pw (k : W) (c x n : Nat) : (miCol k c x n).Pairwise (· < ·) := by
  unfold miCol; rw [List.pairwise_map]
  refine List.Pairwise.imp ?_ (List.Pairwise.filter _ List.pairwise_lt_range)
  intro a b h; omega
theorem stAll_in (k : W) (c : Nat) : ∀ n p, p ∈ stAll k c n → 0 ≤ p ∧ p < (n * c : Nat)
  | 0, p, h => by simp [stAll] at h
  | n + 1, p, h => by
    rw [stAll, List.mem_append] at h
    have hm : (n + 1) * c = n * c + c := Nat.succ_mul n c
    rcases h with h | h
    · have := stAll_in k c n p h; omega
    · obtain ⟨y, hy, rfl⟩ := (mem_stCol c n _ p).1 h
      have := topR_lt k c n c; omega
theorem miAll_in (k : W) (c : Nat) : ∀ n p, p ∈ miAll k c n → 0 ≤ p ∧ p < (n * c : Nat)
  | 0, p, h => by simp [miAll] at h
  | n + 1, p, h => by
    rw [miAll, List.mem_append] at h
    have hm : (n + 1) * c = n * c + c := Nat.succ_mul n c
    rcases h with h | h
    · have := miAll_in k c n p h; omega
    · obtain ⟨y, hy, _, rfl⟩ := (mem_miCol k c n _ p).1 h
      have := topR_lt k c n c; omega
theorem stAll_pw (k : W) (c : Nat) : ∀ n, (stAll k c n).Pairwise (· < ·)
  | 0 => List.Pairwise.nil
  | n + 1 => by
    rw [stAll, List.pairwise_append]
    refine ⟨stAll_pw k c n, stCol_pw _ _ _, fun a ha b hb => ?_⟩
    have := stAll_in k c n a ha
    obtain ⟨y, hy, rfl⟩ := (mem_stCol c n _ b).1 hb
    omega
theorem miAll_pw (k : W) (c : Nat) : ∀ n, (miAll k c n).Pairwise (· < ·)
  | 0 => List.Pairwise.nil
  | n + 1 => by
    rw [miAll, List.pairwise_append]
    refine ⟨miAll_pw k c n, miCol_pw _ _ _ _, fun a ha b hb => ?_⟩
    have := miAll_in k c n a ha
    obtain ⟨y, hy, _, rfl⟩ := (mem_miCol k c n _ b).1 hb
    omega
/-! ### the places above the board -/
theorem mem_places (k : W) (p : Int) : p ∈ places k ↔ ∃ i, i < 128 ∧ bit k i = true ∧ p = (i : Int) := by
  unfold places placesTo; simp only [List.mem_map, List.mem_filter, List.mem_range]
  constructor
  · rintro ⟨i, ⟨h1, h2⟩, rfl⟩; exact ⟨i, h1, h2, rfl⟩
  · rintro ⟨i, h1, h2, rfl⟩; exact ⟨i, ⟨h1, h2⟩, rfl⟩
theorem above (Wd H : Nat) (k : W) : (places k).all (fun p => decide (p < (Wd : Int) * ((H : Int) + 1))) = decide (wdown k ((Wd : Int) * ((H : Int) + 1)) = wz) := by
  rw [Bool.eq_iff_iff, decide_eq_true_eq, List.all_eq_true]
  constructor
  · intro h
    apply ext; intro i hi
    rw [bit_wdown, toN, bit_wz]
    by_cases h1 : Wd * (H + 1) + i < 128
    · rw [Bool.eq_false_iff]; intro hb
      have := h _ ((mem_places k _).2 ⟨_, h1, hb, rfl⟩)
      rw [show (Wd : Int) * ((H : Int) + 1) = ((Wd * (H + 1) : Nat) : Int) by simp] at this
      simp only [decide_eq_true_eq] at this; omega
    · exact bit_ge k _ (by omega)
  · intro h p hp
    obtain ⟨i, hi, hb, rfl⟩ := (mem_places k p).1 hp
    rw [show (Wd : Int) * ((H : Int) + 1) = ((Wd * (H + 1) : Nat) : Int) by simp]
    simp only [decide_eq_true_eq]
    rcases Nat.lt_or_ge i (Wd * (H + 1)) with g | g
    · omega
    · have e := bit_wdown k ((Wd : Int) * ((H : Int) + 1)) (i - Wd * (H + 1))
      rw [toN, h, bit_wz, show Wd * (H + 1) + (i - Wd * (H + 1)) = i by omega, hb] at e
      cases e
theorem tops_iff (k : W) (c n : Nat) : (List.range n).all (fun x => decide (0 ≤ topR k c x c)) = true ↔ ∀ j, j < n → 0 ≤ topR k c j c := by
  rw [List.all_eq_true]; simp
/-- The code's split and the reference's. -/
theorem split_same (bw bh : Int) (hm : mayB bw bh = true) (k : W) : spIs bw bh k = refOk bw bh k ∧ (spIs bw bh k = true → (spFull bw bh k).m = refM bw bh k ∧ (spFull bw bh k).s = refS bw bh k) := by
  obtain ⟨h1, h2, h3, h4⟩ := mayB_iff.1 hm
  obtain ⟨Wd, rfl⟩ := Int.eq_ofNat_of_zero_le (show 0 ≤ bw by omega)
  obtain ⟨H, rfl⟩ := Int.eq_ofNat_of_zero_le (show 0 ≤ bh by omega)
  have e0 : ((H : Int) + 1).toNat = H + 1 := by omega
  have hH : H ≤ 8 := by omega
  by_cases ht : ∀ j, j < Wd → 0 ≤ topR k (H + 1) j (H + 1)
  · have hf : spFull Wd H k = ⟨wofs (miAll k (H + 1) Wd), wofs (stAll k (H + 1) Wd), decide (wdown k ((Wd : Int) * ((H : Int) + 1)) = wz)⟩ := by
      unfold spFull; rw [Int.toNat_natCast]; exact sp_all H k _ hH Wd (by omega) ht
    have hp : Wd * (H + 1) ≤ 8 * 9 := Nat.mul_le_mul (by omega) (by omega)
    have c1 : cnt (wofs (miAll k (H + 1) Wd)) = (miAll k (H + 1) Wd).length := cnt_list _ (miAll_pw k _ _) fun p hp' => by have := miAll_in k _ _ p hp'; omega
    have c2 : cnt (wofs (stAll k (H + 1) Wd)) = (stAll k (H + 1) Wd).length := cnt_list _ (stAll_pw k _ _) fun p hp' => by have := stAll_in k _ _ p hp'; omega
    have hs : spIs Wd H k = refOk Wd H k := by
      unfold spIs refOk
      rw [hf, hm, e0, Int.toNat_natCast, above Wd H k, (tops_iff k (H + 1) Wd).2 ht]
      simp only [c1, c2, Bool.true_and]
    refine ⟨hs, fun h => ?_⟩
    rw [hs] at h
    unfold refM refS
    rw [if_pos h, if_pos h, hf, e0, Int.toNat_natCast]
    exact ⟨rfl, rfl⟩
  · have hex : ∃ j, j < Wd ∧ topR k (H + 1) j (H + 1) < 0 := by
      apply Classical.byContradiction; intro hn
      exact ht fun j hj => by
        rcases Int.lt_or_le (topR k (H + 1) j (H + 1)) 0 with g | g
        · exact absurd ⟨j, hj, g⟩ hn
        · exact g
    obtain ⟨j, hj, hneg⟩ := hex
    have a1 : spIs Wd H k = false := by
      unfold spIs spFull; rw [Int.toNat_natCast, sp_false H k false hH Wd j hj hneg]; rfl
    have a2 : (List.range Wd).all (fun x => decide (0 ≤ topR k (H + 1) x (H + 1))) = false := by
      rw [Bool.eq_false_iff]; intro ha; exact ht ((tops_iff k (H + 1) Wd).1 ha)
    have a3 : refOk Wd H k = false := by
      unfold refOk; rw [e0, Int.toNat_natCast, a2]; simp
    refine ⟨by rw [a1, a3], fun h => ?_⟩
    rw [a1] at h; cases h
theorem kM_ref (bw bh : Int) (k : W) : kM bw bh k = refM bw bh k := by
  unfold kM
  cases hm : mayB bw bh with
  | false => rw [if_neg (by simp)]; unfold refM refOk; rw [hm]; rfl
  | true =>
    obtain ⟨h1, h2⟩ := split_same bw bh hm k
    by_cases h : spIs bw bh k = true
    · rw [if_pos ⟨rfl, h⟩, (h2 h).1]
    · rw [if_neg (fun g => h g.2)]; unfold refM; rw [← h1, if_neg h]
theorem kS_ref (bw bh : Int) (k : W) : kS bw bh k = refS bw bh k := by
  unfold kS
  cases hm : mayB bw bh with
  | false => rw [if_neg (by simp)]; unfold refS refOk; rw [hm]; rfl
  | true =>
    obtain ⟨h1, h2⟩ := split_same bw bh hm k
    by_cases h : spIs bw bh k = true
    · rw [if_pos ⟨rfl, h⟩, (h2 h).2]
    · rw [if_neg (fun g => h g.2)]; unfold refS; rw [← h1, if_neg h]
theorem kE_ref (bw bh : Int) (k : W) (hm : mayB bw bh = true) : kE bw bh k = if refOk bw bh k = true then 0 else 17 := by
  unfold kE; rw [if_pos hm, (split_same bw bh hm k).1]
theorem kE_no (bw bh : Int) (k : W) (hm : mayB bw bh = false) : kE bw bh k = 10 := by
  unfold kE; rw [hm]; rfl
end Go.Proofs.Ytgiggomcpifjmaa
