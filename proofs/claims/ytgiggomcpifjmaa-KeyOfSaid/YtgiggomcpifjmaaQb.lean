/- Plain laws on positions: what every play keeps. -/
import Derived.Test.YtgiggomcpifjmaaQa
set_option linter.unusedVariables false
namespace Go.Proofs.Ytgiggomcpifjmaa
open Plm

theorem col_digit (k H x z : Nat) : (2 ^ k &&& (2 ^ H - 1)) &&& (if z = x then 2 ^ H - 1 else 0) = if z = x ∧ k < H then 2 ^ k else 0 := by
  rw [low_and]
  by_cases h : k < H
  · have e : 2 ^ k &&& (2 ^ H - 1) = 2 ^ k := by rw [low_and, if_pos h]
    by_cases g : z = x
    · rw [if_pos h, if_pos g, if_pos ⟨g, h⟩, e]
    · have n : ¬ (z = x ∧ k < H) := fun q => g q.1
      rw [if_neg g, if_neg n, Nat.and_zero]
  · have n : ¬ (z = x ∧ k < H) := fun q => h q.2
    rw [if_neg h, Nat.zero_and, if_neg n]
/-- The place where a stone comes to lie in a column. -/
theorem nat_wat (Wd H x : Nat) (s : W) (h : Nat → Nat) (hm : mayB Wd H = true) (hx : x < Wd) (hh : ∀ x, x < Wd → h x ≤ H) (hs : nat s = dig (H + 1) (fun x => 2 ^ h x - 1) Wd) :
    nat (wat Wd H s x) = dig (H + 1) (fun z => if z = x ∧ h z < H then 2 ^ h z else 0) Wd := by
  have l1 : ∀ x, x < Wd → 2 ^ h x < 2 ^ (H + 1) := fun x hx => Nat.pow_lt_pow_right (by decide) (by have := hh x hx; omega)
  have l2 : ∀ x, x < Wd → (fun _ : Nat => 2 ^ H - 1) x < 2 ^ (H + 1) := fun x hx => Nat.lt_of_le_of_lt (Nat.sub_le _ _) (Nat.pow_lt_pow_right (by decide) (by omega))
  have l3 : ∀ z, z < Wd → (fun z => if z = x then 2 ^ H - 1 else 0) z < 2 ^ (H + 1) := fun z hz => by
    show (if z = x then 2 ^ H - 1 else 0) < _
    split
    · exact l2 z hz
    · exact Nat.two_pow_pos _
  have l4 : ∀ z, z < Wd → (fun z => 2 ^ h z &&& (2 ^ H - 1)) z < 2 ^ (H + 1) := fun z hz => Nat.lt_of_le_of_lt Nat.and_le_left (l1 z hz)
  unfold wat
  rw [nat_wand, nat_wand, nat_up Wd H s h hm hh hs, nat_wfull Wd H hm, nat_wcol Wd H x hm hx,
    (dig_op (H + 1) (by omega) (fun x => 2 ^ h x) _ Wd l1 l2).1, (dig_op (H + 1) (by omega) _ _ Wd l4 l3).1]
  exact dig_congr _ _ _ _ (fun z hz => col_digit _ _ _ _)
theorem dig_zero (c n : Nat) : dig c (fun _ => 0) n = 0 := by
  induction n with
  | zero => rfl
  | succ n ih => simp [dig, ih]
theorem good_zero (Wd H : Nat) : Good Wd H st0 (fun _ => 0) (fun _ => 0) := by
  refine ⟨fun x hx => Nat.zero_le _, fun x hx => Nat.two_pow_pos _, ?_, ?_⟩
  · show nat wz = dig (H + 1) (fun _ => 2 ^ 0 - 1) Wd
    rw [show (fun _ : Nat => 2 ^ 0 - 1) = (fun _ => 0) from rfl, dig_zero]; rfl
  · show nat wz = _
    rw [dig_zero]; rfl
theorem canS_zero {bw bh : Int} {t : St} {x : Int} (h : canS bw bh t x = 0) : 0 ≤ x ∧ x < bw ∧ wat bw bh t.s x ≠ wz := by
  unfold canS canP at h
  split at h
  · omega
  · split at h
    · omega
    · split at h
      · omega
      · rename_i a b
        exact ⟨by omega, by omega, b⟩
theorem good_step {Wd H : Nat} {t : St} {h d : Nat → Nat} (hm : mayB Wd H = true) (g : Good Wd H t h d) {x : Int} (hc : canS Wd H t x = 0) : ∃ h' d', Good Wd H (stepS Wd H t x) h' d' := by
  obtain ⟨a, b, c⟩ := canS_zero hc
  obtain ⟨X, rfl⟩ : ∃ X : Nat, x = X := ⟨x.toNat, by omega⟩
  have hX : X < Wd := by omega
  have e := nat_wat Wd H X t.s h hm hX g.hh g.hs
  have lt : h X < H := by
    refine Nat.lt_of_not_le fun n => c (nat_inj ?_)
    rw [e, show nat wz = 0 from rfl]
    refine (dig_congr (H + 1) _ (fun _ => 0) Wd fun z hz => if_neg ?_).trans (dig_zero (H + 1) Wd)
    rintro ⟨rfl, q⟩; omega
  refine ⟨fun z => if z = X then h z + 1 else h z, fun z => (2 ^ h z - 1) ^^^ d z, ⟨?_, ?_, ?_, ?_⟩⟩
  · intro z hz
    show (if z = X then h z + 1 else h z) ≤ H
    have := g.hh z hz
    split
    · rename_i q; subst q; omega
    · exact this
  · intro z hz
    have := low_xor (h z) (d z) (g.hd z hz)
    show (2 ^ h z - 1) ^^^ d z < 2 ^ (if z = X then h z + 1 else h z)
    split
    · exact Nat.lt_trans this (Nat.pow_lt_pow_right (by decide) (by omega))
    · exact this
  · show nat (wor t.s (wat Wd H t.s X)) = _
    have l : ∀ z, z < Wd → (fun z => if z = X ∧ h z < H then 2 ^ h z else 0) z < 2 ^ (H + 1) := fun z hz => by
      show (if z = X ∧ h z < H then 2 ^ h z else 0) < _
      split
      · exact g.lt z hz
      · exact Nat.two_pow_pos _
    rw [nat_wor, e, g.hs, (dig_op (H + 1) (by omega) (fun z => 2 ^ h z - 1) _ Wd g.lts l).2.1]
    refine dig_congr _ _ _ _ fun z hz => ?_
    by_cases q : z = X
    · subst q; rw [if_pos ⟨rfl, lt⟩, if_pos rfl, low_or]
    · have n : ¬ (z = X ∧ h z < H) := fun r => q r.1
      rw [if_neg n, if_neg q, Nat.or_zero]
  · show nat (wxor t.s t.m) = _
    rw [nat_wxor, g.hs, g.hm, (dig_op (H + 1) (by omega) (fun z => 2 ^ h z - 1) d Wd g.lts g.ltd).2.2]
theorem good_play {Wd H : Nat} (hm : mayB Wd H = true) (l : List Int) : ∀ {t : St} {h d : Nat → Nat}, Good Wd H t h d → ∃ h' d', Good Wd H (playS Wd H t l).1 h' d' := by
  induction l with
  | nil => intro t h d g; exact ⟨h, d, g⟩
  | cons x l ih =>
    intro t h d g
    rw [playS]
    split
    · rename_i c
      obtain ⟨h', d', g'⟩ := good_step hm g c
      exact ih g'
    · exact ⟨h, d, g⟩
/-- TWO PLAYS COME TO ONE KEY IF AND ONLY IF THEY COME TO THE SAME STONES. -/
theorem play_apart {bw bh : Int} (hm : mayB bw bh = true) (l l' : List Int) :
    wkey bw bh (playS bw bh st0 l).1.m (playS bw bh st0 l).1.s = wkey bw bh (playS bw bh st0 l').1.m (playS bw bh st0 l').1.s ↔ (playS bw bh st0 l).1.m = (playS bw bh st0 l').1.m ∧ (playS bw bh st0 l).1.s = (playS bw bh st0 l').1.s := by
  have := mayB_iff.1 hm
  obtain ⟨Wd, rfl⟩ : ∃ X : Nat, bw = X := ⟨bw.toNat, by omega⟩
  obtain ⟨H, rfl⟩ : ∃ X : Nat, bh = X := ⟨bh.toNat, by omega⟩
  obtain ⟨h, d, g⟩ := good_play hm l (good_zero Wd H)
  obtain ⟨h', d', g'⟩ := good_play hm l' (good_zero Wd H)
  exact key_apart hm g g'
end Go.Proofs.Ytgiggomcpifjmaa
