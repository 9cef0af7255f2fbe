/- Plain laws: mirrored words, mirrored plays. -/
import Derived.Test.YtgiggomcpifjmaaQe
import Derived.Test.YtgiggomcpifjmaaTm
set_option linter.unusedVariables false
namespace Go.Proofs.Ytgiggomcpifjmaa
open Plm
def flipF (Wd H : Nat) (u : W) (i : Nat) : Bool := decide (i < Wd * (H + 1)) && bit u ((Wd - 1 - i / (H + 1)) * (H + 1) + i % (H + 1))
def wflip (Wd H : Nat) (u : W) : W := wordF (flipF Wd H u)
theorem bit_wflip (Wd H : Nat) (u : W) (h : Wd * (H + 1) ≤ 128) (i : Nat) : bit (wflip Wd H u) i = flipF Wd H u i := by
  by_cases hi : i < 128
  · exact bit_wordF _ i hi
  · rw [bit_ge _ i (by omega)]; unfold flipF
    rw [decide_eq_false (by omega)]; rfl
theorem flip_at (Wd H : Nat) (u : W) (h : Wd * (H + 1) ≤ 128) (x y : Nat) (hx : x < Wd) (hy : y < H + 1) : bit (wflip Wd H u) (x * (H + 1) + y) = bit u ((Wd - 1 - x) * (H + 1) + y) := by
  rw [bit_wflip Wd H u h]; unfold flipF
  have e := div_place x (H + 1) y hy
  have hlt : x * (H + 1) + y < Wd * (H + 1) := by
    have : (x + 1) * (H + 1) ≤ Wd * (H + 1) := Nat.mul_le_mul_right _ hx
    rw [Nat.succ_mul] at this; omega
  rw [e.1, e.2, decide_eq_true hlt, Bool.true_and]
theorem flip_over (Wd H : Nat) (u : W) (h : Wd * (H + 1) ≤ 128) (i : Nat) (hi : Wd * (H + 1) ≤ i) : bit (wflip Wd H u) i = false := by
  rw [bit_wflip Wd H u h]; unfold flipF; rw [decide_eq_false (by omega)]; rfl
/-- Two words of the board are the same if they have the same places. -/
theorem ext_b (Wd H : Nat) (u v : W) (hu : ∀ i, Wd * (H + 1) ≤ i → bit u i = false) (hv : ∀ i, Wd * (H + 1) ≤ i → bit v i = false)
    (h : ∀ x y, x < Wd → y < H + 1 → bit u (x * (H + 1) + y) = bit v (x * (H + 1) + y)) : u = v := by
  apply ext; intro i hi
  by_cases hlt : i < Wd * (H + 1)
  · obtain ⟨x, y, hx, hy, rfl⟩ := split_pl i (H + 1) Wd (by omega) hlt
    exact h x y hx hy
  · rw [hu i (by omega), hv i (by omega)]
theorem flip_flip (Wd H : Nat) (u : W) (h : Wd * (H + 1) ≤ 128) (hu : ∀ i, Wd * (H + 1) ≤ i → bit u i = false) : wflip Wd H (wflip Wd H u) = u := by
  refine ext_b Wd H _ _ (flip_over Wd H _ h) hu fun x y hx hy => ?_
  rw [flip_at Wd H _ h x y hx hy, flip_at Wd H _ h (Wd - 1 - x) y (by omega) hy, show Wd - 1 - (Wd - 1 - x) = x by omega]
theorem flip_wor (Wd H : Nat) (u v : W) (h : Wd * (H + 1) ≤ 128) : wflip Wd H (wor u v) = wor (wflip Wd H u) (wflip Wd H v) := by
  refine ext_b Wd H _ _ (flip_over Wd H _ h) (fun i hi => ?_) fun x y hx hy => ?_
  · rw [bit_wor, flip_over Wd H _ h i hi, flip_over Wd H _ h i hi]; rfl
  · rw [bit_wor, flip_at Wd H _ h x y hx hy, flip_at Wd H _ h x y hx hy, flip_at Wd H _ h x y hx hy, bit_wor]
theorem flip_wxor (Wd H : Nat) (u v : W) (h : Wd * (H + 1) ≤ 128) : wflip Wd H (wxor u v) = wxor (wflip Wd H u) (wflip Wd H v) := by
  refine ext_b Wd H _ _ (flip_over Wd H _ h) (fun i hi => ?_) fun x y hx hy => ?_
  · rw [bit_wxor, flip_over Wd H _ h i hi, flip_over Wd H _ h i hi]; rfl
  · rw [bit_wxor, flip_at Wd H _ h x y hx hy, flip_at Wd H _ h x y hx hy, flip_at Wd H _ h x y hx hy, bit_wxor]
theorem nat_wflip (Wd H : Nat) (u : W) (d : Nat → Nat) (h : Wd * (H + 1) ≤ 128) (hd : ∀ x, x < Wd → d x < 2 ^ (H + 1)) (hu : nat u = dig (H + 1) d Wd) : nat (wflip Wd H u) = dig (H + 1) (fun z => d (Wd - 1 - z)) Wd := by
  have hd' : ∀ x, x < Wd → (fun z => d (Wd - 1 - z)) x < 2 ^ (H + 1) := fun x hx => hd _ (by omega)
  apply Nat.eq_of_testBit_eq; intro i
  by_cases hlt : i < Wd * (H + 1)
  · obtain ⟨x, y, hx, hy, rfl⟩ := split_pl i (H + 1) Wd (by omega) hlt
    rw [← bit_nat, flip_at Wd H u h x y hx hy, dig_bit (H + 1) _ Wd hd' x y hx hy, dig_place (H + 1) d Wd u hd hu _ y (by omega) hy]
  · rw [← bit_nat, flip_over Wd H u h i (by omega), dig_bit_ge (H + 1) _ Wd i hd' (by omega)]
theorem celB_flip (Wd H : Nat) (u : W) (h : Wd * (H + 1) ≤ 128) (a b : Int) : celB Wd H (wflip Wd H u) a b = celB Wd H u ((Wd : Int) - 1 - a) b := by
  rw [Bool.eq_iff_iff, celB_iff, celB_iff]
  constructor
  · rintro ⟨A, B, rfl, rfl, h1, h2, h3⟩
    rw [flip_at Wd H u h A B h1 (by omega)] at h3
    exact ⟨Wd - 1 - A, B, by omega, rfl, by omega, h2, h3⟩
  · rintro ⟨A, B, e, rfl, h1, h2, h3⟩
    refine ⟨Wd - 1 - A, B, by omega, rfl, by omega, h2, ?_⟩
    rw [flip_at Wd H u h _ B (by omega) (by omega), show Wd - 1 - (Wd - 1 - A) = A by omega]; exact h3
theorem line_flip (Wd H : Nat) (u : W) (h : Wd * (H + 1) ≤ 128) {d : Nat} {a b da db : Int} (hd : Dir H d da db) (hl : lineB Wd H u a b da db = true) :
    ∃ d' a' b' da' db', Dir H d' da' db' ∧ lineB Wd H (wflip Wd H u) a' b' da' db' = true := by
  unfold lineB at hl
  simp only [Bool.and_eq_true] at hl
  obtain ⟨g0, g1, g2, g3⟩ := hl
  rcases hd with ⟨_, rfl, rfl⟩ | ⟨_, rfl, rfl⟩ | ⟨_, rfl, rfl⟩ | ⟨_, rfl, rfl⟩
  · refine ⟨1, (Wd : Int) - 1 - a, b, 0, 1, .inl ⟨rfl, rfl, rfl⟩, ?_⟩
    unfold lineB
    simp only [celB_flip Wd H u h, Bool.and_eq_true]
    refine ⟨?_, ?_, ?_, ?_⟩
    · rw [show (Wd : Int) - 1 - ((Wd : Int) - 1 - a) = a by omega]; exact g0
    · rw [show (Wd : Int) - 1 - ((Wd : Int) - 1 - a + 0) = a + 0 by omega]; exact g1
    · rw [show (Wd : Int) - 1 - ((Wd : Int) - 1 - a + 2 * 0) = a + 2 * 0 by omega]; exact g2
    · rw [show (Wd : Int) - 1 - ((Wd : Int) - 1 - a + 3 * 0) = a + 3 * 0 by omega]; exact g3
  · refine ⟨H + 2, (Wd : Int) - 1 - a - 3, b - 3, 1, 1, .inr (.inr (.inr ⟨rfl, rfl, rfl⟩)), ?_⟩
    unfold lineB
    simp only [celB_flip Wd H u h, Bool.and_eq_true]
    refine ⟨?_, ?_, ?_, ?_⟩
    · rw [show (Wd : Int) - 1 - ((Wd : Int) - 1 - a - 3) = a + 3 * 1 by omega, show b - 3 = b + 3 * -1 by omega]; exact g3
    · rw [show (Wd : Int) - 1 - ((Wd : Int) - 1 - a - 3 + 1) = a + 2 * 1 by omega, show b - 3 + 1 = b + 2 * -1 by omega]; exact g2
    · rw [show (Wd : Int) - 1 - ((Wd : Int) - 1 - a - 3 + 2 * 1) = a + 1 by omega, show b - 3 + 2 * 1 = b + -1 by omega]; exact g1
    · rw [show (Wd : Int) - 1 - ((Wd : Int) - 1 - a - 3 + 3 * 1) = a by omega, show b - 3 + 3 * 1 = b by omega]; exact g0
  · refine ⟨H + 1, (Wd : Int) - 1 - a - 3, b, 1, 0, .inr (.inr (.inl ⟨rfl, rfl, rfl⟩)), ?_⟩
    unfold lineB
    simp only [celB_flip Wd H u h, Bool.and_eq_true]
    refine ⟨?_, ?_, ?_, ?_⟩
    · rw [show (Wd : Int) - 1 - ((Wd : Int) - 1 - a - 3) = a + 3 * 1 by omega, show b = b + 3 * 0 by omega]; exact g3
    · rw [show (Wd : Int) - 1 - ((Wd : Int) - 1 - a - 3 + 1) = a + 2 * 1 by omega, show b + 0 = b + 2 * 0 by omega]; exact g2
    · rw [show (Wd : Int) - 1 - ((Wd : Int) - 1 - a - 3 + 2 * 1) = a + 1 by omega, show b + 2 * 0 = b + 0 by omega]; exact g1
    · rw [show (Wd : Int) - 1 - ((Wd : Int) - 1 - a - 3 + 3 * 1) = a by omega, show b + 3 * 0 = b by omega]; exact g0
  · refine ⟨H, (Wd : Int) - 1 - a - 3, b + 3, 1, -1, .inr (.inl ⟨rfl, rfl, rfl⟩), ?_⟩
    unfold lineB
    simp only [celB_flip Wd H u h, Bool.and_eq_true]
    refine ⟨?_, ?_, ?_, ?_⟩
    · rw [show (Wd : Int) - 1 - ((Wd : Int) - 1 - a - 3) = a + 3 * 1 by omega, show b + 3 = b + 3 * 1 by omega]; exact g3
    · rw [show (Wd : Int) - 1 - ((Wd : Int) - 1 - a - 3 + 1) = a + 2 * 1 by omega, show b + 3 + -1 = b + 2 * 1 by omega]; exact g2
    · rw [show (Wd : Int) - 1 - ((Wd : Int) - 1 - a - 3 + 2 * 1) = a + 1 by omega, show b + 3 + 2 * -1 = b + 1 by omega]; exact g1
    · rw [show (Wd : Int) - 1 - ((Wd : Int) - 1 - a - 3 + 3 * 1) = a by omega, show b + 3 + 3 * -1 = b by omega]; exact g0
theorem mayB_pl {Wd H : Nat} (hm : mayB Wd H = true) : Wd * (H + 1) ≤ 128 := by
  obtain ⟨h1, h2, h3, h4⟩ := mayB_nat hm
  exact Nat.le_trans (Nat.mul_le_mul h2 (show H + 1 ≤ 9 by omega)) (by decide)
theorem lineB_congr (Wd H : Nat) (u v : W) (h : ∀ a b, celB Wd H u a b = celB Wd H v a b) (a b da db : Int) : lineB Wd H u a b da db = lineB Wd H v a b da db := by
  unfold lineB; simp only [h]
theorem four_flip (Wd H : Nat) (hm : mayB Wd H = true) (u : W) : wfour Wd H (wflip Wd H u) = wfour Wd H u := by
  have hp := mayB_pl hm
  rw [Bool.eq_iff_iff, four_line Wd H hm, four_line Wd H hm]
  constructor
  · rintro ⟨d, a, b, da, db, hd, hl⟩
    obtain ⟨d', a', b', da', db', hd', hl'⟩ := line_flip Wd H (wflip Wd H u) hp hd hl
    refine ⟨d', a', b', da', db', hd', ?_⟩
    rw [← hl']
    refine lineB_congr Wd H _ _ (fun a b => ?_) _ _ _ _
    rw [celB_flip Wd H _ hp, celB_flip Wd H _ hp, show (Wd : Int) - 1 - ((Wd : Int) - 1 - a) = a by omega]
  · rintro ⟨d, a, b, da, db, hd, hl⟩
    exact line_flip Wd H u hp hd hl
def flipSt (Wd H : Nat) (t : St) : St := ⟨wflip Wd H t.m, wflip Wd H t.s, t.n, t.won⟩
section
variable {Wd H : Nat} {t : St} {h d : Nat → Nat}
theorem Good.flip (hm : mayB Wd H = true) (g : Good Wd H t h d) : Good Wd H (flipSt Wd H t) (fun z => h (Wd - 1 - z)) (fun z => d (Wd - 1 - z)) :=
  ⟨fun x hx => g.hh _ (by omega), fun x hx => g.hd _ (by omega), nat_wflip Wd H t.s _ (mayB_pl hm) g.lts g.hs, nat_wflip Wd H t.m _ (mayB_pl hm) g.ltd g.hm⟩
theorem Good.flip_key (hm : mayB Wd H = true) (g : Good Wd H t h d) : wkey Wd H (flipSt Wd H t).m (flipSt Wd H t).s = wflip Wd H (wkey Wd H t.m t.s) := by
  apply nat_inj
  rw [(g.flip hm).key hm, nat_wflip Wd H _ _ (mayB_pl hm) g.ltk (g.key hm)]
theorem flip_wof (hm : mayB Wd H = true) (x y : Nat) (hx : x < Wd) (hy : y < H + 1) : wflip Wd H (wof ((x * (H + 1) + y : Nat) : Int)) = wof (((Wd - 1 - x) * (H + 1) + y : Nat) : Int) := by
  have hp := mayB_pl hm
  have hlt : ∀ x, x < Wd → x * (H + 1) + y < Wd * (H + 1) := fun x hx => by
    have : (x + 1) * (H + 1) ≤ Wd * (H + 1) := Nat.mul_le_mul_right _ hx
    rw [Nat.succ_mul] at this; omega
  have h1 := hlt x hx
  have h2 := hlt (Wd - 1 - x) (by omega)
  refine ext_b Wd H _ _ (flip_over Wd H _ hp) (fun i hi => ?_) fun x' y' hx' hy' => ?_
  · rw [bit_wof, Bool.eq_false_iff]; simp only [ne_eq, Bool.and_eq_true, decide_eq_true_eq]; omega
  · rw [flip_at Wd H _ hp x' y' hx' hy', bit_wof, bit_wof, Bool.eq_iff_iff]
    simp only [Bool.and_eq_true, decide_eq_true_eq]
    have e1 := hlt (Wd - 1 - x') (by omega)
    constructor
    · rintro ⟨_, he⟩
      have he' : (Wd - 1 - x') * (H + 1) + y' = x * (H + 1) + y := by omega
      have a1 := (place_iff _ (Wd - 1 - x') (H + 1) y' hy').1 rfl
      have a2 := (place_iff _ x (H + 1) y hy).1 he'
      obtain rfl : x = Wd - 1 - x' := by omega
      obtain rfl : y = y' := by omega
      rw [show Wd - 1 - (Wd - 1 - x') = x' by omega]
      have e2 : x' * (H + 1) + y < Wd * (H + 1) := by
        have : (x' + 1) * (H + 1) ≤ Wd * (H + 1) := Nat.mul_le_mul_right _ hx'
        rw [Nat.succ_mul] at this; omega
      omega
    · rintro ⟨_, he⟩
      have he' : x' * (H + 1) + y' = (Wd - 1 - x) * (H + 1) + y := by omega
      have a1 := (place_iff _ x' (H + 1) y' hy').1 rfl
      have a2 := (place_iff _ (Wd - 1 - x) (H + 1) y hy).1 he'
      obtain rfl : x' = Wd - 1 - x := by omega
      obtain rfl : y = y' := by omega
      rw [show Wd - 1 - (Wd - 1 - x) = x by omega]
      omega
theorem Good.flip_wat (hm : mayB Wd H = true) (g : Good Wd H t h d) (x : Nat) (hx : x < Wd) : wat Wd H (flipSt Wd H t).s ((Wd - 1 - x : Nat) : Int) = wflip Wd H (wat Wd H t.s x) := by
  have gf := g.flip hm
  rw [wat_eq (h := h) x hm hx g.hh g.hs, wat_eq (h := fun z => h (Wd - 1 - z)) (Wd - 1 - x) hm (by omega) gf.hh gf.hs]
  simp only [show Wd - 1 - (Wd - 1 - x) = x by omega]
  split
  · rename_i hlt
    rw [flip_wof hm x (h x) hx (by omega)]
  · have hp := mayB_pl hm
    refine ext_b Wd H _ _ (fun i hi => bit_wz i) (flip_over Wd H _ hp) fun x' y' hx' hy' => ?_
    rw [flip_at Wd H _ hp x' y' hx' hy', bit_wz, bit_wz]
theorem Good.flip_can (hm : mayB Wd H = true) (g : Good Wd H t h d) (x : Nat) (hx : x < Wd) (hc : canS Wd H t x = 0) : canS Wd H (flipSt Wd H t) ((Wd - 1 - x : Nat) : Int) = 0 := by
  obtain ⟨a1, a2, a3⟩ := canS_zero hc
  have gf := g.flip hm
  unfold canS canP at hc ⊢
  rw [show posOver Wd H (flipSt Wd H t).n (flipSt Wd H t).won = posOver Wd H t.n t.won from rfl]
  split at hc
  · omega
  · rename_i ho
    rw [if_neg ho, if_neg (by omega), if_neg]
    have e1 := wat_eq (h := h) x hm hx g.hh g.hs
    have e2 := wat_eq (h := fun z => h (Wd - 1 - z)) (Wd - 1 - x) hm (by omega) gf.hh gf.hs
    simp only [show Wd - 1 - (Wd - 1 - x) = x by omega] at e2
    have hlt : h x < H := by
      rcases Nat.lt_or_ge (h x) H with q | q
      · exact q
      · rw [if_neg (by omega)] at e1; exact absurd e1 a3
    rw [e2, if_pos hlt]
    obtain ⟨h1, h2, h3, h4⟩ := mayB_nat hm
    have hp : (Wd - 1 - x) * (H + 1) ≤ 7 * 9 := Nat.mul_le_mul (by omega) (by omega)
    exact wof_ne _ (by omega)
theorem Good.flip_step (hm : mayB Wd H = true) (g : Good Wd H t h d) (x : Nat) (hx : x < Wd) : stepS Wd H (flipSt Wd H t) ((Wd - 1 - x : Nat) : Int) = flipSt Wd H (stepS Wd H t x) := by
  have hp := mayB_pl hm
  unfold stepS wonP
  rw [g.flip_wat hm x hx]
  unfold flipSt
  simp only
  rw [← flip_wxor Wd H _ _ hp, ← flip_wor Wd H _ _ hp, ← flip_wor Wd H _ _ hp, four_flip Wd H hm]
end
/-- How far a play goes. -/
theorem play_len (bw bh : Int) (l : List Int) : ∀ t : St, ∃ n : Nat, n ≤ l.length ∧ (playS bw bh t l).2.1 = (n : Int) := by
  induction l with
  | nil => intro t; exact ⟨0, by simp, rfl⟩
  | cons x l ih =>
    intro t; rw [playS]; split
    · obtain ⟨n, h1, h2⟩ := ih (stepS bw bh t x)
      exact ⟨n + 1, by simp; omega, by show (playS bw bh (stepS bw bh t x) l).2.1 + 1 = _; rw [h2]; omega⟩
    · exact ⟨0, by simp, rfl⟩
/-- MIRRORED PLAYS COME TO MIRRORED POSITIONS. -/
theorem play_flip {Wd H : Nat} (hm : mayB Wd H = true) (l : List Int) : ∀ {t : St} {h d : Nat → Nat}, Good Wd H t h d → ∀ n : Nat, (playS Wd H t l).2.1 = (n : Int) →
    playS Wd H (flipSt Wd H t) ((l.take n).map fun x => (Wd : Int) - 1 - x) = (flipSt Wd H (playS Wd H t l).1, (n : Int), 0) := by
  induction l with
  | nil =>
    intro t h d g n hn
    obtain rfl : n = 0 := by have : (playS Wd H t []).2.1 = 0 := rfl; omega
    rfl
  | cons x l ih =>
    intro t h d g n hn
    by_cases hc : canS Wd H t x = 0
    · obtain ⟨a1, a2, a3⟩ := canS_zero hc
      obtain ⟨X, rfl⟩ := Int.eq_ofNat_of_zero_le a1
      have hX : X < Wd := by omega
      obtain ⟨h', d', g'⟩ := good_step hm g hc
      rw [playS, if_pos hc] at hn ⊢
      simp only at hn ⊢
      obtain ⟨m, rfl⟩ : ∃ m, n = m + 1 := by
        obtain ⟨k, _, hk⟩ := play_len Wd H l (stepS Wd H t X)
        exact ⟨n - 1, by omega⟩
      rw [List.take_succ_cons, List.map_cons, playS, show (Wd : Int) - 1 - (X : Int) = ((Wd - 1 - X : Nat) : Int) by omega, if_pos (g.flip_can hm X hX hc), g.flip_step hm X hX, ih g' m (by omega)]
      simp
    · rw [playS, if_neg hc] at hn ⊢
      obtain rfl : n = 0 := by simp only at hn; omega
      rfl
theorem flip_zero {Wd H : Nat} (hm : mayB Wd H = true) : flipSt Wd H st0 = st0 := by
  have hp := mayB_pl hm
  have : wflip Wd H wz = wz := ext_b Wd H _ _ (flip_over Wd H _ hp) (fun i hi => bit_wz i) fun x y hx hy => by rw [flip_at Wd H _ hp x y hx hy, bit_wz, bit_wz]
  unfold flipSt st0
  simp only [this]
/-! ### The canonical key -/
def canonW (Wd H : Nat) (k : W) : W := if wless (wflip Wd H k) k = true then wflip Wd H k else k
theorem canon_flip {Wd H : Nat} (hm : mayB Wd H = true) (k : W) (hk : ∀ i, Wd * (H + 1) ≤ i → bit k i = false) : canonW Wd H (wflip Wd H k) = canonW Wd H k := by
  have hp := mayB_pl hm
  unfold canonW
  rw [flip_flip Wd H k hp hk]
  unfold wless
  simp only [decide_eq_true_eq]
  split
  · rw [if_neg (by omega)]
  · split
    · rfl
    · have : nat k = nat (wflip Wd H k) := by omega
      exact (nat_inj this).symm
theorem canon_idem {Wd H : Nat} (hm : mayB Wd H = true) (k : W) (hk : ∀ i, Wd * (H + 1) ≤ i → bit k i = false) : canonW Wd H (canonW Wd H k) = canonW Wd H k := by
  have hp := mayB_pl hm
  by_cases h : wless (wflip Wd H k) k = true
  · have e : canonW Wd H k = wflip Wd H k := by unfold canonW; rw [if_pos h]
    rw [e, canon_flip hm k hk, e]
  · have e : canonW Wd H k = k := by unfold canonW; rw [if_neg h]
    rw [e, e]
end Go.Proofs.Ytgiggomcpifjmaa
