/- Contracts of boards and of words over boards (packages board, bits). -/
import Derived.Test.YtgiggomcpifjmaaWd
import Derived.RegionTactic
import Derived.Deep.RegionWith
import Derived.Deep.RegionHeld3
import Derived.Deep.DrawnRows
set_option linter.unusedVariables false
set_option linter.unusedSimpArgs false
namespace Go.Proofs.Ytgiggomcpifjmaa
open Go.RowKit Plm
attribute [local go_sem ↓] Go.wp_at_zero Go.wp_at_succ

/-- May a board be? -/
def mayB (bw bh : Int) : Bool := decide (4 ≤ bw ∧ bw ≤ 8 ∧ 4 ≤ bh ∧ bh ≤ 8)
theorem mayB_iff {bw bh : Int} : mayB bw bh = true ↔ 4 ≤ bw ∧ bw ≤ 8 ∧ 4 ≤ bh ∧ bh ≤ 8 := by unfold mayB; simp
set_option maxHeartbeats 400000 in
theorem May_any (bw bh : Int) (w : World) : Calls Try.prog 42 #[.agg #[.int .i64 bw, .int .i64 bh]] w fun e w' => e = .returned (.bool (mayB bw bh)) ∧ Below w.heap.size w w' := by
  by_cases h1 : 4 ≤ bw
  · by_cases h2 : bw ≤ 8
    · by_cases h3 : 4 ≤ bh
      · have H := hid (show mayB bw bh = decide (bh ≤ 8) by unfold mayB; simp [h1, h2, h3])
        go_enter Try.func42, Try.ntmps42
        go_wp2
        go_ret
        exact ⟨by rw [H.out]; rfl, bl_alloc (Below.refl _ _) _⟩
      · have H := hid (show mayB bw bh = false by unfold mayB; simp [h3])
        go_enter Try.func42, Try.ntmps42
        go_wp2
        go_ret
        exact ⟨by rw [H.out]; rfl, bl_alloc (Below.refl _ _) _⟩
    · have H := hid (show mayB bw bh = false by unfold mayB; simp [h2])
      go_enter Try.func42, Try.ntmps42
      go_wp2
      go_ret
      exact ⟨by rw [H.out]; simp [h2], bl_alloc (Below.refl _ _) _⟩
  · have H := hid (show mayB bw bh = false by unfold mayB; simp [h1])
    go_enter Try.func42, Try.ntmps42
    go_wp2
    go_ret
    exact ⟨by rw [H.out]; rfl, bl_alloc (Below.refl _ _) _⟩

/-- A bit at row y of each column. -/
def rowBits (bw bh y : Int) (k : Nat) : List Int := (List.range k).map fun (x : Nat) => (x : Int) * (bh + 1) + y
def weach (bw bh y : Int) : W := wofs (rowBits bw bh y bw.toNat)
theorem rowBits_snoc (bw bh y : Int) (k : Nat) : rowBits bw bh y (k + 1) = rowBits bw bh y k ++ [(k : Int) * (bh + 1) + y] := by
  unfold rowBits; rw [List.range_succ, List.map_append]; rfl
set_option maxHeartbeats 400000 in
theorem each_any (bw bh y : Int) (hm : mayB bw bh = true) (hy : 0 ≤ y) (hy' : y ≤ bh) (w : World) : Calls Try.prog 86 #[.agg #[.int .i64 bw, .int .i64 bh], .int .i64 y] w fun e w' => e = .returned (.agg #[.int .u64 (hi (weach bw bh y)), .int .u64 (lo (weach bw bh y))]) ∧ Below w.heap.size w w' := by
  obtain ⟨hw1, hw2, hh1, hh2⟩ := mayB_iff.1 hm
  go_enter Try.func86, Try.ntmps86
  go_wp2_with (go_at_call 42; refine (May_any _ _ _).mono ?_; rintro e w1 ⟨rfl, hb1⟩; obtain ⟨hc1, hf1⟩ := bcell hb1; have hz1 := hb1.size; simp at hz1)
  go_loopw [24] (fun i wr => ∃ k : Nat, (k : Int) ≤ bw ∧ i = .int .i64 k ∧ Below w.heap.size w wr ∧ Blk wr w.heap.size #[.int .i64 bw, .int .i64 bh] ∧ (∃ x y, Blk wr (w.heap.size + 1) #[x, y]) ∧ Blk wr (w.heap.size + 1 + 1) #[.int .u64 (hi (wofs (rowBits bw bh y k))), .int .u64 (lo (wofs (rowBits bw bh y k)))]) (fun i _ => (bw - intOf i).toNat)
  case atStart => exact ⟨0, by omega, rfl, (by repeat (first | (with_reducible exact Below.refl _ _) | (with_reducible assumption) | (with_reducible refine bl_alloc ?_ _) | (with_reducible refine bl_drew ?_) | (with_reducible refine bl_drewN ?_ _) | ((with_reducible refine bl_set ?_ ?_ _); rotate_left; (focus (first | omega | (simp; done) | (simp; omega)))) | (with_reducible refine bl_trans ?_ (by assumption)))), (by repeat (first | (with_reducible assumption) | ((with_reducible refine Blk.new' ?_ _ _); (first | rfl | (simp; done))) | (with_reducible apply Blk.set2) | (with_reducible apply Blk.set1) | ((with_reducible refine Blk.other ?_ ?_ _); rotate_left; (focus (first | omega | (simp; done) | (simp; omega)))) | (with_reducible refine Blk.alloc ?_ _) | (with_reducible refine Blk.drew ?_) | (with_reducible refine Blk.drewN ?_ _) | (with_reducible refine Blk.bl ?_ (by assumption)) | (with_reducible apply Blk.seti) | rfl)), ⟨.int .u64 0, .int .u64 0, (by repeat (first | (with_reducible assumption) | ((with_reducible refine Blk.new' ?_ _ _); (first | rfl | (simp; done))) | (with_reducible apply Blk.set2) | (with_reducible apply Blk.set1) | ((with_reducible refine Blk.other ?_ ?_ _); rotate_left; (focus (first | omega | (simp; done) | (simp; omega)))) | (with_reducible refine Blk.alloc ?_ _) | (with_reducible refine Blk.drew ?_) | (with_reducible refine Blk.drewN ?_ _) | (with_reducible refine Blk.bl ?_ (by assumption)) | (with_reducible apply Blk.seti) | rfl))⟩, by rw [show wofs (rowBits bw bh y 0) = wz from rfl, hi_wz, lo_wz]; exact (by repeat (first | (with_reducible assumption) | ((with_reducible refine Blk.new' ?_ _ _); (first | rfl | (simp; done))) | (with_reducible apply Blk.set2) | (with_reducible apply Blk.set1) | ((with_reducible refine Blk.other ?_ ?_ _); rotate_left; (focus (first | omega | (simp; done) | (simp; omega)))) | (with_reducible refine Blk.alloc ?_ _) | (with_reducible refine Blk.drew ?_) | (with_reducible refine Blk.drewN ?_ _) | (with_reducible refine Blk.bl ?_ (by assumption)) | (with_reducible apply Blk.seti) | rfl))⟩
  case round =>
    obtain ⟨k, hk, rfl, hB, hb0, ⟨r0, r1, hbr⟩, hbo⟩ := hrel
    have c0 := hb0.cell; have f0 := hb0.frozen; have c2 := hbo.cell; have f2 := hbo.frozen; have c3 := hbr.cell; have f3 := hbr.frozen
    have l0 := hb0.lt; have l1 := hbr.lt; have l2 := hbo.lt
    clear hc1 hf1
    by_cases hlt : (k : Int) < bw
    · have p0 : 0 ≤ (k : Int) * (bh + 1) := Int.mul_nonneg (by omega) (by omega)
      have p1 : (k : Int) * (bh + 1) ≤ 8 * 9 := Int.mul_le_mul (by omega) (by omega) (by omega) (by omega)
      have q1 : IntKind.i64.wrap (bh + 1) = bh + 1 := wr64 (by omega) (by omega)
      have q2 : IntKind.i64.wrap ((k : Int) * (bh + 1)) = (k : Int) * (bh + 1) := wr64 (by omega) (by omega)
      have q3 : IntKind.i64.wrap ((k : Int) * (bh + 1) + y) = (k : Int) * (bh + 1) + y := wr64 (by omega) (by omega)
      go_wp2_with fail
      go_region_with (first | (go_at_call 76; refine (Of_one ((k : Int) * (bh + 1) + y) _ _ ?_ ?_).mono ?_; (simp [*]); (simp [*]); rintro e w2 ⟨rfl, hb2⟩; have hB2 : Below wr.heap.size wr w2 := (by repeat (first | (with_reducible exact Below.refl _ _) | (with_reducible assumption) | (with_reducible refine bl_alloc ?_ _) | (with_reducible refine bl_drew ?_) | (with_reducible refine bl_drewN ?_ _) | ((with_reducible refine bl_set ?_ ?_ _); rotate_left; (focus (first | omega | (simp; done) | (simp; omega)))) | (with_reducible refine bl_trans ?_ (by assumption)))); obtain ⟨hc2, hf2⟩ := bcell hB2) | (go_at_call 51; refine (Or_any _ _ _).mono ?_; rintro e w3 ⟨rfl, hb3⟩; have hB3 : Below wr.heap.size wr w3 := (by repeat (first | (with_reducible exact Below.refl _ _) | (with_reducible assumption) | (with_reducible refine bl_alloc ?_ _) | (with_reducible refine bl_drew ?_) | (with_reducible refine bl_drewN ?_ _) | ((with_reducible refine bl_set ?_ ?_ _); rotate_left; (focus (first | omega | (simp; done) | (simp; omega)))) | (with_reducible refine bl_trans ?_ (by assumption)))); obtain ⟨hc3, hf3⟩ := bcell hB3))
      all_goals
        go_wp2
        go_roundw
        case rel => exact ⟨k + 1, by omega, by go_num, (by repeat (first | (with_reducible exact Below.refl _ _) | (with_reducible assumption) | (with_reducible refine bl_alloc ?_ _) | (with_reducible refine bl_drew ?_) | (with_reducible refine bl_drewN ?_ _) | ((with_reducible refine bl_set ?_ ?_ _); rotate_left; (focus (first | omega | (simp; done) | (simp; omega)))) | (with_reducible refine bl_trans ?_ (by assumption)))), (by repeat (first | (with_reducible assumption) | ((with_reducible refine Blk.new' ?_ _ _); (first | rfl | (simp; done))) | (with_reducible apply Blk.set2) | (with_reducible apply Blk.set1) | ((with_reducible refine Blk.other ?_ ?_ _); rotate_left; (focus (first | omega | (simp; done) | (simp; omega)))) | (with_reducible refine Blk.alloc ?_ _) | (with_reducible refine Blk.drew ?_) | (with_reducible refine Blk.drewN ?_ _) | (with_reducible refine Blk.bl ?_ (by assumption)) | (with_reducible apply Blk.seti) | rfl)), ⟨r0, r1, (by repeat (first | (with_reducible assumption) | ((with_reducible refine Blk.new' ?_ _ _); (first | rfl | (simp; done))) | (with_reducible apply Blk.set2) | (with_reducible apply Blk.set1) | ((with_reducible refine Blk.other ?_ ?_ _); rotate_left; (focus (first | omega | (simp; done) | (simp; omega)))) | (with_reducible refine Blk.alloc ?_ _) | (with_reducible refine Blk.drew ?_) | (with_reducible refine Blk.drewN ?_ _) | (with_reducible refine Blk.bl ?_ (by assumption)) | (with_reducible apply Blk.seti) | rfl))⟩, by rw [rowBits_snoc, wofs_snoc]; exact (by repeat (first | (with_reducible assumption) | ((with_reducible refine Blk.new' ?_ _ _); (first | rfl | (simp; done))) | (with_reducible apply Blk.set2) | (with_reducible apply Blk.set1) | ((with_reducible refine Blk.other ?_ ?_ _); rotate_left; (focus (first | omega | (simp; done) | (simp; omega)))) | (with_reducible refine Blk.alloc ?_ _) | (with_reducible refine Blk.drew ?_) | (with_reducible refine Blk.drewN ?_ _) | (with_reducible refine Blk.bl ?_ (by assumption)) | (with_reducible apply Blk.seti) | rfl))⟩
        case measure => simp [intOf]; omega
    · go_wp2
      have hk' : k = bw.toNat := by omega
      have he := hid (show wofs (rowBits bw bh y k) = weach bw bh y by unfold weach; rw [hk'])
      refine bodyPost_ret (v := (.agg #[.int .u64 (hi (weach bw bh y)), .int .u64 (lo (weach bw bh y))])) (by rw [← he.out]; simp [results, Try.results86, go_sem, *]) rfl ⟨rfl, ?_⟩
      exact (by repeat (first | (with_reducible exact Below.refl _ _) | (with_reducible assumption) | (with_reducible refine bl_alloc ?_ _) | (with_reducible refine bl_drew ?_) | (with_reducible refine bl_drewN ?_ _) | ((with_reducible refine bl_set ?_ ?_ _); rotate_left; (focus (first | omega | (simp; done) | (simp; omega)))) | (with_reducible refine bl_trans ?_ (by assumption))))
end Go.Proofs.Ytgiggomcpifjmaa
