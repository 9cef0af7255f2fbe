/- The walks of the reference's position: Turn, Over, Can, row. The walk of the reference's row. -/
import Derived.Test.YtgiggomcpifjmaaUo
set_option linter.unusedVariables false
set_option linter.unusedSimpArgs false

namespace Go.Proofs.Ytgiggomcpifjmaa
open Go Go.RowKit
attribute [local go_sem ↓] Go.wp_at_zero Go.wp_at_succ
theorem step_if' {b : Bool} {p q : Prop} (hb : b = true) (h : p) : if b = true then p else q := by rw [if_pos hb]; exact h
def pTurn (f : Nat → Int) : Int := if f 130 % 2 = 0 then 1 else 2
set_option maxRecDepth 100000 in
set_option maxHeartbeats 1000000 in
theorem pTurn_any (f : Nat → Int) (ok : PosOk f) (w : World) :
    Calls Try.prog 88 #[.agg (PV f)] w fun e w' => e = .returned (.int .i64 (pTurn f)) ∧ Below w.heap.size w w' := by
  have P1 := hid (PV_get f 130 (by omega))
  have h1 := ok.n1; have h2 := ok.n2
  unfold pTurn
  generalize f 130 = n at *
  clear ok
  by_cases h : n % 2 = 0
  · rw [if_pos h]
    have h' : (n % 2 == 0) = true := by simp [h]
    clear h
    go_enter Try.func88, Try.ntmps88
    go_upto_region 1 with fail
    (have b0 : Blk (w.alloc (.cells (PV f) 52)) w.heap.size (PV f) := Blk.new _ _ _); (have hB0 : Below w.heap.size w (w.alloc (.cells (PV f) 52)) := bl_alloc (Below.refl _ _) _); (have hz0 : (w.alloc (.cells (PV f) 52)).heap.size = w.heap.size + 1 := (by simp)); generalize (w.alloc (.cells (PV f) 52)) = w0 at *
    have g1 : w0.cell? ⟨w.heap.size, 130, none⟩ = some (.int .i64 n) := (b0.cell 130).trans P1.out
    go_wp2
    go_ret
    exact ⟨rfl, hB0⟩
  · rw [if_neg h]
    have h' : (n % 2 == 0) = false := by simp [h]
    clear h
    go_enter Try.func88, Try.ntmps88
    go_upto_region 1 with fail
    (have b0 : Blk (w.alloc (.cells (PV f) 52)) w.heap.size (PV f) := Blk.new _ _ _); (have hB0 : Below w.heap.size w (w.alloc (.cells (PV f) 52)) := bl_alloc (Below.refl _ _) _); (have hz0 : (w.alloc (.cells (PV f) 52)).heap.size = w.heap.size + 1 := (by simp)); generalize (w.alloc (.cells (PV f) 52)) = w0 at *
    have g1 : w0.cell? ⟨w.heap.size, 130, none⟩ = some (.int .i64 n) := (b0.cell 130).trans P1.out
    go_wp2
    go_ret
    exact ⟨rfl, hB0⟩
def pOver (f : Nat → Int) : Bool := decide (f 131 ≠ 0) || decide (f 130 = f 0 * f 1)
set_option maxRecDepth 100000 in
set_option maxHeartbeats 1000000 in
theorem pOver_any (f : Nat → Int) (ok : PosOk f) (w : World) :
    Calls Try.prog 100 #[.agg (PV f)] w fun e w' => e = .returned (.bool (pOver f)) ∧ Below w.heap.size w w' := by
  have P0 := hid (PV_get f 0 (by omega)); have P1 := hid (PV_get f 1 (by omega))
  have P2 := hid (PV_get f 130 (by omega)); have P3 := hid (PV_get f 131 (by omega))
  obtain ⟨w1, w2, h1, h2, n1, n2⟩ := ok
  unfold pOver
  generalize f 0 = bw at *
  generalize f 1 = bh at *
  generalize f 130 = n at *
  generalize f 131 = won at *
  have p0 : 0 ≤ bw * bh := Int.mul_nonneg (by omega) (by omega)
  have p1 : bw * bh ≤ 8 * 8 := Int.mul_le_mul (by omega) (by omega) (by omega) (by omega)
  have hs : IntKind.i64.wrap (bw * bh) = bw * bh := wr64 (by omega) (by omega)
  by_cases hw : won = 0
  · have h' : (won != 0) = false := by simp [hw]
    have HE := hid (show (decide (won ≠ 0) || decide (n = bw * bh)) = (n == bw * bh) by
      rw [decide_eq_false (by simpa using hw), Bool.false_or, Bool.eq_iff_iff]; simp)
    clear hw
    go_enter Try.func100, Try.ntmps100
    go_upto_region 1 with fail
    (have b0 : Blk (w.alloc (.cells (PV f) 52)) w.heap.size (PV f) := Blk.new _ _ _); (have hB0 : Below w.heap.size w (w.alloc (.cells (PV f) 52)) := bl_alloc (Below.refl _ _) _); (have hz0 : (w.alloc (.cells (PV f) 52)).heap.size = w.heap.size + 1 := (by simp)); generalize (w.alloc (.cells (PV f) 52)) = w0 at *
    have g0 : w0.cell? ⟨w.heap.size, 0, none⟩ = some (.int .i64 bw) := (b0.cell 0).trans P0.out
    have g1 : w0.cell? ⟨w.heap.size, 1, none⟩ = some (.int .i64 bh) := (b0.cell 1).trans P1.out
    have g2 : w0.cell? ⟨w.heap.size, 130, none⟩ = some (.int .i64 n) := (b0.cell 130).trans P2.out
    have g3 : w0.cell? ⟨w.heap.size, 131, none⟩ = some (.int .i64 won) := (b0.cell 131).trans P3.out
    clear b0
    go_wp2
    go_ret
    rw [HE.out]
    exact ⟨rfl, hB0⟩
  · have h' : (won != 0) = true := by simp [hw]
    have HE := hid (show (decide (won ≠ 0) || decide (n = bw * bh)) = true by rw [decide_eq_true hw]; rfl)
    clear hw
    go_enter Try.func100, Try.ntmps100
    go_upto_region 1 with fail
    (have b0 : Blk (w.alloc (.cells (PV f) 52)) w.heap.size (PV f) := Blk.new _ _ _); (have hB0 : Below w.heap.size w (w.alloc (.cells (PV f) 52)) := bl_alloc (Below.refl _ _) _); (have hz0 : (w.alloc (.cells (PV f) 52)).heap.size = w.heap.size + 1 := (by simp)); generalize (w.alloc (.cells (PV f) 52)) = w0 at *
    have g0 : w0.cell? ⟨w.heap.size, 0, none⟩ = some (.int .i64 bw) := (b0.cell 0).trans P0.out
    have g1 : w0.cell? ⟨w.heap.size, 1, none⟩ = some (.int .i64 bh) := (b0.cell 1).trans P1.out
    have g2 : w0.cell? ⟨w.heap.size, 130, none⟩ = some (.int .i64 n) := (b0.cell 130).trans P2.out
    have g3 : w0.cell? ⟨w.heap.size, 131, none⟩ = some (.int .i64 won) := (b0.cell 131).trans P3.out
    clear b0
    go_wp2
    go_ret
    rw [HE.out]
    exact ⟨rfl, hB0⟩
def pCan (f : Nat → Int) (x : Int) : Int := if pOver f = true then 13 else if x < 0 ∨ f 0 ≤ x then 11 else if pH f x (f 1).toNat = f 1 then 12 else 0
set_option maxRecDepth 100000 in
set_option maxHeartbeats 400000 in
theorem pCan_any (f : Nat → Int) (ok : PosOk f) (x : Int) (w : World) :
    Calls Try.prog 87 #[.agg (PV f), .int .i64 x] w fun e w' => e = .returned (.int .i64 (pCan f x)) ∧ Below w.heap.size w w' := by
  have P0 := hid (PV_get f 0 (by omega)); have P1 := hid (PV_get f 1 (by omega))
  have A := hid (fun w => pOver_any f ok w); have B := hid (fun w => pHeight_any f ok x w)
  have hd : (pOver f = true) ∨ (pOver f = false ∧ x < 0) ∨ (pOver f = false ∧ 0 ≤ x ∧ f 0 ≤ x) ∨ (pOver f = false ∧ 0 ≤ x ∧ x < f 0 ∧ pH f x (f 1).toNat = f 1) ∨ (pOver f = false ∧ 0 ≤ x ∧ x < f 0 ∧ pH f x (f 1).toNat ≠ f 1) := by
    cases pOver f <;> simp <;> omega
  have HC := hid (show pCan f x = if pOver f = true then 13 else if x < 0 ∨ f 0 ≤ x then 11 else if pH f x (f 1).toNat = f 1 then 12 else 0 from rfl)
  generalize pOver f = ov at *
  generalize pH f x (f 1).toNat = hh at *
  generalize f 0 = bw at *
  generalize f 1 = bh at *
  generalize pCan f x = r at *
  clear ok
  rcases hd with rfl | ⟨rfl, h1⟩ | ⟨rfl, h1, h2⟩ | ⟨rfl, h1, h2, h3⟩ | ⟨rfl, h1, h2, h3⟩
  · have HE := hid (show r = 13 from HC.out); clear HC
    go_enter Try.func87, Try.ntmps87
    go_upto_region 1 with fail
    (have b0 : Blk (w.alloc (.cells (PV f) 52)) w.heap.size (PV f) := Blk.new _ _ _); (have hB0 : Below w.heap.size w (w.alloc (.cells (PV f) 52)) := bl_alloc (Below.refl _ _) _); (have hz0 : (w.alloc (.cells (PV f) 52)).heap.size = w.heap.size + 1 := (by simp)); generalize (w.alloc (.cells (PV f) 52)) = w0 at *
    obtain ⟨t, hk⟩ := b0
    go_wp2_with (first | (refine wpList_load_row rfl 52 _ rfl _ rfl _ _ _ _ hk Try.underlying52 rfl (info_pos _) ?_) | (go_at_call 100; (with_reducible refine (A.out _).mono ?_); rintro e_ w5 ⟨rfl, hb5⟩))
    go_ret
    rw [HE.out]
    exact ⟨rfl, bl_trans hB0 hb5⟩
  · have HE := hid (show r = 11 by have := HC.out; rw [if_neg (by simp), if_pos (.inl h1)] at this; exact this); clear HC
    go_enter Try.func87, Try.ntmps87
    go_upto_region 1 with fail
    (have b0 : Blk (w.alloc (.cells (PV f) 52)) w.heap.size (PV f) := Blk.new _ _ _); (have hB0 : Below w.heap.size w (w.alloc (.cells (PV f) 52)) := bl_alloc (Below.refl _ _) _); (have hz0 : (w.alloc (.cells (PV f) 52)).heap.size = w.heap.size + 1 := (by simp)); generalize (w.alloc (.cells (PV f) 52)) = w0 at *
    have k0 := b0
    obtain ⟨t, hk⟩ := b0
    go_wp2_with (first | (refine wpList_load_row rfl 52 _ rfl _ rfl _ _ _ _ hk Try.underlying52 rfl (info_pos _) ?_) | (go_at_call 100; (with_reducible refine (A.out _).mono ?_); rintro e_ w5 ⟨rfl, hb5⟩; have g0 : w5.cell? ⟨w.heap.size, 0, none⟩ = some (.int .i64 bw) := ((k0.bl hb5).cell 0).trans P0.out))
    go_ret
    rw [HE.out]
    exact ⟨rfl, bl_trans hB0 hb5⟩
  · have HE := hid (show r = 11 by have := HC.out; rw [if_neg (by simp), if_pos (.inr h2)] at this; exact this); clear HC
    go_enter Try.func87, Try.ntmps87
    go_upto_region 1 with fail
    (have b0 : Blk (w.alloc (.cells (PV f) 52)) w.heap.size (PV f) := Blk.new _ _ _); (have hB0 : Below w.heap.size w (w.alloc (.cells (PV f) 52)) := bl_alloc (Below.refl _ _) _); (have hz0 : (w.alloc (.cells (PV f) 52)).heap.size = w.heap.size + 1 := (by simp)); generalize (w.alloc (.cells (PV f) 52)) = w0 at *
    have k0 := b0
    obtain ⟨t, hk⟩ := b0
    go_wp2_with (first | (refine wpList_load_row rfl 52 _ rfl _ rfl _ _ _ _ hk Try.underlying52 rfl (info_pos _) ?_) | (go_at_call 100; (with_reducible refine (A.out _).mono ?_); rintro e_ w5 ⟨rfl, hb5⟩; have g0 : w5.cell? ⟨w.heap.size, 0, none⟩ = some (.int .i64 bw) := ((k0.bl hb5).cell 0).trans P0.out))
    go_ret
    rw [HE.out]
    exact ⟨rfl, bl_trans hB0 hb5⟩
  · have HE := hid (show r = 12 by have := HC.out; rw [if_neg (by simp), if_neg (by omega), if_pos h3] at this; exact this); clear HC
    have h' : (hh == bh) = true := by simp [h3]
    clear h3
    go_enter Try.func87, Try.ntmps87
    go_upto_region 1 with fail
    (have b0 : Blk (w.alloc (.cells (PV f) 52)) w.heap.size (PV f) := Blk.new _ _ _); (have hB0 : Below w.heap.size w (w.alloc (.cells (PV f) 52)) := bl_alloc (Below.refl _ _) _); (have hz0 : (w.alloc (.cells (PV f) 52)).heap.size = w.heap.size + 1 := (by simp)); generalize (w.alloc (.cells (PV f) 52)) = w0 at *
    have k0 := b0
    obtain ⟨t, hk⟩ := b0
    go_upto_if 15 with (first | (refine wpList_load_row rfl 52 _ rfl _ rfl _ _ _ _ hk Try.underlying52 rfl (info_pos _) ?_; clear hk) | (go_at_call 100; (with_reducible refine (A.out _).mono ?_); rintro e_ w5 ⟨rfl, hb5⟩; have k5 := k0.bl hb5; have g0 : w5.cell? ⟨w.heap.size, 0, none⟩ = some (.int .i64 bw) := (k5.cell 0).trans P0.out; have g1 : w5.cell? ⟨w.heap.size, 1, none⟩ = some (.int .i64 bh) := (k5.cell 1).trans P1.out))
    rw [show decide (x < 0) = false from decide_eq_false (by omega), show decide (bw ≤ x) = false from decide_eq_false (by omega)]
    refine wp_cond_false rfl ?_
    apply wp_skip
    rename_i K_ hK_
    refine hK_ _ _ ?_
    clear hK_
    (apply wp_seq_k; intro _ _)
    (apply wp_seq_k; intro _ _)
    refine wp_region_noPanic ?_
    refine wp_region_held_drew (S := fun w' => w'.cell? ⟨w.heap.size, 1, none⟩ = some (.int .i64 bh)) (by kernel_rfl) ?_ (fun hHeld => ?_)
    · exact g1
    (refine wpAnyH_take (i := 1) (v := .int .i64 x) rfl (by kernel_rfl) (by kernel_rfl) (by kernel_rfl) (fun _ _ _ h => h) (Or.inl ⟨by rfl, ?_⟩) hHeld ?_; (focus (intro w_ hSw; (try dsimp only at hSw); go_simp)); (try simp only [Array.getInternal_eq_getElem, List.getElem_toArray, List.getElem_cons_succ, List.getElem_cons_zero, Act.put, List.setIfInBounds_toArray, List.set_cons_zero, List.set_cons_succ]))
    (refine wpAnyH_take (i := 3) (v := .pointer (some ⟨w.heap.size, 0, none⟩)) rfl (by kernel_rfl) (by kernel_rfl) (by kernel_rfl) (fun _ _ _ h => h) (Or.inl ⟨by rfl, ?_⟩) hHeld ?_; (focus (intro w_ hSw; (try dsimp only at hSw); go_simp)); (try simp only [Array.getInternal_eq_getElem, List.getElem_toArray, List.getElem_cons_succ, List.getElem_cons_zero, Act.put, List.setIfInBounds_toArray, List.set_cons_zero, List.set_cons_succ]))
    (refine wpAnyH_take (i := 4) (v := .pointer (some ⟨w.heap.size, 1, none⟩)) rfl (by kernel_rfl) (by kernel_rfl) (by kernel_rfl) (fun _ _ _ h => h) (Or.inl ⟨by rfl, ?_⟩) hHeld ?_; (focus (intro w_ hSw; (try dsimp only at hSw); go_simp)); (try simp only [Array.getInternal_eq_getElem, List.getElem_toArray, List.getElem_cons_succ, List.getElem_cons_zero, Act.put, List.setIfInBounds_toArray, List.set_cons_zero, List.set_cons_succ]))
    (refine wpAnyH_take (i := 5) (v := .int .i64 bh) rfl (by kernel_rfl) (by kernel_rfl) (by kernel_rfl) (fun _ _ _ h => h) (Or.inl ⟨by rfl, ?_⟩) hHeld ?_; (focus (intro w_ hSw; (try dsimp only at hSw); go_simp)); (try simp only [Array.getInternal_eq_getElem, List.getElem_toArray, List.getElem_cons_succ, List.getElem_cons_zero, Act.put, List.setIfInBounds_toArray, List.set_cons_zero, List.set_cons_succ]))
    refine wpAnyH_ready (rs := [0]) (by kernel_rfl) (by simp) ?_; refine AllReadyH.cons rfl (fun K hK => ?_) AllReadyH.nil
    obtain ⟨t5, hk5⟩ := k5
    have k5 : Blk w5 w.heap.size (PV f) := ⟨t5, hk5⟩
    refine step_if' (by rfl) ?_
    refine wp_load_row (w := w5.drew) 52 _ rfl w.heap.size (by rfl) _ _ _ _ hk5 Try.underlying52 rfl (info_pos _) ?_
    (refine hK.out _ _ ?_ (fun hHeld => ?_)); (focus (try dsimp only); exact g1); clear hK K; (try simp only [Array.getInternal_eq_getElem, List.getElem_toArray, List.getElem_cons_succ, List.getElem_cons_zero, Act.put, List.setIfInBounds_toArray, List.set_cons_zero, List.set_cons_succ])
    refine wpAnyH_ready (rs := [2]) (by kernel_rfl) (by simp) ?_; refine AllReadyH.cons rfl (fun K hK => ?_) AllReadyH.nil
    go_simp
    (go_at_call 25; (with_reducible refine (B.out _).mono ?_); rintro e_ w6 ⟨rfl, hb6⟩)
    have hb6' : Below w5.heap.size w5 w6 := bl_trans (bl_drew (Below.refl _ _)) hb6
    have g6 : w6.cell? ⟨w.heap.size, 1, none⟩ = some (.int .i64 bh) := ((k5.bl hb6').cell 1).trans P1.out
    (refine hK.out _ _ ?_ (fun hHeld => ?_)); (focus (try dsimp only); exact g6); clear hK K; (try simp only [Array.getInternal_eq_getElem, List.getElem_toArray, List.getElem_cons_succ, List.getElem_cons_zero, Act.put, List.setIfInBounds_toArray, List.set_cons_zero, List.set_cons_succ])
    refine wpAnyH_ready (rs := [6]) (by kernel_rfl) (by simp) ?_; refine AllReadyH.cons rfl (fun K hK => ?_) AllReadyH.nil
    go_simp
    (refine hK.out _ _ ?_ (fun hHeld => ?_)); (focus (try dsimp only); exact g6); clear hK K; (try simp only [Array.getInternal_eq_getElem, List.getElem_toArray, List.getElem_cons_succ, List.getElem_cons_zero, Act.put, List.setIfInBounds_toArray, List.set_cons_zero, List.set_cons_succ])
    refine wpAnyH_done (by kernel_rfl) (NoPanic.normal ?_) _
    go_wp2
    go_ret
    rw [HE.out]
    exact ⟨rfl, bl_trans (bl_trans hB0 hb5) hb6'⟩
  · have HE := hid (show r = 0 by have := HC.out; rw [if_neg (by simp), if_neg (by omega), if_neg h3] at this; exact this); clear HC
    have h' : (hh == bh) = false := by simp [h3]
    clear h3
    go_enter Try.func87, Try.ntmps87
    go_upto_region 1 with fail
    (have b0 : Blk (w.alloc (.cells (PV f) 52)) w.heap.size (PV f) := Blk.new _ _ _); (have hB0 : Below w.heap.size w (w.alloc (.cells (PV f) 52)) := bl_alloc (Below.refl _ _) _); (have hz0 : (w.alloc (.cells (PV f) 52)).heap.size = w.heap.size + 1 := (by simp)); generalize (w.alloc (.cells (PV f) 52)) = w0 at *
    have k0 := b0
    obtain ⟨t, hk⟩ := b0
    go_upto_if 15 with (first | (refine wpList_load_row rfl 52 _ rfl _ rfl _ _ _ _ hk Try.underlying52 rfl (info_pos _) ?_; clear hk) | (go_at_call 100; (with_reducible refine (A.out _).mono ?_); rintro e_ w5 ⟨rfl, hb5⟩; have k5 := k0.bl hb5; have g0 : w5.cell? ⟨w.heap.size, 0, none⟩ = some (.int .i64 bw) := (k5.cell 0).trans P0.out; have g1 : w5.cell? ⟨w.heap.size, 1, none⟩ = some (.int .i64 bh) := (k5.cell 1).trans P1.out))
    rw [show decide (x < 0) = false from decide_eq_false (by omega), show decide (bw ≤ x) = false from decide_eq_false (by omega)]
    refine wp_cond_false rfl ?_
    apply wp_skip
    rename_i K_ hK_
    refine hK_ _ _ ?_
    clear hK_
    (apply wp_seq_k; intro _ _)
    (apply wp_seq_k; intro _ _)
    refine wp_region_noPanic ?_
    refine wp_region_held_drew (S := fun w' => w'.cell? ⟨w.heap.size, 1, none⟩ = some (.int .i64 bh)) (by kernel_rfl) ?_ (fun hHeld => ?_)
    · exact g1
    (refine wpAnyH_take (i := 1) (v := .int .i64 x) rfl (by kernel_rfl) (by kernel_rfl) (by kernel_rfl) (fun _ _ _ h => h) (Or.inl ⟨by rfl, ?_⟩) hHeld ?_; (focus (intro w_ hSw; (try dsimp only at hSw); go_simp)); (try simp only [Array.getInternal_eq_getElem, List.getElem_toArray, List.getElem_cons_succ, List.getElem_cons_zero, Act.put, List.setIfInBounds_toArray, List.set_cons_zero, List.set_cons_succ]))
    (refine wpAnyH_take (i := 3) (v := .pointer (some ⟨w.heap.size, 0, none⟩)) rfl (by kernel_rfl) (by kernel_rfl) (by kernel_rfl) (fun _ _ _ h => h) (Or.inl ⟨by rfl, ?_⟩) hHeld ?_; (focus (intro w_ hSw; (try dsimp only at hSw); go_simp)); (try simp only [Array.getInternal_eq_getElem, List.getElem_toArray, List.getElem_cons_succ, List.getElem_cons_zero, Act.put, List.setIfInBounds_toArray, List.set_cons_zero, List.set_cons_succ]))
    (refine wpAnyH_take (i := 4) (v := .pointer (some ⟨w.heap.size, 1, none⟩)) rfl (by kernel_rfl) (by kernel_rfl) (by kernel_rfl) (fun _ _ _ h => h) (Or.inl ⟨by rfl, ?_⟩) hHeld ?_; (focus (intro w_ hSw; (try dsimp only at hSw); go_simp)); (try simp only [Array.getInternal_eq_getElem, List.getElem_toArray, List.getElem_cons_succ, List.getElem_cons_zero, Act.put, List.setIfInBounds_toArray, List.set_cons_zero, List.set_cons_succ]))
    (refine wpAnyH_take (i := 5) (v := .int .i64 bh) rfl (by kernel_rfl) (by kernel_rfl) (by kernel_rfl) (fun _ _ _ h => h) (Or.inl ⟨by rfl, ?_⟩) hHeld ?_; (focus (intro w_ hSw; (try dsimp only at hSw); go_simp)); (try simp only [Array.getInternal_eq_getElem, List.getElem_toArray, List.getElem_cons_succ, List.getElem_cons_zero, Act.put, List.setIfInBounds_toArray, List.set_cons_zero, List.set_cons_succ]))
    refine wpAnyH_ready (rs := [0]) (by kernel_rfl) (by simp) ?_; refine AllReadyH.cons rfl (fun K hK => ?_) AllReadyH.nil
    obtain ⟨t5, hk5⟩ := k5
    have k5 : Blk w5 w.heap.size (PV f) := ⟨t5, hk5⟩
    refine step_if' (by rfl) ?_
    refine wp_load_row (w := w5.drew) 52 _ rfl w.heap.size (by rfl) _ _ _ _ hk5 Try.underlying52 rfl (info_pos _) ?_
    (refine hK.out _ _ ?_ (fun hHeld => ?_)); (focus (try dsimp only); exact g1); clear hK K; (try simp only [Array.getInternal_eq_getElem, List.getElem_toArray, List.getElem_cons_succ, List.getElem_cons_zero, Act.put, List.setIfInBounds_toArray, List.set_cons_zero, List.set_cons_succ])
    refine wpAnyH_ready (rs := [2]) (by kernel_rfl) (by simp) ?_; refine AllReadyH.cons rfl (fun K hK => ?_) AllReadyH.nil
    go_simp
    (go_at_call 25; (with_reducible refine (B.out _).mono ?_); rintro e_ w6 ⟨rfl, hb6⟩)
    have hb6' : Below w5.heap.size w5 w6 := bl_trans (bl_drew (Below.refl _ _)) hb6
    have g6 : w6.cell? ⟨w.heap.size, 1, none⟩ = some (.int .i64 bh) := ((k5.bl hb6').cell 1).trans P1.out
    (refine hK.out _ _ ?_ (fun hHeld => ?_)); (focus (try dsimp only); exact g6); clear hK K; (try simp only [Array.getInternal_eq_getElem, List.getElem_toArray, List.getElem_cons_succ, List.getElem_cons_zero, Act.put, List.setIfInBounds_toArray, List.set_cons_zero, List.set_cons_succ])
    refine wpAnyH_ready (rs := [6]) (by kernel_rfl) (by simp) ?_; refine AllReadyH.cons rfl (fun K hK => ?_) AllReadyH.nil
    go_simp
    (refine hK.out _ _ ?_ (fun hHeld => ?_)); (focus (try dsimp only); exact g6); clear hK K; (try simp only [Array.getInternal_eq_getElem, List.getElem_toArray, List.getElem_cons_succ, List.getElem_cons_zero, Act.put, List.setIfInBounds_toArray, List.set_cons_zero, List.set_cons_succ])
    refine wpAnyH_done (by kernel_rfl) (NoPanic.normal ?_) _
    go_wp2
    go_ret
    rw [HE.out]
    exact ⟨rfl, bl_trans (bl_trans hB0 hb5) hb6'⟩
end Go.Proofs.Ytgiggomcpifjmaa

namespace Go.Proofs.Ytgiggomcpifjmaa
open Go Go.RowKit
attribute [local go_sem ↓] Go.wp_at_zero Go.wp_at_succ
def rowOk (f : Nat → Int) (x y dx dy who : Int) (n : Nat) : Prop := ∀ i : Nat, i < n → pAt f (x + i * dx) (y + i * dy) = who
instance (f : Nat → Int) (x y dx dy who : Int) (n : Nat) : Decidable (rowOk f x y dx dy who n) := by unfold rowOk; infer_instance
theorem mul_small (i : Nat) (hi : i < 4) (d : Int) (h1 : -1 ≤ d) (h2 : d ≤ 1) : -3 ≤ (i : Int) * d ∧ (i : Int) * d ≤ 3 := by
  have : d = -1 ∨ d = 0 ∨ d = 1 := by omega
  rcases this with rfl | rfl | rfl <;> omega
set_option maxRecDepth 100000 in
set_option maxHeartbeats 1000000 in
theorem pRow_any (f : Nat → Int) (ok : PosOk f) (x y dx dy who : Int) (hx : 0 ≤ x) (hx' : x ≤ 8) (hy : 0 ≤ y) (hy' : y ≤ 8) (hdx : -1 ≤ dx) (hdx' : dx ≤ 1) (hdy : -1 ≤ dy) (hdy' : dy ≤ 1) (w : World) :
    Calls Try.prog 101 #[.agg (PV f), .int .i64 x, .int .i64 y, .int .i64 dx, .int .i64 dy, .int .i64 who] w fun e w' => e = .returned (.bool (decide (rowOk f x y dx dy who 4))) ∧ Below w.heap.size w w' := by
  have A := hid (fun (x y : Int) (w : World) => pAt_any f ok x y w)
  clear ok
  go_enter Try.func101, Try.ntmps101
  go_upto_region 1 with fail
  (have b0 : Blk (w.alloc (.cells (PV f) 52)) w.heap.size (PV f) := Blk.new _ _ _); (have hB0 : Below w.heap.size w (w.alloc (.cells (PV f) 52)) := bl_alloc (Below.refl _ _) _); (have hz0 : (w.alloc (.cells (PV f) 52)).heap.size = w.heap.size + 1 := (by simp)); generalize (w.alloc (.cells (PV f) 52)) = w0 at *
  go_wp2
  go_loopw [13] (fun i wr => ∃ n : Nat, n ≤ 4 ∧ i = .int .i64 n ∧ Hid (rowOk f x y dx dy who n) ∧ Below w0.heap.size w0 wr) (fun i _ => 4 - (intOf i).toNat)
  case atStart => exact ⟨0, by omega, rfl, hid fun i hi => by omega, Below.refl _ _⟩
  case round =>
    obtain ⟨n, hn, rfl, HN, hB⟩ := hrel
    by_cases hlt : n < 4
    · obtain ⟨t, hk⟩ := b0.bl hB
      obtain ⟨m1, m2⟩ := mul_small n hlt dx hdx hdx'
      obtain ⟨m3, m4⟩ := mul_small n hlt dy hdy hdy'
      have s1 : IntKind.i64.wrap ((n : Int) * dx) = (n : Int) * dx := wr64 (by omega) (by omega)
      have s2 : IntKind.i64.wrap ((n : Int) * dy) = (n : Int) * dy := wr64 (by omega) (by omega)
      have s3 : IntKind.i64.wrap (x + (n : Int) * dx) = x + (n : Int) * dx := wr64 (by omega) (by omega)
      have s4 : IntKind.i64.wrap (y + (n : Int) * dy) = y + (n : Int) * dy := wr64 (by omega) (by omega)
      by_cases hz : pAt f (x + n * dx) (y + n * dy) = who
      · have HN' := hid (show rowOk f x y dx dy who (n + 1) from fun i hi => by
          by_cases e : i = n
          · subst e; exact hz
          · exact HN.out i (by omega))
        have hz' : (pAt f (x + n * dx) (y + n * dy) != who) = false := by simp [hz]
        clear hz
        go_wp2_with (first | (refine wpList_load_row rfl 52 _ rfl _ rfl _ _ _ _ hk Try.underlying52 rfl (info_pos _) ?_) | (go_at_call 60; (with_reducible refine (A.out _ _ _).mono ?_); rintro e_ w5 ⟨rfl, hb5⟩))
        go_roundw
        case rel => exact ⟨n + 1, by omega, by go_num, HN', bl_trans hB hb5⟩
        case measure => simp [intOf]; omega
      · have HF := hid (show decide (rowOk f x y dx dy who 4) = false from decide_eq_false fun h => hz (h n hlt))
        have hz' : (pAt f (x + n * dx) (y + n * dy) != who) = true := by simp [hz]
        clear hz
        go_wp2_with (first | (refine wpList_load_row rfl 52 _ rfl _ rfl _ _ _ _ hk Try.underlying52 rfl (info_pos _) ?_) | (go_at_call 60; (with_reducible refine (A.out _ _ _).mono ?_); rintro e_ w5 ⟨rfl, hb5⟩))
        go_ret
        rw [HF.out]
        exact ⟨rfl, hB0.trans ((bl_trans hB hb5).mono (by omega))⟩
    · obtain rfl : n = 4 := by omega
      have HF := hid (show decide (rowOk f x y dx dy who 4) = true from decide_eq_true HN.out)
      go_wp2
      go_ret
      rw [HF.out]
      exact ⟨rfl, hB0.trans (hB.mono (by omega))⟩
end Go.Proofs.Ytgiggomcpifjmaa
