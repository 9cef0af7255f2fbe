/- The reference's position as a block of 132 cells, known whole. The walks of the reference's position: At, Height, Turn, Over, Can, row. -/
import Derived.Test.YtgiggomcpifjmaaTl
set_option linter.unusedVariables false
set_option linter.unusedSimpArgs false

namespace Go.Proofs.Ytgiggomcpifjmaa
open Go Go.RowKit
/-- The cells of a position of the reference: board, cells, columns played, how many, who won. -/
def PV0 (f : Nat → Int) : Array Value := Array.ofFn (n := 132) fun i => .int .i64 (f i)
theorem PV_ex (f : Nat → Int) : ∃ a, a = PV0 f := ⟨_, rfl⟩
/-- The same, behind a choice: nothing unfolds it. -/
noncomputable def PV (f : Nat → Int) : Array Value := Classical.choose (PV_ex f)
theorem PV_eq (f : Nat → Int) : PV f = PV0 f := Classical.choose_spec (PV_ex f)
theorem PV0_size (f : Nat → Int) : (PV0 f).size = 132 := by simp [PV0]
theorem PV0_get (f : Nat → Int) (i : Nat) (h : i < 132) : (PV0 f)[i]? = some (.int .i64 (f i)) := by simp [PV0, h]
theorem PV0_congr {f g : Nat → Int} (h : ∀ i, i < 132 → f i = g i) : PV0 f = PV0 g := by
  apply Array.ext
  · simp [PV0]
  · intro i h1 h2
    simp [PV0] at h1 ⊢
    exact h i h1
def upd (f : Nat → Int) (i : Nat) (x : Int) : Nat → Int := fun j => if j = i then x else f j
theorem PV0_set (f : Nat → Int) (i : Nat) (x : Int) : (PV0 f).setIfInBounds i (.int .i64 x) = PV0 (upd f i x) := by
  unfold PV0 upd
  apply Array.ext
  · simp
  · intro j h1 h2
    rw [Array.getElem_setIfInBounds (by simpa using h1), Array.getElem_ofFn]
    by_cases e : i = j
    · subst e; simp
    · have e' : ¬ j = i := fun h => e h.symm
      simp [e, e']
theorem PV0_one (f : Nat → Int) : (PV0 f).all (·.oneCell') = true := by
  rw [Array.all_eq_true_iff_forall_mem]; intro v hv
  simp [PV0] at hv
  obtain ⟨i, rfl⟩ := hv
  rfl
theorem PV_size (f : Nat → Int) : (PV f).size = 132 := by rw [PV_eq, PV0_size]
theorem PV_get (f : Nat → Int) (i : Nat) (h : i < 132) : (PV f)[i]? = some (.int .i64 (f i)) := by rw [PV_eq, PV0_get f i h]
theorem PV_congr {f g : Nat → Int} (h : ∀ i, i < 132 → f i = g i) : PV f = PV g := by rw [PV_eq, PV_eq, PV0_congr h]
theorem PV_set (f : Nat → Int) (i : Nat) (x : Int) : (PV f).setIfInBounds i (.int .i64 x) = PV (upd f i x) := by rw [PV_eq, PV_eq, PV0_set]
theorem PV_one (f : Nat → Int) : (PV f).all (·.oneCell') = true := by rw [PV_eq]; exact PV0_one f
theorem Blk.setp {w : World} {b : Nat} {f : Nat → Int} (h : Blk w b (PV f)) (i : Nat) (x : Int) : Blk (w.setCell ⟨b, i, none⟩ (.int .i64 x)) b (PV (upd f i x)) := h.seti (PV_set f i x)
theorem zc_pos0 : Try.zeroCells52 = PV0 fun _ => 0 := by kernel_rfl
theorem zc_pos : Try.zeroCells52 = PV fun _ => 0 := by rw [PV_eq]; exact zc_pos0
theorem zcp_size : Try.zeroCells52.size = 132 := by rw [zc_pos, PV_size]
theorem info_pos (f : Nat → Int) : (Try.prog.info? 52).map (·.size) = some (PV f).size := by rw [PV_size]; kernel_rfl
/-- Whose a cell is. -/
def pAt (f : Nat → Int) (x y : Int) : Int := if 0 ≤ x ∧ x < f 0 ∧ 0 ≤ y ∧ y < f 1 then f (2 + x.toNat * 8 + y.toNat) else 0
set_option maxRecDepth 100000 in
set_option maxHeartbeats 400000 in
theorem pAt_in (f : Nat → Int) (hW : f 0 ≤ 8) (hH : f 1 ≤ 8) (x y : Nat) (hx : (x : Int) < f 0) (hy : (y : Int) < f 1) (w : World) :
    Calls Try.prog 60 #[.agg (PV f), .int .i64 x, .int .i64 y] w fun e w' => e = .returned (.int .i64 (f (2 + x * 8 + y))) ∧ Below w.heap.size w w' := by
  have p0 := PV_get f 0 (by omega)
  have p1 := PV_get f 1 (by omega)
  have p2 := PV_get f (2 + x * 8 + y) (by omega)
  have z0 : (0 : Int) ≤ (x : Int) := by omega
  have z1 : (x : Int) < 8 := by omega
  have z2 : (0 : Int) ≤ (y : Int) := by omega
  have z3 : (y : Int) < 8 := by omega
  generalize f 0 = bw at *
  generalize f 1 = bh at *
  generalize f (2 + x * 8 + y) = v at *
  have P0 := hid p0; have P1 := hid p1; have P2 := hid p2; clear p0 p1 p2
  go_enter Try.func60, Try.ntmps60
  go_upto_region 1 with fail
  (have b0 : Blk (w.alloc (.cells (PV f) 52)) w.heap.size (PV f) := Blk.new _ _ _); (have hB0 : Below w.heap.size w (w.alloc (.cells (PV f) 52)) := bl_alloc (Below.refl _ _) _); (have hz0 : (w.alloc (.cells (PV f) 52)).heap.size = w.heap.size + 1 := (by simp)); generalize (w.alloc (.cells (PV f) 52)) = w0 at *
  have g0 : w0.cell? ⟨w.heap.size, 0, none⟩ = some (.int .i64 bw) := (b0.cell 0).trans P0.out
  have g1 : w0.cell? ⟨w.heap.size, 1, none⟩ = some (.int .i64 bh) := (b0.cell 1).trans P1.out
  have g2 : w0.cell? ⟨w.heap.size, 2 + x * 8 + y, none⟩ = some (.int .i64 v) := (b0.cell _).trans P2.out
  clear b0 P0 P1 P2
  go_upto_region 3 with fail
  go_wp2
  go_ret
  exact ⟨rfl, hB0⟩
end Go.Proofs.Ytgiggomcpifjmaa

namespace Go.Proofs.Ytgiggomcpifjmaa
open Go Go.RowKit
attribute [local go_sem ↓] Go.wp_at_zero Go.wp_at_succ
/-- What holds of each position of the reference: a board that may be, few stones. -/
structure PosOk (f : Nat → Int) : Prop where
  w1 : 4 ≤ f 0
  w2 : f 0 ≤ 8
  h1 : 4 ≤ f 1
  h2 : f 1 ≤ 8
  n1 : 0 ≤ f 130
  n2 : f 130 ≤ 64
set_option maxRecDepth 100000 in
set_option maxHeartbeats 1000000 in
theorem pAt_any (f : Nat → Int) (ok : PosOk f) (x y : Int) (w : World) :
    Calls Try.prog 60 #[.agg (PV f), .int .i64 x, .int .i64 y] w fun e w' => e = .returned (.int .i64 (pAt f x y)) ∧ Below w.heap.size w w' := by
  by_cases hin : 0 ≤ x ∧ x < f 0 ∧ 0 ≤ y ∧ y < f 1
  · obtain ⟨h1, h2, h3, h4⟩ := hin
    obtain ⟨X, rfl⟩ := Int.eq_ofNat_of_zero_le h1
    obtain ⟨Y, rfl⟩ := Int.eq_ofNat_of_zero_le h3
    have e : pAt f X Y = f (2 + X * 8 + Y) := by unfold pAt; rw [if_pos ⟨h1, h2, h3, h4⟩, Int.toNat_natCast, Int.toNat_natCast]
    rw [e]
    exact pAt_in f ok.w2 ok.h2 X Y h2 h4 w
  · have e : pAt f x y = 0 := by unfold pAt; rw [if_neg hin]
    rw [e]
    have P0 := hid (PV_get f 0 (by omega)); have P1 := hid (PV_get f 1 (by omega))
    clear ok e
    generalize f 0 = bw at *
    generalize f 1 = bh at *
    have hc : x < 0 ∨ (0 ≤ x ∧ bw ≤ x) ∨ (0 ≤ x ∧ x < bw ∧ y < 0) ∨ (0 ≤ x ∧ x < bw ∧ 0 ≤ y ∧ bh ≤ y) := by omega
    clear hin
    rcases hc with h | ⟨h1, h2⟩ | ⟨h1, h2, h3⟩ | ⟨h1, h2, h3, h4⟩
    all_goals
      go_enter Try.func60, Try.ntmps60
      go_upto_region 1 with fail
      (have b0 : Blk (w.alloc (.cells (PV f) 52)) w.heap.size (PV f) := Blk.new _ _ _); (have hB0 : Below w.heap.size w (w.alloc (.cells (PV f) 52)) := bl_alloc (Below.refl _ _) _); (have hz0 : (w.alloc (.cells (PV f) 52)).heap.size = w.heap.size + 1 := (by simp)); generalize (w.alloc (.cells (PV f) 52)) = w0 at *
      have g0 : w0.cell? ⟨w.heap.size, 0, none⟩ = some (.int .i64 bw) := (b0.cell 0).trans P0.out
      have g1 : w0.cell? ⟨w.heap.size, 1, none⟩ = some (.int .i64 bh) := (b0.cell 1).trans P1.out
      clear b0 P0 P1
      go_wp2
      go_ret
      exact ⟨rfl, hB0⟩
/-- How many of a column's cells are taken. -/
def pH (f : Nat → Int) (x : Int) : Nat → Int
  | 0 => 0
  | n + 1 => if pAt f x n = 0 then pH f x n else pH f x n + 1
theorem pH_le (f : Nat → Int) (x : Int) : ∀ n, 0 ≤ pH f x n ∧ pH f x n ≤ n
  | 0 => by simp [pH]
  | n + 1 => by have := pH_le f x n; rw [pH]; split <;> omega
theorem pH_yes (f : Nat → Int) (x : Int) (n : Nat) (h : pAt f x n ≠ 0) : pH f x (n + 1) = pH f x n + 1 := by rw [pH, if_neg h]
theorem pH_no (f : Nat → Int) (x : Int) (n : Nat) (h : pAt f x n = 0) : pH f x (n + 1) = pH f x n := by rw [pH, if_pos h]
set_option maxRecDepth 100000 in
set_option maxHeartbeats 1000000 in
theorem pHeight_any (f : Nat → Int) (ok : PosOk f) (x : Int) (w : World) :
    Calls Try.prog 25 #[.agg (PV f), .int .i64 x] w fun e w' => e = .returned (.int .i64 (pH f x (f 1).toNat)) ∧ Below w.heap.size w w' := by
  have A := hid (fun (x y : Int) (w : World) => pAt_any f ok x y w)
  have P1 := hid (PV_get f 1 (by omega))
  have h1 := ok.h1; have h2 := ok.h2
  obtain ⟨H, hH⟩ : ∃ H : Nat, f 1 = (H : Int) := ⟨(f 1).toNat, by omega⟩
  rw [hH] at h1 h2 P1
  rw [show (f 1).toNat = H by omega]
  clear hH ok
  go_enter Try.func25, Try.ntmps25
  go_upto_region 1 with fail
  (have b0 : Blk (w.alloc (.cells (PV f) 52)) w.heap.size (PV f) := Blk.new _ _ _); (have hB0 : Below w.heap.size w (w.alloc (.cells (PV f) 52)) := bl_alloc (Below.refl _ _) _); (have hz0 : (w.alloc (.cells (PV f) 52)).heap.size = w.heap.size + 1 := (by simp)); generalize (w.alloc (.cells (PV f) 52)) = w0 at *
  go_wp2
  go_loopw [5, 6] (fun c i wr => ∃ n : Nat, n ≤ H ∧ i = .int .i64 n ∧ c = .int .i64 (pH f x n) ∧ Below w0.heap.size w0 wr) (fun _ i _ => H - (intOf i).toNat)
  case atStart => exact ⟨0, by omega, rfl, rfl, Below.refl _ _⟩
  case round =>
    obtain ⟨n, hn, rfl, rfl, hB⟩ := hrel
    have k := b0.bl hB
    have g1 : wr.cell? ⟨w.heap.size, 1, none⟩ = some (.int .i64 H) := (k.cell 1).trans P1.out
    have l0 := k.lt
    have hp := pH_le f x n
    by_cases hlt : n < H
    · obtain ⟨t, hk⟩ := k
      by_cases hz : pAt f x n = 0
      · have HZ := hid (pH_no f x n hz)
        have hz' : (pAt f x n != 0) = false := by simp [hz]
        clear hz
        go_wp2_with (first | (refine wpList_load_row rfl 52 _ rfl _ rfl _ _ _ _ hk Try.underlying52 rfl (info_pos _) ?_) | (go_at_call 60; (with_reducible refine (A.out _ _ _).mono ?_); rintro e_ w5 ⟨rfl, hb5⟩))
        go_roundw
        case rel => exact ⟨n + 1, by omega, by go_num, by rw [HZ.out], bl_trans hB hb5⟩
        case measure => simp [intOf]; omega
      · have HZ := hid (pH_yes f x n hz)
        have hz' : (pAt f x n != 0) = true := by simp [hz]
        clear hz
        go_wp2_with (first | (refine wpList_load_row rfl 52 _ rfl _ rfl _ _ _ _ hk Try.underlying52 rfl (info_pos _) ?_) | (go_at_call 60; (with_reducible refine (A.out _ _ _).mono ?_); rintro e_ w5 ⟨rfl, hb5⟩))
        go_roundw
        case rel => exact ⟨n + 1, by omega, by go_num, by rw [HZ.out], bl_trans hB hb5⟩
        case measure => simp [intOf]; omega
    · obtain rfl : n = H := by omega
      go_wp2
      go_ret
      exact ⟨rfl, hB0.trans (hB.mono (by omega))⟩
end Go.Proofs.Ytgiggomcpifjmaa
