/- The walk of the reference's Drop. The walk of the reference's Drop where the column can be played. -/
import Derived.Test.YtgiggomcpifjmaaUd
set_option linter.unusedVariables false
set_option linter.unusedSimpArgs false

namespace Go.Proofs.Ytgiggomcpifjmaa
open Go Go.RowKit
attribute [local go_sem ↓] Go.wp_at_zero Go.wp_at_succ
/-- Two results: one lies in a variable, one in a slot. -/
theorem results_cell2 {P : Program} {fn : Func} {tmps : Array Value} {w : World} {a u : Nat} {t : TypeId} {ad : Addr} {v v2 : Value}
    (hr : fn.results = #[.cell a t, .tmp u]) (ht : tmps.getD a undef = .pointer (some ad)) (h2 : tmps.getD u undef = v2) (hl : (loadVar t ad).run P w = .ok v w) : (results fn tmps).run P w = .ok (.tuple #[v, v2]) w := by
  unfold results
  rw [hr]
  have ht' : tmps[a]?.getD undef = .pointer (some ad) := by simpa using ht
  have h2' : tmps[u]?.getD undef = v2 := by simpa using h2
  simp [Sem.run_bind, ht', h2', asAddr, hl]
theorem load_pos (f : Nat → Int) {w : World} {b : Nat} (h : Blk w b (PV f)) : (loadVar 52 ⟨b, 0, none⟩).run Try.prog w = .ok (.agg (PV f)) w := by
  have hl := run_loadVar_mid (P := Try.prog) w b 0 52 (PV f).toList _ h.range Try.underlying52 rfl (by rw [Array.length_toList]; exact info_pos f)
  rw [Array.toArray_toList] at hl
  exact hl
set_option maxRecDepth 100000 in
set_option maxHeartbeats 2000000 in
theorem pDrop_no (f : Nat → Int) (ok : PosOk f) (x : Int) (hc : pCan f x ≠ 0) (w : World) :
    Calls Try.prog 55 #[.agg (PV f), .int .i64 x] w fun e w' => e = .returned (.tuple #[.agg (PV f), .int .i64 (pCan f x)]) ∧ Below w.heap.size w w' := by
  have A := hid (fun w => pCan_any f ok x w)
  have hc' : (pCan f x != 0) = true := by simp [hc]
  clear ok hc
  generalize pCan f x = r at *
  go_enter Try.func55, Try.ntmps55
  go_upto_region 1 with fail
  have b1 : Blk ((w.alloc (.cells (PV f) 52)).alloc (.cells Try.zeroCells52 52)) (w.heap.size + 1) (PV fun _ => 0) := by rw [zc_pos]; exact Blk.new' (by simp) _ _
  have b0 : Blk ((w.alloc (.cells (PV f) 52)).alloc (.cells Try.zeroCells52 52)) w.heap.size (PV f) := (Blk.new _ _ _).alloc _
  have hB0 : Below w.heap.size w ((w.alloc (.cells (PV f) 52)).alloc (.cells Try.zeroCells52 52)) := bl_alloc (bl_alloc (Below.refl _ _) _) _
  generalize (w.alloc (.cells (PV f) 52)).alloc (.cells Try.zeroCells52 52) = w0 at *
  have k0 := b0
  obtain ⟨t, hk⟩ := b0
  go_upto_region 3 with (first | (refine wpList_load_row rfl 52 _ rfl _ rfl _ _ _ _ hk Try.underlying52 rfl (info_pos _) ?_) | (go_at_call 87; (with_reducible refine (A.out _).mono ?_); rintro e_ w5 ⟨rfl, hb5⟩))
  have k5 := k0.bl hb5; have r5 := b1.bl hb5
  have hB5 : Below w.heap.size w w5 := bl_trans hB0 hb5
  have hth := r5.there
  clear hk
  obtain ⟨t5, hk5⟩ := k5
  go_wp2_with (first | (refine wpList_load_row rfl 52 _ rfl _ rfl _ _ _ _ hk5 Try.underlying52 rfl (info_pos _) ?_) | (refine wpList_store_mid rfl 52 _ _ rfl _ _ _ rfl rfl ?_ (info_pos _) (PV_one _) ?_; (focus (rw [PV_size]; rw [PV_size] at hth; exact hth))))
  have br : Blk (w5.setCells (w.heap.size + 1) 0 (PV f).toList) (w.heap.size + 1) (PV f) := r5.setRow (by rw [PV_size, PV_size])
  have hl := load_pos f br
  refine bodyPost_ret (v := .tuple #[.agg (PV f), .int .i64 r]) (results_cell2 (ad := ⟨w.heap.size + 1, 0, none⟩) Try.results55 (by simp) (by simp) hl) rfl ⟨rfl, ?_⟩
  exact bl_setRow hB5 (by omega) _ _
end Go.Proofs.Ytgiggomcpifjmaa

namespace Go.Proofs.Ytgiggomcpifjmaa
open Go Go.RowKit
attribute [local go_sem ↓] Go.wp_at_zero Go.wp_at_succ
theorem upd_at (f : Nat → Int) (i : Nat) (x : Int) : upd f i x i = x := by unfold upd; rw [if_pos rfl]
theorem upd_ne (f : Nat → Int) (i : Nat) (x : Int) (j : Nat) (h : j ≠ i) : upd f i x j = f j := by unfold upd; rw [if_neg h]
def dropY (f : Nat → Int) (x : Nat) : Nat := (pH f x (f 1).toNat).toNat
def drop1 (f : Nat → Int) (x : Nat) : Nat → Int := upd f (2 + x * 8 + dropY f x) (pTurn f)
def drop2 (f : Nat → Int) (x : Nat) : Nat → Int := upd (drop1 f x) (66 + (f 130).toNat) x
def drop3 (f : Nat → Int) (x : Nat) : Nat → Int := upd (drop2 f x) 130 (f 130 + 1)
def dropWin (f : Nat → Int) (x : Nat) : Nat := cA (drop3 f x) (pTurn f) x (dropY f x) (f 1).toNat (f 0).toNat
def dropF (f : Nat → Int) (x : Nat) : Nat → Int := if 0 < dropWin f x then upd (drop3 f x) 131 (pTurn f) else drop3 f x
theorem drop3_ne (f : Nat → Int) (x j : Nat) (h1 : j ≠ 2 + x * 8 + dropY f x) (h2 : j ≠ 66 + (f 130).toNat) (h3 : j ≠ 130) : drop3 f x j = f j := by
  unfold drop3 drop2 drop1; rw [upd_ne _ _ _ _ h3, upd_ne _ _ _ _ h2, upd_ne _ _ _ _ h1]
theorem pCan_zero (f : Nat → Int) (x : Int) (h : pCan f x = 0) : 0 ≤ x ∧ x < f 0 ∧ pH f x (f 1).toNat ≠ f 1 ∧ pOver f = false := by
  unfold pCan at h
  split at h
  · omega
  · split at h
    · omega
    · split at h
      · omega
      · rename_i a b c
        exact ⟨by omega, by omega, c, by simpa using a⟩
set_option maxRecDepth 100000 in
set_option maxHeartbeats 4000000 in
theorem pDrop_yes (f : Nat → Int) (ok : PosOk f) (x : Nat) (hc : pCan f x = 0) (hn : f 130 < 64) (w : World) :
    Calls Try.prog 55 #[.agg (PV f), .int .i64 x] w fun e w' => e = .returned (.tuple #[.agg (PV (dropF f x)), .int .i64 0]) ∧ Below w.heap.size w w' := by
  obtain ⟨_, hx, hh, _⟩ := pCan_zero f x hc
  have A := hid (fun w => by have h := pCan_any f ok x w; rw [hc] at h; exact h)
  have Bt := hid (fun w => pTurn_any f ok w)
  have hple := pH_le f x (f 1).toNat
  have hw8 := ok.w2; have hh8 := ok.h2; have hh4 := ok.h1; have hn0 := ok.n1
  have hyeq : pH f x (f 1).toNat = ((dropY f x : Nat) : Int) := by unfold dropY; omega
  have hy : (dropY f x : Int) < f 1 := by omega
  have Bh := hid (fun w => by have h := pHeight_any f ok x w; rw [hyeq] at h; exact h)
  obtain ⟨n, hnn⟩ := Int.eq_ofNat_of_zero_le hn0
  have hn64 : n < 64 := by omega
  have hx8 : x < 8 := by omega
  have hy8 : dropY f x < 8 := by omega
  have e0 : drop3 f x 0 = f 0 := drop3_ne f x 0 (by omega) (by omega) (by omega)
  have e1 : drop3 f x 1 = f 1 := drop3_ne f x 1 (by omega) (by omega) (by omega)
  have e130 : drop3 f x 130 = f 130 + 1 := upd_at _ _ _
  have ok3 : PosOk (drop3 f x) := ⟨by rw [e0]; exact ok.w1, by rw [e0]; exact ok.w2, by rw [e1]; exact ok.h1, by rw [e1]; exact ok.h2, by rw [e130]; omega, by rw [e130]; omega⟩
  have Br := hid (fun w => by
    have h := pRows_any (drop3 f x) ok3 (pTurn f) x (dropY f x) (by omega) (by omega) (by omega) (by omega) w
    rw [e0, e1] at h
    exact h)
  have HW := hid (show cA (drop3 f x) (pTurn f) x (dropY f x) (f 1).toNat (f 0).toNat = dropWin f x from rfl)
  rw [HW.out] at Br
  have hwin : dropWin f x ≤ 2048 := by
    have h := cA_le (drop3 f x) (pTurn f) x (dropY f x) (f 1).toNat (f 0).toNat
    have h2 : (f 0).toNat * ((f 1).toNat * 4) ≤ 8 * (8 * 4) := Nat.mul_le_mul (by omega) (by omega)
    rw [HW.out] at h; omega
  have E1 := hid (show drop1 f x = upd f (2 + x * 8 + dropY f x) (pTurn f) from rfl)
  have E2 := hid (show drop2 f x = upd (drop1 f x) (66 + n) x by unfold drop2; rw [hnn, Int.toNat_natCast])
  have E3 := hid (show drop3 f x = upd (drop2 f x) 130 ((n : Int) + 1) by unfold drop3; rw [hnn])
  have HD := hid (show dropF f x = if 0 < dropWin f x then upd (drop3 f x) 131 (pTurn f) else drop3 f x from rfl)
  have q1 : drop1 f x 130 = (n : Int) := by unfold drop1; rw [upd_ne _ _ _ _ (by omega), hnn]
  have q2 : drop2 f x 130 = (n : Int) := by unfold drop2; rw [upd_ne _ _ _ _ (by omega), q1]
  have Q1 := hid q1; have Q2 := hid q2
  clear hple hyeq hh e0 e1 e130 ok3 HW q1 q2 hc hnn ok
  generalize drop1 f x = f1 at *
  generalize drop2 f x = f2 at *
  generalize drop3 f x = f3 at *
  generalize dropWin f x = win at *
  generalize dropF f x = fz at *
  generalize dropY f x = y at *
  generalize pTurn f = who at *
  have z0 : (0 : Int) ≤ (x : Int) := by omega
  have z1 : (x : Int) < 8 := by omega
  have z2 : (0 : Int) ≤ (y : Int) := by omega
  have z3 : (y : Int) < 8 := by omega
  have z4 : (0 : Int) ≤ (n : Int) := by omega
  have z5 : (n : Int) < 64 := by omega
  go_enter Try.func55, Try.ntmps55
  go_upto_region 1 with fail
  have b1 : Blk ((w.alloc (.cells (PV f) 52)).alloc (.cells Try.zeroCells52 52)) (w.heap.size + 1) (PV fun _ => 0) := by rw [zc_pos]; exact Blk.new' (by simp) _ _
  have b0 : Blk ((w.alloc (.cells (PV f) 52)).alloc (.cells Try.zeroCells52 52)) w.heap.size (PV f) := (Blk.new _ _ _).alloc _
  have hB0 : Below w.heap.size w ((w.alloc (.cells (PV f) 52)).alloc (.cells Try.zeroCells52 52)) := bl_alloc (bl_alloc (Below.refl _ _) _) _
  generalize (w.alloc (.cells (PV f) 52)).alloc (.cells Try.zeroCells52 52) = w0 at *
  have k0 := b0
  obtain ⟨t, hk⟩ := b0
  go_upto_region 4 with (first | (refine wpList_load_row rfl 52 _ rfl _ rfl _ _ _ _ hk Try.underlying52 rfl (info_pos _) ?_) | (go_at_call 87; (with_reducible refine (A.out _).mono ?_); rintro e_ w5 ⟨rfl, hb5⟩))
  have k5 := k0.bl hb5; have r5 := b1.bl hb5
  have hB5 : Below w.heap.size w w5 := bl_trans hB0 hb5
  clear hk k0 b1 hB0 hb5
  have k5' := k5
  obtain ⟨t5, hk5⟩ := k5'
  go_upto_region 5 with (first | (refine wpList_load_row rfl 52 _ rfl _ rfl _ _ _ _ hk5 Try.underlying52 rfl (info_pos _) ?_) | (go_at_call 25; (with_reducible refine (Bh.out _).mono ?_); rintro e_ w6 ⟨rfl, hb6⟩))
  have k6 := k5.bl hb6; have r6 := r5.bl hb6
  have hB6 : Below w.heap.size w w6 := bl_trans hB5 hb6
  clear hk5 k5 r5 hB5 hb6
  have k6' := k6
  obtain ⟨t6, hk6⟩ := k6'
  go_upto_region 6 with (first | (refine wpList_load_row rfl 52 _ rfl _ rfl _ _ _ _ hk6 Try.underlying52 rfl (info_pos _) ?_) | (go_at_call 88; (with_reducible refine (Bt.out _).mono ?_); rintro e_ w7 ⟨rfl, hb7⟩))
  have k7 := k6.bl hb7; have r7 := r6.bl hb7
  have hB7 : Below w.heap.size w w7 := bl_trans hB6 hb7
  clear hk6 k6 r6 hB6 hb7
  have g7 : w7.cell? ⟨w.heap.size, 2 + x * 8 + y, none⟩ = some (.int .i64 (f (2 + x * 8 + y))) := (k7.cell _).trans (PV_get f _ (by omega))
  have f7 := k7.frozen
  go_upto_region 7 with fail
  have k8 : Blk (w7.setCell ⟨w.heap.size, 2 + x * 8 + y, none⟩ (.int .i64 who)) w.heap.size (PV f1) := by rw [E1.out]; exact k7.setp _ _
  have r8 : Blk (w7.setCell ⟨w.heap.size, 2 + x * 8 + y, none⟩ (.int .i64 who)) (w.heap.size + 1) (PV fun _ => 0) := r7.other (by simp) _
  have hB8 : Below w.heap.size w (w7.setCell ⟨w.heap.size, 2 + x * 8 + y, none⟩ (.int .i64 who)) := bl_set hB7 (by simp) _
  clear k7 r7 hB7 g7 f7
  generalize w7.setCell ⟨w.heap.size, 2 + x * 8 + y, none⟩ (.int .i64 who) = w8 at *
  have g8 : w8.cell? ⟨w.heap.size, 130, none⟩ = some (.int .i64 n) := (k8.cell 130).trans ((PV_get f1 130 (by omega)).trans (by rw [Q1.out]))
  have h8 : w8.cell? ⟨w.heap.size, 66 + n, none⟩ = some (.int .i64 (f1 (66 + n))) := (k8.cell _).trans (PV_get f1 _ (by omega))
  have f8 := k8.frozen
  go_upto_region 8 with fail
  have k9 : Blk (w8.setCell ⟨w.heap.size, 66 + n, none⟩ (.int .i64 x)) w.heap.size (PV f2) := by rw [E2.out]; exact k8.setp _ _
  have r9 : Blk (w8.setCell ⟨w.heap.size, 66 + n, none⟩ (.int .i64 x)) (w.heap.size + 1) (PV fun _ => 0) := r8.other (by simp) _
  have hB9 : Below w.heap.size w (w8.setCell ⟨w.heap.size, 66 + n, none⟩ (.int .i64 x)) := bl_set hB8 (by simp) _
  clear k8 r8 hB8 g8 h8 f8
  generalize w8.setCell ⟨w.heap.size, 66 + n, none⟩ (.int .i64 x) = w9 at *
  have g9 : w9.cell? ⟨w.heap.size, 130, none⟩ = some (.int .i64 n) := (k9.cell 130).trans ((PV_get f2 130 (by omega)).trans (by rw [Q2.out]))
  have f9 := k9.frozen
  go_upto_region 9 with fail
  have k10 : Blk (w9.setCell ⟨w.heap.size, 130, none⟩ (.int .i64 ((n : Int) + 1))) w.heap.size (PV f3) := by rw [E3.out]; exact k9.setp _ _
  have r10 : Blk (w9.setCell ⟨w.heap.size, 130, none⟩ (.int .i64 ((n : Int) + 1))) (w.heap.size + 1) (PV fun _ => 0) := r9.other (by simp) _
  have hB10 : Below w.heap.size w (w9.setCell ⟨w.heap.size, 130, none⟩ (.int .i64 ((n : Int) + 1))) := bl_set hB9 (by simp) _
  clear k9 r9 hB9 g9 f9
  generalize w9.setCell ⟨w.heap.size, 130, none⟩ (.int .i64 ((n : Int) + 1)) = w10 at *
  have k10' := k10
  obtain ⟨t10, hk10⟩ := k10'
  by_cases hw : 0 < win
  · have HZ := hid (show fz = upd f3 131 who by rw [HD.out, if_pos hw])
    have hw' : (0 : Int) < (win : Int) := by omega
    clear hw
    go_upto_if 41 with (first | (refine wpList_load_row rfl 52 _ rfl _ rfl _ _ _ _ hk10 Try.underlying52 rfl (info_pos _) ?_) | (go_at_call 89; (with_reducible refine (Br.out _).mono ?_); rintro e_ w11 ⟨rfl, hb11⟩))
    have k11 := k10.bl hb11; have r11 := r10.bl hb11
    have hB11 : Below w.heap.size w w11 := bl_trans hB10 hb11
    clear hk10 k10 r10 hB10 hb11
    have g11 : w11.cell? ⟨w.heap.size, 131, none⟩ = some (.int .i64 (f3 131)) := (k11.cell 131).trans (PV_get f3 131 (by omega))
    have f11 := k11.frozen
    go_upto_region 11 with fail
    have k12 : Blk (w11.setCell ⟨w.heap.size, 131, none⟩ (.int .i64 who)) w.heap.size (PV fz) := by rw [HZ.out]; exact k11.setp _ _
    have r12 : Blk (w11.setCell ⟨w.heap.size, 131, none⟩ (.int .i64 who)) (w.heap.size + 1) (PV fun _ => 0) := r11.other (by simp) _
    have hB12 : Below w.heap.size w (w11.setCell ⟨w.heap.size, 131, none⟩ (.int .i64 who)) := bl_set hB11 (by simp) _
    clear k11 r11 hB11 g11 f11
    generalize w11.setCell ⟨w.heap.size, 131, none⟩ (.int .i64 who) = w12 at *
    have hth := r12.there
    obtain ⟨t12, hk12⟩ := k12
    go_wp2_with (first | (refine wpList_load_row rfl 52 _ rfl _ rfl _ _ _ _ hk12 Try.underlying52 rfl (info_pos _) ?_) | (refine wpList_store_mid rfl 52 _ _ rfl _ _ _ rfl rfl ?_ (info_pos _) (PV_one _) ?_; (focus (rw [PV_size]; rw [PV_size] at hth; exact hth))))
    have br : Blk (w12.setCells (w.heap.size + 1) 0 (PV fz).toList) (w.heap.size + 1) (PV fz) := r12.setRow (by rw [PV_size, PV_size])
    have hl := load_pos fz br
    refine bodyPost_ret (v := .tuple #[.agg (PV fz), .int .i64 0]) (results_cell2 (ad := ⟨w.heap.size + 1, 0, none⟩) Try.results55 (by simp) (by simp) hl) rfl ⟨rfl, ?_⟩
    exact bl_setRow hB12 (by omega) _ _
  · have HZ := hid (show fz = f3 by rw [HD.out, if_neg hw])
    have hw' : ¬ (0 : Int) < (win : Int) := by omega
    clear hw
    go_upto_if 41 with (first | (refine wpList_load_row rfl 52 _ rfl _ rfl _ _ _ _ hk10 Try.underlying52 rfl (info_pos _) ?_) | (go_at_call 89; (with_reducible refine (Br.out _).mono ?_); rintro e_ w11 ⟨rfl, hb11⟩))
    have k11 := k10.bl hb11; have r11 := r10.bl hb11
    have hB11 : Below w.heap.size w w11 := bl_trans hB10 hb11
    clear hk10 k10 r10 hB10 hb11
    rw [← HZ.out] at k11
    go_upto_region 11 with fail
    have hth := r11.there
    obtain ⟨t12, hk12⟩ := k11
    go_wp2_with (first | (refine wpList_load_row rfl 52 _ rfl _ rfl _ _ _ _ hk12 Try.underlying52 rfl (info_pos _) ?_) | (refine wpList_store_mid rfl 52 _ _ rfl _ _ _ rfl rfl ?_ (info_pos _) (PV_one _) ?_; (focus (rw [PV_size]; rw [PV_size] at hth; exact hth))))
    have br : Blk (w11.setCells (w.heap.size + 1) 0 (PV fz).toList) (w.heap.size + 1) (PV fz) := r11.setRow (by rw [PV_size, PV_size])
    have hl := load_pos fz br
    refine bodyPost_ret (v := .tuple #[.agg (PV fz), .int .i64 0]) (results_cell2 (ad := ⟨w.heap.size + 1, 0, none⟩) Try.results55 (by simp) (by simp) hl) rfl ⟨rfl, ?_⟩
    exact bl_setRow hB11 (by omega) _ _
end Go.Proofs.Ytgiggomcpifjmaa
