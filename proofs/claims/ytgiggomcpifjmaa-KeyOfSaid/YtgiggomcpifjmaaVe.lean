/- The reference's Mine and its key of a position. -/
import Derived.Test.YtgiggomcpifjmaaVd
import Derived.Test.YtgiggomcpifjmaaUh
set_option linter.unusedVariables false
set_option linter.unusedSimpArgs false
namespace Go.Proofs.Ytgiggomcpifjmaa
open Go Go.RowKit Plm
attribute [local go_sem ↓] Go.wp_at_zero Go.wp_at_succ
def rMineW (f : Nat → Int) : W := wofs (plL (f 1).toNat (ofAll f (pTurn f) (f 1).toNat (f 0).toNat))
set_option maxRecDepth 100000 in
set_option maxHeartbeats 2000000 in
theorem rMine_any (f : Nat → Int) (ok : PosOk f) (w : World) :
    Calls Try.prog 57 #[.agg (PV f)] w fun e w' => e = .returned (.agg #[.int .u64 (hi (rMineW f)), .int .u64 (lo (rMineW f))]) ∧ Below w.heap.size w w' := by
  have T := hid (fun w => pTurn_any f ok w)
  have O := hid (fun w => rOfS_any f ok (pTurn f) w)
  have HM := hid (show wofs (plL (f 1).toNat (ofAll f (pTurn f) (f 1).toNat (f 0).toNat)) = rMineW f from rfl)
  rw [HM.out] at O
  generalize rMineW f = mw at *
  generalize pTurn f = who at *
  clear ok HM
  go_enter Try.func57, Try.ntmps57
  go_upto_region 1 with fail
  have b0 : Blk ((w.alloc (.cells (PV f) 52)).alloc (.cells #[.int .u64 0, .int .u64 0] 26)) w.heap.size (PV f) := (Blk.new _ _ _).alloc _
  have b1 : Blk ((w.alloc (.cells (PV f) 52)).alloc (.cells #[.int .u64 0, .int .u64 0] 26)) (w.heap.size + 1) #[.int .u64 0, .int .u64 0] := Blk.new' (by simp) _ _
  have hB0 : Below w.heap.size w ((w.alloc (.cells (PV f) 52)).alloc (.cells #[.int .u64 0, .int .u64 0] 26)) := bl_alloc (bl_alloc (Below.refl _ _) _) _
  generalize (w.alloc (.cells (PV f) 52)).alloc (.cells #[.int .u64 0, .int .u64 0] 26) = w0 at *
  refine wp_region_noPanic ?_
  refine wp_region_held_drew (S := fun w' => Blk w' w.heap.size (PV f)) (by kernel_rfl) ?_ (fun hHeld => ?_)
  · exact b0
  refine wpAnyH_take (i := 0) (v := .agg (PV f)) rfl (by kernel_rfl) (by kernel_rfl) (by kernel_rfl) (fun _ _ _ h => h) (yieldsIf_pos (by rfl) _ rfl w.heap.size (by rfl) f (fun w' h => h)) hHeld ?_
  (try simp only [Array.getInternal_eq_getElem, List.getElem_toArray, List.getElem_cons_succ, List.getElem_cons_zero, Act.put, List.setIfInBounds_toArray, List.set_cons_zero, List.set_cons_succ])
  refine wpAnyH_take (i := 1) (v := .agg (PV f)) rfl (by kernel_rfl) (by kernel_rfl) (by kernel_rfl) (fun _ _ _ h => h) (yieldsIf_pos (by rfl) _ rfl w.heap.size (by rfl) f (fun w' h => h)) hHeld ?_
  (try simp only [Array.getInternal_eq_getElem, List.getElem_toArray, List.getElem_cons_succ, List.getElem_cons_zero, Act.put, List.setIfInBounds_toArray, List.set_cons_zero, List.set_cons_succ])
  refine wpAnyH_ready (rs := [2]) (by kernel_rfl) (by simp) ?_; refine AllReadyH.cons rfl (fun K hK => ?_) AllReadyH.nil
  go_simp
  (go_at_call 88; (with_reducible refine (T.out _).mono ?_); rintro e_ w5 ⟨rfl, hb5'⟩)
  have hb5 : Below w0.heap.size w0 w5 := bl_trans (bl_drew (Below.refl _ _)) hb5'
  have k5 := b0.bl hb5; have r5 := b1.bl hb5
  (refine hK.out _ _ ?_ (fun hHeld => ?_)); (focus (try dsimp only); exact k5); clear hK K; (try simp only [Array.getInternal_eq_getElem, List.getElem_toArray, List.getElem_cons_succ, List.getElem_cons_zero, Act.put, List.setIfInBounds_toArray, List.set_cons_zero, List.set_cons_succ])
  refine wpAnyH_ready (rs := [3]) (by kernel_rfl) (by simp) ?_; refine AllReadyH.cons rfl (fun K hK => ?_) AllReadyH.nil
  go_simp
  (go_at_call 90; (with_reducible refine (O.out _).mono ?_); rintro e_ w6 ⟨rfl, hb6⟩)
  have k6 := k5.bl hb6; have r6 := r5.bl hb6
  have c6 := r6.cell; have f6 := r6.frozen
  (refine hK.out _ _ ?_ (fun hHeld => ?_)); (focus (try dsimp only); exact k6); clear hK K; (try simp only [Array.getInternal_eq_getElem, List.getElem_toArray, List.getElem_cons_succ, List.getElem_cons_zero, Act.put, List.setIfInBounds_toArray, List.set_cons_zero, List.set_cons_succ])
  refine wpAnyH_ready (rs := [4]) (by kernel_rfl) (by simp) ?_; refine AllReadyH.cons rfl (fun K hK => ?_) AllReadyH.nil
  go_simp
  (refine hK.out _ _ ?_ (fun hHeld => ?_)); (focus (try dsimp only); exact (k6.other (by simp) _).other (by simp) _); clear hK K; (try simp only [Array.getInternal_eq_getElem, List.getElem_toArray, List.getElem_cons_succ, List.getElem_cons_zero, Act.put, List.setIfInBounds_toArray, List.set_cons_zero, List.set_cons_succ])
  refine wpAnyH_done (by kernel_rfl) (NoPanic.normal ?_) _
  go_wp2
  refine bodyPost_ret (v := (.agg #[.int .u64 (hi mw), .int .u64 (lo mw)])) (by simp [results, Try.results57, go_sem, *]) rfl ⟨rfl, ?_⟩
  have hB6 : Below w.heap.size w w6 := bl_trans (bl_trans hB0 hb5) hb6
  exact bl_set (bl_set hB6 (by simp) _) (by simp) _
/-- Each column's least free place. -/
def freeL (f : Nat → Int) (H : Nat) : Nat → List Int
  | 0 => []
  | x + 1 => freeL f H x ++ [(x : Int) * ((H : Int) + 1) + pH f x H]
theorem freeL_len (f : Nat → Int) (H : Nat) : ∀ x, (freeL f H x).length = x
  | 0 => rfl
  | x + 1 => by rw [freeL, List.length_append, freeL_len f H x]; rfl
def rKeyW (f : Nat → Int) : W := wor (rMineW f) (wofs (freeL f (f 1).toNat (f 0).toNat))
set_option maxRecDepth 100000 in
set_option maxHeartbeats 4000000 in
theorem rKeyOf_any (f : Nat → Int) (ok : PosOk f) (w : World) :
    Calls Try.prog 23 #[.agg (PV f)] w fun e w' => e = .returned (.agg #[.int .u64 (hi (rKeyW f)), .int .u64 (lo (rKeyW f))]) ∧ Below w.heap.size w w' := by
  have M := hid (fun w => rMine_any f ok w)
  have Hh := hid (fun (x : Int) w => pHeight_any f ok x w)
  have P0 := hid (PV_get f 0 (by omega)); have P1 := hid (PV_get f 1 (by omega))
  have HK := hid (show rKeyW f = wor (rMineW f) (wofs (freeL f (f 1).toNat (f 0).toNat)) from rfl)
  obtain ⟨w1, w2, h1, h2, _, _⟩ := ok
  obtain ⟨Wd, hW⟩ : ∃ Wd : Nat, f 0 = (Wd : Int) := ⟨(f 0).toNat, by omega⟩
  obtain ⟨H, hH⟩ : ∃ H : Nat, f 1 = (H : Int) := ⟨(f 1).toNat, by omega⟩
  rw [hW] at w1 w2 P0
  rw [hH] at h1 h2 P1
  have eW : (f 0).toNat = Wd := by omega
  have eH : (f 1).toNat = H := by omega
  rw [eW, eH] at HK
  rw [eH] at Hh
  clear hW hH eW eH
  generalize rMineW f = mw at *
  have s1 : IntKind.i64.wrap ((H : Int) + 1) = (H : Int) + 1 := wr64 (by omega) (by omega)
  go_enter Try.func23, Try.ntmps23
  go_upto_region 1 with fail
  have b0 : Blk ((w.alloc (.cells (PV f) 52)).alloc (.cells #[.int .u64 0, .int .u64 0] 26)) w.heap.size (PV f) := (Blk.new _ _ _).alloc _
  have b1 : Blk ((w.alloc (.cells (PV f) 52)).alloc (.cells #[.int .u64 0, .int .u64 0] 26)) (w.heap.size + 1) #[.int .u64 0, .int .u64 0] := Blk.new' (by simp) _ _
  have hB0 : Below w.heap.size w ((w.alloc (.cells (PV f) 52)).alloc (.cells #[.int .u64 0, .int .u64 0] 26)) := bl_alloc (bl_alloc (Below.refl _ _) _) _
  have hz0 : w.heap.size + 1 < ((w.alloc (.cells (PV f) 52)).alloc (.cells #[.int .u64 0, .int .u64 0] 26)).heap.size := by simp
  generalize (w.alloc (.cells (PV f) 52)).alloc (.cells #[.int .u64 0, .int .u64 0] 26) = w0 at *
  go_wp2
  have own1 : Own (w0.alloc (.cells #[] 3)) w0.heap.size (.slice (some ⟨w0.heap.size, 0, none⟩) 0 0) [] := Own.made (Nat.le_refl _) _ rfl
  go_loopw [3, 4] (fun v i wr => ∃ x : Nat, x ≤ Wd ∧ i = .int .i64 x ∧ Own wr w0.heap.size v (freeL f H x) ∧ Below w0.heap.size w0 wr) (fun _ i _ => Wd - (intOf i).toNat)
  case atStart => exact ⟨0, by omega, rfl, own1, (Below.refl _ _).alloc (Nat.le_refl _) _⟩
  case round =>
    obtain ⟨x, hx, rfl, hv, hB⟩ := hrel
    have k0 := b0.bl hB; have k1 := b1.bl hB
    have g0 : wr.cell? ⟨w.heap.size, 0, none⟩ = some (.int .i64 Wd) := (k0.cell 0).trans P0.out
    have g1 : wr.cell? ⟨w.heap.size, 1, none⟩ = some (.int .i64 H) := (k0.cell 1).trans P1.out
    have hl := freeL_len f H x
    have hsz := hB.size
    by_cases hlt : (x : Int) < (Wd : Int)
    · have m1 : 0 ≤ (x : Int) * ((H : Int) + 1) := Int.mul_nonneg (by omega) (by omega)
      have m2 : (x : Int) * ((H : Int) + 1) ≤ 7 * 9 := Int.mul_le_mul (by omega) (by omega) (by omega) (by omega)
      have hph := pH_le f x H
      have s2 : IntKind.i64.wrap ((x : Int) * ((H : Int) + 1)) = (x : Int) * ((H : Int) + 1) := wr64 (by omega) (by omega)
      have s3 : IntKind.i64.wrap ((x : Int) * ((H : Int) + 1) + pH f x H) = (x : Int) * ((H : Int) + 1) + pH f x H := wr64 (by omega) (by omega)
      have HS := hid (show freeL f H (x + 1) = freeL f H x ++ [(x : Int) * ((H : Int) + 1) + pH f x H] from rfl)
      have Hx := hid (Hh.out x)
      generalize pH f x H = ph at *
      go_upto_if 10 with (fail)
      refine wp_cond_true rfl ?_
      apply wp_skip
      rename_i KK hKK
      refine hKK _ _ ?_
      clear hKK
      (apply wp_seq_k; intro Ka ha; have Ha := hid ha; clear ha)
      apply wp_block
      refine wp_region_noPanic ?_
      refine wp_region_held_drew (S := fun w' => Blk w' w.heap.size (PV f) ∧ w'.cell? ⟨w.heap.size, 1, none⟩ = some (.int .i64 H)) (by kernel_rfl) ?_ (fun hHeld => ?_)
      · exact ⟨k0, g1⟩
      (refine wpAnyH_take (i := 0) (v := u3) rfl (by kernel_rfl) (by kernel_rfl) (by kernel_rfl) (fun _ _ _ h => h) (Or.inl ⟨by rfl, ?_⟩) hHeld ?_; (focus (intro w_ hSw; (try dsimp only at hSw); go_simp)); (try simp only [Array.getInternal_eq_getElem, List.getElem_toArray, List.getElem_cons_succ, List.getElem_cons_zero, Act.put, List.setIfInBounds_toArray, List.set_cons_zero, List.set_cons_succ]))
      (refine wpAnyH_take (i := 1) (v := .int .i64 x) rfl (by kernel_rfl) (by kernel_rfl) (by kernel_rfl) (fun _ _ _ h => h) (Or.inl ⟨by rfl, ?_⟩) hHeld ?_; (focus (intro w_ hSw; (try dsimp only at hSw); go_simp)); (try simp only [Array.getInternal_eq_getElem, List.getElem_toArray, List.getElem_cons_succ, List.getElem_cons_zero, Act.put, List.setIfInBounds_toArray, List.set_cons_zero, List.set_cons_succ]))
      (refine wpAnyH_take (i := 2) (v := .pointer (some ⟨w.heap.size, 0, none⟩)) rfl (by kernel_rfl) (by kernel_rfl) (by kernel_rfl) (fun _ _ _ h => h) (Or.inl ⟨by rfl, ?_⟩) hHeld ?_; (focus (intro w_ hSw; (try dsimp only at hSw); go_simp)); (try simp only [Array.getInternal_eq_getElem, List.getElem_toArray, List.getElem_cons_succ, List.getElem_cons_zero, Act.put, List.setIfInBounds_toArray, List.set_cons_zero, List.set_cons_succ]))
      (refine wpAnyH_take (i := 3) (v := .pointer (some ⟨w.heap.size, 1, none⟩)) rfl (by kernel_rfl) (by kernel_rfl) (by kernel_rfl) (fun _ _ _ h => h) (Or.inl ⟨by rfl, ?_⟩) hHeld ?_; (focus (intro w_ hSw; (try dsimp only at hSw); go_simp)); (try simp only [Array.getInternal_eq_getElem, List.getElem_toArray, List.getElem_cons_succ, List.getElem_cons_zero, Act.put, List.setIfInBounds_toArray, List.set_cons_zero, List.set_cons_succ]))
      (refine wpAnyH_take (i := 4) (v := .int .i64 H) rfl (by kernel_rfl) (by kernel_rfl) (by kernel_rfl) (fun _ _ _ h => h) (Or.inl ⟨by rfl, ?_⟩) hHeld ?_; (focus (intro w_ hSw; (try dsimp only at hSw); go_simp)); (try simp only [Array.getInternal_eq_getElem, List.getElem_toArray, List.getElem_cons_succ, List.getElem_cons_zero, Act.put, List.setIfInBounds_toArray, List.set_cons_zero, List.set_cons_succ]))
      (refine wpAnyH_take (i := 5) (v := .int .i64 ((H : Int) + 1)) rfl (by kernel_rfl) (by kernel_rfl) (by kernel_rfl) (fun _ _ _ h => h) (Or.inl ⟨by rfl, ?_⟩) hHeld ?_; (focus (intro w_ hSw; (try dsimp only at hSw); go_simp)); (try simp only [Array.getInternal_eq_getElem, List.getElem_toArray, List.getElem_cons_succ, List.getElem_cons_zero, Act.put, List.setIfInBounds_toArray, List.set_cons_zero, List.set_cons_succ]))
      (refine wpAnyH_take (i := 6) (v := .int .i64 ((x : Int) * ((H : Int) + 1))) rfl (by kernel_rfl) (by kernel_rfl) (by kernel_rfl) (fun _ _ _ h => h) (Or.inl ⟨by rfl, ?_⟩) hHeld ?_; (focus (intro w_ hSw; (try dsimp only at hSw); go_simp)); (try simp only [Array.getInternal_eq_getElem, List.getElem_toArray, List.getElem_cons_succ, List.getElem_cons_zero, Act.put, List.setIfInBounds_toArray, List.set_cons_zero, List.set_cons_succ]))
      refine wpAnyH_take (i := 7) (v := .agg (PV f)) rfl (by kernel_rfl) (by kernel_rfl) (by kernel_rfl) (fun _ _ _ h => h) (yieldsIf_pos (by rfl) _ rfl w.heap.size (by rfl) f (fun w' h => h.1)) hHeld ?_
      (try simp only [Array.getInternal_eq_getElem, List.getElem_toArray, List.getElem_cons_succ, List.getElem_cons_zero, Act.put, List.setIfInBounds_toArray, List.set_cons_zero, List.set_cons_succ])
      (refine wpAnyH_take (i := 8) (v := .int .i64 x) rfl (by kernel_rfl) (by kernel_rfl) (by kernel_rfl) (fun _ _ _ h => h) (Or.inl ⟨by rfl, ?_⟩) hHeld ?_; (focus (intro w_ hSw; (try dsimp only at hSw); go_simp)); (try simp only [Array.getInternal_eq_getElem, List.getElem_toArray, List.getElem_cons_succ, List.getElem_cons_zero, Act.put, List.setIfInBounds_toArray, List.set_cons_zero, List.set_cons_succ]))
      refine wpAnyH_ready (rs := [9]) (by kernel_rfl) (by simp) ?_; refine AllReadyH.cons rfl (fun K hK => ?_) AllReadyH.nil
      go_simp
      (go_at_call 25; (with_reducible refine (Hx.out _).mono ?_); rintro e_ w6 ⟨rfl, hb6'⟩)
      have hb6 : Below wr.heap.size wr w6 := bl_trans (bl_drew (Below.refl _ _)) hb6'
      have k6 := k0.bl hb6
      have g6 : w6.cell? ⟨w.heap.size, 1, none⟩ = some (.int .i64 H) := (k6.cell 1).trans P1.out
      have hv6 := hv.kept hb6
      have hsz6 : w0.heap.size ≤ w6.heap.size := Nat.le_trans hsz hb6.size
      (refine hK.out _ _ ?_ (fun hHeld => ?_)); (focus (try dsimp only); exact ⟨k6, g6⟩); clear hK K; (try simp only [Array.getInternal_eq_getElem, List.getElem_toArray, List.getElem_cons_succ, List.getElem_cons_zero, Act.put, List.setIfInBounds_toArray, List.set_cons_zero, List.set_cons_succ])
      (refine wpAnyH_take (i := 10) (v := .int .i64 ((x : Int) * ((H : Int) + 1) + ph)) rfl (by kernel_rfl) (by kernel_rfl) (by kernel_rfl) (fun _ _ _ h => h) (Or.inl ⟨by rfl, ?_⟩) hHeld ?_; (focus (intro w_ hSw; (try dsimp only at hSw); go_simp)); (try simp only [Array.getInternal_eq_getElem, List.getElem_toArray, List.getElem_cons_succ, List.getElem_cons_zero, Act.put, List.setIfInBounds_toArray, List.set_cons_zero, List.set_cons_succ]))
      refine wpAnyH_ready (rs := [11]) (by kernel_rfl) (by simp) ?_; refine AllReadyH.cons rfl (fun K hK => ?_) AllReadyH.nil
      go_simp
      (refine hK.out _ _ ?_ (fun hHeld => ?_)); (focus (try dsimp only); exact ⟨k6.alloc _, ((k6.alloc _).cell 1).trans P1.out⟩); clear hK K; (try simp only [Array.getInternal_eq_getElem, List.getElem_toArray, List.getElem_cons_succ, List.getElem_cons_zero, Act.put, List.setIfInBounds_toArray, List.set_cons_zero, List.set_cons_succ])
      refine wpAnyH_ready (rs := [12]) (by kernel_rfl) (by simp) ?_
      refine AllReadyH.cons rfl (fun K hK => step_if (by kernel_rfl) (wp_app (w0 := w6) (e := (x : Int) * ((H : Int) + 1) + ph) _ _ rfl w0.heap.size u3 (freeL f H x) (by rfl) (by rfl) hv6 hsz6 (by omega) fun v' w' hv' hB' ha' hk' => ?_)) AllReadyH.nil
      have hBw' : Below w0.heap.size w0 w' := hB.trans ((hb6.mono (by omega)).trans hB')
      have t7 := b0.bl hBw'
      (refine hK.out _ _ ?_ (fun hHeld => ?_)); (focus (try dsimp only); exact ⟨t7, (t7.cell 1).trans P1.out⟩); clear hK K; (try simp only [Array.getInternal_eq_getElem, List.getElem_toArray, List.getElem_cons_succ, List.getElem_cons_zero, Act.put, List.setIfInBounds_toArray, List.set_cons_zero, List.set_cons_succ])
      refine wpAnyH_ready (rs := [13]) (by kernel_rfl) (by simp) ?_; refine AllReadyH.cons rfl (fun K hK => ?_) AllReadyH.nil
      go_simp
      (refine hK.out _ _ ?_ (fun hHeld => ?_)); (focus (try dsimp only); exact ⟨t7, (t7.cell 1).trans P1.out⟩); clear hK K; (try simp only [Array.getInternal_eq_getElem, List.getElem_toArray, List.getElem_cons_succ, List.getElem_cons_zero, Act.put, List.setIfInBounds_toArray, List.set_cons_zero, List.set_cons_succ])
      refine wpAnyH_done (by kernel_rfl) (NoPanic.normal ?_) _
      refine Ha.out _ _ ?_
      go_wp2
      go_roundw
      case rel => exact ⟨x + 1, by omega, by go_num, by rw [HS.out]; exact hv', hBw'⟩
      case measure => simp [intOf]; omega
    · obtain rfl : x = Wd := by omega
      have hBr : Below w.heap.size w wr := bl_trans hB0 hB
      have c1 := k1.cell; have f1 := k1.frozen; have l1 := k1.lt
      have hl1 : (freeL f H x).length ≤ 1000000 := by omega
      obtain ⟨t, hk⟩ := k0
      
      go_wp2_with (first | (refine wpList_load_row rfl 52 _ rfl _ rfl _ _ _ _ hk Try.underlying52 rfl (info_pos _) ?_) | ((go_at_call 57; (with_reducible refine (M.out _).mono ?_); rintro e_ w7 ⟨rfl, hb7⟩; obtain ⟨hc7, hf7⟩ := bcell hb7; have hz7 := hb7.size; (try simp at hz7); have k7_0 : Blk w7 (w.heap.size + 1) #[.int .u64 0, .int .u64 0] := Blk.bl (by repeat (first | (with_reducible assumption) | ((with_reducible refine Blk.new' ?_ _ _); (first | rfl | (simp; done))) | (with_reducible apply Blk.set2) | (with_reducible apply Blk.set1) | ((with_reducible refine Blk.other ?_ ?_ _); rotate_left; (focus (first | omega | (simp; done) | (simp; omega)))) | (with_reducible refine Blk.alloc ?_ _) | (with_reducible refine Blk.drew ?_) | (with_reducible refine Blk.drewN ?_ _) | (with_reducible refine Blk.bl ?_ (by assumption)) | (with_reducible apply Blk.seti) | rfl)) hb7; have c7_0 := k7_0.cell; have f7_0 := k7_0.frozen; have l7_0 := k7_0.lt); have hv7 := hv.kept hb7) | (go_at_call 46; (with_reducible refine (rAt_any (freeL f H x) _ _ _ hv7 hl1).mono ?_); rintro e_ w8 ⟨rfl, hb8⟩; obtain ⟨hc8, hf8⟩ := bcell hb8; have hz8 := hb8.size; (try simp at hz8); have k8_0 : Blk w8 (w.heap.size + 1) #[.int .u64 0, .int .u64 0] := Blk.bl (by repeat (first | (with_reducible assumption) | ((with_reducible refine Blk.new' ?_ _ _); (first | rfl | (simp; done))) | (with_reducible apply Blk.set2) | (with_reducible apply Blk.set1) | ((with_reducible refine Blk.other ?_ ?_ _); rotate_left; (focus (first | omega | (simp; done) | (simp; omega)))) | (with_reducible refine Blk.alloc ?_ _) | (with_reducible refine Blk.drew ?_) | (with_reducible refine Blk.drewN ?_ _) | (with_reducible refine Blk.bl ?_ (by assumption)) | (with_reducible apply Blk.seti) | rfl)) hb8; have c8_0 := k8_0.cell; have f8_0 := k8_0.frozen; have l8_0 := k8_0.lt) | (go_at_call 56; (with_reducible refine (rOr_any _ _ _).mono ?_); rintro e_ w9 ⟨rfl, hb9⟩; obtain ⟨hc9, hf9⟩ := bcell hb9; have hz9 := hb9.size; (try simp at hz9); have k9_0 : Blk w9 (w.heap.size + 1) #[.int .u64 0, .int .u64 0] := Blk.bl (by repeat (first | (with_reducible assumption) | ((with_reducible refine Blk.new' ?_ _ _); (first | rfl | (simp; done))) | (with_reducible apply Blk.set2) | (with_reducible apply Blk.set1) | ((with_reducible refine Blk.other ?_ ?_ _); rotate_left; (focus (first | omega | (simp; done) | (simp; omega)))) | (with_reducible refine Blk.alloc ?_ _) | (with_reducible refine Blk.drew ?_) | (with_reducible refine Blk.drewN ?_ _) | (with_reducible refine Blk.bl ?_ (by assumption)) | (with_reducible apply Blk.seti) | rfl)) hb9; have c9_0 := k9_0.cell; have f9_0 := k9_0.frozen; have l9_0 := k9_0.lt))
      rw [HK.out]
      refine bodyPost_ret (v := (.agg #[.int .u64 (hi (wor mw (wofs (freeL f H x)))), .int .u64 (lo (wor mw (wofs (freeL f H x))))])) (by simp [results, Try.results23, go_sem, *]) rfl ⟨rfl, ?_⟩
      exact (by repeat (first | (with_reducible exact Below.refl _ _) | (with_reducible assumption) | (with_reducible refine bl_alloc ?_ _) | (with_reducible refine bl_drew ?_) | (with_reducible refine bl_drewN ?_ _) | ((with_reducible refine bl_set ?_ ?_ _); rotate_left; (focus (first | omega | (simp; done) | (simp; omega)))) | (with_reducible refine bl_trans ?_ (by assumption))))
end Go.Proofs.Ytgiggomcpifjmaa
