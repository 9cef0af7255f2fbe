/- The walk of key.Height. -/
import Derived.Test.YtgiggomcpifjmaaAd
set_option linter.unusedVariables false
set_option linter.unusedSimpArgs false
namespace Go.Proofs.Ytgiggomcpifjmaa
open Go.RowKit Plm
attribute [local go_sem ↓] Go.wp_at_zero Go.wp_at_succ
set_option maxRecDepth 100000 in
set_option maxHeartbeats 2000000 in
theorem kHeight_any (bw bh : Int) (k : W) (x : Int) (w : World) : Calls Try.prog 24 #[.agg #[.int .i64 bw, .int .i64 bh], (.agg #[.int .u64 (hi k), .int .u64 (lo k)]), .int .i64 x] w fun e w' => e = .returned (.int .i64 (cnt (wand (kS bw bh k) (wcol bw bh x)))) ∧ Below w.heap.size w w' := by
  have S := hid (fun w => Split_any bw bh k w)
  generalize kM bw bh k = km at *
  generalize kS bw bh k = ks at *
  generalize kE bw bh k = ke at *
  
  go_enter Try.func24, Try.ntmps24
  go_upto_region 2 with (go_at_call 11; (with_reducible refine (S.out _).mono ?_); rintro e_ w1 ⟨rfl, hb1⟩; obtain ⟨hc1, hf1⟩ := bcell hb1; have hz1 := hb1.size; (try simp at hz1); have k1_0 : Blk w1 (w.heap.size) #[.int .i64 bw, .int .i64 bh] := Blk.bl (by repeat (first | (with_reducible assumption) | ((with_reducible refine Blk.new' ?_ _ _); (first | rfl | (simp; done))) | (with_reducible apply Blk.set2) | (with_reducible apply Blk.set1) | ((with_reducible refine Blk.other ?_ ?_ _); rotate_left; (focus (first | omega | (simp; done) | (simp; omega)))) | (with_reducible refine Blk.alloc ?_ _) | (with_reducible refine Blk.drew ?_) | (with_reducible refine Blk.drewN ?_ _) | (with_reducible refine Blk.bl ?_ (by assumption)) | (with_reducible apply Blk.seti) | rfl)) hb1; have c1_0 := k1_0.cell; have f1_0 := k1_0.frozen; have l1_0 := k1_0.lt; have k1_1 : Blk w1 (w.heap.size + 1) #[.int .u64 (hi k), .int .u64 (lo k)] := Blk.bl (by repeat (first | (with_reducible assumption) | ((with_reducible refine Blk.new' ?_ _ _); (first | rfl | (simp; done))) | (with_reducible apply Blk.set2) | (with_reducible apply Blk.set1) | ((with_reducible refine Blk.other ?_ ?_ _); rotate_left; (focus (first | omega | (simp; done) | (simp; omega)))) | (with_reducible refine Blk.alloc ?_ _) | (with_reducible refine Blk.drew ?_) | (with_reducible refine Blk.drewN ?_ _) | (with_reducible refine Blk.bl ?_ (by assumption)) | (with_reducible apply Blk.seti) | rfl)) hb1; have c1_1 := k1_1.cell; have f1_1 := k1_1.frozen; have l1_1 := k1_1.lt)
  have b0 : Blk ((w1.alloc (.cells #[.int .u64 (hi km), .int .u64 (lo km)] 26)).alloc (.cells #[.int .u64 (hi ks), .int .u64 (lo ks)] 26)) w.heap.size #[.int .i64 bw, .int .i64 bh] := (by repeat (first | (with_reducible assumption) | ((with_reducible refine Blk.new' ?_ _ _); (first | rfl | (simp; done))) | (with_reducible apply Blk.set2) | (with_reducible apply Blk.set1) | ((with_reducible refine Blk.other ?_ ?_ _); rotate_left; (focus (first | omega | (simp; done) | (simp; omega)))) | (with_reducible refine Blk.alloc ?_ _) | (with_reducible refine Blk.drew ?_) | (with_reducible refine Blk.drewN ?_ _) | (with_reducible refine Blk.bl ?_ (by assumption)) | (with_reducible apply Blk.seti) | rfl))
  have b1 : Blk ((w1.alloc (.cells #[.int .u64 (hi km), .int .u64 (lo km)] 26)).alloc (.cells #[.int .u64 (hi ks), .int .u64 (lo ks)] 26)) (w1.heap.size + 1) #[.int .u64 (hi ks), .int .u64 (lo ks)] := (by repeat (first | (with_reducible assumption) | ((with_reducible refine Blk.new' ?_ _ _); (first | rfl | (simp; done))) | (with_reducible apply Blk.set2) | (with_reducible apply Blk.set1) | ((with_reducible refine Blk.other ?_ ?_ _); rotate_left; (focus (first | omega | (simp; done) | (simp; omega)))) | (with_reducible refine Blk.alloc ?_ _) | (with_reducible refine Blk.drew ?_) | (with_reducible refine Blk.drewN ?_ _) | (with_reducible refine Blk.bl ?_ (by assumption)) | (with_reducible apply Blk.seti) | rfl))
  have hB0 : Below w.heap.size w ((w1.alloc (.cells #[.int .u64 (hi km), .int .u64 (lo km)] 26)).alloc (.cells #[.int .u64 (hi ks), .int .u64 (lo ks)] 26)) := (by repeat (first | (with_reducible exact Below.refl _ _) | (with_reducible assumption) | (with_reducible refine bl_alloc ?_ _) | (with_reducible refine bl_drew ?_) | (with_reducible refine bl_drewN ?_ _) | ((with_reducible refine bl_set ?_ ?_ _); rotate_left; (focus (first | omega | (simp; done) | (simp; omega)))) | (with_reducible refine bl_trans ?_ (by assumption))))
  generalize (w1.alloc (.cells #[.int .u64 (hi km), .int .u64 (lo km)] 26)).alloc (.cells #[.int .u64 (hi ks), .int .u64 (lo ks)] 26) = w2 at *
  clear k1_0 k1_1 c1_0 c1_1 f1_0 f1_1 hc1 hf1
  refine wp_region_noPanic ?_
  refine wp_region_held_drew (S := fun w' => w'.cell? ⟨w.heap.size, 0, none⟩ = some (.int .i64 bw) ∧ w'.cell? ⟨w.heap.size, 1, none⟩ = some (.int .i64 bh) ∧ w'.cell? ⟨w1.heap.size + 1, 0, none⟩ = some (.int .u64 (hi ks)) ∧ w'.cell? ⟨w1.heap.size + 1, 1, none⟩ = some (.int .u64 (lo ks))) (by kernel_rfl) ?_ (fun hHeld => ?_)
  · exact ⟨b0.cell 0, b0.cell 1, b1.cell 0, b1.cell 1⟩
  (refine wpAnyH_take (i := 0) (v := (.agg #[.int .u64 (hi ks), .int .u64 (lo ks)])) rfl (by kernel_rfl) (by kernel_rfl) (by kernel_rfl) (fun _ _ _ h => h) (Or.inl ⟨by rfl, ?_⟩) hHeld ?_; (focus (intro w_ hSw; (try dsimp only at hSw); go_simp)); (try simp only [Array.getInternal_eq_getElem, List.getElem_toArray, List.getElem_cons_succ, List.getElem_cons_zero, Act.put, List.setIfInBounds_toArray, List.set_cons_zero, List.set_cons_succ]))
  (refine wpAnyH_take (i := 1) (v := .agg #[.int .i64 bw, .int .i64 bh]) rfl (by kernel_rfl) (by kernel_rfl) (by kernel_rfl) (fun _ _ _ h => h) (Or.inl ⟨by rfl, ?_⟩) hHeld ?_; (focus (intro w_ hSw; (try dsimp only at hSw); go_simp)); (try simp only [Array.getInternal_eq_getElem, List.getElem_toArray, List.getElem_cons_succ, List.getElem_cons_zero, Act.put, List.setIfInBounds_toArray, List.set_cons_zero, List.set_cons_succ]))
  (refine wpAnyH_take (i := 2) (v := .int .i64 x) rfl (by kernel_rfl) (by kernel_rfl) (by kernel_rfl) (fun _ _ _ h => h) (Or.inl ⟨by rfl, ?_⟩) hHeld ?_; (focus (intro w_ hSw; (try dsimp only at hSw); go_simp)); (try simp only [Array.getInternal_eq_getElem, List.getElem_toArray, List.getElem_cons_succ, List.getElem_cons_zero, Act.put, List.setIfInBounds_toArray, List.set_cons_zero, List.set_cons_succ]))
  refine wpAnyH_ready (rs := [3]) (by kernel_rfl) (by simp) ?_; refine AllReadyH.cons rfl (fun K hK => ?_) AllReadyH.nil
  go_simp
  (go_at_call 59; (with_reducible refine (Column_any bw bh x _).mono ?_); rintro e_ w5 ⟨rfl, hb5'⟩)
  have hb5 : Below w2.heap.size w2 w5 := bl_trans (bl_drew (Below.refl _ _)) hb5'
  have k5 := b0.bl hb5; have r5 := b1.bl hb5
  (refine hK.out _ _ ?_ (fun hHeld => ?_)); (focus (try dsimp only); exact ⟨k5.cell 0, k5.cell 1, r5.cell 0, r5.cell 1⟩); clear hK K; (try simp only [Array.getInternal_eq_getElem, List.getElem_toArray, List.getElem_cons_succ, List.getElem_cons_zero, Act.put, List.setIfInBounds_toArray, List.set_cons_zero, List.set_cons_succ])
  refine wpAnyH_ready (rs := [4]) (by kernel_rfl) (by simp) ?_; refine AllReadyH.cons rfl (fun K hK => ?_) AllReadyH.nil
  go_simp
  (go_at_call 58; (with_reducible refine (And_any ks (wcol bw bh x) _).mono ?_); rintro e_ w6 ⟨rfl, hb6⟩)
  have k6 := k5.bl hb6; have r6 := r5.bl hb6
  (refine hK.out _ _ ?_ (fun hHeld => ?_)); (focus (try dsimp only); exact ⟨k6.cell 0, k6.cell 1, r6.cell 0, r6.cell 1⟩); clear hK K; (try simp only [Array.getInternal_eq_getElem, List.getElem_toArray, List.getElem_cons_succ, List.getElem_cons_zero, Act.put, List.setIfInBounds_toArray, List.set_cons_zero, List.set_cons_succ])
  refine wpAnyH_ready (rs := [5]) (by kernel_rfl) (by simp) ?_; refine AllReadyH.cons rfl (fun K hK => ?_) AllReadyH.nil
  go_simp
  (go_at_call 44; (with_reducible refine (Count_any _ _).mono ?_); rintro e_ w7 ⟨rfl, hb7⟩)
  have k7 := k6.bl hb7; have r7 := r6.bl hb7
  (refine hK.out _ _ ?_ (fun hHeld => ?_)); (focus (try dsimp only); exact ⟨k7.cell 0, k7.cell 1, r7.cell 0, r7.cell 1⟩); clear hK K; (try simp only [Array.getInternal_eq_getElem, List.getElem_toArray, List.getElem_cons_succ, List.getElem_cons_zero, Act.put, List.setIfInBounds_toArray, List.set_cons_zero, List.set_cons_succ])
  refine wpAnyH_ready (rs := [6]) (by kernel_rfl) (by simp) ?_; refine AllReadyH.cons rfl (fun K hK => ?_) AllReadyH.nil
  go_simp
  (refine hK.out _ _ ?_ (fun hHeld => ?_)); (focus (try dsimp only); exact ⟨k7.cell 0, k7.cell 1, r7.cell 0, r7.cell 1⟩); clear hK K; (try simp only [Array.getInternal_eq_getElem, List.getElem_toArray, List.getElem_cons_succ, List.getElem_cons_zero, Act.put, List.setIfInBounds_toArray, List.set_cons_zero, List.set_cons_succ])
  refine wpAnyH_done (by kernel_rfl) (NoPanic.normal ?_) _
  go_wp2
  go_ret
  exact ⟨rfl, bl_trans (bl_trans (bl_trans hB0 hb5) hb6) hb7⟩
end Go.Proofs.Ytgiggomcpifjmaa
