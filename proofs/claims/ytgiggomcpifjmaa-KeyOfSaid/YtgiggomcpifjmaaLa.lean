/- The law KeyApart: live. -/
import Derived.Test.YtgiggomcpifjmaaKe
set_option linter.unusedVariables false
set_option linter.unusedSimpArgs false
namespace Go.Proofs.Ytgiggomcpifjmaa
open Go.RowKit Plm

theorem live_e : (playS 4 4 st0 [0]).2.2 = 0 := by decide +kernel
theorem live_k : wkey 4 4 (playS 4 4 st0 [0]).1.m (playS 4 4 st0 [0]).1.s = ⟨33826#128⟩ := by decide +kernel
theorem live_n : cnt (kS 4 4 ⟨33826#128⟩) = 1 := by decide +kernel
theorem live_f : kE 4 4 ⟨33826#128⟩ = 0 := by decide +kernel
theorem live_g : kE 4 4 ⟨33824#128⟩ = 17 := by decide +kernel
theorem live_kh : hi (wkey 4 4 (playS 4 4 st0 [0]).1.m (playS 4 4 st0 [0]).1.s) = 0 := by rw [live_k]; decide +kernel
theorem live_kl : lo (wkey 4 4 (playS 4 4 st0 [0]).1.m (playS 4 4 st0 [0]).1.s) = 33826 := by rw [live_k]; decide +kernel
theorem live_stones (w : World) : Calls Try.prog 12 #[.agg #[.int .i64 4, .int .i64 4], .agg #[.int .u64 0, .int .u64 33826]] w fun e w' => e = .returned (.tuple #[.int .i64 1, .int .i64 0]) ∧ Below w.heap.size w w' := by
  have h := Stones_any 4 4 ⟨33826#128⟩ w
  rw [live_n, live_f, show hi ⟨33826#128⟩ = 0 by decide +kernel, show lo ⟨33826#128⟩ = 33826 by decide +kernel] at h
  exact h
theorem live_check (w : World) : Calls Try.prog 15 #[.agg #[.int .i64 4, .int .i64 4], .agg #[.int .u64 0, .int .u64 33824]] w fun e w' => e = .returned (.int .i64 17) ∧ Below w.heap.size w w' := by
  have h := Check_any 4 4 ⟨33824#128⟩ w
  rw [live_g, show hi ⟨33824#128⟩ = 0 by decide +kernel, show lo ⟨33824#128⟩ = 33824 by decide +kernel] at h
  exact h
theorem live_from (b : Nat) (w : World) (hb : b < w.heap.size) (hc : w.cell? ⟨b, 0, none⟩ = some (.int .i64 0)) : Calls Try.prog 18 #[.agg #[.int .i64 4, .int .i64 4], .slice (some ⟨b, 0, none⟩) 1 1] w fun e w' => ∃ (m s : W) (n x : Int) (won : Bool), Hid (hi (wkey 4 4 m s) = 0 ∧ lo (wkey 4 4 m s) = 33826) ∧ e = .returned (.tuple #[.agg #[.int .i64 4, .int .i64 4, .int .u64 (hi (wfull 4 4)), .int .u64 (lo (wfull 4 4)), .int .u64 (hi (wbot 4 4)), .int .u64 (lo (wbot 4 4)), .int .u64 (hi m), .int .u64 (lo m), .int .u64 (hi s), .int .u64 (lo s), .int .i64 n, .bool won], .int .i64 x, .int .i64 0]) ∧ Below w.heap.size w w' := by
  have h := From_some 4 4 (by decide) [0] b 0 1 1 w rfl (by decide) hb (fun i hi => by have : i = 0 := by simpa using hi
                                                                                       subst this; exact hc)
  rw [live_e] at h
  exact h.mono fun e w' ⟨h1, h2⟩ => ⟨_, _, _, _, _, hid ⟨live_kh, live_kl⟩, h1, h2⟩
set_option maxRecDepth 100000 in
set_option maxHeartbeats 4000000 in
theorem live_any (w : World) : Calls Try.prog 17 #[] w fun e w' => e = .returned (.bool true) ∧ Below w.heap.size w w' := by
  go_enter Try.func17, Try.ntmps17
  go_wp2_with fail
  refine (live_from _ _ ?_ ?_).mono ?_
  · simp
  · simp
  rintro e_ w1 ⟨m, s, n, x, won, hK, rfl, hb1⟩
  obtain ⟨hc1, hf1⟩ := bcell hb1
  have hz1 := hb1.size
  simp at hz1
  have k1 : Blk w1 w.heap.size #[.int .i64 4, .int .i64 4] := Blk.bl (by repeat (first | (with_reducible assumption) | ((with_reducible refine Blk.new' ?_ _ _); (first | rfl | (simp; done))) | (with_reducible apply Blk.set2) | (with_reducible apply Blk.set1) | ((with_reducible refine Blk.other ?_ ?_ _); rotate_left; (focus (first | omega | (simp; done) | (simp; omega)))) | (with_reducible refine Blk.alloc ?_ _) | (with_reducible refine Blk.drew ?_) | (with_reducible refine Blk.drewN ?_ _) | (with_reducible refine Blk.bl ?_ (by assumption)) | (with_reducible apply Blk.seti) | rfl)) hb1
  have c1 := k1.cell; have f1 := k1.frozen; have l1 := k1.lt
  
  obtain ⟨kh, kl⟩ := hK.out
  go_wp2_with (first | (go_at_call 12; (with_reducible refine (live_stones _).mono ?_); rintro e_ w2 ⟨rfl, hb2⟩; obtain ⟨hc2, hf2⟩ := bcell hb2; have hz2 := hb2.size; (try simp at hz2); have k2_0 : Blk w2 (w.heap.size) #[.int .i64 4, .int .i64 4] := Blk.bl (by repeat (first | (with_reducible assumption) | ((with_reducible refine Blk.new' ?_ _ _); (first | rfl | (simp; done))) | (with_reducible apply Blk.set2) | (with_reducible apply Blk.set1) | ((with_reducible refine Blk.other ?_ ?_ _); rotate_left; (focus (first | omega | (simp; done) | (simp; omega)))) | (with_reducible refine Blk.alloc ?_ _) | (with_reducible refine Blk.drew ?_) | (with_reducible refine Blk.drewN ?_ _) | (with_reducible refine Blk.bl ?_ (by assumption)) | (with_reducible apply Blk.seti) | rfl)) hb2; have c2_0 := k2_0.cell; have f2_0 := k2_0.frozen; have l2_0 := k2_0.lt; have k2_1 : Blk w2 (w1.heap.size) #[.int .i64 4, .int .i64 4, .int .u64 (hi (wfull 4 4)), .int .u64 (lo (wfull 4 4)), .int .u64 (hi (wbot 4 4)), .int .u64 (lo (wbot 4 4)), .int .u64 (hi m), .int .u64 (lo m), .int .u64 (hi s), .int .u64 (lo s), .int .i64 n, .bool won] := Blk.bl (by repeat (first | (with_reducible assumption) | ((with_reducible refine Blk.new' ?_ _ _); (first | rfl | (simp; done))) | (with_reducible apply Blk.set2) | (with_reducible apply Blk.set1) | ((with_reducible refine Blk.other ?_ ?_ _); rotate_left; (focus (first | omega | (simp; done) | (simp; omega)))) | (with_reducible refine Blk.alloc ?_ _) | (with_reducible refine Blk.drew ?_) | (with_reducible refine Blk.drewN ?_ _) | (with_reducible refine Blk.bl ?_ (by assumption)) | (with_reducible apply Blk.seti) | rfl)) hb2; have c2_1 := k2_1.cell; have f2_1 := k2_1.frozen; have l2_1 := k2_1.lt) | (go_at_call 19; (with_reducible refine (Of_key _ _ _ _ _ _ _).mono ?_); rintro e_ w3 ⟨rfl, hb3⟩; obtain ⟨hc3, hf3⟩ := bcell hb3; have hz3 := hb3.size; (try simp at hz3); have k3_0 : Blk w3 (w.heap.size) #[.int .i64 4, .int .i64 4] := Blk.bl (by repeat (first | (with_reducible assumption) | ((with_reducible refine Blk.new' ?_ _ _); (first | rfl | (simp; done))) | (with_reducible apply Blk.set2) | (with_reducible apply Blk.set1) | ((with_reducible refine Blk.other ?_ ?_ _); rotate_left; (focus (first | omega | (simp; done) | (simp; omega)))) | (with_reducible refine Blk.alloc ?_ _) | (with_reducible refine Blk.drew ?_) | (with_reducible refine Blk.drewN ?_ _) | (with_reducible refine Blk.bl ?_ (by assumption)) | (with_reducible apply Blk.seti) | rfl)) hb3; have c3_0 := k3_0.cell; have f3_0 := k3_0.frozen; have l3_0 := k3_0.lt; have k3_1 : Blk w3 (w1.heap.size) #[.int .i64 4, .int .i64 4, .int .u64 (hi (wfull 4 4)), .int .u64 (lo (wfull 4 4)), .int .u64 (hi (wbot 4 4)), .int .u64 (lo (wbot 4 4)), .int .u64 (hi m), .int .u64 (lo m), .int .u64 (hi s), .int .u64 (lo s), .int .i64 n, .bool won] := Blk.bl (by repeat (first | (with_reducible assumption) | ((with_reducible refine Blk.new' ?_ _ _); (first | rfl | (simp; done))) | (with_reducible apply Blk.set2) | (with_reducible apply Blk.set1) | ((with_reducible refine Blk.other ?_ ?_ _); rotate_left; (focus (first | omega | (simp; done) | (simp; omega)))) | (with_reducible refine Blk.alloc ?_ _) | (with_reducible refine Blk.drew ?_) | (with_reducible refine Blk.drewN ?_ _) | (with_reducible refine Blk.bl ?_ (by assumption)) | (with_reducible apply Blk.seti) | rfl)) hb3; have c3_1 := k3_1.cell; have f3_1 := k3_1.frozen; have l3_1 := k3_1.lt) | (go_at_call 15; (with_reducible refine (live_check _).mono ?_); rintro e_ w4 ⟨rfl, hb4⟩; obtain ⟨hc4, hf4⟩ := bcell hb4; have hz4 := hb4.size; (try simp at hz4); have k4_0 : Blk w4 (w.heap.size) #[.int .i64 4, .int .i64 4] := Blk.bl (by repeat (first | (with_reducible assumption) | ((with_reducible refine Blk.new' ?_ _ _); (first | rfl | (simp; done))) | (with_reducible apply Blk.set2) | (with_reducible apply Blk.set1) | ((with_reducible refine Blk.other ?_ ?_ _); rotate_left; (focus (first | omega | (simp; done) | (simp; omega)))) | (with_reducible refine Blk.alloc ?_ _) | (with_reducible refine Blk.drew ?_) | (with_reducible refine Blk.drewN ?_ _) | (with_reducible refine Blk.bl ?_ (by assumption)) | (with_reducible apply Blk.seti) | rfl)) hb4; have c4_0 := k4_0.cell; have f4_0 := k4_0.frozen; have l4_0 := k4_0.lt; have k4_1 : Blk w4 (w1.heap.size) #[.int .i64 4, .int .i64 4, .int .u64 (hi (wfull 4 4)), .int .u64 (lo (wfull 4 4)), .int .u64 (hi (wbot 4 4)), .int .u64 (lo (wbot 4 4)), .int .u64 (hi m), .int .u64 (lo m), .int .u64 (hi s), .int .u64 (lo s), .int .i64 n, .bool won] := Blk.bl (by repeat (first | (with_reducible assumption) | ((with_reducible refine Blk.new' ?_ _ _); (first | rfl | (simp; done))) | (with_reducible apply Blk.set2) | (with_reducible apply Blk.set1) | ((with_reducible refine Blk.other ?_ ?_ _); rotate_left; (focus (first | omega | (simp; done) | (simp; omega)))) | (with_reducible refine Blk.alloc ?_ _) | (with_reducible refine Blk.drew ?_) | (with_reducible refine Blk.drewN ?_ _) | (with_reducible refine Blk.bl ?_ (by assumption)) | (with_reducible apply Blk.seti) | rfl)) hb4; have c4_1 := k4_1.cell; have f4_1 := k4_1.frozen; have l4_1 := k4_1.lt))
  go_ret
  exact ⟨rfl, (by repeat (first | (with_reducible exact Below.refl _ _) | (with_reducible assumption) | (with_reducible refine bl_alloc ?_ _) | (with_reducible refine bl_drew ?_) | (with_reducible refine bl_drewN ?_ _) | ((with_reducible refine bl_set ?_ ?_ _); rotate_left; (focus (first | omega | (simp; done) | (simp; omega)))) | (with_reducible refine bl_trans ?_ (by assumption))))⟩
end Go.Proofs.Ytgiggomcpifjmaa
