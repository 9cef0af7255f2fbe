/- A position from no moves at all, given as the nil slice; two words of a board told apart. -/
import Derived.Test.YtgiggomcpifjmaaPc
set_option linter.unusedVariables false
namespace Go.Proofs.Ytgiggomcpifjmaa
open Go.RowKit Plm
theorem eql_ww (x y : W) (w : World) : (binOp .eql 26 (.agg #[.int .u64 (hi x), .int .u64 (lo x)]) (.agg #[.int .u64 (hi y), .int .u64 (lo y)])).run Try.prog w = .ok (.bool (decide (x = y))) w := by
  have e : decide (x = y) = (decide (hi x = hi y) && decide (lo x = lo y)) := by
    rw [Bool.eq_iff_iff]; simp only [decide_eq_true_eq, Bool.and_eq_true]
    constructor
    · rintro rfl; exact ⟨rfl, rfl⟩
    · rintro ⟨a, b⟩; exact ext_hl x y a b
  rw [e]
  by_cases h1 : hi x = hi y
  · by_cases h2 : lo x = lo y
    · rw [h1, h2]; simp only [decide_true]; go_simp
    · simp only [h1, h2, decide_true, decide_false]; go_simp
  · simp only [h1, decide_false]; go_simp
set_option maxRecDepth 100000 in
set_option maxHeartbeats 4000000 in
theorem From_nil (bw bh : Int) (hm : mayB bw bh = true) (r : Option Addr) (cap : Nat) (w : World) :
    Calls Try.prog 18 #[.agg #[.int .i64 bw, .int .i64 bh], .slice r 0 cap] w fun e w' => e = .returned (.tuple #[.agg #[.int .i64 bw, .int .i64 bh, .int .u64 (hi (wfull bw bh)), .int .u64 (lo (wfull bw bh)), .int .u64 (hi (wbot bw bh)), .int .u64 (lo (wbot bw bh)), .int .u64 (hi ((playS bw bh st0 []).1.m)), .int .u64 (lo ((playS bw bh st0 []).1.m)), .int .u64 (hi ((playS bw bh st0 []).1.s)), .int .u64 (lo ((playS bw bh st0 []).1.s)), .int .i64 ((playS bw bh st0 []).1.n), .bool ((playS bw bh st0 []).1.won)], .int .i64 (playS bw bh st0 []).2.1, .int .i64 (playS bw bh st0 []).2.2]) ∧ Below w.heap.size w w' := by
  have e0 : playS bw bh st0 [] = (⟨wz, wz, 0, false⟩, 0, 0) := rfl
  rw [e0]
  
  go_enter Try.func18, Try.ntmps18
  go_wp2_with (go_at_call 48; (with_reducible refine (New_yes bw bh hm _).mono ?_); rintro e_ w1 ⟨rfl, hb1⟩; obtain ⟨hc1, hf1⟩ := bcell hb1; have hz1 := hb1.size; (try simp at hz1); have k1_0 : Blk w1 (w.heap.size) #[.int .i64 bw, .int .i64 bh] := Blk.bl (by repeat (first | (with_reducible assumption) | ((with_reducible refine Blk.new' ?_ _ _); (first | rfl | (simp; done))) | (with_reducible apply Blk.set2) | (with_reducible apply Blk.set1) | ((with_reducible refine Blk.other ?_ ?_ _); rotate_left; (focus (first | omega | (simp; done) | (simp; omega)))) | (with_reducible refine Blk.alloc ?_ _) | (with_reducible refine Blk.drew ?_) | (with_reducible refine Blk.drewN ?_ _) | (with_reducible refine Blk.bl ?_ (by assumption)) | (with_reducible apply Blk.seti) | rfl)) hb1; have c1_0 := k1_0.cell; have f1_0 := k1_0.frozen; have l1_0 := k1_0.lt; have k1_1 : Blk w1 (w.heap.size + 1) #[.int .i64 0, .int .i64 0, .int .u64 0, .int .u64 0, .int .u64 0, .int .u64 0, .int .u64 0, .int .u64 0, .int .u64 0, .int .u64 0, .int .i64 0, .bool false] := Blk.bl (by repeat (first | (with_reducible assumption) | ((with_reducible refine Blk.new' ?_ _ _); (first | rfl | (simp; done))) | (with_reducible apply Blk.set2) | (with_reducible apply Blk.set1) | ((with_reducible refine Blk.other ?_ ?_ _); rotate_left; (focus (first | omega | (simp; done) | (simp; omega)))) | (with_reducible refine Blk.alloc ?_ _) | (with_reducible refine Blk.drew ?_) | (with_reducible refine Blk.drewN ?_ _) | (with_reducible refine Blk.bl ?_ (by assumption)) | (with_reducible apply Blk.seti) | rfl)) hb1; have c1_1 := k1_1.cell; have f1_1 := k1_1.frozen; have l1_1 := k1_1.lt)
  go_loopw [24] (fun i wr => i = .int .i64 0 ∧ Below w.heap.size w wr ∧ Blk wr w.heap.size #[.int .i64 bw, .int .i64 bh] ∧ Blk wr (w.heap.size + 1) #[.int .i64 0, .int .i64 0, .int .u64 0, .int .u64 0, .int .u64 0, .int .u64 0, .int .u64 0, .int .u64 0, .int .u64 0, .int .u64 0, .int .i64 0, .bool false] ∧ Blk wr w1.heap.size #[.int .i64 bw, .int .i64 bh, .int .u64 (hi (wfull bw bh)), .int .u64 (lo (wfull bw bh)), .int .u64 (hi (wbot bw bh)), .int .u64 (lo (wbot bw bh)), .int .u64 (hi wz), .int .u64 (lo wz), .int .u64 (hi wz), .int .u64 (lo wz), .int .i64 0, .bool false]) (fun _ _ => 0)
  case atStart =>
    exact ⟨rfl, (by repeat (first | (with_reducible exact Below.refl _ _) | (with_reducible assumption) | (with_reducible refine bl_alloc ?_ _) | (with_reducible refine bl_drew ?_) | (with_reducible refine bl_drewN ?_ _) | ((with_reducible refine bl_set ?_ ?_ _); rotate_left; (focus (first | omega | (simp; done) | (simp; omega)))) | (with_reducible refine bl_trans ?_ (by assumption)))), (by repeat (first | (with_reducible assumption) | ((with_reducible refine Blk.new' ?_ _ _); (first | rfl | (simp; done))) | (with_reducible apply Blk.set2) | (with_reducible apply Blk.set1) | ((with_reducible refine Blk.other ?_ ?_ _); rotate_left; (focus (first | omega | (simp; done) | (simp; omega)))) | (with_reducible refine Blk.alloc ?_ _) | (with_reducible refine Blk.drew ?_) | (with_reducible refine Blk.drewN ?_ _) | (with_reducible refine Blk.bl ?_ (by assumption)) | (with_reducible apply Blk.seti) | rfl)), (by repeat (first | (with_reducible assumption) | ((with_reducible refine Blk.new' ?_ _ _); (first | rfl | (simp; done))) | (with_reducible apply Blk.set2) | (with_reducible apply Blk.set1) | ((with_reducible refine Blk.other ?_ ?_ _); rotate_left; (focus (first | omega | (simp; done) | (simp; omega)))) | (with_reducible refine Blk.alloc ?_ _) | (with_reducible refine Blk.drew ?_) | (with_reducible refine Blk.drewN ?_ _) | (with_reducible refine Blk.bl ?_ (by assumption)) | (with_reducible apply Blk.seti) | rfl)), (by repeat (first | (with_reducible assumption) | ((with_reducible refine Blk.new' ?_ _ _); (first | rfl | (simp; done))) | (with_reducible apply Blk.set2) | (with_reducible apply Blk.set1) | ((with_reducible refine Blk.other ?_ ?_ _); rotate_left; (focus (first | omega | (simp; done) | (simp; omega)))) | (with_reducible refine Blk.alloc ?_ _) | (with_reducible refine Blk.drew ?_) | (with_reducible refine Blk.drewN ?_ _) | (with_reducible refine Blk.bl ?_ (by assumption)) | (with_reducible apply Blk.seti) | rfl))⟩
  case round =>
    clear k1_0 k1_1 l1_0 l1_1 c1_0 c1_1 f1_0 f1_1 hc1 hf1 hb1
    obtain ⟨rfl, hB, hbk0, hbk1, hbk2⟩ := hrel
    have c1 := hbk1.cell; have f1 := hbk1.frozen; have l1 := hbk1.lt
    have c2 := hbk2.cell; have f2 := hbk2.frozen; have l2 := hbk2.lt
    go_wp2
    refine bodyPost_ret (v := .tuple #[.agg #[.int .i64 bw, .int .i64 bh, .int .u64 (hi (wfull bw bh)), .int .u64 (lo (wfull bw bh)), .int .u64 (hi (wbot bw bh)), .int .u64 (lo (wbot bw bh)), .int .u64 (hi wz), .int .u64 (lo wz), .int .u64 (hi wz), .int .u64 (lo wz), .int .i64 0, .bool false], .int .i64 0, .int .i64 0]) (by simp [results, Try.results18, go_sem, *]) rfl ⟨rfl, ?_⟩
    exact (by repeat (first | (with_reducible exact Below.refl _ _) | (with_reducible assumption) | (with_reducible refine bl_alloc ?_ _) | (with_reducible refine bl_drew ?_) | (with_reducible refine bl_drewN ?_ _) | ((with_reducible refine bl_set ?_ ?_ _); rotate_left; (focus (first | omega | (simp; done) | (simp; omega)))) | (with_reducible refine bl_trans ?_ (by assumption))))
end Go.Proofs.Ytgiggomcpifjmaa
