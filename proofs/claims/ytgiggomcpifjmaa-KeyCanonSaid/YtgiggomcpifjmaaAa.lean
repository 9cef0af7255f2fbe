/- The walk of the law KeyApart. -/
import Derived.Test.YtgiggomcpifjmaaLa
import Derived.Test.YtgiggomcpifjmaaPd
import Derived.Test.YtgiggomcpifjmaaQb
set_option linter.unusedVariables false
set_option linter.unusedSimpArgs false
namespace Go.Proofs.Ytgiggomcpifjmaa
open Go.RowKit Plm
attribute [local go_sem ↓] Go.wp_at_zero Go.wp_at_succ
/-- A slice that holds the moves of a play: what From answers of it, now and later. -/
def FromIs (bw bh : Int) (sv : Value) (l : List Int) (w : World) : Prop := ∀ w', Below w.heap.size w w' →
  Calls Try.prog 18 #[.agg #[.int .i64 bw, .int .i64 bh], sv] w' fun e w'' => e = .returned (.tuple #[.agg #[.int .i64 bw, .int .i64 bh, .int .u64 (hi (wfull bw bh)), .int .u64 (lo (wfull bw bh)), .int .u64 (hi (wbot bw bh)), .int .u64 (lo (wbot bw bh)), .int .u64 (hi ((playS bw bh st0 l).1.m)), .int .u64 (lo ((playS bw bh st0 l).1.m)), .int .u64 (hi ((playS bw bh st0 l).1.s)), .int .u64 (lo ((playS bw bh st0 l).1.s)), .int .i64 ((playS bw bh st0 l).1.n), .bool ((playS bw bh st0 l).1.won)], .int .i64 (playS bw bh st0 l).2.1, .int .i64 (playS bw bh st0 l).2.2]) ∧ Below w'.heap.size w' w''
set_option maxRecDepth 100000 in
set_option maxHeartbeats 4000000 in
theorem KeyApart_long (bw bh : Int) (r1 r2 : Option Addr) (n1 c1 n2 c2 : Nat) (h : 90 < n1 ∨ 90 < n2) (w : World) :
    Calls Try.prog 4 #[.agg #[.int .i64 bw, .int .i64 bh], .slice r1 n1 c1, .slice r2 n2 c2] w fun e w' => e = .returned (.bool true) ∧ Below w.heap.size w w' := by
  
  go_enter Try.func4, Try.ntmps4
  by_cases h1 : 90 < n1
  · go_wp2_with (go_at_call 17; (with_reducible refine (live_any _).mono ?_); rintro e_ w1 ⟨rfl, hb1⟩; obtain ⟨hc1, hf1⟩ := bcell hb1; have hz1 := hb1.size; (try simp at hz1); have k1_0 : Blk w1 (w.heap.size) #[.int .i64 bw, .int .i64 bh] := Blk.bl (by repeat (first | (with_reducible assumption) | ((with_reducible refine Blk.new' ?_ _ _); (first | rfl | (simp; done))) | (with_reducible apply Blk.set2) | (with_reducible apply Blk.set1) | ((with_reducible refine Blk.other ?_ ?_ _); rotate_left; (focus (first | omega | (simp; done) | (simp; omega)))) | (with_reducible refine Blk.alloc ?_ _) | (with_reducible refine Blk.drew ?_) | (with_reducible refine Blk.drewN ?_ _) | (with_reducible refine Blk.bl ?_ (by assumption)) | (with_reducible apply Blk.seti) | rfl)) hb1; have c1_0 := k1_0.cell; have f1_0 := k1_0.frozen; have l1_0 := k1_0.lt)
    refine bodyPost_ret (v := .bool true) (by simp [results, Try.results4, go_sem, *]) rfl ⟨rfl, ?_⟩
    exact (by repeat (first | (with_reducible exact Below.refl _ _) | (with_reducible assumption) | (with_reducible refine bl_alloc ?_ _) | (with_reducible refine bl_drew ?_) | (with_reducible refine bl_drewN ?_ _) | ((with_reducible refine bl_set ?_ ?_ _); rotate_left; (focus (first | omega | (simp; done) | (simp; omega)))) | (with_reducible refine bl_trans ?_ (by assumption))))
  · have h2 : 90 < n2 := by omega
    go_wp2_with (go_at_call 17; (with_reducible refine (live_any _).mono ?_); rintro e_ w1 ⟨rfl, hb1⟩; obtain ⟨hc1, hf1⟩ := bcell hb1; have hz1 := hb1.size; (try simp at hz1); have k1_0 : Blk w1 (w.heap.size) #[.int .i64 bw, .int .i64 bh] := Blk.bl (by repeat (first | (with_reducible assumption) | ((with_reducible refine Blk.new' ?_ _ _); (first | rfl | (simp; done))) | (with_reducible apply Blk.set2) | (with_reducible apply Blk.set1) | ((with_reducible refine Blk.other ?_ ?_ _); rotate_left; (focus (first | omega | (simp; done) | (simp; omega)))) | (with_reducible refine Blk.alloc ?_ _) | (with_reducible refine Blk.drew ?_) | (with_reducible refine Blk.drewN ?_ _) | (with_reducible refine Blk.bl ?_ (by assumption)) | (with_reducible apply Blk.seti) | rfl)) hb1; have c1_0 := k1_0.cell; have f1_0 := k1_0.frozen; have l1_0 := k1_0.lt)
    refine bodyPost_ret (v := .bool true) (by simp [results, Try.results4, go_sem, *]) rfl ⟨rfl, ?_⟩
    exact (by repeat (first | (with_reducible exact Below.refl _ _) | (with_reducible assumption) | (with_reducible refine bl_alloc ?_ _) | (with_reducible refine bl_drew ?_) | (with_reducible refine bl_drewN ?_ _) | ((with_reducible refine bl_set ?_ ?_ _); rotate_left; (focus (first | omega | (simp; done) | (simp; omega)))) | (with_reducible refine bl_trans ?_ (by assumption))))
set_option maxRecDepth 100000 in
set_option maxHeartbeats 4000000 in
theorem KeyApart_no (bw bh : Int) (hm : mayB bw bh = false) (r1 r2 : Option Addr) (n1 c1 n2 c2 : Nat) (h1 : n1 ≤ 90) (h2 : n2 ≤ 90) (w : World) :
    Calls Try.prog 4 #[.agg #[.int .i64 bw, .int .i64 bh], .slice r1 n1 c1, .slice r2 n2 c2] w fun e w' => e = .returned (.bool true) ∧ Below w.heap.size w w' := by
  
  go_enter Try.func4, Try.ntmps4
  go_wp2_with (first | (go_at_call 18; (with_reducible refine (From_no bw bh hm _ _).mono ?_); rintro e_ w1 ⟨rfl, hb1⟩; obtain ⟨hc1, hf1⟩ := bcell hb1; have hz1 := hb1.size; (try simp at hz1); have k1_0 : Blk w1 (w.heap.size) #[.int .i64 bw, .int .i64 bh] := Blk.bl (by repeat (first | (with_reducible assumption) | ((with_reducible refine Blk.new' ?_ _ _); (first | rfl | (simp; done))) | (with_reducible apply Blk.set2) | (with_reducible apply Blk.set1) | ((with_reducible refine Blk.other ?_ ?_ _); rotate_left; (focus (first | omega | (simp; done) | (simp; omega)))) | (with_reducible refine Blk.alloc ?_ _) | (with_reducible refine Blk.drew ?_) | (with_reducible refine Blk.drewN ?_ _) | (with_reducible refine Blk.bl ?_ (by assumption)) | (with_reducible apply Blk.seti) | rfl)) hb1; have c1_0 := k1_0.cell; have f1_0 := k1_0.frozen; have l1_0 := k1_0.lt) | (go_at_call 17; (with_reducible refine (live_any _).mono ?_); rintro e_ w2 ⟨rfl, hb2⟩; obtain ⟨hc2, hf2⟩ := bcell hb2; have hz2 := hb2.size; (try simp at hz2); have k2_0 : Blk w2 (w.heap.size) #[.int .i64 bw, .int .i64 bh] := Blk.bl (by repeat (first | (with_reducible assumption) | ((with_reducible refine Blk.new' ?_ _ _); (first | rfl | (simp; done))) | (with_reducible apply Blk.set2) | (with_reducible apply Blk.set1) | ((with_reducible refine Blk.other ?_ ?_ _); rotate_left; (focus (first | omega | (simp; done) | (simp; omega)))) | (with_reducible refine Blk.alloc ?_ _) | (with_reducible refine Blk.drew ?_) | (with_reducible refine Blk.drewN ?_ _) | (with_reducible refine Blk.bl ?_ (by assumption)) | (with_reducible apply Blk.seti) | rfl)) hb2; have c2_0 := k2_0.cell; have f2_0 := k2_0.frozen; have l2_0 := k2_0.lt))
  refine bodyPost_ret (v := .bool true) (by simp [results, Try.results4, go_sem, *]) rfl ⟨rfl, ?_⟩
  exact (by repeat (first | (with_reducible exact Below.refl _ _) | (with_reducible assumption) | (with_reducible refine bl_alloc ?_ _) | (with_reducible refine bl_drew ?_) | (with_reducible refine bl_drewN ?_ _) | ((with_reducible refine bl_set ?_ ?_ _); rotate_left; (focus (first | omega | (simp; done) | (simp; omega)))) | (with_reducible refine bl_trans ?_ (by assumption))))
end Go.Proofs.Ytgiggomcpifjmaa
