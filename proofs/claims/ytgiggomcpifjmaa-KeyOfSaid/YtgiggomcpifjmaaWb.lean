/- Contracts of the words of 128 bits (package wide): shifts, which is less. -/
import Derived.Test.YtgiggomcpifjmaaWa
namespace Go.Proofs.Ytgiggomcpifjmaa
open Go.RowKit Plm

set_option maxHeartbeats 400000 in
theorem Up_any (x : W) (n : Int) (w : World) : Calls Try.prog 74 #[(.agg #[.int .u64 (hi x), .int .u64 (lo x)]), .int .i64 n] w fun e w' => e = .returned (.agg #[.int .u64 (hi (wup x n)), .int .u64 (lo (wup x n))]) ∧ Below w.heap.size w w' := by
  by_cases h : n ≤ 0
  · go_enter Try.func74, Try.ntmps74
    go_wp2
    refine bodyPost_ret (v := (.agg #[.int .u64 (hi (wup x n)), .int .u64 (lo (wup x n))])) (by rw [wup_le x n h]; simp [results, Try.results74, go_sem]) rfl ⟨rfl, ?_⟩
    exact bl_alloc (bl_alloc (Below.refl _ _) _) _
  by_cases h1 : 127 < n
  · go_enter Try.func74, Try.ntmps74
    go_wp2
    refine bodyPost_ret (v := (.agg #[.int .u64 (hi (wup x n)), .int .u64 (lo (wup x n))])) (by rw [wup_over x n h1]; simp [results, Try.results74, go_sem, hi_wz, lo_wz]) rfl ⟨rfl, ?_⟩
    exact bl_alloc (bl_alloc (Below.refl _ _) _) _
  by_cases h2 : 64 ≤ n
  · go_enter Try.func74, Try.ntmps74
    go_wp2
    refine bodyPost_ret (v := (.agg #[.int .u64 (hi (wup x n)), .int .u64 (lo (wup x n))])) (by rw [up_lo_big x n h2, ← up_hi_big x n h2 (by omega)]; simp [results, Try.results74, go_sem]) rfl ⟨rfl, ?_⟩
    exact bl_alloc (bl_alloc (Below.refl _ _) _) _
  · have h3 : n < 64 := by omega
    go_enter Try.func74, Try.ntmps74
    go_wp2
    refine bodyPost_ret (v := (.agg #[.int .u64 (hi (wup x n)), .int .u64 (lo (wup x n))])) (by rw [← up_hi x n (by omega) h3, ← up_lo x n h3]; simp [results, Try.results74, go_sem]) rfl ⟨rfl, ?_⟩
    exact bl_alloc (bl_alloc (Below.refl _ _) _) _
set_option maxHeartbeats 400000 in
theorem Down_any (x : W) (n : Int) (w : World) : Calls Try.prog 70 #[(.agg #[.int .u64 (hi x), .int .u64 (lo x)]), .int .i64 n] w fun e w' => e = .returned (.agg #[.int .u64 (hi (wdown x n)), .int .u64 (lo (wdown x n))]) ∧ Below w.heap.size w w' := by
  by_cases h : n ≤ 0
  · go_enter Try.func70, Try.ntmps70
    go_wp2
    refine bodyPost_ret (v := (.agg #[.int .u64 (hi (wdown x n)), .int .u64 (lo (wdown x n))])) (by rw [wdown_le x n h]; simp [results, Try.results70, go_sem]) rfl ⟨rfl, ?_⟩
    exact bl_alloc (bl_alloc (Below.refl _ _) _) _
  by_cases h1 : 127 < n
  · go_enter Try.func70, Try.ntmps70
    go_wp2
    refine bodyPost_ret (v := (.agg #[.int .u64 (hi (wdown x n)), .int .u64 (lo (wdown x n))])) (by rw [wdown_over x n h1]; simp [results, Try.results70, go_sem, hi_wz, lo_wz]) rfl ⟨rfl, ?_⟩
    exact bl_alloc (bl_alloc (Below.refl _ _) _) _
  by_cases h2 : 64 ≤ n
  · go_enter Try.func70, Try.ntmps70
    go_wp2
    refine bodyPost_ret (v := (.agg #[.int .u64 (hi (wdown x n)), .int .u64 (lo (wdown x n))])) (by rw [down_hi_big x n h2, ← down_lo_big x n h2 (by omega)]; simp [results, Try.results70, go_sem]) rfl ⟨rfl, ?_⟩
    exact bl_alloc (bl_alloc (Below.refl _ _) _) _
  · have h3 : n < 64 := by omega
    go_enter Try.func70, Try.ntmps70
    go_wp2
    refine bodyPost_ret (v := (.agg #[.int .u64 (hi (wdown x n)), .int .u64 (lo (wdown x n))])) (by rw [← down_lo x n (by omega) h3, ← down_hi x n]; simp [results, Try.results70, go_sem]) rfl ⟨rfl, ?_⟩
    exact bl_alloc (bl_alloc (Below.refl _ _) _) _
set_option maxHeartbeats 400000 in
theorem Less_any (x y : W) (w : World) : Calls Try.prog 62 #[(.agg #[.int .u64 (hi x), .int .u64 (lo x)]), (.agg #[.int .u64 (hi y), .int .u64 (lo y)])] w fun e w' => e = .returned (.bool (wless x y)) ∧ Below w.heap.size w w' := by
  by_cases h : hi x = hi y
  · have H0 := hid (wless_lo x y h)
    have h1 : (hi x != hi y) = false := by simp [h]
    clear h
    go_enter Try.func62, Try.ntmps62
    go_wp2
    go_ret
    exact ⟨by rw [H0.out]; rfl, bl_alloc (bl_alloc (Below.refl _ _) _) _⟩
  · have H0 := hid (wless_hi x y h)
    have h1 : (hi x != hi y) = true := by simp [h]
    go_enter Try.func62, Try.ntmps62
    go_wp2
    go_ret
    exact ⟨by rw [H0.out]; rfl, bl_alloc (bl_alloc (Below.refl _ _) _) _⟩
end Go.Proofs.Ytgiggomcpifjmaa
