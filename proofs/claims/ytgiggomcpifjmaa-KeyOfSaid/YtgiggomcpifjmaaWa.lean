/- Contracts of the words of 128 bits (package wide). -/
import Derived.Test.YtgiggomcpifjmaaProg
import Derived.Test.YtgiggomcpifjmaaMa
import Derived.Test.YtgiggomcpifjmaaWo
import Derived.WalkKit
import Derived.WalkSpells
import Derived.WalkLawsBesides
import Derived.Shelf.Spec.BitsCarry
namespace Go.Proofs.Ytgiggomcpifjmaa
open Go.RowKit Plm

/-! ### math/bits.Add64, Sub64 -/
def carry (x y : W) : Int := (lo x + lo y) / 18446744073709551616
def carry2 (x y : W) : Int := (hi x + hi y + carry x y) / 18446744073709551616
def borrow (x y : W) : Int := if lo x < lo y then 1 else 0
def borrow2 (x y : W) : Int := if hi x < hi y + borrow x y then 1 else 0
theorem carry_le (x y : W) : 0 ≤ carry x y ∧ carry x y ≤ 1 := by
  unfold carry; have := lo_nonneg x; have := lo_nonneg y; have := lo_lt x; have := lo_lt y; omega
theorem borrow_le (x y : W) : 0 ≤ borrow x y ∧ borrow x y ≤ 1 := by unfold borrow; split <;> omega
theorem add64_lo (x y : W) (w : World) : (callFunc 85 #[.int .u64 (lo x), .int .u64 (lo y), .int .u64 0]).run Try.prog w = .ok (.value (.tuple #[.int .u64 (lo (wadd x y)), .int .u64 (carry x y)])) w := by
  rw [run_callFunc_extern Try.func85 (by kernel_rfl) (by kernel_rfl) (by kernel_rfl) (e := add64Entry) (by kernel_rfl), run_add64 (lo x) (lo y) 0 (lo_nonneg x) (lo_nonneg y) (by omega) (by omega), ← add_lo]
  simp only [Result.andThen, Int.add_zero, carry]
theorem add64_hi (x y : W) (w : World) : (callFunc 85 #[.int .u64 (hi x), .int .u64 (hi y), .int .u64 (carry x y)]).run Try.prog w = .ok (.value (.tuple #[.int .u64 (hi (wadd x y)), .int .u64 (carry2 x y)])) w := by
  rw [run_callFunc_extern Try.func85 (by kernel_rfl) (by kernel_rfl) (by kernel_rfl) (e := add64Entry) (by kernel_rfl), run_add64 (hi x) (hi y) _ (hi_nonneg x) (hi_nonneg y) (carry_le x y).1 (carry_le x y).2, ← add_hi]
  simp only [Result.andThen, carry, carry2]
theorem sub64_any (x y b : Int) (hx : 0 ≤ x) (hy : 0 ≤ y) (hb : 0 ≤ b) (hb1 : b ≤ 1) (hy1 : y < 18446744073709551616) (w : World) : (callFunc 94 #[.int .u64 x, .int .u64 y, .int .u64 b]).run Try.prog w = .ok (.value (.tuple #[.int .u64 ((x + 18446744073709551616 - y - b) % 18446744073709551616), .int .u64 (if x < y + b then 1 else 0)])) w := by
  obtain ⟨x, rfl⟩ := Int.eq_ofNat_of_zero_le hx
  obtain ⟨y, rfl⟩ := Int.eq_ofNat_of_zero_le hy
  obtain ⟨b, rfl⟩ := Int.eq_ofNat_of_zero_le hb
  have e1 : ((x : Int) + 18446744073709551616 - y - b) % 18446744073709551616 = (((x + 18446744073709551616 - y - b) % 18446744073709551616 : Nat) : Int) := by omega
  have e2 : (if (x : Int) < y + b then 1 else 0 : Int) = ((if x < y + b then 1 else 0 : Nat) : Int) := by split <;> split <;> omega
  rw [run_callFunc_extern Try.func94 (by kernel_rfl) (by kernel_rfl) (by kernel_rfl) (e := sub64Entry) (by kernel_rfl), run_sub64 x y b (by omega), e1, e2]
  rfl
theorem sub64_lo (x y : W) (w : World) : (callFunc 94 #[.int .u64 (lo x), .int .u64 (lo y), .int .u64 0]).run Try.prog w = .ok (.value (.tuple #[.int .u64 (lo (wsub x y)), .int .u64 (borrow x y)])) w := by
  rw [sub64_any _ _ _ (lo_nonneg x) (lo_nonneg y) (by omega) (by omega) (lo_lt y), ← sub_lo]
  simp only [Int.sub_zero, Int.add_zero, borrow]
theorem sub64_hi (x y : W) (w : World) : (callFunc 94 #[.int .u64 (hi x), .int .u64 (hi y), .int .u64 (borrow x y)]).run Try.prog w = .ok (.value (.tuple #[.int .u64 (hi (wsub x y)), .int .u64 (borrow2 x y)])) w := by
  rw [sub64_any _ _ _ (hi_nonneg x) (hi_nonneg y) (borrow_le x y).1 (borrow_le x y).2 (hi_lt y), ← sub_hi]
  simp only [borrow, borrow2]

set_option maxHeartbeats 400000 in
theorem And_any (x y : W) (w : World) : Calls Try.prog 58 #[(.agg #[.int .u64 (hi x), .int .u64 (lo x)]), (.agg #[.int .u64 (hi y), .int .u64 (lo y)])] w fun e w' => e = .returned (.agg #[.int .u64 (hi (wand x y)), .int .u64 (lo (wand x y))]) ∧ Below w.heap.size w w' := by
  go_enter Try.func58, Try.ntmps58
  go_wp2
  refine bodyPost_ret (v := (.agg #[.int .u64 (hi (wand x y)), .int .u64 (lo (wand x y))])) (by simp [results, Try.results58, go_sem, and_hi, and_lo]) rfl ⟨rfl, ?_⟩
  exact bl_alloc (bl_alloc (bl_alloc (Below.refl _ _) _) _) _
set_option maxHeartbeats 400000 in
theorem Or_any (x y : W) (w : World) : Calls Try.prog 51 #[(.agg #[.int .u64 (hi x), .int .u64 (lo x)]), (.agg #[.int .u64 (hi y), .int .u64 (lo y)])] w fun e w' => e = .returned (.agg #[.int .u64 (hi (wor x y)), .int .u64 (lo (wor x y))]) ∧ Below w.heap.size w w' := by
  go_enter Try.func51, Try.ntmps51
  go_wp2
  refine bodyPost_ret (v := (.agg #[.int .u64 (hi (wor x y)), .int .u64 (lo (wor x y))])) (by simp [results, Try.results51, go_sem, or_hi, or_lo]) rfl ⟨rfl, ?_⟩
  exact bl_alloc (bl_alloc (bl_alloc (Below.refl _ _) _) _) _
set_option maxHeartbeats 400000 in
theorem Xor_any (x y : W) (w : World) : Calls Try.prog 75 #[(.agg #[.int .u64 (hi x), .int .u64 (lo x)]), (.agg #[.int .u64 (hi y), .int .u64 (lo y)])] w fun e w' => e = .returned (.agg #[.int .u64 (hi (wxor x y)), .int .u64 (lo (wxor x y))]) ∧ Below w.heap.size w w' := by
  go_enter Try.func75, Try.ntmps75
  go_wp2
  refine bodyPost_ret (v := (.agg #[.int .u64 (hi (wxor x y)), .int .u64 (lo (wxor x y))])) (by simp [results, Try.results75, go_sem, xor_hi, xor_lo]) rfl ⟨rfl, ?_⟩
  exact bl_alloc (bl_alloc (bl_alloc (Below.refl _ _) _) _) _
set_option maxHeartbeats 400000 in
theorem Add_any (x y : W) (w : World) : Calls Try.prog 52 #[(.agg #[.int .u64 (hi x), .int .u64 (lo x)]), (.agg #[.int .u64 (hi y), .int .u64 (lo y)])] w fun e w' => e = .returned (.agg #[.int .u64 (hi (wadd x y)), .int .u64 (lo (wadd x y))]) ∧ Below w.heap.size w w' := by
  have a1 := add64_lo x y
  have a2 := add64_hi x y
  go_enter Try.func52, Try.ntmps52
  go_wp2
  refine bodyPost_ret (v := (.agg #[.int .u64 (hi (wadd x y)), .int .u64 (lo (wadd x y))])) (by simp [results, Try.results52, go_sem]) rfl ⟨rfl, ?_⟩
  exact bl_alloc (bl_alloc (bl_alloc (Below.refl _ _) _) _) _
set_option maxHeartbeats 400000 in
theorem Sub_any (x y : W) (w : World) : Calls Try.prog 77 #[(.agg #[.int .u64 (hi x), .int .u64 (lo x)]), (.agg #[.int .u64 (hi y), .int .u64 (lo y)])] w fun e w' => e = .returned (.agg #[.int .u64 (hi (wsub x y)), .int .u64 (lo (wsub x y))]) ∧ Below w.heap.size w w' := by
  have a1 := sub64_lo x y
  have a2 := sub64_hi x y
  go_enter Try.func77, Try.ntmps77
  go_wp2
  refine bodyPost_ret (v := (.agg #[.int .u64 (hi (wsub x y)), .int .u64 (lo (wsub x y))])) (by simp [results, Try.results77, go_sem]) rfl ⟨rfl, ?_⟩
  exact bl_alloc (bl_alloc (bl_alloc (Below.refl _ _) _) _) _
end Go.Proofs.Ytgiggomcpifjmaa
