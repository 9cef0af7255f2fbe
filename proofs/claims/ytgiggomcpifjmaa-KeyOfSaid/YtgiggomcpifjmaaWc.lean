/- Contracts of the words of 128 bits (package wide): counts. -/
import Derived.Test.YtgiggomcpifjmaaWb
import Derived.Test.YtgiggomcpifjmaaMb
import Derived.Test.YtgiggomcpifjmaaShelf
import Derived.Lib.ItoaNum
import Derived.Deep.QuietTactic
import Derived.BigQuiet
namespace Go.Proofs.Ytgiggomcpifjmaa
open Go.RowKit Plm

set_option maxHeartbeats 1000000 in
theorem OnesCount64_any (x : BitVec 64) (w : World) : Calls Try.prog 78 #[.int .u64 (ui x)] w fun e w' => e = .returned (.int .i64 (pop x)) ∧ w' = w := by
  have e1 := pcw1
  have e2 := pcw2
  have e3 := pcw3
  have e4 := pcw4
  have e5 := pcw5
  have e6 := pcw6
  go_enter Try.func78, Try.ntmps78
  go_wp2
  go_ret
  refine ⟨?_, rfl⟩
  rw [← pcw7]; rfl
set_option maxHeartbeats 1000000 in
theorem Count_any (x : W) (w : World) : Calls Try.prog 44 #[(.agg #[.int .u64 (hi x), .int .u64 (lo x)])] w fun e w' => e = .returned (.int .i64 (cnt x)) ∧ Below w.heap.size w w' := by
  have b1 : pop (hb x) ≤ 64 := (pc_pop _).2
  have b2 : pop (lb x) ≤ 64 := (pc_pop _).2
  have H := hid (cnt_pop x)
  go_enter Try.func44, Try.ntmps44
  go_wp2_with fail
  go_quiet ((go_at_call 78; exact Calls.quiet_of_same (OnesCount64_any _ _)))
  go_wp2
  go_ret
  exact ⟨by rw [H.out, Int.natCast_add]; rfl, bl_drewN (bl_alloc (Below.refl _ _) _) _⟩
/-- The greatest place; -1: there is none. -/
def whigh (x : W) : Int := if nat x = 0 then -1 else ((nat x).log2 : Int)
theorem bitLen_log (n : Nat) (h : n ≠ 0) (h' : n < 2 ^ 64) : (Lib.bitLen n : Int) = n.log2 + 1 := by
  have b := Lib.bitLenAux_bounds 64 n h' h
  have e : n.log2 = Lib.bitLenAux 64 n - 1 := by
    rw [Nat.log2_eq_iff h]; exact ⟨b.2.1, by rw [show Lib.bitLenAux 64 n - 1 + 1 = Lib.bitLenAux 64 n from by omega]; exact b.2.2⟩
  unfold Lib.bitLen; omega
theorem log2_high (q r : Nat) (hq : q ≠ 0) (hr : r < 18446744073709551616) : (q * 18446744073709551616 + r).log2 = 64 + q.log2 := by
  have a := (Nat.log2_eq_iff hq (k := q.log2)).1 rfl
  rw [Nat.log2_eq_iff (by omega)]
  have e1 : 2 ^ (64 + q.log2) = 18446744073709551616 * 2 ^ q.log2 := by rw [Nat.pow_add]
  have e2 : 2 ^ (64 + q.log2 + 1) = 18446744073709551616 * 2 ^ (q.log2 + 1) := by rw [Nat.add_assoc, Nat.pow_add]
  rw [e1, e2]
  generalize 2 ^ q.log2 = P at *
  generalize 2 ^ (q.log2 + 1) = P2 at *
  exact ⟨by omega, by omega⟩
theorem nat_split (x : W) : nat x = (hi x).toNat * 18446744073709551616 + (lo x).toNat := by
  have := nat_eq x; have := hi_nonneg x; have := lo_nonneg x; omega
theorem whigh_hi (x : W) (h : hi x ≠ 0) : whigh x = 127 - (64 - (Lib.bitLen (hi x).toNat : Int)) := by
  have a := nat_split x
  have b := hi_nonneg x
  have c := hi_lt x
  have d := lo_lt x
  have d' := lo_nonneg x
  rw [bitLen_log _ (by omega) (by omega)]
  unfold whigh
  rw [if_neg (by omega), a, log2_high _ _ (by omega) (by omega)]; omega
theorem whigh_lo (x : W) (h : hi x = 0) : whigh x = 63 - (64 - (Lib.bitLen (lo x).toNat : Int)) := by
  have a := nat_split x
  have d := lo_lt x
  have d' := lo_nonneg x
  rw [h] at a
  have e : nat x = (lo x).toNat := by omega
  unfold whigh; rw [e]
  by_cases z : (lo x).toNat = 0
  · rw [if_pos z, z]; rfl
  · rw [if_neg z, bitLen_log _ z (by omega)]; omega
theorem bitLen_hi (x : W) : Lib.bitLen (hi x).toNat ≤ 64 := Any.bitLen_le64 _ (hi_nonneg x) (by have := hi_lt x; omega)
theorem bitLen_lo (x : W) : Lib.bitLen (lo x).toNat ≤ 64 := Any.bitLen_le64 _ (lo_nonneg x) (by have := lo_lt x; omega)
set_option maxHeartbeats 1000000 in
theorem High_any (x : W) (w : World) : Calls Try.prog 73 #[(.agg #[.int .u64 (hi x), .int .u64 (lo x)])] w fun e w' => e = .returned (.int .i64 (whigh x)) ∧ Below w.heap.size w w' := by
  have b1 := bitLen_hi x
  have b2 := bitLen_lo x
  by_cases h : hi x = 0
  · have H := hid (whigh_lo x h)
    have h1 : (hi x != 0) = false := by simp [h]
    clear h
    go_enter Try.func73, Try.ntmps73
    go_wp2_with (go_at_call 93; refine (Try.bits_LeadingZeros64 _ _ (lo_nonneg x) (by have := lo_lt x; omega)).mono ?_; rintro e w' ⟨rfl, rfl⟩)
    go_ret
    exact ⟨by rw [H.out]; rfl, bl_alloc (Below.refl _ _) _⟩
  · have H := hid (whigh_hi x h)
    have h1 : (hi x != 0) = true := by simp [h]
    clear h
    go_enter Try.func73, Try.ntmps73
    go_wp2_with (go_at_call 93; refine (Try.bits_LeadingZeros64 _ _ (hi_nonneg x) (by have := hi_lt x; omega)).mono ?_; rintro e w' ⟨rfl, rfl⟩)
    go_ret
    exact ⟨by rw [H.out]; rfl, bl_alloc (Below.refl _ _) _⟩
end Go.Proofs.Ytgiggomcpifjmaa
