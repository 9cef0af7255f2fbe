/- Contracts of the words of 128 bits (package wide): bits at places. -/
import Derived.Test.YtgiggomcpifjmaaWc
namespace Go.Proofs.Ytgiggomcpifjmaa
open Go.RowKit Plm

theorem getD_take (l : List Int) (k : Nat) (h : k < l.length) : l.take (k + 1) = l.take k ++ [l.getD k 0] := by
  rw [List.take_succ_eq_append_getElem h]; congr; simp [List.getD, h]
set_option maxHeartbeats 1000000 in
theorem Of_any (l : List Int) (b : Nat) (n : Nat) (w : World) (hn : n = l.length) (hlen : n ≤ 9223372036854775807) (hc : ∀ i, i < l.length → w.cell? ⟨b, i, none⟩ = some (.int .i64 (l.getD i 0))) (hb : b < w.heap.size) :
    Calls Try.prog 76 #[.slice (some ⟨b, 0, none⟩) n n] w fun e w' => e = .returned (.agg #[.int .u64 (hi (wofs l)), .int .u64 (lo (wofs l))]) ∧ Below w.heap.size w w' := by
  have Hn := hid hn; clear hn
  go_enter Try.func76, Try.ntmps76
  go_wp2
  go_loopw [8] (fun i wr => ∃ k : Nat, k ≤ n ∧ i = .int .i64 k ∧ wr = (w.alloc (.cells #[.int .u64 0, .int .u64 0] 26)).alloc (.cells #[.int .u64 (hi (wofs (l.take k))), .int .u64 (lo (wofs (l.take k)))] 26)) (fun i _ => n - (intOf i).toNat)
  case atStart => exact ⟨0, Nat.zero_le _, rfl, by simp [wofs, hi_wz, lo_wz]⟩
  case round =>
    obtain ⟨k, hk, rfl, rfl⟩ := hrel
    by_cases hlt : k < n
    · have hcell := hc k (by rw [← Hn.out]; exact hlt)
      have HT := hid (getD_take l k (by rw [← Hn.out]; exact hlt))
      clear hc
      generalize l.getD k 0 = p at *
      generalize hx : wofs (l.take k) = x at *
      have Hx := hid hx; clear hx
      by_cases h2 : p < 64
      · by_cases h1 : 0 ≤ p
        · have e1 := of_lo x p h1 h2
          have E2 := hid (of_lo_hi x p h2)
          go_wp2
          go_roundw
          case rel => exact ⟨k + 1, by omega, by go_num, by rw [HT.out, wofs_snoc, Hx.out, E2.out]⟩
          case measure => simp [intOf]; omega
        · have E2 := hid (wof_out p (.inl (by omega)))
          go_wp2
          go_roundw
          case rel => exact ⟨k + 1, by omega, by go_num, by rw [HT.out, wofs_snoc, Hx.out, E2.out, wor_wz]⟩
          case measure => simp [intOf]; omega
      · by_cases h1 : p < 128
        · have e1 := of_hi x p (by omega) h1
          have E2 := hid (of_hi_lo x p (by omega))
          go_wp2
          go_roundw
          case rel => exact ⟨k + 1, by omega, by go_num, by rw [HT.out, wofs_snoc, Hx.out, E2.out]⟩
          case measure => simp [intOf]; omega
        · have E2 := hid (wof_out p (.inr (by omega)))
          go_wp2
          go_roundw
          case rel => exact ⟨k + 1, by omega, by go_num, by rw [HT.out, wofs_snoc, Hx.out, E2.out, wor_wz]⟩
          case measure => simp [intOf]; omega
    · have HT := hid (show l.take k = l from List.take_of_length_le (by have := Hn.out; omega))
      clear hc
      go_wp2
      refine bodyPost_ret (v := (.agg #[.int .u64 (hi (wofs l)), .int .u64 (lo (wofs l))])) (by rw [HT.out]; simp [results, Try.results76, go_sem]) rfl ⟨rfl, ?_⟩
      exact bl_alloc (bl_alloc (Below.refl _ _) _) _
theorem Of_one (p : Int) (b : Nat) (w : World) (hp : w.cell? ⟨b, 0, none⟩ = some (.int .i64 p)) (hb : b < w.heap.size) :
    Calls Try.prog 76 #[.slice (some ⟨b, 0, none⟩) 1 1] w fun e w' => e = .returned (.agg #[.int .u64 (hi (wof p)), .int .u64 (lo (wof p))]) ∧ Below w.heap.size w w' := by
  have h := Of_any [p] b 1 w rfl (by omega) (fun i hi => by have : i = 0 := by simpa using hi
                                                            subst this; exact hp) hb
  have e : wofs [p] = wof p := by
    have := wofs_snoc [] p
    rw [List.nil_append] at this; rw [this, wofs_nil]; apply ext; intro i hi; rw [bit_wor, bit_wz]; simp
  rw [e] at h; exact h
end Go.Proofs.Ytgiggomcpifjmaa
