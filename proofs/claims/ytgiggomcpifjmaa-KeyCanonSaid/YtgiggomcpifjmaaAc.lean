/- The walk of the law KeyApart, whole. -/
import Derived.Test.YtgiggomcpifjmaaAb
import Derived.Test.YtgiggomcpifjmaaRs
set_option linter.unusedVariables false
namespace Go.Proofs.Ytgiggomcpifjmaa
open Go.RowKit Plm
/-- A slice of at most 90 moves: From plays them, now and later. -/
theorem FromIs_of (bw bh : Int) (hm : mayB bw bh = true) (r : Option Addr) (n c : Nat) (hn : n ≤ 90) (W : World) (h : n ≠ 0 → ∃ zs, IsRow .i64 W r n c zs) : ∃ l, FromIs bw bh (.slice r n c) l W := by
  by_cases h0 : n = 0
  · subst h0
    exact ⟨[], fun w' hb => From_nil bw bh hm r c w'⟩
  · obtain ⟨zs, ⟨rfl, rfl, rfl, rfl⟩ | ⟨b, o, rfl, hl, hmx, hz, hcell, hlt⟩⟩ := h h0
    · exact absurd rfl h0
    · refine ⟨zs.take n, fun w' hb => From_some bw bh hm (zs.take n) b o n c w' (by simp; omega) (by omega) (Nat.lt_of_lt_of_le hlt hb.size) fun i hi => ?_⟩
      have hi' : i < n := by simp at hi; omega
      rw [hb.cell (p := ⟨b, o + i, none⟩) hlt, hcell i (by omega)]
      simp [List.getD, List.getElem?_take, hi']
theorem playS_ne (bw bh : Int) (l : List Int) : ∀ t : St, (playS bw bh t l).2.2 ≠ 10 := by
  induction l with
  | nil => intro t; show (0 : Int) ≠ 10; decide
  | cons x l ih =>
    intro t
    rw [playS]
    split
    · exact ih _
    · show canS bw bh t x ≠ 10
      unfold canS canP; split
      · decide
      · split
        · decide
        · split <;> decide
theorem KeyApart_walk (bw bh : Int) (r1 : Option Addr) (n1 c1 : Nat) {W : World} (g1 : n1 ≠ 0 → ∃ zs, IsRow .i64 W r1 n1 c1 zs) (r2 : Option Addr) (n2 c2 : Nat) (g2 : n2 ≠ 0 → ∃ zs, IsRow .i64 W r2 n2 c2 zs) (w : World) (hw : w = W) :
    Calls Try.prog 4 #[.agg #[.int .i64 bw, .int .i64 bh], .slice r1 n1 c1, .slice r2 n2 c2] w fun e w' => e = .returned (.bool true) ∧ Below w.heap.size w w' := by
  subst hw
  by_cases h : 90 < n1 ∨ 90 < n2
  · exact KeyApart_long bw bh r1 r2 n1 c1 n2 c2 h w
  · have h1 : n1 ≤ 90 := by omega
    have h2 : n2 ≤ 90 := by omega
    cases hm : mayB bw bh with
    | false => exact KeyApart_no bw bh hm r1 r2 n1 c1 n2 c2 h1 h2 w
    | true =>
      obtain ⟨l, k1⟩ := FromIs_of bw bh hm r1 n1 c1 h1 w g1
      obtain ⟨l', k2⟩ := FromIs_of bw bh hm r2 n2 c2 h2 w g2
      exact KeyApart_yes bw bh hm r1 r2 n1 c1 n2 c2 h1 h2 l l' w k1 k2 (playS_ne bw bh l st0)
end Go.Proofs.Ytgiggomcpifjmaa
