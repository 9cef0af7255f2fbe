/- append of one integer, at an operation of a region that draws its order; plays of a slice of one's own. -/
import Derived.Test.YtgiggomcpifjmaaTl
import Derived.Test.YtgiggomcpifjmaaRs
import Derived.Test.YtgiggomcpifjmaaPd
import Derived.Test.YtgiggomcpifjmaaLa
import Derived.Test.YtgiggomcpifjmaaQb
set_option linter.unusedVariables false
namespace Go.Proofs.Ytgiggomcpifjmaa
open Go Go.RowKit Plm
theorem playS_ne (bw bh : Int) (l : List Int) : ∀ t : St, (playS bw bh t l).2.2 ≠ 10 := by
  induction l with
  | nil => intro t; show (0 : Int) ≠ 10; decide
  | cons x l ih =>
    intro t
    rw [playS]
    split
    · exact ih _
    · show canS bw bh t x ≠ 10
      unfold canS canP; split
      · decide
      · split
        · decide
        · split <;> decide
theorem step_if {b : Bool} {p q : Prop} (hb : b = true) (h : p) : if b = true then p else q := by rw [if_pos hb]; exact h
theorem wp_app {o : Oper} {a : Act} {K : Act → World → Prop} {Q : Exit → Act → World → Prop} {w0 : World} {e : Int} (s x : Operand)
    (ho : o.op = .call { callee := .builtin .append, args := #[s, x], argTypes := #[34, 34] })
    (base : Nat) (v : Value) (l : List Int) (hs : a.eval s = v) (hx : a.eval x = .slice (some ⟨w0.heap.size, 0, none⟩) 1 1) (hown : Own w0 base v l) (hb : base ≤ w0.heap.size) (hl : l.length ≤ 1000000)
    (h : ∀ v' w', Own w' base v' (l ++ [e]) → Below base w0 w' → (v'.ownBlock = v.ownBlock ∨ ∃ g, v'.ownBlock = some g ∧ w0.heap.size ≤ g) → (∀ u xs, Own w0 base u xs → (u.ownBlock = none ∨ u.ownBlock ≠ v.ownBlock) → Own w' base u xs) → K (a.put o.dst v') w') :
    Oper.wp Try.prog o a (w0.alloc (.cells #[.int .i64 e] 3)) K Q := by
  obtain ⟨i0, hi, hz0, hz1, hz2⟩ := info_parts info_int
  have hB : Below base w0 (w0.alloc (.cells #[.int .i64 e] 3)) := (Below.refl _ _).alloc hb _
  obtain ⟨v', w', hr, h1, h2, h3, h4⟩ := run_append_own_at (P := Try.prog) (w0.alloc (.cells #[.int .i64 e] 3)) base 34 o.type 3 i0 (.int .i64 0) 1 8 Try.underlying34 hi hz0 hz1 hz2 rfl (by decide) v l.length (l.map (Value.int .i64)) (World.ownsRow.alloc hown _)
    ⟨w0.heap.size, 0, none⟩ 1 1 [.int .i64 e] rfl (cell_one_new _ _ _) (by simp [Value.oneCell']) (by unfold maxLen; omega) (by omega) (by simp; omega)
  unfold Oper.wp execOp
  simp only [ho, resolve, invoke, builtin, Sem.run_bind, Sem.run_pure, Result.andThen_ok, List.map_toArray, List.map_cons, List.map_nil, hs, hx, hr]
  refine h v' w' ?_ (hB.grown h2 (by simp; omega) fun k hk => (World.ownsRow.lt hown k hk).1) ?_ ?_
  · unfold Own; simpa using h1
  · rcases h4 with h4 | h4
    · exact .inl h4
    · exact .inr ⟨_, h4, by simp⟩
  · intro u xs hu hne
    exact World.ownsRow.kept (World.ownsRow.alloc hu _) h2 hne
/-- From, of a list that the call has made. -/
theorem From_own (bw bh : Int) (hm : mayB bw bh = true) (l : List Int) (base : Nat) (v : Value) (w : World) (hown : Own w base v l) (hlen : l.length ≤ 1000000) :
    Calls Try.prog 18 #[.agg #[.int .i64 bw, .int .i64 bh], v] w fun e w' => e = .returned (.tuple #[.agg #[.int .i64 bw, .int .i64 bh, .int .u64 (hi (wfull bw bh)), .int .u64 (lo (wfull bw bh)), .int .u64 (hi (wbot bw bh)), .int .u64 (lo (wbot bw bh)), .int .u64 (hi ((playS bw bh st0 l).1.m)), .int .u64 (lo ((playS bw bh st0 l).1.m)), .int .u64 (hi ((playS bw bh st0 l).1.s)), .int .u64 (lo ((playS bw bh st0 l).1.s)), .int .i64 ((playS bw bh st0 l).1.n), .bool ((playS bw bh st0 l).1.won)], .int .i64 (playS bw bh st0 l).2.1, .int .i64 (playS bw bh st0 l).2.2]) ∧ Below w.heap.size w w' := by
  obtain ⟨r, cap, rfl, hc⟩ := hown.shape
  by_cases h0 : l = []
  · subst h0; exact From_nil bw bh hm r cap w
  · obtain ⟨g, rfl, _, hg, hcell⟩ := hc h0
    exact From_some bw bh hm l g 0 l.length cap w rfl (by omega) hg fun i hi => by rw [Nat.zero_add]; exact hcell i hi
/-- A slice of integers that came in, read as a list. -/
def SlIs (w : World) (r : Option Addr) (n : Nat) (l : List Int) : Prop := l.length = n ∧ (n ≠ 0 → ∃ b o, r = some ⟨b, o, none⟩ ∧ b < w.heap.size ∧ ∀ i, i < n → w.cell? ⟨b, o + i, none⟩ = some (.int .i64 (l.getD i 0)))
theorem SlIs_of (r : Option Addr) (n c : Nat) (W : World) (h : n ≠ 0 → ∃ zs, IsRow .i64 W r n c zs) : ∃ l, SlIs W r n l := by
  by_cases h0 : n = 0
  · exact ⟨[], by simp [h0], fun h => absurd h0 h⟩
  · obtain ⟨zs, ⟨rfl, rfl, rfl, rfl⟩ | ⟨b, o, rfl, hl, hmx, hz, hcell, hlt⟩⟩ := h h0
    · exact absurd rfl h0
    · refine ⟨zs.take n, by simp; omega, fun _ => ⟨b, o, rfl, hlt, fun i hi => ?_⟩⟩
      rw [hcell i (by omega)]
      simp [List.getD, List.getElem?_take, hi]
theorem From_sl (bw bh : Int) (hm : mayB bw bh = true) (r : Option Addr) (n c : Nat) (l : List Int) (W w : World) (hs : SlIs W r n l) (hn : n ≤ 90) (hb : Below W.heap.size W w) :
    Calls Try.prog 18 #[.agg #[.int .i64 bw, .int .i64 bh], .slice r n c] w fun e w' => e = .returned (.tuple #[.agg #[.int .i64 bw, .int .i64 bh, .int .u64 (hi (wfull bw bh)), .int .u64 (lo (wfull bw bh)), .int .u64 (hi (wbot bw bh)), .int .u64 (lo (wbot bw bh)), .int .u64 (hi ((playS bw bh st0 l).1.m)), .int .u64 (lo ((playS bw bh st0 l).1.m)), .int .u64 (hi ((playS bw bh st0 l).1.s)), .int .u64 (lo ((playS bw bh st0 l).1.s)), .int .i64 ((playS bw bh st0 l).1.n), .bool ((playS bw bh st0 l).1.won)], .int .i64 (playS bw bh st0 l).2.1, .int .i64 (playS bw bh st0 l).2.2]) ∧ Below w.heap.size w w' := by
  obtain ⟨h1, h2⟩ := hs
  by_cases h0 : n = 0
  · subst h0
    obtain rfl : l = [] := List.length_eq_zero_iff.1 h1
    exact From_nil bw bh hm r c w
  · obtain ⟨b, o, rfl, hlt, hcell⟩ := h2 h0
    exact From_some bw bh hm l b o n c w h1.symm (by omega) (Nat.lt_of_lt_of_le hlt hb.size) fun i hi => by
      rw [hb.cell (p := ⟨b, o + i, none⟩) hlt]; exact hcell i (by omega)
theorem play_len0 (bw bh : Int) (l : List Int) : ∀ t : St, ∃ n : Nat, (playS bw bh t l).2.1 = (n : Int) := by
  induction l with
  | nil => intro t; exact ⟨0, rfl⟩
  | cons x l ih =>
    intro t; rw [playS]; split
    · obtain ⟨n, h2⟩ := ih (stepS bw bh t x)
      exact ⟨n + 1, by show (playS bw bh (stepS bw bh t x) l).2.1 + 1 = _; rw [h2]; omega⟩
    · exact ⟨0, rfl⟩
theorem play_legal (bw bh : Int) (l : List Int) : ∀ (t : St) (n : Nat), (playS bw bh t l).2.1 = (n : Int) → n ≤ l.length ∧ ∀ i, i < n → 0 ≤ l.getD i 0 ∧ l.getD i 0 < bw := by
  induction l with
  | nil => intro t n hn; have : (playS bw bh t []).2.1 = 0 := rfl; exact ⟨by simp; omega, fun i hi => by omega⟩
  | cons x l ih =>
    intro t n hn
    rw [playS] at hn
    split at hn
    · rename_i hc
      have hc' := canS_room hc
      obtain ⟨k, hk⟩ := play_len0 bw bh l (stepS bw bh t x)
      simp only at hn
      obtain ⟨h1, h2⟩ := ih (stepS bw bh t x) k hk
      refine ⟨by simp; omega, fun i hi => ?_⟩
      cases i with
      | zero => simp; exact hc'.2
      | succ i => simpa using h2 i (by omega)
    · simp only at hn
      exact ⟨by simp; omega, fun i hi => by omega⟩
end Go.Proofs.Ytgiggomcpifjmaa
