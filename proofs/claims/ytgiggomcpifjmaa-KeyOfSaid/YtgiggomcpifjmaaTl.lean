/- Lists of integers that a call has made for itself: append, read, keep. A whole array stored into a new block. -/
import Derived.Test.YtgiggomcpifjmaaTa
import Derived.Maps.AppendAt
set_option linter.unusedVariables false
namespace Go.Proofs.Ytgiggomcpifjmaa
open Go Go.RowKit
theorem info_int : (Try.prog.info? 3).map (fun i => (i.zero, i.size, i.bytes)) = some (some (.int .i64 0), 1, 8) := by kernel_rfl
def Own (w : World) (base : Nat) (v : Value) (l : List Int) : Prop := w.ownsRow base 3 1 v l.length (l.map (Value.int .i64))
theorem Own.shape {w : World} {base : Nat} {v : Value} {l : List Int} (h : Own w base v l) : ∃ r cap, v = .slice r l.length cap ∧ (l ≠ [] → ∃ g, r = some ⟨g, 0, none⟩ ∧ base ≤ g ∧ g < w.heap.size ∧ ∀ i, i < l.length → w.cell? ⟨g, i, none⟩ = some (.int .i64 (l.getD i 0))) := by
  obtain ⟨h1, ⟨rfl, h2⟩ | ⟨g, cap, cur, rfl, h2, h3, h4, h5, h6, h7⟩⟩ := h
  · obtain rfl : l = [] := List.length_eq_zero_iff.1 h2
    exact ⟨none, 0, rfl, fun h => absurd rfl h⟩
  · refine ⟨_, _, rfl, fun _ => ⟨g, rfl, h2, ?_, fun i hi => ?_⟩⟩
    · rcases Nat.lt_or_ge g w.heap.size with h' | h'
      · exact h'
      · rw [Array.getElem?_eq_none h'] at h3; cases h3
    · have e : cur[i]? = some (.int .i64 (l.getD i 0)) := by
        have := congrArg (fun z => z[i]?) h7
        simp only [Nat.mul_one] at this
        rw [List.getElem?_take_of_lt hi] at this
        rw [← Array.getElem?_toList, this]
        simp [List.getD, hi]
      simp [World.cell?, h3, e]
theorem Own.kept {w w' : World} {base : Nat} {v : Value} {l : List Int} (h : Own w base v l) (hb : Below w.heap.size w w') : Own w' base v l :=
  World.ownsRow.kept h (row := none) ⟨hb.os, hb.tape, hb.output, hb.size, fun k hk _ => hb.block k hk⟩ (by cases v.ownBlock <;> simp)
theorem Own.made {w : World} {base : Nat} (hb : base ≤ w.heap.size) (T : Array Value) (hT : T.size = 0) : Own (w.alloc (.cells T 3)) base (.slice (some ⟨w.heap.size, 0, none⟩) 0 0) [] :=
  World.ownsRow_made w T 0 hb (by simp) (by simp [hT])
theorem wpList_app {ops : Array Oper} {rest : List Oper} {o : Oper} {a : Act} {Q : Exit → Act → World → Prop} {w0 : World} {e : Int} (hgd : o.guard = none) (s x : Operand)
    (ho : o.op = .call { callee := .builtin .append, args := #[s, x], argTypes := #[34, 34] })
    (base : Nat) (v : Value) (l : List Int) (hs : a.eval s = v) (hx : a.eval x = .slice (some ⟨w0.heap.size, 0, none⟩) 1 1) (hown : Own w0 base v l) (hb : base ≤ w0.heap.size) (hl : l.length ≤ 1000000)
    (h : ∀ v' w', Own w' base v' (l ++ [e]) → Below base w0 w' → (v'.ownBlock = v.ownBlock ∨ ∃ g, v'.ownBlock = some g ∧ w0.heap.size ≤ g) → (∀ u xs, Own w0 base u xs → (u.ownBlock = none ∨ u.ownBlock ≠ v.ownBlock) → Own w' base u xs) → wpList Try.prog ops Q rest (a.put o.dst v') w') :
    wpList Try.prog ops Q (o :: rest) a (w0.alloc (.cells #[.int .i64 e] 3)) := by
  obtain ⟨i0, hi, hz0, hz1, hz2⟩ := info_parts info_int
  refine wpList_append_own_at _ hgd s x 34 ho base 3 i0 (.int .i64 0) 1 8 Try.underlying34 hi hz0 hz1 hz2 rfl (by decide) v l.length (l.map (Value.int .i64)) hs (World.ownsRow.alloc hown _)
    ⟨w0.heap.size, 0, none⟩ 1 1 [.int .i64 e] hx rfl (cell_one_new _ _ _) (by simp [Value.oneCell']) (by unfold maxLen; omega) (by omega) (by simp; omega) ?_
  intro v' w' h1 h2 h3 h4
  have hB : Below base w0 (w0.alloc (.cells #[.int .i64 e] 3)) := (Below.refl _ _).alloc hb _
  refine h v' w' ?_ (hB.grown h2 (by simp; omega) fun k hk => (World.ownsRow.lt hown k hk).1) ?_ ?_
  · unfold Own; simpa using h1
  · rcases h4 with h4 | h4
    · exact .inl h4
    · exact .inr ⟨_, h4, by simp⟩
  · intro u xs hu hne
    exact World.ownsRow.kept (World.ownsRow.alloc hu _) h2 hne
theorem wpList_store_new {ops : Array Oper} {rest : List Oper} {o : Oper} {a : Act} {Q : Exit → Act → World → Prop} {P : Program} {w1 : World} (hgd : o.guard = none) (ty : TypeId) (x y : Operand) (ho : o.op = .store ty x y)
    (T : TypeId) (cs0 cells : Array Value) (hx : a.eval x = .pointer (some ⟨w1.heap.size, 0, none⟩)) (hy : a.eval y = .agg cells) (hs : cells.size = cs0.size) (hi : (P.info? ty).map (·.size) = some cells.size) (h1 : cells.all (·.oneCell') = true)
    (h : ∀ w', Below w1.heap.size w1 w' → w'.heap.size = w1.heap.size + 1 → Blk w' w1.heap.size cells → wpList P ops Q rest (a.put o.dst undef) w') :
    wpList P ops Q (o :: rest) a (w1.alloc (.cells cs0 T)) := by
  have hk : Blk (w1.alloc (.cells cs0 T)) w1.heap.size cs0 := Blk.new _ _ _
  refine wpList_store_mid hgd ty x y ho w1.heap.size 0 cells hx hy (hs ▸ hk.there) hi h1 (h _ ?_ ?_ (hk.setRow hs))
  · exact bl_setRow (bl_alloc (Below.refl _ _) _) (Nat.le_refl _) _ _
  · have : ∀ (vs : List Value) (o : Nat) (w : World), (w.setCells w1.heap.size o vs).heap.size = w.heap.size := by
      intro vs
      induction vs with
      | nil => intro o w; rfl
      | cons v vs ih => intro o w; rw [World.setCells, ih]; simp
    rw [this]; simp
theorem zc_size : Try.zeroCells89.size = 128 := by rw [zc_bits, BA_size]
theorem info_bits (f : Nat → Bool) : (Try.prog.info? 89).map (·.size) = some (BA f).size := by rw [BA_size]; kernel_rfl
end Go.Proofs.Ytgiggomcpifjmaa
