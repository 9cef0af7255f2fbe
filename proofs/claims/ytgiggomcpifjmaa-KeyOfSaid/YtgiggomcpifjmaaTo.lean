/- Arrays of 128 bools that lie in a block of their own, known whole. -/
import Derived.Test.YtgiggomcpifjmaaWo
import Derived.Deep.MidRow
import Derived.Laws.Rows
namespace Go.Proofs.Ytgiggomcpifjmaa
open Go Go.RowKit
/-- The cells of an array of 128 bools. -/
def BA (f : Nat → Bool) : Array Value := Array.ofFn (n := 128) fun i => .bool (f i)
theorem BA_size (f : Nat → Bool) : (BA f).size = 128 := by simp [BA]
theorem BA_get (f : Nat → Bool) (i : Nat) (h : i < 128) : (BA f)[i]? = some (.bool (f i)) := by simp [BA, h]
theorem BA_congr {f g : Nat → Bool} (h : ∀ i, i < 128 → f i = g i) : BA f = BA g := by
  apply Array.ext
  · simp [BA]
  · intro i h1 h2
    simp [BA] at h1 ⊢
    exact h i h1
theorem BA_set (f : Nat → Bool) (i : Nat) (b : Bool) : (BA f).setIfInBounds i (.bool b) = BA (fun j => if j = i then b else f j) := by
  unfold BA
  apply Array.ext
  · simp
  · intro j h1 h2
    rw [Array.getElem_setIfInBounds (by simpa using h1), Array.getElem_ofFn]
    by_cases e : i = j
    · subst e; simp
    · have e' : ¬ j = i := fun h => e h.symm
      simp [e, e']
theorem Blk.setb {w : World} {b : Nat} {f g : Nat → Bool} (h : Blk w b (BA f)) (i : Nat) (x : Bool) (e : ∀ j, j < 128 → (if j = i then x else f j) = g j) : Blk (w.setCell ⟨b, i, none⟩ (.bool x)) b (BA g) :=
  h.seti ((BA_set f i x).trans (BA_congr e))
theorem BA_one (f : Nat → Bool) : (BA f).all (·.oneCell') = true := by
  rw [Array.all_eq_true_iff_forall_mem]; intro v hv
  simp [BA] at hv
  obtain ⟨i, rfl⟩ := hv
  rfl
theorem blk_setCells (b : Nat) : ∀ (vs : List Value) (o : Nat) (w : World) (cs : Array Value), Blk w b cs → Blk (w.setCells b o vs) b (cs.mapIdx fun i v => if o ≤ i ∧ i < o + vs.length then vs.getD (i - o) v else v)
  | [], o, w, cs, h => by
    have e : (cs.mapIdx fun i v => if o ≤ i ∧ i < o + ([] : List Value).length then ([] : List Value).getD (i - o) v else v) = cs := by
      apply Array.ext
      · simp
      · intro i h1 h2
        simp only [Array.getElem_mapIdx, List.length_nil]
        rw [if_neg (by omega)]
    rw [e]; exact h
  | x :: vs, o, w, cs, h => by
    have k := blk_setCells b vs (o + 1) (w.setCell ⟨b, o, none⟩ x) _ (h.set o x)
    have e : ((cs.setIfInBounds o x).mapIdx fun i v => if o + 1 ≤ i ∧ i < o + 1 + vs.length then vs.getD (i - (o + 1)) v else v) = cs.mapIdx fun i v => if o ≤ i ∧ i < o + (x :: vs).length then (x :: vs).getD (i - o) v else v := by
      apply Array.ext
      · simp
      · intro i h1 h2
        simp only [Array.getElem_mapIdx, Array.getElem_setIfInBounds, List.length_cons]
        by_cases e0 : i = o
        · subst e0
          simp
          intro h; omega
        · by_cases e1 : o + 1 ≤ i ∧ i < o + 1 + vs.length
          · rw [if_pos e1, if_pos (by omega)]
            obtain ⟨k, rfl⟩ : ∃ k, i = o + 1 + k := ⟨i - (o + 1), by omega⟩
            rw [show o + 1 + k - o = k + 1 by omega, show o + 1 + k - (o + 1) = k by omega]
            simp [List.getD]
            have hk : k < vs.length := by omega
            simp [hk]
          · rw [if_neg e1, if_neg (by omega)]
            have e0' : ¬ o = i := fun h => e0 h.symm
            have hi : i < cs.size := by simpa using h1
            rw [Array.getElem_setIfInBounds hi, if_neg e0']
    rw [← e]; exact k
theorem Blk.setRow {w : World} {b : Nat} {cs cs' : Array Value} (h : Blk w b cs) (hs : cs'.size = cs.size) : Blk (w.setCells b 0 cs'.toList) b cs' := by
  have k := blk_setCells b cs'.toList 0 w cs h
  have e : (cs.mapIdx fun i v => if 0 ≤ i ∧ i < 0 + cs'.toList.length then cs'.toList.getD (i - 0) v else v) = cs' := by
    apply Array.ext
    · simp [hs]
    · intro i h1 h2
      simp at h1
      simp [h2, List.getD]
  rw [e] at k; exact k
theorem Blk.otherRow {w : World} {b : Nat} {cs : Array Value} (h : Blk w b cs) {b' : Nat} (hne : b ≠ b') : ∀ (vs : List Value) (o : Nat), Blk (w.setCells b' o vs) b cs := by
  intro vs
  induction vs generalizing w with
  | nil => intro o; exact h
  | cons x vs ih => intro o; exact ih (h.other hne x) (o + 1)
theorem bl_setRow {a w : World} (h : Below a.heap.size a w) {b : Nat} (hb : a.heap.size ≤ b) : ∀ (vs : List Value) (o : Nat), Below a.heap.size a (w.setCells b o vs) := by
  intro vs
  induction vs generalizing w with
  | nil => intro o; exact h
  | cons x vs ih => intro o; exact ih (bl_set h hb x) (o + 1)
theorem Blk.there {w : World} {b : Nat} {cs : Array Value} (h : Blk w b cs) : w.there b 0 cs.size := fun j hj => by
  rw [Nat.zero_add, h.cell j, h.frozen j]; simp [hj]
theorem Blk.range {w : World} {b : Nat} {cs : Array Value} (h : Blk w b cs) : w.rangeAt b 0 cs.toList := fun j v hv => by
  rw [Nat.zero_add, h.cell j]; simpa using hv
theorem Blk.s0 {w : World} {b : Nat} {x y : Value} (h : Blk w b #[x, y]) (u : Value) : Blk (w.setCell ⟨b, 0, none⟩ u) b #[u, y] := h.set 0 u
theorem Blk.s1 {w : World} {b : Nat} {x y : Value} (h : Blk w b #[x, y]) (u : Value) : Blk (w.setCell ⟨b, 1, none⟩ u) b #[x, u] := h.set 1 u
/-- One result, which lies in a variable. -/
theorem results_cell {P : Program} {fn : Func} {tmps : Array Value} {w : World} {a : Nat} {t : TypeId} {ad : Addr} {v : Value}
    (hr : fn.results = #[.cell a t]) (ht : tmps.getD a undef = .pointer (some ad)) (hl : (loadVar t ad).run P w = .ok v w) : (results fn tmps).run P w = .ok v w := by
  unfold results
  rw [hr]
  have ht' : tmps[a]?.getD undef = .pointer (some ad) := by simpa using ht
  simp [Sem.run_bind, ht', asAddr, hl]
end Go.Proofs.Ytgiggomcpifjmaa
