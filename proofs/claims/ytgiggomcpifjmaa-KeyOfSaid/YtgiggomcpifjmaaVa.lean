/- Lists of cells that a call has made for itself; the reference's Place. The reference's Or and Set. The reference's Set. -/
import Derived.Test.YtgiggomcpifjmaaUo
import Derived.Test.YtgiggomcpifjmaaTd
import Derived.Test.YtgiggomcpifjmaaTn
set_option linter.unusedVariables false
set_option linter.unusedSimpArgs false

namespace Go.Proofs.Ytgiggomcpifjmaa
open Go Go.RowKit
attribute [local go_sem ↓] Go.wp_at_zero Go.wp_at_succ
theorem info_cell : (Try.prog.info? 140).map (fun i => (i.zero, i.size, i.bytes)) = some (some (.agg #[.int .i64 0, .int .i64 0]), 2, 16) := by kernel_rfl
def flat : List (Int × Int) → List Value
  | [] => []
  | p :: l => .int .i64 p.1 :: .int .i64 p.2 :: flat l
theorem flat_len : ∀ l : List (Int × Int), (flat l).length = l.length * 2
  | [] => rfl
  | p :: l => by rw [flat, List.length_cons, List.length_cons, flat_len l, List.length_cons]; omega
theorem flat_app : ∀ (l m : List (Int × Int)), flat (l ++ m) = flat l ++ flat m
  | [], m => rfl
  | p :: l, m => by rw [List.cons_append, flat, flat, flat_app l m]; rfl
theorem flat_get : ∀ (l : List (Int × Int)) (i : Nat) (h : i < l.length), (flat l)[i * 2]? = some (.int .i64 l[i].1) ∧ (flat l)[i * 2 + 1]? = some (.int .i64 l[i].2)
  | p :: l, 0, _ => ⟨rfl, rfl⟩
  | p :: l, i + 1, h => by
    have := flat_get l i (by simpa using h)
    rw [flat, show (i + 1) * 2 = i * 2 + 1 + 1 by omega, show i * 2 + 1 + 1 + 1 = (i * 2 + 1) + 1 + 1 by omega]
    simpa using this
def OwnC (w : World) (base : Nat) (v : Value) (l : List (Int × Int)) : Prop := w.ownsRow base 140 2 v l.length (flat l)
theorem OwnC.shape {w : World} {base : Nat} {v : Value} {l : List (Int × Int)} (h : OwnC w base v l) : ∃ r cap, v = .slice r l.length cap ∧ (l ≠ [] → ∃ g, r = some ⟨g, 0, none⟩ ∧ g < w.heap.size ∧ ∀ i (hi : i < l.length), w.cell? ⟨g, i * 2, none⟩ = some (.int .i64 l[i].1) ∧ w.cell? ⟨g, i * 2 + 1, none⟩ = some (.int .i64 l[i].2)) := by
  obtain ⟨h1, ⟨rfl, h2⟩ | ⟨g, cap, cur, rfl, h2, h3, h4, h5, h6, h7⟩⟩ := h
  · obtain rfl : l = [] := List.length_eq_zero_iff.1 h2
    exact ⟨none, 0, rfl, fun h => absurd rfl h⟩
  · refine ⟨_, _, rfl, fun _ => ⟨g, rfl, ?_, fun i hi => ?_⟩⟩
    · rcases Nat.lt_or_ge g w.heap.size with h' | h'
      · exact h'
      · rw [Array.getElem?_eq_none h'] at h3; cases h3
    · have hg := flat_get l i hi
      have e : ∀ j, j < l.length * 2 → cur[j]? = (flat l)[j]? := fun j hj => by
        have this : (cur.toList.take (l.length * 2))[j]? = (flat l)[j]? := by rw [h7]
        rw [List.getElem?_take_of_lt hj] at this
        rw [← Array.getElem?_toList, this]
      have a1 := (e (i * 2) (by omega)).trans hg.1
      have a2 := (e (i * 2 + 1) (by omega)).trans hg.2
      constructor
      · simp [World.cell?, h3, a1]
      · simp [World.cell?, h3, a2]
theorem OwnC.kept {w w' : World} {base : Nat} {v : Value} {l : List (Int × Int)} (h : OwnC w base v l) (hb : Below w.heap.size w w') : OwnC w' base v l :=
  World.ownsRow.kept h (row := none) ⟨hb.os, hb.tape, hb.output, hb.size, fun k hk _ => hb.block k hk⟩ (by cases v.ownBlock <;> simp)
theorem OwnC.made {w : World} {base : Nat} (hb : base ≤ w.heap.size) (T : Array Value) (hT : T.size = 0) : OwnC (w.alloc (.cells T 140)) base (.slice (some ⟨w.heap.size, 0, none⟩) 0 0) [] :=
  World.ownsRow_made w T 0 hb (by simp) (by simp [hT])
theorem cell_two_news (w : World) (x y : Value) (t : TypeId) : ∀ j u, [x, y][j]? = some u → (w.alloc (.cells #[x, y] t)).cell? ((⟨w.heap.size, 0, none⟩ : Addr).add j) = some u := by
  intro j u h
  have hk : Blk (w.alloc (.cells #[x, y] t)) w.heap.size #[x, y] := Blk.new _ _ _
  rw [Addr.add_mid, Nat.zero_add, hk.cell j]
  simpa using h
theorem wpList_appC {ops : Array Oper} {rest : List Oper} {o : Oper} {a : Act} {Q : Exit → Act → World → Prop} {w0 : World} {e1 e2 : Int} (hgd : o.guard = none) (s x : Operand)
    (ho : o.op = .call { callee := .builtin .append, args := #[s, x], argTypes := #[138, 138] })
    (base : Nat) (v : Value) (l : List (Int × Int)) (hs : a.eval s = v) (hx : a.eval x = .slice (some ⟨w0.heap.size, 0, none⟩) 1 1) (hown : OwnC w0 base v l) (hb : base ≤ w0.heap.size) (hl : l.length ≤ 1000000)
    (h : ∀ v' w', OwnC w' base v' (l ++ [(e1, e2)]) → Below base w0 w' → wpList Try.prog ops Q rest (a.put o.dst v') w') :
    wpList Try.prog ops Q (o :: rest) a (w0.alloc (.cells #[.int .i64 e1, .int .i64 e2] 140)) := by
  obtain ⟨i0, hi, hz0, hz1, hz2⟩ := info_parts info_cell
  refine wpList_append_own_at _ hgd s x 138 ho base 140 i0 (.agg #[.int .i64 0, .int .i64 0]) 2 16 Try.underlying138 hi hz0 hz1 hz2 rfl (by decide) v l.length (flat l) hs (World.ownsRow.alloc hown _)
    ⟨w0.heap.size, 0, none⟩ 1 1 [.int .i64 e1, .int .i64 e2] hx rfl (cell_two_news _ _ _ _) (by simp [Value.oneCell']) (by unfold maxLen; omega) (by omega) (by simp; omega) ?_
  intro v' w' h1 h2 h3 h4
  have hB : Below base w0 (w0.alloc (.cells #[.int .i64 e1, .int .i64 e2] 140)) := (Below.refl _ _).alloc hb _
  refine h v' w' ?_ (hB.grown h2 (by simp; omega) fun k hk => (World.ownsRow.lt hown k hk).1)
  unfold OwnC
  rw [flat_app]; simpa [flat] using h1
set_option maxHeartbeats 400000 in
theorem rPlace_any (bw bh x y : Int) (hb : 0 ≤ bh) (hb' : bh ≤ 8) (hx : 0 ≤ x) (hx' : x ≤ 8) (hy : 0 ≤ y) (hy' : y ≤ 8) (w : World) :
    Calls Try.prog 109 #[.agg #[.int .i64 bw, .int .i64 bh], .agg #[.int .i64 x, .int .i64 y]] w fun e w' => e = .returned (.int .i64 (x * (bh + 1) + y)) ∧ Below w.heap.size w w' := by
  have p0 : 0 ≤ x * (bh + 1) := Int.mul_nonneg hx (by omega)
  have p1 : x * (bh + 1) ≤ 8 * 9 := Int.mul_le_mul hx' (by omega) (by omega) (by omega)
  have s1 : IntKind.i64.wrap (bh + 1) = bh + 1 := wr64 (by omega) (by omega)
  have s2 : IntKind.i64.wrap (x * (bh + 1)) = x * (bh + 1) := wr64 (by omega) (by omega)
  have s3 : IntKind.i64.wrap (x * (bh + 1) + y) = x * (bh + 1) + y := wr64 (by omega) (by omega)
  go_enter Try.func109, Try.ntmps109
  go_wp2
  go_ret
  exact ⟨rfl, (by repeat (first | (with_reducible exact Below.refl _ _) | (with_reducible assumption) | (with_reducible refine bl_alloc ?_ _) | (with_reducible refine bl_drew ?_) | (with_reducible refine bl_drewN ?_ _) | ((with_reducible refine bl_set ?_ ?_ _); rotate_left; (focus (first | omega | (simp; done) | (simp; omega)))) | (with_reducible refine bl_trans ?_ (by assumption))))⟩
end Go.Proofs.Ytgiggomcpifjmaa

namespace Go.Proofs.Ytgiggomcpifjmaa
open Go Go.RowKit Plm
attribute [local go_sem ↓] Go.wp_at_zero Go.wp_at_succ
def orF (a b : W) (k j : Nat) : Bool := if j < k then bit a j || bit b j else bit a j
set_option maxRecDepth 100000 in
set_option maxHeartbeats 1000000 in
theorem rOr_any (a b : W) (w : World) : Calls Try.prog 56 #[(.agg #[.int .u64 (hi a), .int .u64 (lo a)]), (.agg #[.int .u64 (hi b), .int .u64 (lo b)])] w fun e w' => e = .returned (.agg #[.int .u64 (hi (wor a b)), .int .u64 (lo (wor a b))]) ∧ Below w.heap.size w w' := by
  
  go_enter Try.func56, Try.ntmps56
  go_wp2_with (first | (go_at_call 47; (with_reducible refine (rOf_any a _).mono ?_); rintro e_ w1 ⟨rfl, hb1⟩; obtain ⟨hc1, hf1⟩ := bcell hb1; have hz1 := hb1.size; (try simp at hz1); have k1_0 : Blk w1 (w.heap.size) #[.int .u64 (hi a), .int .u64 (lo a)] := Blk.bl (by repeat (first | (with_reducible assumption) | ((with_reducible refine Blk.new' ?_ _ _); (first | rfl | (simp; done))) | (with_reducible apply Blk.set2) | (with_reducible apply Blk.set1) | ((with_reducible refine Blk.other ?_ ?_ _); rotate_left; (focus (first | omega | (simp; done) | (simp; omega)))) | (with_reducible refine Blk.alloc ?_ _) | (with_reducible refine Blk.drew ?_) | (with_reducible refine Blk.drewN ?_ _) | (with_reducible refine Blk.bl ?_ (by assumption)) | (with_reducible apply Blk.seti) | rfl)) hb1; have c1_0 := k1_0.cell; have f1_0 := k1_0.frozen; have l1_0 := k1_0.lt; have k1_1 : Blk w1 (w.heap.size + 1) #[.int .u64 (hi b), .int .u64 (lo b)] := Blk.bl (by repeat (first | (with_reducible assumption) | ((with_reducible refine Blk.new' ?_ _ _); (first | rfl | (simp; done))) | (with_reducible apply Blk.set2) | (with_reducible apply Blk.set1) | ((with_reducible refine Blk.other ?_ ?_ _); rotate_left; (focus (first | omega | (simp; done) | (simp; omega)))) | (with_reducible refine Blk.alloc ?_ _) | (with_reducible refine Blk.drew ?_) | (with_reducible refine Blk.drewN ?_ _) | (with_reducible refine Blk.bl ?_ (by assumption)) | (with_reducible apply Blk.seti) | rfl)) hb1; have c1_1 := k1_1.cell; have f1_1 := k1_1.frozen; have l1_1 := k1_1.lt; have k1_2 : Blk w1 (w.heap.size + 1 + 1) #[.int .u64 0, .int .u64 0] := Blk.bl (by repeat (first | (with_reducible assumption) | ((with_reducible refine Blk.new' ?_ _ _); (first | rfl | (simp; done))) | (with_reducible apply Blk.set2) | (with_reducible apply Blk.set1) | ((with_reducible refine Blk.other ?_ ?_ _); rotate_left; (focus (first | omega | (simp; done) | (simp; omega)))) | (with_reducible refine Blk.alloc ?_ _) | (with_reducible refine Blk.drew ?_) | (with_reducible refine Blk.drewN ?_ _) | (with_reducible refine Blk.bl ?_ (by assumption)) | (with_reducible apply Blk.seti) | rfl)) hb1; have c1_2 := k1_2.cell; have f1_2 := k1_2.frozen; have l1_2 := k1_2.lt) | ((refine wpList_store_new rfl 89 _ _ rfl _ _ _ rfl rfl ?_ (info_bits _) (BA_one _) ?_); (focus (rw [BA_size, zc_size])); intro w2 hb2 hz2 ka; have HZ2 := hid hz2; clear hz2; obtain ⟨hc2, hf2⟩ := bcell hb2; have hz2 := hb2.size; (try simp at hz2); have k2_0 : Blk w2 (w.heap.size) #[.int .u64 (hi a), .int .u64 (lo a)] := Blk.bl (by repeat (first | (with_reducible assumption) | ((with_reducible refine Blk.new' ?_ _ _); (first | rfl | (simp; done))) | (with_reducible apply Blk.set2) | (with_reducible apply Blk.set1) | ((with_reducible refine Blk.other ?_ ?_ _); rotate_left; (focus (first | omega | (simp; done) | (simp; omega)))) | (with_reducible refine Blk.alloc ?_ _) | (with_reducible refine Blk.drew ?_) | (with_reducible refine Blk.drewN ?_ _) | (with_reducible refine Blk.bl ?_ (by assumption)) | (with_reducible apply Blk.seti) | rfl)) hb2; have c2_0 := k2_0.cell; have f2_0 := k2_0.frozen; have l2_0 := k2_0.lt; have k2_1 : Blk w2 (w.heap.size + 1) #[.int .u64 (hi b), .int .u64 (lo b)] := Blk.bl (by repeat (first | (with_reducible assumption) | ((with_reducible refine Blk.new' ?_ _ _); (first | rfl | (simp; done))) | (with_reducible apply Blk.set2) | (with_reducible apply Blk.set1) | ((with_reducible refine Blk.other ?_ ?_ _); rotate_left; (focus (first | omega | (simp; done) | (simp; omega)))) | (with_reducible refine Blk.alloc ?_ _) | (with_reducible refine Blk.drew ?_) | (with_reducible refine Blk.drewN ?_ _) | (with_reducible refine Blk.bl ?_ (by assumption)) | (with_reducible apply Blk.seti) | rfl)) hb2; have c2_1 := k2_1.cell; have f2_1 := k2_1.frozen; have l2_1 := k2_1.lt; have k2_2 : Blk w2 (w.heap.size + 1 + 1) #[.int .u64 0, .int .u64 0] := Blk.bl (by repeat (first | (with_reducible assumption) | ((with_reducible refine Blk.new' ?_ _ _); (first | rfl | (simp; done))) | (with_reducible apply Blk.set2) | (with_reducible apply Blk.set1) | ((with_reducible refine Blk.other ?_ ?_ _); rotate_left; (focus (first | omega | (simp; done) | (simp; omega)))) | (with_reducible refine Blk.alloc ?_ _) | (with_reducible refine Blk.drew ?_) | (with_reducible refine Blk.drewN ?_ _) | (with_reducible refine Blk.bl ?_ (by assumption)) | (with_reducible apply Blk.seti) | rfl)) hb2; have c2_2 := k2_2.cell; have f2_2 := k2_2.frozen; have l2_2 := k2_2.lt))
  
  (go_at_call 47; (with_reducible refine (rOf_any b _).mono ?_); rintro e_ w3 ⟨rfl, hb3⟩; obtain ⟨hc3, hf3⟩ := bcell hb3; have hz3 := hb3.size; (try simp at hz3); have k3_0 : Blk w3 (w.heap.size) #[.int .u64 (hi a), .int .u64 (lo a)] := Blk.bl (by repeat (first | (with_reducible assumption) | ((with_reducible refine Blk.new' ?_ _ _); (first | rfl | (simp; done))) | (with_reducible apply Blk.set2) | (with_reducible apply Blk.set1) | ((with_reducible refine Blk.other ?_ ?_ _); rotate_left; (focus (first | omega | (simp; done) | (simp; omega)))) | (with_reducible refine Blk.alloc ?_ _) | (with_reducible refine Blk.drew ?_) | (with_reducible refine Blk.drewN ?_ _) | (with_reducible refine Blk.bl ?_ (by assumption)) | (with_reducible apply Blk.seti) | rfl)) hb3; have c3_0 := k3_0.cell; have f3_0 := k3_0.frozen; have l3_0 := k3_0.lt; have k3_1 : Blk w3 (w.heap.size + 1) #[.int .u64 (hi b), .int .u64 (lo b)] := Blk.bl (by repeat (first | (with_reducible assumption) | ((with_reducible refine Blk.new' ?_ _ _); (first | rfl | (simp; done))) | (with_reducible apply Blk.set2) | (with_reducible apply Blk.set1) | ((with_reducible refine Blk.other ?_ ?_ _); rotate_left; (focus (first | omega | (simp; done) | (simp; omega)))) | (with_reducible refine Blk.alloc ?_ _) | (with_reducible refine Blk.drew ?_) | (with_reducible refine Blk.drewN ?_ _) | (with_reducible refine Blk.bl ?_ (by assumption)) | (with_reducible apply Blk.seti) | rfl)) hb3; have c3_1 := k3_1.cell; have f3_1 := k3_1.frozen; have l3_1 := k3_1.lt; have k3_2 : Blk w3 (w.heap.size + 1 + 1) #[.int .u64 0, .int .u64 0] := Blk.bl (by repeat (first | (with_reducible assumption) | ((with_reducible refine Blk.new' ?_ _ _); (first | rfl | (simp; done))) | (with_reducible apply Blk.set2) | (with_reducible apply Blk.set1) | ((with_reducible refine Blk.other ?_ ?_ _); rotate_left; (focus (first | omega | (simp; done) | (simp; omega)))) | (with_reducible refine Blk.alloc ?_ _) | (with_reducible refine Blk.drew ?_) | (with_reducible refine Blk.drewN ?_ _) | (with_reducible refine Blk.bl ?_ (by assumption)) | (with_reducible apply Blk.seti) | rfl)) hb3; have c3_2 := k3_2.cell; have f3_2 := k3_2.frozen; have l3_2 := k3_2.lt; have k3_3 : Blk w3 (w1.heap.size) (BA (bit a)) := Blk.bl (by repeat (first | (with_reducible assumption) | ((with_reducible refine Blk.new' ?_ _ _); (first | rfl | (simp; done))) | (with_reducible apply Blk.set2) | (with_reducible apply Blk.set1) | ((with_reducible refine Blk.other ?_ ?_ _); rotate_left; (focus (first | omega | (simp; done) | (simp; omega)))) | (with_reducible refine Blk.alloc ?_ _) | (with_reducible refine Blk.drew ?_) | (with_reducible refine Blk.drewN ?_ _) | (with_reducible refine Blk.bl ?_ (by assumption)) | (with_reducible apply Blk.seti) | rfl)) hb3; have c3_3 := k3_3.cell; have f3_3 := k3_3.frozen; have l3_3 := k3_3.lt)
  go_wp2_with ((refine wpList_store_new rfl 89 _ _ rfl _ _ _ rfl rfl ?_ (info_bits _) (BA_one _) ?_); (focus (rw [BA_size, zc_size])); intro w4 hb4 hz4 kb; have HZ4 := hid hz4; clear hz4; obtain ⟨hc4, hf4⟩ := bcell hb4; have hz4 := hb4.size; (try simp at hz4); have k4_0 : Blk w4 (w.heap.size) #[.int .u64 (hi a), .int .u64 (lo a)] := Blk.bl (by repeat (first | (with_reducible assumption) | ((with_reducible refine Blk.new' ?_ _ _); (first | rfl | (simp; done))) | (with_reducible apply Blk.set2) | (with_reducible apply Blk.set1) | ((with_reducible refine Blk.other ?_ ?_ _); rotate_left; (focus (first | omega | (simp; done) | (simp; omega)))) | (with_reducible refine Blk.alloc ?_ _) | (with_reducible refine Blk.drew ?_) | (with_reducible refine Blk.drewN ?_ _) | (with_reducible refine Blk.bl ?_ (by assumption)) | (with_reducible apply Blk.seti) | rfl)) hb4; have c4_0 := k4_0.cell; have f4_0 := k4_0.frozen; have l4_0 := k4_0.lt; have k4_1 : Blk w4 (w.heap.size + 1) #[.int .u64 (hi b), .int .u64 (lo b)] := Blk.bl (by repeat (first | (with_reducible assumption) | ((with_reducible refine Blk.new' ?_ _ _); (first | rfl | (simp; done))) | (with_reducible apply Blk.set2) | (with_reducible apply Blk.set1) | ((with_reducible refine Blk.other ?_ ?_ _); rotate_left; (focus (first | omega | (simp; done) | (simp; omega)))) | (with_reducible refine Blk.alloc ?_ _) | (with_reducible refine Blk.drew ?_) | (with_reducible refine Blk.drewN ?_ _) | (with_reducible refine Blk.bl ?_ (by assumption)) | (with_reducible apply Blk.seti) | rfl)) hb4; have c4_1 := k4_1.cell; have f4_1 := k4_1.frozen; have l4_1 := k4_1.lt; have k4_2 : Blk w4 (w.heap.size + 1 + 1) #[.int .u64 0, .int .u64 0] := Blk.bl (by repeat (first | (with_reducible assumption) | ((with_reducible refine Blk.new' ?_ _ _); (first | rfl | (simp; done))) | (with_reducible apply Blk.set2) | (with_reducible apply Blk.set1) | ((with_reducible refine Blk.other ?_ ?_ _); rotate_left; (focus (first | omega | (simp; done) | (simp; omega)))) | (with_reducible refine Blk.alloc ?_ _) | (with_reducible refine Blk.drew ?_) | (with_reducible refine Blk.drewN ?_ _) | (with_reducible refine Blk.bl ?_ (by assumption)) | (with_reducible apply Blk.seti) | rfl)) hb4; have c4_2 := k4_2.cell; have f4_2 := k4_2.frozen; have l4_2 := k4_2.lt; have k4_3 : Blk w4 (w1.heap.size) (BA (bit a)) := Blk.bl (by repeat (first | (with_reducible assumption) | ((with_reducible refine Blk.new' ?_ _ _); (first | rfl | (simp; done))) | (with_reducible apply Blk.set2) | (with_reducible apply Blk.set1) | ((with_reducible refine Blk.other ?_ ?_ _); rotate_left; (focus (first | omega | (simp; done) | (simp; omega)))) | (with_reducible refine Blk.alloc ?_ _) | (with_reducible refine Blk.drew ?_) | (with_reducible refine Blk.drewN ?_ _) | (with_reducible refine Blk.bl ?_ (by assumption)) | (with_reducible apply Blk.seti) | rfl)) hb4; have c4_3 := k4_3.cell; have f4_3 := k4_3.frozen; have l4_3 := k4_3.lt)
  have hB4 : Below w.heap.size w w4 := (by repeat (first | (with_reducible exact Below.refl _ _) | (with_reducible assumption) | (with_reducible refine bl_alloc ?_ _) | (with_reducible refine bl_drew ?_) | (with_reducible refine bl_drewN ?_ _) | ((with_reducible refine bl_set ?_ ?_ _); rotate_left; (focus (first | omega | (simp; done) | (simp; omega)))) | (with_reducible refine bl_trans ?_ (by assumption))))
  have lt1 : w.heap.size + 1 + 1 < w1.heap.size := by omega
  have lt3 : w1.heap.size < w3.heap.size := by have := HZ2.out; have := hb3.size; omega
  clear k1_0 k1_1 k1_2 k2_0 k2_1 k2_2 k3_0 k3_1 k3_2 k3_3 c1_0 c1_1 c1_2 c2_0 c2_1 c2_2 c3_0 c3_1 c3_2 c3_3 f1_0 f1_1 f1_2 f2_0 f2_1 f2_2 f3_0 f3_1 f3_2 f3_3 hc1 hc2 hc3 hc4 hf1 hf2 hf3 hf4 c4_0 c4_1 c4_2 c4_3 f4_0 f4_1 f4_2 f4_3 k4_0 k4_1 hb1 hb2 hb3 hb4 ka
  go_loopw [7] (fun i wr => ∃ k : Nat, k ≤ 128 ∧ i = .int .i64 k ∧ Below w.heap.size w wr ∧ w4.heap.size ≤ wr.heap.size ∧ Blk wr (w.heap.size + 1 + 1) #[.int .u64 0, .int .u64 0] ∧ Blk wr w1.heap.size (BA (orF a b k)) ∧ Blk wr w3.heap.size (BA (bit b))) (fun i _ => 128 - (intOf i).toNat)
  case atStart => exact ⟨0, by omega, rfl, hB4, Nat.le_refl _, k4_2, by rw [show BA (orF a b 0) = BA (bit a) from BA_congr fun j hj => by simp [orF]]; exact k4_3, kb⟩
  case round =>
    obtain ⟨k, hk, rfl, hB, hsz, r0, ra, rb⟩ := hrel
    by_cases hlt : k < 128
    · have g1 : wr.cell? ⟨w1.heap.size, k, none⟩ = some (.bool (bit a k)) := (ra.cell k).trans ((BA_get (orF a b k) k hlt).trans (by simp [orF]))
      have g2 : wr.cell? ⟨w3.heap.size, k, none⟩ = some (.bool (bit b k)) := (rb.cell k).trans (BA_get (bit b) k hlt)
      have fa := ra.frozen
      have HS : ∀ q : Bool, (bit a k || bit b k) = q → Blk (wr.setCell ⟨w1.heap.size, k, none⟩ (.bool q)) w1.heap.size (BA (orF a b (k + 1))) := fun q hq => Blk.setb ra k q fun j hj => by
        unfold orF
        by_cases e : j = k
        · subst e; simp [hq]
        · rw [if_neg e]
          by_cases e2 : j < k
          · simp [e2, show j < k + 1 by omega]
          · simp [e2, show ¬ j < k + 1 by omega]
      have HSS := hid HS; clear HS
      have ra' := hid ra
      cases h1 : bit a k <;> cases h2 : bit b k <;> rw [h1] at g1 HSS <;> rw [h2] at g2 HSS <;> clear h1 h2
      all_goals
        go_wp2
        go_roundw
        case rel => exact ⟨k + 1, by omega, by go_num, bl_set hB (by simp; omega) _, by simp [hsz], r0.other (by simp; omega) _, HSS.out _ rfl, rb.other (by simp; omega) _⟩
        case measure => simp [intOf]; omega
    · obtain rfl : k = 128 := by omega
      rw [show BA (orF a b 128) = BA (bit (wor a b)) from BA_congr fun j hj => by simp [orF, hj, bit_wor]] at ra
      have c0 := r0.cell; have f0 := r0.frozen; have l0 := r0.lt
      obtain ⟨t1, hq1⟩ := ra
      
      go_wp2_with (first | (refine wpList_load_row rfl 89 _ rfl _ rfl _ _ _ _ hq1 Try.underlying89 rfl (info_bits _) ?_) | (go_at_call 79; (with_reducible refine (rWord_bit _ _).mono ?_); rintro e_ w5 ⟨rfl, hb5⟩; obtain ⟨hc5, hf5⟩ := bcell hb5; have hz5 := hb5.size; (try simp at hz5); have k5_0 : Blk w5 (w.heap.size + 1 + 1) #[.int .u64 0, .int .u64 0] := Blk.bl (by repeat (first | (with_reducible assumption) | ((with_reducible refine Blk.new' ?_ _ _); (first | rfl | (simp; done))) | (with_reducible apply Blk.set2) | (with_reducible apply Blk.set1) | ((with_reducible refine Blk.other ?_ ?_ _); rotate_left; (focus (first | omega | (simp; done) | (simp; omega)))) | (with_reducible refine Blk.alloc ?_ _) | (with_reducible refine Blk.drew ?_) | (with_reducible refine Blk.drewN ?_ _) | (with_reducible refine Blk.bl ?_ (by assumption)) | (with_reducible apply Blk.seti) | rfl)) hb5; have c5_0 := k5_0.cell; have f5_0 := k5_0.frozen; have l5_0 := k5_0.lt))
      refine bodyPost_ret (v := (.agg #[.int .u64 (hi (wor a b)), .int .u64 (lo (wor a b))])) (by simp [results, Try.results56, go_sem, *]) rfl ⟨rfl, ?_⟩
      exact (by repeat (first | (with_reducible exact Below.refl _ _) | (with_reducible assumption) | (with_reducible refine bl_alloc ?_ _) | (with_reducible refine bl_drew ?_) | (with_reducible refine bl_drewN ?_ _) | ((with_reducible refine bl_set ?_ ?_ _); rotate_left; (focus (first | omega | (simp; done) | (simp; omega)))) | (with_reducible refine bl_trans ?_ (by assumption))))
end Go.Proofs.Ytgiggomcpifjmaa

namespace Go.Proofs.Ytgiggomcpifjmaa
open Go Go.RowKit Plm
attribute [local go_sem ↓] Go.wp_at_zero Go.wp_at_succ
def plL (H : Nat) (l : List (Int × Int)) : List Int := l.map fun p => p.1 * ((H : Int) + 1) + p.2
theorem plL_succ (H : Nat) (l : List (Int × Int)) (k : Nat) (h : k < l.length) : plL H (l.take (k + 1)) = plL H (l.take k) ++ [l[k].1 * ((H : Int) + 1) + l[k].2] := by
  unfold plL; rw [List.take_succ_eq_append_getElem h, List.map_append]; rfl
set_option maxRecDepth 100000 in
set_option maxHeartbeats 2000000 in
theorem rSet_any (Wd H : Nat) (hH : H ≤ 8) (l : List (Int × Int)) (base : Nat) (v : Value) (w : World) (hown : OwnC w base v l) (hlen : l.length ≤ 1000) (hin : ∀ p, p ∈ l → 0 ≤ p.1 ∧ p.1 ≤ 8 ∧ 0 ≤ p.2 ∧ p.2 ≤ 8) :
    Calls Try.prog 102 #[.agg #[.int .i64 Wd, .int .i64 H], v] w fun e w' => e = .returned (.agg #[.int .u64 (hi (wofs (plL H l))), .int .u64 (lo (wofs (plL H l)))]) ∧ Below w.heap.size w w' := by
  obtain ⟨r, cap, rfl, hc⟩ := hown.shape
  have HC := hid hc; clear hc hown
  have HI := hid hin; clear hin
  
  go_enter Try.func102, Try.ntmps102
  go_wp2
  have b0 : Blk ((w.alloc (.cells #[.int .i64 Wd, .int .i64 H] 23)).alloc (.cells #[.int .u64 0, .int .u64 0] 26)) w.heap.size #[.int .i64 Wd, .int .i64 H] := (by repeat (first | (with_reducible assumption) | ((with_reducible refine Blk.new' ?_ _ _); (first | rfl | (simp; done))) | (with_reducible apply Blk.set2) | (with_reducible apply Blk.set1) | ((with_reducible refine Blk.other ?_ ?_ _); rotate_left; (focus (first | omega | (simp; done) | (simp; omega)))) | (with_reducible refine Blk.alloc ?_ _) | (with_reducible refine Blk.drew ?_) | (with_reducible refine Blk.drewN ?_ _) | (with_reducible refine Blk.bl ?_ (by assumption)) | (with_reducible apply Blk.seti) | rfl))
  have b1 : Blk ((w.alloc (.cells #[.int .i64 Wd, .int .i64 H] 23)).alloc (.cells #[.int .u64 0, .int .u64 0] 26)) (w.heap.size + 1) #[.int .u64 0, .int .u64 0] := (by repeat (first | (with_reducible assumption) | ((with_reducible refine Blk.new' ?_ _ _); (first | rfl | (simp; done))) | (with_reducible apply Blk.set2) | (with_reducible apply Blk.set1) | ((with_reducible refine Blk.other ?_ ?_ _); rotate_left; (focus (first | omega | (simp; done) | (simp; omega)))) | (with_reducible refine Blk.alloc ?_ _) | (with_reducible refine Blk.drew ?_) | (with_reducible refine Blk.drewN ?_ _) | (with_reducible refine Blk.bl ?_ (by assumption)) | (with_reducible apply Blk.seti) | rfl))
  have hB0 : Below w.heap.size w ((w.alloc (.cells #[.int .i64 Wd, .int .i64 H] 23)).alloc (.cells #[.int .u64 0, .int .u64 0] 26)) := (by repeat (first | (with_reducible exact Below.refl _ _) | (with_reducible assumption) | (with_reducible refine bl_alloc ?_ _) | (with_reducible refine bl_drew ?_) | (with_reducible refine bl_drewN ?_ _) | ((with_reducible refine bl_set ?_ ?_ _); rotate_left; (focus (first | omega | (simp; done) | (simp; omega)))) | (with_reducible refine bl_trans ?_ (by assumption))))
  have hz0 : ((w.alloc (.cells #[.int .i64 Wd, .int .i64 H] 23)).alloc (.cells #[.int .u64 0, .int .u64 0] 26)).heap.size = w.heap.size + 1 + 1 := by simp
  have own1 : Own (((w.alloc (.cells #[.int .i64 Wd, .int .i64 H] 23)).alloc (.cells #[.int .u64 0, .int .u64 0] 26)).alloc (.cells #[] 3)) (w.heap.size + 1 + 1) (.slice (some ⟨w.heap.size + 1 + 1, 0, none⟩) 0 0) [] := by
    have h := Own.made (w := (w.alloc (.cells #[.int .i64 Wd, .int .i64 H] 23)).alloc (.cells #[.int .u64 0, .int .u64 0] 26)) (base := w.heap.size + 1 + 1) (by simp) #[] rfl
    simpa using h
  generalize (w.alloc (.cells #[.int .i64 Wd, .int .i64 H] 23)).alloc (.cells #[.int .u64 0, .int .u64 0] 26) = w0 at *
  have HZ := hid hz0; clear hz0
  go_loopw [5, 6] (fun v i wr => ∃ k : Nat, k ≤ l.length ∧ i = .int .i64 k ∧ Own wr (w.heap.size + 1 + 1) v (plL H (l.take k)) ∧ Below (w.heap.size + 1 + 1) w0 wr) (fun _ i _ => l.length - (intOf i).toNat)
  case atStart => exact ⟨0, by omega, rfl, own1, (Below.refl _ _).alloc (by rw [HZ.out]; omega) _⟩
  case round =>
    obtain ⟨k, hk, rfl, hv, hB⟩ := hrel
    have hsz := hB.size
    rw [HZ.out] at hsz
    have t0 := b0.below hB (by omega); have t1 := b1.below hB (by omega)
    have hpl : (plL H (l.take k)).length ≤ 1000 := by unfold plL; simp; omega
    by_cases hlt : k < l.length
    · obtain ⟨g, rfl, hgl, hcell⟩ := HC.out (by intro h; rw [h] at hlt; simp at hlt)
      obtain ⟨a1, a2⟩ := hcell k hlt
      clear hcell
      obtain ⟨i1, i2, i3, i4⟩ := HI.out l[k] (List.getElem_mem hlt)
      have HS := hid (plL_succ H l k hlt)
      have hBw : Below w.heap.size w wr := hB0.trans (hB.mono (by omega))
      have c1 : wr.cell? ⟨g, k * 2, none⟩ = some (.int .i64 l[k].1) := (hBw.cell (p := ⟨g, k * 2, none⟩) hgl).trans a1
      have c2 : wr.cell? ⟨g, k * 2 + 1, none⟩ = some (.int .i64 l[k].2) := (hBw.cell (p := ⟨g, k * 2 + 1, none⟩) hgl).trans a2
      have A1 := hid a1; have A2 := hid a2
      clear a1 a2
      generalize l[k].1 = x at *
      generalize l[k].2 = y at *
      have z0 : (0 : Int) ≤ (k : Int) := by omega
      have z1 : (k : Int) < (l.length : Int) := by omega
      have CP := hid (fun wx : World => rPlace_any Wd H x y (by omega) (by omega) i1 i2 i3 i4 wx)
      go_upto_if 11 with (fail)
      refine wp_cond_true rfl ?_
      apply wp_skip
      rename_i KK hKK
      refine hKK _ _ ?_
      clear hKK
      (apply wp_seq_k; intro Ka ha; have Ha := hid ha; clear ha)
      apply wp_block
      have hB' : Below w.heap.size w wr := hBw
      have hgl2 : g < wr.heap.size := by have := hBw.size; omega
      refine wp_region_noPanic ?_
      refine wp_region_held_drew (S := fun w' => w'.cell? ⟨w.heap.size, 0, none⟩ = some (.int .i64 Wd) ∧ w'.cell? ⟨w.heap.size, 1, none⟩ = some (.int .i64 H) ∧ w'.cell? ⟨g, k * 2, none⟩ = some (.int .i64 x) ∧ w'.cell? ⟨g, k * 2 + 1, none⟩ = some (.int .i64 y)) (by kernel_rfl) ?_ (fun hHeld => ?_)
      · exact ⟨t0.cell 0, t0.cell 1, c1, c2⟩
      (refine wpAnyH_take (i := 0) (v := u5) rfl (by kernel_rfl) (by kernel_rfl) (by kernel_rfl) (fun _ _ _ h => h) (Or.inl ⟨by rfl, ?_⟩) hHeld ?_; (focus (intro w_ hSw; (try dsimp only at hSw); go_simp)); (try simp only [Array.getInternal_eq_getElem, List.getElem_toArray, List.getElem_cons_succ, List.getElem_cons_zero, Act.put, List.setIfInBounds_toArray, List.set_cons_zero, List.set_cons_succ]))
      (refine wpAnyH_take (i := 1) (v := .agg #[.int .i64 Wd, .int .i64 H]) rfl (by kernel_rfl) (by kernel_rfl) (by kernel_rfl) (fun _ _ _ h => h) (Or.inl ⟨by rfl, ?_⟩) hHeld ?_; (focus (intro w_ hSw; (try dsimp only at hSw); go_simp)); (try simp only [Array.getInternal_eq_getElem, List.getElem_toArray, List.getElem_cons_succ, List.getElem_cons_zero, Act.put, List.setIfInBounds_toArray, List.set_cons_zero, List.set_cons_succ]))
      (refine wpAnyH_take (i := 2) (v := .slice (some ⟨g, 0, none⟩) l.length cap) rfl (by kernel_rfl) (by kernel_rfl) (by kernel_rfl) (fun _ _ _ h => h) (Or.inl ⟨by rfl, ?_⟩) hHeld ?_; (focus (intro w_ hSw; (try dsimp only at hSw); go_simp)); (try simp only [Array.getInternal_eq_getElem, List.getElem_toArray, List.getElem_cons_succ, List.getElem_cons_zero, Act.put, List.setIfInBounds_toArray, List.set_cons_zero, List.set_cons_succ]))
      (refine wpAnyH_take (i := 3) (v := .int .i64 k) rfl (by kernel_rfl) (by kernel_rfl) (by kernel_rfl) (fun _ _ _ h => h) (Or.inl ⟨by rfl, ?_⟩) hHeld ?_; (focus (intro w_ hSw; (try dsimp only at hSw); go_simp)); (try simp only [Array.getInternal_eq_getElem, List.getElem_toArray, List.getElem_cons_succ, List.getElem_cons_zero, Act.put, List.setIfInBounds_toArray, List.set_cons_zero, List.set_cons_succ]))
      (refine wpAnyH_take (i := 4) (v := .pointer (some ⟨g, k * 2, none⟩)) rfl (by kernel_rfl) (by kernel_rfl) (by kernel_rfl) (fun _ _ _ h => h) (Or.inl ⟨by rfl, ?_⟩) hHeld ?_; (focus (intro w_ hSw; (try dsimp only at hSw); go_simp)); (try simp only [Array.getInternal_eq_getElem, List.getElem_toArray, List.getElem_cons_succ, List.getElem_cons_zero, Act.put, List.setIfInBounds_toArray, List.set_cons_zero, List.set_cons_succ]))
      (refine wpAnyH_take (i := 5) (v := .agg #[.int .i64 x, .int .i64 y]) rfl (by kernel_rfl) (by kernel_rfl) (by kernel_rfl) (fun _ _ _ h => h) (Or.inl ⟨by rfl, ?_⟩) hHeld ?_; (focus (intro w_ hSw; (try dsimp only at hSw); go_simp)); (try simp only [Array.getInternal_eq_getElem, List.getElem_toArray, List.getElem_cons_succ, List.getElem_cons_zero, Act.put, List.setIfInBounds_toArray, List.set_cons_zero, List.set_cons_succ]))
      refine wpAnyH_ready (rs := [6]) (by kernel_rfl) (by simp) ?_; refine AllReadyH.cons rfl (fun K hK => ?_) AllReadyH.nil
      go_simp
      (go_at_call 109; (with_reducible refine (CP.out _).mono ?_); rintro e_ w6 ⟨rfl, hb6'⟩)
      have hb6 : Below wr.heap.size wr w6 := bl_trans (bl_drew (Below.refl _ _)) hb6'
      have t6 := t0.bl hb6
      have hBw6 : Below w.heap.size w w6 := bl_trans hBw hb6
      have c1' : w6.cell? ⟨g, k * 2, none⟩ = some (.int .i64 x) := (hBw6.cell (p := ⟨g, k * 2, none⟩) hgl).trans A1.out
      have c2' : w6.cell? ⟨g, k * 2 + 1, none⟩ = some (.int .i64 y) := (hBw6.cell (p := ⟨g, k * 2 + 1, none⟩) hgl).trans A2.out
      have hv6 := hv.kept hb6
      have hsz6 : w.heap.size + 1 + 1 ≤ w6.heap.size := Nat.le_trans hsz hb6.size
      (refine hK.out _ _ ?_ (fun hHeld => ?_)); (focus (try dsimp only); exact ⟨t6.cell 0, t6.cell 1, c1', c2'⟩); clear hK K; (try simp only [Array.getInternal_eq_getElem, List.getElem_toArray, List.getElem_cons_succ, List.getElem_cons_zero, Act.put, List.setIfInBounds_toArray, List.set_cons_zero, List.set_cons_succ])
      refine wpAnyH_ready (rs := [7]) (by kernel_rfl) (by simp) ?_; refine AllReadyH.cons rfl (fun K hK => ?_) AllReadyH.nil
      go_simp
      have hgl6 : g < w6.heap.size := by have := hb6.size; omega
      (refine hK.out _ _ ?_ (fun hHeld => ?_)); (focus (try dsimp only); exact ⟨(t6.alloc _).cell 0, (t6.alloc _).cell 1, (World.cell?_alloc_lt w6 _ _ hgl6).trans c1', (World.cell?_alloc_lt w6 _ _ hgl6).trans c2'⟩); clear hK K; (try simp only [Array.getInternal_eq_getElem, List.getElem_toArray, List.getElem_cons_succ, List.getElem_cons_zero, Act.put, List.setIfInBounds_toArray, List.set_cons_zero, List.set_cons_succ])
      refine wpAnyH_ready (rs := [8]) (by kernel_rfl) (by simp) ?_
      refine AllReadyH.cons rfl (fun K hK => step_if (by kernel_rfl) (wp_app (w0 := w6) (e := x * ((H : Int) + 1) + y) _ _ rfl (w.heap.size + 1 + 1) u5 (plL H (l.take k)) (by rfl) (by rfl) hv6 hsz6 (by omega) fun v' w' hv' hB' ha' hk' => ?_)) AllReadyH.nil
      have hBw' : Below (w.heap.size + 1 + 1) w0 w' := hB.trans ((hb6.mono (by omega)).trans hB')
      have t7 := b0.below hBw' (by omega)
      have hBx : Below w.heap.size w w' := hB0.trans (hBw'.mono (by omega))
      have d1 : w'.cell? ⟨g, k * 2, none⟩ = some (.int .i64 x) := (hBx.cell (p := ⟨g, k * 2, none⟩) hgl).trans A1.out
      have d2 : w'.cell? ⟨g, k * 2 + 1, none⟩ = some (.int .i64 y) := (hBx.cell (p := ⟨g, k * 2 + 1, none⟩) hgl).trans A2.out
      (refine hK.out _ _ ?_ (fun hHeld => ?_)); (focus (try dsimp only); exact ⟨t7.cell 0, t7.cell 1, d1, d2⟩); clear hK K; (try simp only [Array.getInternal_eq_getElem, List.getElem_toArray, List.getElem_cons_succ, List.getElem_cons_zero, Act.put, List.setIfInBounds_toArray, List.set_cons_zero, List.set_cons_succ])
      refine wpAnyH_ready (rs := [9]) (by kernel_rfl) (by simp) ?_; refine AllReadyH.cons rfl (fun K hK => ?_) AllReadyH.nil
      go_simp
      (refine hK.out _ _ ?_ (fun hHeld => ?_)); (focus (try dsimp only); exact ⟨t7.cell 0, t7.cell 1, d1, d2⟩); clear hK K; (try simp only [Array.getInternal_eq_getElem, List.getElem_toArray, List.getElem_cons_succ, List.getElem_cons_zero, Act.put, List.setIfInBounds_toArray, List.set_cons_zero, List.set_cons_succ])
      refine wpAnyH_done (by kernel_rfl) (NoPanic.normal ?_) _
      refine Ha.out _ _ ?_
      go_wp2
      go_roundw
      case rel => exact ⟨k + 1, by omega, by go_num, by rw [HS.out]; exact hv', hBw'⟩
      case measure => simp [intOf]; omega
    · obtain rfl : k = l.length := by omega
      rw [List.take_length] at hv
      have c1 := t1.cell; have f1 := t1.frozen; have l1 := t1.lt
      have hBw : Below w.heap.size w wr := hB0.trans (hB.mono (by omega))
      have hl1 : (plL H l).length ≤ 1000000 := by unfold plL; simp; omega
      
      go_wp2_with (go_at_call 46; (with_reducible refine (rAt_any (plL H l) _ _ _ hv hl1).mono ?_); rintro e_ w8 ⟨rfl, hb8⟩; obtain ⟨hc8, hf8⟩ := bcell hb8; have hz8 := hb8.size; (try simp at hz8); have k8_0 : Blk w8 (w.heap.size + 1) #[.int .u64 0, .int .u64 0] := Blk.bl (by repeat (first | (with_reducible assumption) | ((with_reducible refine Blk.new' ?_ _ _); (first | rfl | (simp; done))) | (with_reducible apply Blk.set2) | (with_reducible apply Blk.set1) | ((with_reducible refine Blk.other ?_ ?_ _); rotate_left; (focus (first | omega | (simp; done) | (simp; omega)))) | (with_reducible refine Blk.alloc ?_ _) | (with_reducible refine Blk.drew ?_) | (with_reducible refine Blk.drewN ?_ _) | (with_reducible refine Blk.bl ?_ (by assumption)) | (with_reducible apply Blk.seti) | rfl)) hb8; have c8_0 := k8_0.cell; have f8_0 := k8_0.frozen; have l8_0 := k8_0.lt)
      refine bodyPost_ret (v := (.agg #[.int .u64 (hi (wofs (plL H l))), .int .u64 (lo (wofs (plL H l)))])) (by simp [results, Try.results102, go_sem, *]) rfl ⟨rfl, ?_⟩
      exact (by repeat (first | (with_reducible exact Below.refl _ _) | (with_reducible assumption) | (with_reducible refine bl_alloc ?_ _) | (with_reducible refine bl_drew ?_) | (with_reducible refine bl_drewN ?_ _) | ((with_reducible refine bl_set ?_ ?_ _); rotate_left; (focus (first | omega | (simp; done) | (simp; omega)))) | (with_reducible refine bl_trans ?_ (by assumption))))
end Go.Proofs.Ytgiggomcpifjmaa
