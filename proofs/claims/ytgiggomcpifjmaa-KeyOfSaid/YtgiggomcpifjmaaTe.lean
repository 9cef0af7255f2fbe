/- The reference's Split: May, and what it comes to. -/
import Derived.Test.YtgiggomcpifjmaaTd
set_option linter.unusedVariables false
set_option linter.unusedSimpArgs false
namespace Go.Proofs.Ytgiggomcpifjmaa
open Go.RowKit Plm
set_option maxHeartbeats 400000 in
theorem rMay_any (bw bh : Int) (w : World) : Calls Try.prog 16 #[.agg #[.int .i64 bw, .int .i64 bh]] w fun e w' => e = .returned (.bool (mayB bw bh)) ∧ Below w.heap.size w w' := by
  by_cases h1 : 4 ≤ bw
  · by_cases h2 : bw ≤ 8
    · by_cases h3 : 4 ≤ bh
      · have H := hid (show mayB bw bh = decide (bh ≤ 8) by unfold mayB; rw [decide_eq_decide]; omega)
        go_enter Try.func16, Try.ntmps16
        go_wp2
        go_ret
        rw [H.out]
        exact ⟨rfl, (by repeat (first | (with_reducible exact Below.refl _ _) | (with_reducible assumption) | (with_reducible refine bl_alloc ?_ _) | (with_reducible refine bl_drew ?_) | (with_reducible refine bl_drewN ?_ _) | ((with_reducible refine bl_set ?_ ?_ _); rotate_left; (focus (first | omega | (simp; done) | (simp; omega)))) | (with_reducible refine bl_trans ?_ (by assumption))))⟩
      · have H := hid (show mayB bw bh = false by unfold mayB; rw [decide_eq_false]; omega)
        go_enter Try.func16, Try.ntmps16
        go_wp2
        go_ret
        rw [H.out]
        exact ⟨rfl, (by repeat (first | (with_reducible exact Below.refl _ _) | (with_reducible assumption) | (with_reducible refine bl_alloc ?_ _) | (with_reducible refine bl_drew ?_) | (with_reducible refine bl_drewN ?_ _) | ((with_reducible refine bl_set ?_ ?_ _); rotate_left; (focus (first | omega | (simp; done) | (simp; omega)))) | (with_reducible refine bl_trans ?_ (by assumption))))⟩
    · have H := hid (show mayB bw bh = false by unfold mayB; rw [decide_eq_false]; omega)
      go_enter Try.func16, Try.ntmps16
      go_wp2
      go_ret
      rw [H.out]
      exact ⟨rfl, (by repeat (first | (with_reducible exact Below.refl _ _) | (with_reducible assumption) | (with_reducible refine bl_alloc ?_ _) | (with_reducible refine bl_drew ?_) | (with_reducible refine bl_drewN ?_ _) | ((with_reducible refine bl_set ?_ ?_ _); rotate_left; (focus (first | omega | (simp; done) | (simp; omega)))) | (with_reducible refine bl_trans ?_ (by assumption))))⟩
  · have H := hid (show mayB bw bh = false by unfold mayB; rw [decide_eq_false]; omega)
    go_enter Try.func16, Try.ntmps16
    go_wp2
    go_ret
    rw [H.out]
    exact ⟨rfl, (by repeat (first | (with_reducible exact Below.refl _ _) | (with_reducible assumption) | (with_reducible refine bl_alloc ?_ _) | (with_reducible refine bl_drew ?_) | (with_reducible refine bl_drewN ?_ _) | ((with_reducible refine bl_set ?_ ?_ _); rotate_left; (focus (first | omega | (simp; done) | (simp; omega)))) | (with_reducible refine bl_trans ?_ (by assumption))))⟩
/-- The greatest place of a column, below so many; what lies below it. -/
def topR (k : W) (c x : Nat) : Nat → Int
  | 0 => -1
  | y + 1 => if bit k (x * c + y) = true then y else topR k c x y
def stCol (c x n : Nat) : List Int := (List.range n).map fun (y : Nat) => ((x * c + y : Nat) : Int)
def miCol (k : W) (c x n : Nat) : List Int := ((List.range n).filter fun y => bit k (x * c + y)).map fun (y : Nat) => ((x * c + y : Nat) : Int)
def stAll (k : W) (c : Nat) : Nat → List Int
  | 0 => []
  | x + 1 => stAll k c x ++ stCol c x (topR k c x c).toNat
def miAll (k : W) (c : Nat) : Nat → List Int
  | 0 => []
  | x + 1 => miAll k c x ++ miCol k c x (topR k c x c).toNat
def refOk (bw bh : Int) (k : W) : Bool :=
  mayB bw bh && ((places k).all (fun p => decide (p < bw * (bh + 1))) && ((List.range bw.toNat).all (fun x => decide (0 ≤ topR k (bh + 1).toNat x (bh + 1).toNat)) && decide (((miAll k (bh + 1).toNat bw.toNat).length : Int) = ((stAll k (bh + 1).toNat bw.toNat).length : Int) / 2)))
def refM (bw bh : Int) (k : W) : W := if refOk bw bh k = true then wofs (miAll k (bh + 1).toNat bw.toNat) else wz
def refS (bw bh : Int) (k : W) : W := if refOk bw bh k = true then wofs (stAll k (bh + 1).toNat bw.toNat) else wz
theorem topR_lt (k : W) (c x : Nat) : ∀ y, -1 ≤ topR k c x y ∧ topR k c x y < y
  | 0 => by simp [topR]
  | y + 1 => by
    have := topR_lt k c x y
    rw [topR]; split <;> omega
set_option maxRecDepth 100000 in
set_option maxHeartbeats 1000000 in
theorem rSplit_no (bw bh : Int) (hm : mayB bw bh = false) (k : W) (w : World) : Calls Try.prog 13 #[.agg #[.int .i64 bw, .int .i64 bh], (.agg #[.int .u64 (hi k), .int .u64 (lo k)])] w fun e w' => e = .returned (.tuple #[(.agg #[.int .u64 (hi wz), .int .u64 (lo wz)]), (.agg #[.int .u64 (hi wz), .int .u64 (lo wz)]), .bool false]) ∧ Below w.heap.size w w' := by
  rw [hi_wz, lo_wz]
  
  go_enter Try.func13, Try.ntmps13
  go_wp2_with (go_at_call 16; (with_reducible refine (rMay_any _ _ _).mono ?_); rintro e_ w1 ⟨rfl, hb1⟩; obtain ⟨hc1, hf1⟩ := bcell hb1; have hz1 := hb1.size; (try simp at hz1); have k1_0 : Blk w1 (w.heap.size) #[.int .i64 bw, .int .i64 bh] := Blk.bl (by repeat (first | (with_reducible assumption) | ((with_reducible refine Blk.new' ?_ _ _); (first | rfl | (simp; done))) | (with_reducible apply Blk.set2) | (with_reducible apply Blk.set1) | ((with_reducible refine Blk.other ?_ ?_ _); rotate_left; (focus (first | omega | (simp; done) | (simp; omega)))) | (with_reducible refine Blk.alloc ?_ _) | (with_reducible refine Blk.drew ?_) | (with_reducible refine Blk.drewN ?_ _) | (with_reducible refine Blk.bl ?_ (by assumption)) | (with_reducible apply Blk.seti) | rfl)) hb1; have c1_0 := k1_0.cell; have f1_0 := k1_0.frozen; have l1_0 := k1_0.lt; have k1_1 : Blk w1 (w.heap.size + 1) #[.int .u64 (hi k), .int .u64 (lo k)] := Blk.bl (by repeat (first | (with_reducible assumption) | ((with_reducible refine Blk.new' ?_ _ _); (first | rfl | (simp; done))) | (with_reducible apply Blk.set2) | (with_reducible apply Blk.set1) | ((with_reducible refine Blk.other ?_ ?_ _); rotate_left; (focus (first | omega | (simp; done) | (simp; omega)))) | (with_reducible refine Blk.alloc ?_ _) | (with_reducible refine Blk.drew ?_) | (with_reducible refine Blk.drewN ?_ _) | (with_reducible refine Blk.bl ?_ (by assumption)) | (with_reducible apply Blk.seti) | rfl)) hb1; have c1_1 := k1_1.cell; have f1_1 := k1_1.frozen; have l1_1 := k1_1.lt; have k1_2 : Blk w1 (w.heap.size + 1 + 1) #[.int .u64 0, .int .u64 0] := Blk.bl (by repeat (first | (with_reducible assumption) | ((with_reducible refine Blk.new' ?_ _ _); (first | rfl | (simp; done))) | (with_reducible apply Blk.set2) | (with_reducible apply Blk.set1) | ((with_reducible refine Blk.other ?_ ?_ _); rotate_left; (focus (first | omega | (simp; done) | (simp; omega)))) | (with_reducible refine Blk.alloc ?_ _) | (with_reducible refine Blk.drew ?_) | (with_reducible refine Blk.drewN ?_ _) | (with_reducible refine Blk.bl ?_ (by assumption)) | (with_reducible apply Blk.seti) | rfl)) hb1; have c1_2 := k1_2.cell; have f1_2 := k1_2.frozen; have l1_2 := k1_2.lt; have k1_3 : Blk w1 (w.heap.size + 1 + 1 + 1) #[.int .u64 0, .int .u64 0] := Blk.bl (by repeat (first | (with_reducible assumption) | ((with_reducible refine Blk.new' ?_ _ _); (first | rfl | (simp; done))) | (with_reducible apply Blk.set2) | (with_reducible apply Blk.set1) | ((with_reducible refine Blk.other ?_ ?_ _); rotate_left; (focus (first | omega | (simp; done) | (simp; omega)))) | (with_reducible refine Blk.alloc ?_ _) | (with_reducible refine Blk.drew ?_) | (with_reducible refine Blk.drewN ?_ _) | (with_reducible refine Blk.bl ?_ (by assumption)) | (with_reducible apply Blk.seti) | rfl)) hb1; have c1_3 := k1_3.cell; have f1_3 := k1_3.frozen; have l1_3 := k1_3.lt; have k1_4 : Blk w1 (w.heap.size + 1 + 1 + 1 + 1) #[.int .u64 0, .int .u64 0] := Blk.bl (by repeat (first | (with_reducible assumption) | ((with_reducible refine Blk.new' ?_ _ _); (first | rfl | (simp; done))) | (with_reducible apply Blk.set2) | (with_reducible apply Blk.set1) | ((with_reducible refine Blk.other ?_ ?_ _); rotate_left; (focus (first | omega | (simp; done) | (simp; omega)))) | (with_reducible refine Blk.alloc ?_ _) | (with_reducible refine Blk.drew ?_) | (with_reducible refine Blk.drewN ?_ _) | (with_reducible refine Blk.bl ?_ (by assumption)) | (with_reducible apply Blk.seti) | rfl)) hb1; have c1_4 := k1_4.cell; have f1_4 := k1_4.frozen; have l1_4 := k1_4.lt)
  go_region
  all_goals go_wp2
  all_goals refine bodyPost_ret (v := .tuple #[.agg #[.int .u64 0, .int .u64 0], .agg #[.int .u64 0, .int .u64 0], .bool false]) (by simp [results, Try.results13, go_sem, *]) rfl ⟨rfl, ?_⟩
  all_goals exact (by repeat (first | (with_reducible exact Below.refl _ _) | (with_reducible assumption) | (with_reducible refine bl_alloc ?_ _) | (with_reducible refine bl_drew ?_) | (with_reducible refine bl_drewN ?_ _) | ((with_reducible refine bl_set ?_ ?_ _); rotate_left; (focus (first | omega | (simp; done) | (simp; omega)))) | (with_reducible refine bl_trans ?_ (by assumption))))
end Go.Proofs.Ytgiggomcpifjmaa
