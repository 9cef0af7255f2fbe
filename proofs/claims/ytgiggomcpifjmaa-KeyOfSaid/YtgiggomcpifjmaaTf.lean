/- The reference's Split at a board that may be. -/
import Derived.Test.YtgiggomcpifjmaaTe
set_option linter.unusedVariables false
set_option linter.unusedSimpArgs false
namespace Go.Proofs.Ytgiggomcpifjmaa
open Go.RowKit Plm
theorem getD_all {l : List Int} {p : Int → Bool} {i : Nat} (h : i < l.length) (hp : p (l.getD i 0) = false) : l.all p = false := by
  rw [Bool.eq_false_iff]; intro ha
  have := List.all_eq_true.1 ha (l.getD i 0) (by simp [List.getD, h])
  rw [hp] at this; cases this
theorem refOk_l (bw bh : Int) (k : W) (i : Nat) (h : i < (places k).length) (hp : bw * (bh + 1) ≤ (places k).getD i 0) : refOk bw bh k = false := by
  unfold refOk
  rw [getD_all (p := fun p => decide (p < bw * (bh + 1))) h (by rw [decide_eq_false_iff_not]; omega)]; simp
def Apart (u v : Value) : Prop := ∀ g, u.ownBlock = some g → v.ownBlock ≠ some g
theorem Apart.symm {u v : Value} (h : Apart u v) : Apart v u := fun g h1 h2 => h g h2 h1
theorem Apart.or {u v : Value} (h : Apart u v) : u.ownBlock = none ∨ u.ownBlock ≠ v.ownBlock := by
  cases e : u.ownBlock with
  | none => exact .inl rfl
  | some g => exact .inr fun h2 => h g e h2.symm
theorem Own.lt {w : World} {base : Nat} {v : Value} {l : List Int} (h : Own w base v l) : ∀ g, v.ownBlock = some g → g < w.heap.size := fun g hg => (World.ownsRow.lt h g hg).2
/-- Behind an append to v the other one is still apart. -/
theorem Apart.app {w : World} {base : Nat} {u v v' : Value} {l : List Int} (h : Apart u v) (hu : Own w base u l) (hv : v'.ownBlock = v.ownBlock ∨ ∃ g, v'.ownBlock = some g ∧ w.heap.size ≤ g) : Apart u v' := by
  intro g hg h2
  rcases hv with e | ⟨g', e, hle⟩
  · exact h g hg (e ▸ h2)
  · rw [e] at h2; cases h2
    have := hu.lt _ hg; omega
theorem has_place (k : W) (bh : Int) (x y c : Nat) (hc : c = (bh + 1).toNat) (hb : 0 ≤ bh) (h : x * c + y < 128) : hasP k ((x : Int) * (bh + 1) + (y : Int)) = bit k (x * c + y) := by
  have e : (x : Int) * (bh + 1) + (y : Int) = ((x * c + y : Nat) : Int) := by
    subst hc
    simp only [Int.natCast_add, Int.natCast_mul, Int.toNat_of_nonneg (show 0 ≤ bh + 1 by omega)]
  rw [e]; unfold hasP
  rw [decide_eq_true (by omega), decide_eq_true (by omega), Int.toNat_natCast]; rfl
theorem stCol_succ (c x n : Nat) : stCol c x (n + 1) = stCol c x n ++ [((x * c + n : Nat) : Int)] := by
  unfold stCol; rw [List.range_succ, List.map_append]; rfl
theorem miCol_yes (k : W) (c x n : Nat) (h : bit k (x * c + n) = true) : miCol k c x (n + 1) = miCol k c x n ++ [((x * c + n : Nat) : Int)] := by
  unfold miCol; rw [List.range_succ, List.filter_append, List.map_append]; simp [h]
theorem miCol_no (k : W) (c x n : Nat) (h : bit k (x * c + n) = false) : miCol k c x (n + 1) = miCol k c x n := by
  unfold miCol; rw [List.range_succ, List.filter_append, List.map_append]; simp [h]
theorem stCol_len (c x n : Nat) : (stCol c x n).length = n := by unfold stCol; simp
theorem miCol_len (k : W) (c x n : Nat) : (miCol k c x n).length ≤ n := by unfold miCol; rw [List.length_map]; exact Nat.le_trans (List.length_filter_le _ _) (by simp)
theorem stAll_len (k : W) (c : Nat) : ∀ x, (stAll k c x).length ≤ x * c
  | 0 => by simp [stAll]
  | x + 1 => by
    have h1 := stAll_len k c x
    have h2 := topR_lt k c x c
    rw [stAll, List.length_append, stCol_len, Nat.succ_mul]; omega
theorem miAll_len (k : W) (c : Nat) : ∀ x, (miAll k c x).length ≤ x * c
  | 0 => by simp [miAll]
  | x + 1 => by
    have h1 := miAll_len k c x
    have h2 := topR_lt k c x c
    have h3 := miCol_len k c x (topR k c x c).toNat
    rw [miAll, List.length_append, Nat.succ_mul]; omega
theorem place_cast (bh : Int) (x y c : Nat) (hc : (c : Int) = bh + 1) : (x : Int) * (bh + 1) + (y : Int) = ((x * c + y : Nat) : Int) := by
  rw [← hc]; simp
theorem refOk_c (bw bh : Int) (k : W) (x : Nat) (h : (x : Int) < bw) (ht : topR k (bh + 1).toNat x (bh + 1).toNat < 0) : refOk bw bh k = false := by
  have e : (List.range bw.toNat).all (fun x => decide (0 ≤ topR k (bh + 1).toNat x (bh + 1).toNat)) = false := by
    rw [Bool.eq_false_iff]; intro ha
    have := List.all_eq_true.1 ha x (by simp; omega)
    simp at this; omega
  unfold refOk; rw [e]; simp
theorem topR_yes (k : W) (c x y : Nat) (h : bit k (x * c + y) = true) : topR k c x (y + 1) = (y : Int) := by rw [topR, if_pos h]
theorem topR_no (k : W) (c x y : Nat) (h : bit k (x * c + y) = false) : topR k c x (y + 1) = topR k c x y := by rw [topR, if_neg (by simp [h])]
set_option maxRecDepth 100000 in
set_option maxHeartbeats 4000000 in
theorem rSplit_yes (bw bh : Int) (hm : mayB bw bh = true) (k : W) (w : World) : Calls Try.prog 13 #[.agg #[.int .i64 bw, .int .i64 bh], (.agg #[.int .u64 (hi k), .int .u64 (lo k)])] w fun e w' => e = .returned (.tuple #[(.agg #[.int .u64 (hi (refM bw bh k)), .int .u64 (lo (refM bw bh k))]), (.agg #[.int .u64 (hi (refS bw bh k)), .int .u64 (lo (refS bw bh k))]), .bool (refOk bw bh k)]) ∧ Below w.heap.size w w' := by
  obtain ⟨hw1, hw2, hh1, hh2⟩ := mayB_iff.1 hm
  have p0 : 0 ≤ bw * (bh + 1) := Int.mul_nonneg (by omega) (by omega)
  have p1 : bw * (bh + 1) ≤ 8 * 9 := Int.mul_le_mul (by omega) (by omega) (by omega) (by omega)
  
  go_enter Try.func13, Try.ntmps13
  go_wp2_with (first | (go_at_call 16; (with_reducible refine (rMay_any _ _ _).mono ?_); rintro e_ w1 ⟨rfl, hb1⟩; obtain ⟨hc1, hf1⟩ := bcell hb1; have hz1 := hb1.size; (try simp at hz1); have k1_0 : Blk w1 (w.heap.size) #[.int .i64 bw, .int .i64 bh] := Blk.bl (by repeat (first | (with_reducible assumption) | ((with_reducible refine Blk.new' ?_ _ _); (first | rfl | (simp; done))) | (with_reducible apply Blk.set2) | (with_reducible apply Blk.set1) | ((with_reducible refine Blk.other ?_ ?_ _); rotate_left; (focus (first | omega | (simp; done) | (simp; omega)))) | (with_reducible refine Blk.alloc ?_ _) | (with_reducible refine Blk.drew ?_) | (with_reducible refine Blk.drewN ?_ _) | (with_reducible refine Blk.bl ?_ (by assumption)) | (with_reducible apply Blk.seti) | rfl)) hb1; have c1_0 := k1_0.cell; have f1_0 := k1_0.frozen; have l1_0 := k1_0.lt; have k1_1 : Blk w1 (w.heap.size + 1) #[.int .u64 (hi k), .int .u64 (lo k)] := Blk.bl (by repeat (first | (with_reducible assumption) | ((with_reducible refine Blk.new' ?_ _ _); (first | rfl | (simp; done))) | (with_reducible apply Blk.set2) | (with_reducible apply Blk.set1) | ((with_reducible refine Blk.other ?_ ?_ _); rotate_left; (focus (first | omega | (simp; done) | (simp; omega)))) | (with_reducible refine Blk.alloc ?_ _) | (with_reducible refine Blk.drew ?_) | (with_reducible refine Blk.drewN ?_ _) | (with_reducible refine Blk.bl ?_ (by assumption)) | (with_reducible apply Blk.seti) | rfl)) hb1; have c1_1 := k1_1.cell; have f1_1 := k1_1.frozen; have l1_1 := k1_1.lt; have k1_2 : Blk w1 (w.heap.size + 1 + 1) #[.int .u64 0, .int .u64 0] := Blk.bl (by repeat (first | (with_reducible assumption) | ((with_reducible refine Blk.new' ?_ _ _); (first | rfl | (simp; done))) | (with_reducible apply Blk.set2) | (with_reducible apply Blk.set1) | ((with_reducible refine Blk.other ?_ ?_ _); rotate_left; (focus (first | omega | (simp; done) | (simp; omega)))) | (with_reducible refine Blk.alloc ?_ _) | (with_reducible refine Blk.drew ?_) | (with_reducible refine Blk.drewN ?_ _) | (with_reducible refine Blk.bl ?_ (by assumption)) | (with_reducible apply Blk.seti) | rfl)) hb1; have c1_2 := k1_2.cell; have f1_2 := k1_2.frozen; have l1_2 := k1_2.lt; have k1_3 : Blk w1 (w.heap.size + 1 + 1 + 1) #[.int .u64 0, .int .u64 0] := Blk.bl (by repeat (first | (with_reducible assumption) | ((with_reducible refine Blk.new' ?_ _ _); (first | rfl | (simp; done))) | (with_reducible apply Blk.set2) | (with_reducible apply Blk.set1) | ((with_reducible refine Blk.other ?_ ?_ _); rotate_left; (focus (first | omega | (simp; done) | (simp; omega)))) | (with_reducible refine Blk.alloc ?_ _) | (with_reducible refine Blk.drew ?_) | (with_reducible refine Blk.drewN ?_ _) | (with_reducible refine Blk.bl ?_ (by assumption)) | (with_reducible apply Blk.seti) | rfl)) hb1; have c1_3 := k1_3.cell; have f1_3 := k1_3.frozen; have l1_3 := k1_3.lt; have k1_4 : Blk w1 (w.heap.size + 1 + 1 + 1 + 1) #[.int .u64 0, .int .u64 0] := Blk.bl (by repeat (first | (with_reducible assumption) | ((with_reducible refine Blk.new' ?_ _ _); (first | rfl | (simp; done))) | (with_reducible apply Blk.set2) | (with_reducible apply Blk.set1) | ((with_reducible refine Blk.other ?_ ?_ _); rotate_left; (focus (first | omega | (simp; done) | (simp; omega)))) | (with_reducible refine Blk.alloc ?_ _) | (with_reducible refine Blk.drew ?_) | (with_reducible refine Blk.drewN ?_ _) | (with_reducible refine Blk.bl ?_ (by assumption)) | (with_reducible apply Blk.seti) | rfl)) hb1; have c1_4 := k1_4.cell; have f1_4 := k1_4.frozen; have l1_4 := k1_4.lt) | (go_at_call 14; (with_reducible refine (rPlaces_any _ _).mono ?_); rintro e_ w2 ⟨⟨lv, rfl, hown⟩, hb2⟩))
  have q0 : Blk w2 w.heap.size #[.int .i64 bw, .int .i64 bh] := (by repeat (first | (with_reducible assumption) | ((with_reducible refine Blk.new' ?_ _ _); (first | rfl | (simp; done))) | (with_reducible apply Blk.set2) | (with_reducible apply Blk.set1) | ((with_reducible refine Blk.other ?_ ?_ _); rotate_left; (focus (first | omega | (simp; done) | (simp; omega)))) | (with_reducible refine Blk.alloc ?_ _) | (with_reducible refine Blk.drew ?_) | (with_reducible refine Blk.drewN ?_ _) | (with_reducible refine Blk.bl ?_ (by assumption)) | (with_reducible apply Blk.seti) | rfl))
  have q1 : Blk w2 (w.heap.size + 1) #[.int .u64 (hi k), .int .u64 (lo k)] := (by repeat (first | (with_reducible assumption) | ((with_reducible refine Blk.new' ?_ _ _); (first | rfl | (simp; done))) | (with_reducible apply Blk.set2) | (with_reducible apply Blk.set1) | ((with_reducible refine Blk.other ?_ ?_ _); rotate_left; (focus (first | omega | (simp; done) | (simp; omega)))) | (with_reducible refine Blk.alloc ?_ _) | (with_reducible refine Blk.drew ?_) | (with_reducible refine Blk.drewN ?_ _) | (with_reducible refine Blk.bl ?_ (by assumption)) | (with_reducible apply Blk.seti) | rfl))
  have q2 : Blk w2 (w.heap.size + 1 + 1) #[.int .u64 0, .int .u64 0] := (by repeat (first | (with_reducible assumption) | ((with_reducible refine Blk.new' ?_ _ _); (first | rfl | (simp; done))) | (with_reducible apply Blk.set2) | (with_reducible apply Blk.set1) | ((with_reducible refine Blk.other ?_ ?_ _); rotate_left; (focus (first | omega | (simp; done) | (simp; omega)))) | (with_reducible refine Blk.alloc ?_ _) | (with_reducible refine Blk.drew ?_) | (with_reducible refine Blk.drewN ?_ _) | (with_reducible refine Blk.bl ?_ (by assumption)) | (with_reducible apply Blk.seti) | rfl))
  have q3 : Blk w2 (w.heap.size + 1 + 1 + 1) #[.int .u64 0, .int .u64 0] := (by repeat (first | (with_reducible assumption) | ((with_reducible refine Blk.new' ?_ _ _); (first | rfl | (simp; done))) | (with_reducible apply Blk.set2) | (with_reducible apply Blk.set1) | ((with_reducible refine Blk.other ?_ ?_ _); rotate_left; (focus (first | omega | (simp; done) | (simp; omega)))) | (with_reducible refine Blk.alloc ?_ _) | (with_reducible refine Blk.drew ?_) | (with_reducible refine Blk.drewN ?_ _) | (with_reducible refine Blk.bl ?_ (by assumption)) | (with_reducible apply Blk.seti) | rfl))
  have q4 : Blk w2 (w.heap.size + 1 + 1 + 1 + 1) #[.int .u64 0, .int .u64 0] := (by repeat (first | (with_reducible assumption) | ((with_reducible refine Blk.new' ?_ _ _); (first | rfl | (simp; done))) | (with_reducible apply Blk.set2) | (with_reducible apply Blk.set1) | ((with_reducible refine Blk.other ?_ ?_ _); rotate_left; (focus (first | omega | (simp; done) | (simp; omega)))) | (with_reducible refine Blk.alloc ?_ _) | (with_reducible refine Blk.drew ?_) | (with_reducible refine Blk.drewN ?_ _) | (with_reducible refine Blk.bl ?_ (by assumption)) | (with_reducible apply Blk.seti) | rfl))
  have hB2 : Below w.heap.size w w2 := (by repeat (first | (with_reducible exact Below.refl _ _) | (with_reducible assumption) | (with_reducible refine bl_alloc ?_ _) | (with_reducible refine bl_drew ?_) | (with_reducible refine bl_drewN ?_ _) | ((with_reducible refine bl_set ?_ ?_ _); rotate_left; (focus (first | omega | (simp; done) | (simp; omega)))) | (with_reducible refine bl_trans ?_ (by assumption))))
  have own1 : Own w2 w1.heap.size (.slice (some ⟨w1.heap.size, 0, none⟩) 0 0) [] := by
    refine Own.kept (w := (w1.alloc (.cells #[] 3)).alloc (.cells #[] 3)) ?_ (by repeat (first | (with_reducible exact Below.refl _ _) | (with_reducible assumption) | (with_reducible refine bl_alloc ?_ _) | (with_reducible refine bl_drew ?_) | (with_reducible refine bl_drewN ?_ _) | ((with_reducible refine bl_set ?_ ?_ _); rotate_left; (focus (first | omega | (simp; done) | (simp; omega)))) | (with_reducible refine bl_trans ?_ (by assumption))))
    exact World.ownsRow.alloc (Own.made (Nat.le_refl _) _ rfl) _
  have own2 : Own w2 w1.heap.size (.slice (some ⟨w1.heap.size + 1, 0, none⟩) 0 0) [] := by
    refine Own.kept (w := (w1.alloc (.cells #[] 3)).alloc (.cells #[] 3)) ?_ (by repeat (first | (with_reducible exact Below.refl _ _) | (with_reducible assumption) | (with_reducible refine bl_alloc ?_ _) | (with_reducible refine bl_drew ?_) | (with_reducible refine bl_drewN ?_ _) | ((with_reducible refine bl_set ?_ ?_ _); rotate_left; (focus (first | omega | (simp; done) | (simp; omega)))) | (with_reducible refine bl_trans ?_ (by assumption))))
    have h := Own.made (w := w1.alloc (.cells #[] 3)) (base := w1.heap.size) (by simp) #[] rfl
    simpa using h
  have hz2 : w1.heap.size + 1 + 1 ≤ w2.heap.size := by have := hb2.size; simpa using this
  obtain ⟨lr, lcap, rfl, hlc⟩ := hown.shape
  have HL := hid hlc; clear hlc
  have hll : (places k).length ≤ 128 := placesTo_len k 128
  clear hown k1_0 k1_1 k1_2 k1_3 k1_4 c1_0 c1_1 c1_2 c1_3 c1_4 f1_0 f1_1 f1_2 f1_3 f1_4 hc1 hf1
  go_loopw [11] (fun i wr => ∃ n : Nat, n ≤ (places k).length ∧ i = .int .i64 n ∧ Below w2.heap.size w2 wr ∧ Hid (∀ j, j < n → (places k).getD j 0 < bw * (bh + 1))) (fun i _ => (places k).length - (intOf i).toNat)
  case atStart => exact ⟨0, by omega, rfl, Below.refl _ _, hid fun j hj => by omega⟩
  case round =>
    obtain ⟨n, hn, rfl, hB, HN⟩ := hrel
    have r0 := q0.bl hB; have r2 := q2.bl hB; have r3 := q3.bl hB; have r4 := q4.bl hB
    have c0 := r0.cell; have c2 := r2.cell; have c3 := r3.cell; have c4 := r4.cell
    have f2 := r2.frozen; have f3 := r3.frozen
    by_cases hlt : n < (places k).length
    · obtain ⟨g, rfl, hg0, hg1, hg2⟩ := HL.out (by intro h; rw [h] at hlt; simp at hlt)
      have g2 : wr.cell? ⟨g, n, none⟩ = some (.int .i64 ((places k).getD n 0)) := (hB.cell (p := ⟨g, n, none⟩) hg1).trans (hg2 n hlt)
      clear hg2
      have z0 : (0 : Int) ≤ (n : Int) := by omega
      have z1 : (n : Int) < ((places k).length : Int) := by omega
      have hs1 : IntKind.i64.wrap (bh + 1) = bh + 1 := wr64 (by omega) (by omega)
      have hs2 : IntKind.i64.wrap (bw * (bh + 1)) = bw * (bh + 1) := wr64 (by omega) (by omega)
      by_cases hp : bw * (bh + 1) ≤ (places k).getD n 0
      · have HO := hid (refOk_l bw bh k n hlt hp)
        generalize (places k).getD n 0 = p at *
        go_upto_region 10 with fail
        go_quiet (fail)
        go_wp2
        go_region
        all_goals go_wp2
        have eM : refM bw bh k = wz := by unfold refM; rw [HO.out]; rfl
        have eS : refS bw bh k = wz := by unfold refS; rw [HO.out]; rfl
        rw [eM, eS, HO.out, hi_wz, lo_wz]
        all_goals refine bodyPost_ret (v := .tuple #[.agg #[.int .u64 0, .int .u64 0], .agg #[.int .u64 0, .int .u64 0], .bool false]) (by simp [results, Try.results13, go_sem, *]) rfl ⟨rfl, ?_⟩
        all_goals (have hBr : Below w.heap.size w wr := bl_trans hB2 hB; exact (by repeat (first | (with_reducible exact Below.refl _ _) | (with_reducible assumption) | (with_reducible refine bl_alloc ?_ _) | (with_reducible refine bl_drew ?_) | (with_reducible refine bl_drewN ?_ _) | ((with_reducible refine bl_set ?_ ?_ _); rotate_left; (focus (first | omega | (simp; done) | (simp; omega)))) | (with_reducible refine bl_trans ?_ (by assumption)))))
      · have HP := hid hp
        have HN' := hid (show ∀ j, j < n + 1 → (places k).getD j 0 < bw * (bh + 1) from fun j hj => by
          by_cases e : j = n
          · subst e; have := HP.out; omega
          · exact HN.out j (by omega))
        generalize (places k).getD n 0 = p at *
        clear HP
        go_upto_region 10 with fail
        go_quiet (fail)
        go_wp2
        go_roundw
        case rel => exact ⟨n + 1, by omega, by go_num, (by repeat (first | (with_reducible exact Below.refl _ _) | (with_reducible assumption) | (with_reducible refine bl_alloc ?_ _) | (with_reducible refine bl_drew ?_) | (with_reducible refine bl_drewN ?_ _) | ((with_reducible refine bl_set ?_ ?_ _); rotate_left; (focus (first | omega | (simp; done) | (simp; omega)))) | (with_reducible refine bl_trans ?_ (by assumption)))), HN'⟩
        case measure => simp [intOf]; omega
    · obtain rfl : n = (places k).length := by omega
      have own1' := own1.kept hB
      have own2' := own2.kept hB
      have hap : Apart (.slice (some ⟨w1.heap.size, 0, none⟩) 0 0) (.slice (some ⟨w1.heap.size + 1, 0, none⟩) 0 0) := fun g h1 h2 => by
        simp [Value.ownBlock] at h1 h2; omega
      have hz3 := hB.size
      have l1 := q1.lt
      have r1 := q1.bl hB
      have hBr : Below w.heap.size w wr := bl_trans hB2 hB
      clear own1 own2 f2 f3 c0 c2 c3 c4
      obtain ⟨wo, rfl⟩ : ∃ wo : World, wo = wr := ⟨_, rfl⟩
      clear HL q0 q1 q2 q3 q4 hB hB2 hb1 hb2
      go_upto_region 12 with fail
      go_wp2
      obtain ⟨c, hc⟩ : ∃ c, c = (bh + 1).toNat := ⟨_, rfl⟩
      have hc9 : c ≤ 9 := by omega
      have HC := hid (show (c : Int) = bh + 1 by omega)
      have HC' := hid hc; clear hc
      have hs1 : IntKind.i64.wrap (bh + 1) = bh + 1 := wr64 (by omega) (by omega)
      have lt5 : w.heap.size + 1 + 1 + 1 + 1 < w1.heap.size := by omega
      go_loopw [8, 9, 12] (fun mv sv i wr => ∃ x : Nat, (x : Int) ≤ bw ∧ i = .int .i64 x ∧ Own wr w1.heap.size mv (miAll k c x) ∧ Own wr w1.heap.size sv (stAll k c x) ∧ Apart mv sv ∧ Below w1.heap.size wo wr ∧ Hid (∀ j, j < x → 0 ≤ topR k c j c)) (fun _ _ i _ => bw.toNat - (intOf i).toNat)
      case atStart => exact ⟨0, by omega, rfl, own1', own2', hap, Below.refl _ _, hid fun j hj => by omega⟩
      case round =>
        obtain ⟨x, hx, rfl, hmv, hsv, hap, hB, HT⟩ := hrel
        have t0 := r0.below hB (by omega); have t1 := r1.below hB (by omega); have t2 := r2.below hB (by omega); have t3 := r3.below hB (by omega); have t4 := r4.below hB (by omega)
        have c0 := t0.cell
        by_cases hlt : (x : Int) < bw
        · have hx8 : x < 8 := by omega
          have m0 : x * c ≤ 7 * 9 := Nat.mul_le_mul (by omega) hc9
          have m1 : 0 ≤ (x : Int) * (bh + 1) := Int.mul_nonneg (by omega) (by omega)
          have m2 : (x : Int) * (bh + 1) ≤ 7 * 9 := Int.mul_le_mul (by omega) (by omega) (by omega) (by omega)
          have hs2 : IntKind.i64.wrap (x * (bh + 1)) = x * (bh + 1) := wr64 (by omega) (by omega)
          go_wp2
          obtain ⟨wx, rfl⟩ : ∃ wx : World, wx = wr := ⟨_, rfl⟩
          clear c0
          go_loopw [13, 14] (fun tv i wr => ∃ y : Nat, y ≤ c ∧ i = .int .i64 y ∧ tv = .int .i64 (topR k c x y) ∧ Below wx.heap.size wx wr) (fun _ i _ => c - (intOf i).toNat)
          case atStart => exact ⟨0, by omega, rfl, rfl, Below.refl _ _⟩
          case round =>
            obtain ⟨y, hy, rfl, rfl, hB3⟩ := hrel
            have s0 := t0.bl hB3; have s1 := t1.bl hB3
            have c0 := s0.cell; have c1 := s1.cell; have l0 := s0.lt; have l1 := s1.lt
            have hcb := HC.out
            by_cases hlty : (y : Int) ≤ bh
            · have hyc : y + 1 ≤ c := by omega
              have hs3 : IntKind.i64.wrap (x * (bh + 1) + y) = x * (bh + 1) + y := wr64 (by omega) (by omega)
              have hh := has_place k bh x y c (by omega) (by omega) (by omega)
              clear hcb
              cases u : bit k (x * c + y) <;> rw [u] at hh
              · have HU := hid (topR_no k c x y u); clear u
                go_wp2_with (go_at_call 45; (with_reducible refine (rHas_any _ _ _).mono ?_); rintro e_ w5 ⟨rfl, hb5⟩; obtain ⟨hc5, hf5⟩ := bcell hb5; have hz5 := hb5.size; (try simp at hz5); have k5_0 : Blk w5 (w.heap.size) #[.int .i64 bw, .int .i64 bh] := Blk.bl (by repeat (first | (with_reducible assumption) | ((with_reducible refine Blk.new' ?_ _ _); (first | rfl | (simp; done))) | (with_reducible apply Blk.set2) | (with_reducible apply Blk.set1) | ((with_reducible refine Blk.other ?_ ?_ _); rotate_left; (focus (first | omega | (simp; done) | (simp; omega)))) | (with_reducible refine Blk.alloc ?_ _) | (with_reducible refine Blk.drew ?_) | (with_reducible refine Blk.drewN ?_ _) | (with_reducible refine Blk.bl ?_ (by assumption)) | (with_reducible apply Blk.seti) | rfl)) hb5; have c5_0 := k5_0.cell; have f5_0 := k5_0.frozen; have l5_0 := k5_0.lt; have k5_1 : Blk w5 (w.heap.size + 1) #[.int .u64 (hi k), .int .u64 (lo k)] := Blk.bl (by repeat (first | (with_reducible assumption) | ((with_reducible refine Blk.new' ?_ _ _); (first | rfl | (simp; done))) | (with_reducible apply Blk.set2) | (with_reducible apply Blk.set1) | ((with_reducible refine Blk.other ?_ ?_ _); rotate_left; (focus (first | omega | (simp; done) | (simp; omega)))) | (with_reducible refine Blk.alloc ?_ _) | (with_reducible refine Blk.drew ?_) | (with_reducible refine Blk.drewN ?_ _) | (with_reducible refine Blk.bl ?_ (by assumption)) | (with_reducible apply Blk.seti) | rfl)) hb5; have c5_1 := k5_1.cell; have f5_1 := k5_1.frozen; have l5_1 := k5_1.lt; have k5_2 : Blk w5 (w.heap.size + 1 + 1) #[.int .u64 0, .int .u64 0] := Blk.bl (by repeat (first | (with_reducible assumption) | ((with_reducible refine Blk.new' ?_ _ _); (first | rfl | (simp; done))) | (with_reducible apply Blk.set2) | (with_reducible apply Blk.set1) | ((with_reducible refine Blk.other ?_ ?_ _); rotate_left; (focus (first | omega | (simp; done) | (simp; omega)))) | (with_reducible refine Blk.alloc ?_ _) | (with_reducible refine Blk.drew ?_) | (with_reducible refine Blk.drewN ?_ _) | (with_reducible refine Blk.bl ?_ (by assumption)) | (with_reducible apply Blk.seti) | rfl)) hb5; have c5_2 := k5_2.cell; have f5_2 := k5_2.frozen; have l5_2 := k5_2.lt; have k5_3 : Blk w5 (w.heap.size + 1 + 1 + 1) #[.int .u64 0, .int .u64 0] := Blk.bl (by repeat (first | (with_reducible assumption) | ((with_reducible refine Blk.new' ?_ _ _); (first | rfl | (simp; done))) | (with_reducible apply Blk.set2) | (with_reducible apply Blk.set1) | ((with_reducible refine Blk.other ?_ ?_ _); rotate_left; (focus (first | omega | (simp; done) | (simp; omega)))) | (with_reducible refine Blk.alloc ?_ _) | (with_reducible refine Blk.drew ?_) | (with_reducible refine Blk.drewN ?_ _) | (with_reducible refine Blk.bl ?_ (by assumption)) | (with_reducible apply Blk.seti) | rfl)) hb5; have c5_3 := k5_3.cell; have f5_3 := k5_3.frozen; have l5_3 := k5_3.lt; have k5_4 : Blk w5 (w.heap.size + 1 + 1 + 1 + 1) #[.int .u64 0, .int .u64 0] := Blk.bl (by repeat (first | (with_reducible assumption) | ((with_reducible refine Blk.new' ?_ _ _); (first | rfl | (simp; done))) | (with_reducible apply Blk.set2) | (with_reducible apply Blk.set1) | ((with_reducible refine Blk.other ?_ ?_ _); rotate_left; (focus (first | omega | (simp; done) | (simp; omega)))) | (with_reducible refine Blk.alloc ?_ _) | (with_reducible refine Blk.drew ?_) | (with_reducible refine Blk.drewN ?_ _) | (with_reducible refine Blk.bl ?_ (by assumption)) | (with_reducible apply Blk.seti) | rfl)) hb5; have c5_4 := k5_4.cell; have f5_4 := k5_4.frozen; have l5_4 := k5_4.lt)
                go_roundw
                case rel => exact ⟨y + 1, hyc, by go_num, by rw [HU.out], (by repeat (first | (with_reducible exact Below.refl _ _) | (with_reducible assumption) | (with_reducible refine bl_alloc ?_ _) | (with_reducible refine bl_drew ?_) | (with_reducible refine bl_drewN ?_ _) | ((with_reducible refine bl_set ?_ ?_ _); rotate_left; (focus (first | omega | (simp; done) | (simp; omega)))) | (with_reducible refine bl_trans ?_ (by assumption))))⟩
                case measure => simp [intOf]; omega
              · have HU := hid (topR_yes k c x y u); clear u
                go_wp2_with (go_at_call 45; (with_reducible refine (rHas_any _ _ _).mono ?_); rintro e_ w5 ⟨rfl, hb5⟩; obtain ⟨hc5, hf5⟩ := bcell hb5; have hz5 := hb5.size; (try simp at hz5); have k5_0 : Blk w5 (w.heap.size) #[.int .i64 bw, .int .i64 bh] := Blk.bl (by repeat (first | (with_reducible assumption) | ((with_reducible refine Blk.new' ?_ _ _); (first | rfl | (simp; done))) | (with_reducible apply Blk.set2) | (with_reducible apply Blk.set1) | ((with_reducible refine Blk.other ?_ ?_ _); rotate_left; (focus (first | omega | (simp; done) | (simp; omega)))) | (with_reducible refine Blk.alloc ?_ _) | (with_reducible refine Blk.drew ?_) | (with_reducible refine Blk.drewN ?_ _) | (with_reducible refine Blk.bl ?_ (by assumption)) | (with_reducible apply Blk.seti) | rfl)) hb5; have c5_0 := k5_0.cell; have f5_0 := k5_0.frozen; have l5_0 := k5_0.lt; have k5_1 : Blk w5 (w.heap.size + 1) #[.int .u64 (hi k), .int .u64 (lo k)] := Blk.bl (by repeat (first | (with_reducible assumption) | ((with_reducible refine Blk.new' ?_ _ _); (first | rfl | (simp; done))) | (with_reducible apply Blk.set2) | (with_reducible apply Blk.set1) | ((with_reducible refine Blk.other ?_ ?_ _); rotate_left; (focus (first | omega | (simp; done) | (simp; omega)))) | (with_reducible refine Blk.alloc ?_ _) | (with_reducible refine Blk.drew ?_) | (with_reducible refine Blk.drewN ?_ _) | (with_reducible refine Blk.bl ?_ (by assumption)) | (with_reducible apply Blk.seti) | rfl)) hb5; have c5_1 := k5_1.cell; have f5_1 := k5_1.frozen; have l5_1 := k5_1.lt; have k5_2 : Blk w5 (w.heap.size + 1 + 1) #[.int .u64 0, .int .u64 0] := Blk.bl (by repeat (first | (with_reducible assumption) | ((with_reducible refine Blk.new' ?_ _ _); (first | rfl | (simp; done))) | (with_reducible apply Blk.set2) | (with_reducible apply Blk.set1) | ((with_reducible refine Blk.other ?_ ?_ _); rotate_left; (focus (first | omega | (simp; done) | (simp; omega)))) | (with_reducible refine Blk.alloc ?_ _) | (with_reducible refine Blk.drew ?_) | (with_reducible refine Blk.drewN ?_ _) | (with_reducible refine Blk.bl ?_ (by assumption)) | (with_reducible apply Blk.seti) | rfl)) hb5; have c5_2 := k5_2.cell; have f5_2 := k5_2.frozen; have l5_2 := k5_2.lt; have k5_3 : Blk w5 (w.heap.size + 1 + 1 + 1) #[.int .u64 0, .int .u64 0] := Blk.bl (by repeat (first | (with_reducible assumption) | ((with_reducible refine Blk.new' ?_ _ _); (first | rfl | (simp; done))) | (with_reducible apply Blk.set2) | (with_reducible apply Blk.set1) | ((with_reducible refine Blk.other ?_ ?_ _); rotate_left; (focus (first | omega | (simp; done) | (simp; omega)))) | (with_reducible refine Blk.alloc ?_ _) | (with_reducible refine Blk.drew ?_) | (with_reducible refine Blk.drewN ?_ _) | (with_reducible refine Blk.bl ?_ (by assumption)) | (with_reducible apply Blk.seti) | rfl)) hb5; have c5_3 := k5_3.cell; have f5_3 := k5_3.frozen; have l5_3 := k5_3.lt; have k5_4 : Blk w5 (w.heap.size + 1 + 1 + 1 + 1) #[.int .u64 0, .int .u64 0] := Blk.bl (by repeat (first | (with_reducible assumption) | ((with_reducible refine Blk.new' ?_ _ _); (first | rfl | (simp; done))) | (with_reducible apply Blk.set2) | (with_reducible apply Blk.set1) | ((with_reducible refine Blk.other ?_ ?_ _); rotate_left; (focus (first | omega | (simp; done) | (simp; omega)))) | (with_reducible refine Blk.alloc ?_ _) | (with_reducible refine Blk.drew ?_) | (with_reducible refine Blk.drewN ?_ _) | (with_reducible refine Blk.bl ?_ (by assumption)) | (with_reducible apply Blk.seti) | rfl)) hb5; have c5_4 := k5_4.cell; have f5_4 := k5_4.frozen; have l5_4 := k5_4.lt)
                go_roundw
                case rel => exact ⟨y + 1, hyc, by go_num, by rw [HU.out], (by repeat (first | (with_reducible exact Below.refl _ _) | (with_reducible assumption) | (with_reducible refine bl_alloc ?_ _) | (with_reducible refine bl_drew ?_) | (with_reducible refine bl_drewN ?_ _) | ((with_reducible refine bl_set ?_ ?_ _); rotate_left; (focus (first | omega | (simp; done) | (simp; omega)))) | (with_reducible refine bl_trans ?_ (by assumption))))⟩
                case measure => simp [intOf]; omega
            · obtain rfl : y = c := by omega
              clear hcb
              have htl := topR_lt k y x y
              have hmv' := hmv.kept hB3; have hsv' := hsv.kept hB3
              have v2 := t2.bl hB3; have v3 := t3.bl hB3; have v4 := t4.bl hB3
              have hwB : Below w1.heap.size wo wr := hB.trans (hB3.mono (by have := hB.size; omega))
              clear r0 r1 r2 r3 r4 t0 t1 t2 t3 t4 hB
              by_cases ht : topR k y x y < 0
              · have HO := hid (refOk_c bw bh k x hlt (by rw [← HC'.out]; exact ht))
                have eM : refM bw bh k = wz := by unfold refM; rw [HO.out]; rfl
                have eS : refS bw bh k = wz := by unfold refS; rw [HO.out]; rfl
                have HE := hid (And.intro eM eS)
                clear eM eS
                have c2 := v2.cell; have c3 := v3.cell; have c4 := v4.cell
                have f2 := v2.frozen; have f3 := v3.frozen
                have hBe : Below w.heap.size w wr := hBr.trans (hwB.mono (by omega))
                go_wp2
                go_region
                all_goals go_wp2
                rw [HE.out.1, HE.out.2, HO.out, hi_wz, lo_wz]
                all_goals refine bodyPost_ret (v := .tuple #[.agg #[.int .u64 0, .int .u64 0], .agg #[.int .u64 0, .int .u64 0], .bool false]) (by simp [results, Try.results13, go_sem, *]) rfl ⟨rfl, ?_⟩
                all_goals exact (by repeat (first | (with_reducible exact Below.refl _ _) | (with_reducible assumption) | (with_reducible refine bl_alloc ?_ _) | (with_reducible refine bl_drew ?_) | (with_reducible refine bl_drewN ?_ _) | ((with_reducible refine bl_set ?_ ?_ _); rotate_left; (focus (first | omega | (simp; done) | (simp; omega)))) | (with_reducible refine bl_trans ?_ (by assumption))))
              · obtain ⟨t, ht'⟩ := Int.eq_ofNat_of_zero_le (show 0 ≤ topR k y x y by omega)
                rw [ht']
                have HTop := hid ht'
                have hty : t < y := by omega
                have hm1 := miAll_len k y x; have hm2 := stAll_len k y x
                clear ht ht' htl
                obtain ⟨wy, rfl⟩ : ∃ wy : World, wy = wr := ⟨_, rfl⟩
                have hwy := hwB.size
                have ht0 : (0 : Int) ≤ (t : Int) := by omega
                go_upto_region 21 with fail
                go_wp2
                clear hB3 hmv hsv c0 c1 l0 l1
                go_loopw [8, 9, 15] (fun mv sv i wr => ∃ n : Nat, n ≤ t ∧ i = .int .i64 n ∧ Own wr w1.heap.size mv (miAll k y x ++ miCol k y x n) ∧ Own wr w1.heap.size sv (stAll k y x ++ stCol y x n) ∧ Apart mv sv ∧ Below w1.heap.size wy wr) (fun _ _ i _ => t - (intOf i).toNat)
                case atStart => exact ⟨0, by omega, rfl, by simpa [miCol] using hmv', by simpa [stCol] using hsv', hap, Below.refl _ _⟩
                case round =>
                  obtain ⟨n, hn, rfl, hmv, hsv, hap4, hB4⟩ := hrel
                  have z0 := s0.below hB4 (by omega); have z1 := s1.below hB4 (by omega)
                  have c0 := z0.cell; have c1 := z1.cell; have l0 := z0.lt; have l1 := z1.lt
                  have hsz4 := hB4.size
                  have hm3 := miCol_len k y x n; have hm4 := stCol_len y x n
                  by_cases hlt4 : n < t
                  · have hs3 : IntKind.i64.wrap (x * (bh + 1) + n) = x * (bh + 1) + n := by
                      have := HC.out; exact wr64 (by omega) (by omega)
                    have hh := has_place k bh x n y HC'.out (by omega) (by omega)
                    have hpc := hid (place_cast bh x n y HC.out)
                    have HS := hid (stCol_succ y x n)
                    
                    cases u : bit k (x * y + n) <;> rw [u] at hh
                    · have HU := hid (miCol_no k y x n u); clear u
                      go_wp2_with (first | (at_builtin; refine wpList_app rfl _ _ rfl w1.heap.size _ (stAll k y x ++ stCol y x n) rfl rfl hsv (by omega) (by rw [List.length_append]; omega) ?_; intro sv6 w6 hsv6 hB6 ha6 hk6; have d0 := z0.below hB6 (by omega); have d1 := z1.below hB6 (by omega); have dc0 := d0.cell; have dc1 := d1.cell; have dl0 := d0.lt; have dl1 := d1.lt; have hmv6 := hk6 _ _ hmv (Apart.or hap4); have hap6 := hap4.app hmv ha6) | ((go_at_call 45; (with_reducible refine (rHas_any _ _ _).mono ?_); rintro e_ w7 ⟨rfl, hb7⟩; obtain ⟨hc7, hf7⟩ := bcell hb7; have hz7 := hb7.size; (try simp at hz7); have k7_0 : Blk w7 (w.heap.size) #[.int .i64 bw, .int .i64 bh] := Blk.bl (by repeat (first | (with_reducible assumption) | ((with_reducible refine Blk.new' ?_ _ _); (first | rfl | (simp; done))) | (with_reducible apply Blk.set2) | (with_reducible apply Blk.set1) | ((with_reducible refine Blk.other ?_ ?_ _); rotate_left; (focus (first | omega | (simp; done) | (simp; omega)))) | (with_reducible refine Blk.alloc ?_ _) | (with_reducible refine Blk.drew ?_) | (with_reducible refine Blk.drewN ?_ _) | (with_reducible refine Blk.bl ?_ (by assumption)) | (with_reducible apply Blk.seti) | rfl)) hb7; have c7_0 := k7_0.cell; have f7_0 := k7_0.frozen; have l7_0 := k7_0.lt; have k7_1 : Blk w7 (w.heap.size + 1) #[.int .u64 (hi k), .int .u64 (lo k)] := Blk.bl (by repeat (first | (with_reducible assumption) | ((with_reducible refine Blk.new' ?_ _ _); (first | rfl | (simp; done))) | (with_reducible apply Blk.set2) | (with_reducible apply Blk.set1) | ((with_reducible refine Blk.other ?_ ?_ _); rotate_left; (focus (first | omega | (simp; done) | (simp; omega)))) | (with_reducible refine Blk.alloc ?_ _) | (with_reducible refine Blk.drew ?_) | (with_reducible refine Blk.drewN ?_ _) | (with_reducible refine Blk.bl ?_ (by assumption)) | (with_reducible apply Blk.seti) | rfl)) hb7; have c7_1 := k7_1.cell; have f7_1 := k7_1.frozen; have l7_1 := k7_1.lt); have hmv7 := hmv6.kept hb7; have hsv7 := hsv6.kept hb7))
                      go_roundw
                      case rel =>
                        refine ⟨n + 1, by omega, by go_num, by rw [HU.out]; exact hmv7, ?_, hap6, hB4.trans (hB6.trans (hb7.mono ?_))⟩
                        · rw [HS.out, ← List.append_assoc, ← hpc.out]; exact hsv7
                        · have := hB6.size; omega
                      case measure => simp [intOf]; omega
                    · have HU := hid (miCol_yes k y x n u); clear u
                      go_wp2_with (first | (at_builtin; refine wpList_app rfl _ _ rfl w1.heap.size _ (miAll k y x ++ miCol k y x n) rfl rfl hmv7 (by have := hB6.size; omega) (by rw [List.length_append]; omega) ?_; intro mv8 w8 hmv8 hB8 ha8 hk8) | (at_builtin; refine wpList_app rfl _ _ rfl w1.heap.size _ (stAll k y x ++ stCol y x n) rfl rfl hsv (by omega) (by rw [List.length_append]; omega) ?_; intro sv6 w6 hsv6 hB6 ha6 hk6; have d0 := z0.below hB6 (by omega); have d1 := z1.below hB6 (by omega); have dc0 := d0.cell; have dc1 := d1.cell; have dl0 := d0.lt; have dl1 := d1.lt; have hmv6 := hk6 _ _ hmv (Apart.or hap4); have hap6 := hap4.app hmv ha6) | ((go_at_call 45; (with_reducible refine (rHas_any _ _ _).mono ?_); rintro e_ w7 ⟨rfl, hb7⟩; obtain ⟨hc7, hf7⟩ := bcell hb7; have hz7 := hb7.size; (try simp at hz7); have k7_0 : Blk w7 (w.heap.size) #[.int .i64 bw, .int .i64 bh] := Blk.bl (by repeat (first | (with_reducible assumption) | ((with_reducible refine Blk.new' ?_ _ _); (first | rfl | (simp; done))) | (with_reducible apply Blk.set2) | (with_reducible apply Blk.set1) | ((with_reducible refine Blk.other ?_ ?_ _); rotate_left; (focus (first | omega | (simp; done) | (simp; omega)))) | (with_reducible refine Blk.alloc ?_ _) | (with_reducible refine Blk.drew ?_) | (with_reducible refine Blk.drewN ?_ _) | (with_reducible refine Blk.bl ?_ (by assumption)) | (with_reducible apply Blk.seti) | rfl)) hb7; have c7_0 := k7_0.cell; have f7_0 := k7_0.frozen; have l7_0 := k7_0.lt; have k7_1 : Blk w7 (w.heap.size + 1) #[.int .u64 (hi k), .int .u64 (lo k)] := Blk.bl (by repeat (first | (with_reducible assumption) | ((with_reducible refine Blk.new' ?_ _ _); (first | rfl | (simp; done))) | (with_reducible apply Blk.set2) | (with_reducible apply Blk.set1) | ((with_reducible refine Blk.other ?_ ?_ _); rotate_left; (focus (first | omega | (simp; done) | (simp; omega)))) | (with_reducible refine Blk.alloc ?_ _) | (with_reducible refine Blk.drew ?_) | (with_reducible refine Blk.drewN ?_ _) | (with_reducible refine Blk.bl ?_ (by assumption)) | (with_reducible apply Blk.seti) | rfl)) hb7; have c7_1 := k7_1.cell; have f7_1 := k7_1.frozen; have l7_1 := k7_1.lt); have hmv7 := hmv6.kept hb7; have hsv7 := hsv6.kept hb7; have dd0 := k7_0.cell))
                      go_roundw
                      case rel =>
                        have hsv8 := hk8 _ _ hsv7 (Apart.or hap6.symm)
                        refine ⟨n + 1, by omega, by go_num, ?_, ?_, (hap6.symm.app hsv7 ha8).symm, hB4.trans (hB6.trans ((hb7.mono ?_).trans hB8))⟩
                        · rw [HU.out, ← List.append_assoc, ← hpc.out]; exact hmv8
                        · rw [HS.out, ← List.append_assoc, ← hpc.out]; exact hsv8
                        · have := hB6.size; omega
                      case measure => simp [intOf]; omega
                  · obtain rfl : n = t := by omega
                    go_wp2
                    go_roundw
                    case rel =>
                      refine ⟨x + 1, by omega, by go_num, ?_, ?_, hap4, hwB.trans hB4, hid fun j hj => ?_⟩
                      · rw [miAll, HTop.out, Int.toNat_natCast]; exact hmv
                      · rw [stAll, HTop.out, Int.toNat_natCast]; exact hsv
                      · by_cases e : j = x
                        · subst e; rw [HTop.out]; omega
                        · exact HT.out j (by omega)
                    case measure => simp [intOf]; omega
        · obtain ⟨n, rfl⟩ := Int.eq_ofNat_of_zero_le (show 0 ≤ bw by omega)
          obtain rfl : x = n := by omega
          have hlen1 := miAll_len k c x; have hlen2 := stAll_len k c x
          have hxc : x * c ≤ 8 * 9 := Nat.mul_le_mul (by omega) hc9
          have HALL := hid (show (places k).all (fun p => decide (p < (x : Int) * (bh + 1))) = true by
            rw [List.all_eq_true]; intro p hp
            obtain ⟨i, hi, rfl⟩ := List.mem_iff_getElem.1 hp
            have := HN.out i hi
            simp [List.getD, hi] at this; simpa using this)
          have HTOP := hid (show (List.range (x : Int).toNat).all (fun x => decide (0 ≤ topR k (bh + 1).toNat x (bh + 1).toNat)) = true by
            rw [List.all_eq_true]; intro j hj
            rw [← HC'.out]; simp at hj ⊢; exact HT.out j hj)
          have HOK := hid (show refOk x bh k = decide (((miAll k c x).length : Int) = ((stAll k c x).length : Int) / 2) by
            unfold refOk; rw [hm, HALL.out, HTOP.out, ← HC'.out, Int.toNat_natCast]; simp only [Bool.true_and])
          obtain ⟨mr, mcap, rfl, _⟩ := hmv.shape
          obtain ⟨sr, scap, rfl, _⟩ := hsv.shape
          have c2 := t2.cell; have c3 := t3.cell; have c4 := t4.cell
          have f2 := t2.frozen; have f3 := t3.frozen
          have lt2 := t2.lt; have lt3 := t3.lt
          have hBe : Below w.heap.size w wr := hBr.trans (hB.mono (by omega))
          clear r0 r1 r2 r3 r4 own1' own2'
          by_cases hq : ((miAll k c x).length : Int) = ((stAll k c x).length : Int) / 2
          · have HM := hid (show refM x bh k = wofs (miAll k c x) by unfold refM; rw [HOK.out, decide_eq_true hq, if_pos rfl, ← HC'.out, Int.toNat_natCast])
            have HS := hid (show refS x bh k = wofs (stAll k c x) by unfold refS; rw [HOK.out, decide_eq_true hq, if_pos rfl, ← HC'.out, Int.toNat_natCast])
            have HQ := hid (show refOk x bh k = true by rw [HOK.out, decide_eq_true hq])
            have hq' : (((miAll k c x).length : Int) != ((stAll k c x).length : Int) / 2) = false := by simp [hq]
            clear hq
            
            have hl1 : (miAll k c x).length ≤ 1000000 := by omega
            have hl2 : (stAll k c x).length ≤ 1000000 := by omega
            go_wp2_with (first | ((go_at_call 46; (with_reducible refine (rAt_any (miAll k c x) _ _ _ hmv hl1).mono ?_); rintro e_ w8 ⟨rfl, hb8⟩; obtain ⟨hc8, hf8⟩ := bcell hb8; have hz8 := hb8.size; (try simp at hz8); have k8_0 : Blk w8 (w.heap.size + 1 + 1) #[.int .u64 0, .int .u64 0] := Blk.bl (by repeat (first | (with_reducible assumption) | ((with_reducible refine Blk.new' ?_ _ _); (first | rfl | (simp; done))) | (with_reducible apply Blk.set2) | (with_reducible apply Blk.set1) | ((with_reducible refine Blk.other ?_ ?_ _); rotate_left; (focus (first | omega | (simp; done) | (simp; omega)))) | (with_reducible refine Blk.alloc ?_ _) | (with_reducible refine Blk.drew ?_) | (with_reducible refine Blk.drewN ?_ _) | (with_reducible refine Blk.bl ?_ (by assumption)) | (with_reducible apply Blk.seti) | rfl)) hb8; have c8_0 := k8_0.cell; have f8_0 := k8_0.frozen; have l8_0 := k8_0.lt; have k8_1 : Blk w8 (w.heap.size + 1 + 1 + 1) #[.int .u64 0, .int .u64 0] := Blk.bl (by repeat (first | (with_reducible assumption) | ((with_reducible refine Blk.new' ?_ _ _); (first | rfl | (simp; done))) | (with_reducible apply Blk.set2) | (with_reducible apply Blk.set1) | ((with_reducible refine Blk.other ?_ ?_ _); rotate_left; (focus (first | omega | (simp; done) | (simp; omega)))) | (with_reducible refine Blk.alloc ?_ _) | (with_reducible refine Blk.drew ?_) | (with_reducible refine Blk.drewN ?_ _) | (with_reducible refine Blk.bl ?_ (by assumption)) | (with_reducible apply Blk.seti) | rfl)) hb8; have c8_1 := k8_1.cell; have f8_1 := k8_1.frozen; have l8_1 := k8_1.lt); have hsv8 := hsv.kept hb8) | (go_at_call 46; (with_reducible refine (rAt_any (stAll k c x) _ _ _ hsv8 hl2).mono ?_); rintro e_ w9 ⟨rfl, hb9⟩; obtain ⟨hc9, hf9⟩ := bcell hb9; have hz9 := hb9.size; (try simp at hz9); have k9_0 : Blk w9 (w.heap.size + 1 + 1) #[.int .u64 0, .int .u64 0] := Blk.bl (by repeat (first | (with_reducible assumption) | ((with_reducible refine Blk.new' ?_ _ _); (first | rfl | (simp; done))) | (with_reducible apply Blk.set2) | (with_reducible apply Blk.set1) | ((with_reducible refine Blk.other ?_ ?_ _); rotate_left; (focus (first | omega | (simp; done) | (simp; omega)))) | (with_reducible refine Blk.alloc ?_ _) | (with_reducible refine Blk.drew ?_) | (with_reducible refine Blk.drewN ?_ _) | (with_reducible refine Blk.bl ?_ (by assumption)) | (with_reducible apply Blk.seti) | rfl)) hb9; have c9_0 := k9_0.cell; have f9_0 := k9_0.frozen; have l9_0 := k9_0.lt; have k9_1 : Blk w9 (w.heap.size + 1 + 1 + 1) #[.int .u64 0, .int .u64 0] := Blk.bl (by repeat (first | (with_reducible assumption) | ((with_reducible refine Blk.new' ?_ _ _); (first | rfl | (simp; done))) | (with_reducible apply Blk.set2) | (with_reducible apply Blk.set1) | ((with_reducible refine Blk.other ?_ ?_ _); rotate_left; (focus (first | omega | (simp; done) | (simp; omega)))) | (with_reducible refine Blk.alloc ?_ _) | (with_reducible refine Blk.drew ?_) | (with_reducible refine Blk.drewN ?_ _) | (with_reducible refine Blk.bl ?_ (by assumption)) | (with_reducible apply Blk.seti) | rfl)) hb9; have c9_1 := k9_1.cell; have f9_1 := k9_1.frozen; have l9_1 := k9_1.lt))
            rw [HM.out, HS.out, HQ.out]
            refine bodyPost_ret (v := .tuple #[(.agg #[.int .u64 (hi (wofs (miAll k c x))), .int .u64 (lo (wofs (miAll k c x)))]), (.agg #[.int .u64 (hi (wofs (stAll k c x))), .int .u64 (lo (wofs (stAll k c x)))]), .bool true]) (by simp [results, Try.results13, go_sem, *]) rfl ⟨rfl, ?_⟩
            exact (by repeat (first | (with_reducible exact Below.refl _ _) | (with_reducible assumption) | (with_reducible refine bl_alloc ?_ _) | (with_reducible refine bl_drew ?_) | (with_reducible refine bl_drewN ?_ _) | ((with_reducible refine bl_set ?_ ?_ _); rotate_left; (focus (first | omega | (simp; done) | (simp; omega)))) | (with_reducible refine bl_trans ?_ (by assumption))))
          · have HQ := hid (show refOk x bh k = false by rw [HOK.out, decide_eq_false hq])
            have HM := hid (show refM x bh k = wz by unfold refM; rw [HQ.out]; rfl)
            have HS := hid (show refS x bh k = wz by unfold refS; rw [HQ.out]; rfl)
            have hq' : (((miAll k c x).length : Int) != ((stAll k c x).length : Int) / 2) = true := by simp [hq]
            clear hq
            go_wp2
            go_region
            all_goals go_wp2
            rw [HM.out, HS.out, HQ.out, hi_wz, lo_wz]
            all_goals refine bodyPost_ret (v := .tuple #[.agg #[.int .u64 0, .int .u64 0], .agg #[.int .u64 0, .int .u64 0], .bool false]) (by simp [results, Try.results13, go_sem, *]) rfl ⟨rfl, ?_⟩
            all_goals exact (by repeat (first | (with_reducible exact Below.refl _ _) | (with_reducible assumption) | (with_reducible refine bl_alloc ?_ _) | (with_reducible refine bl_drew ?_) | (with_reducible refine bl_drewN ?_ _) | ((with_reducible refine bl_set ?_ ?_ _); rotate_left; (focus (first | omega | (simp; done) | (simp; omega)))) | (with_reducible refine bl_trans ?_ (by assumption))))
/-- Split of the reference, at whatever board. -/
theorem rSplit_any (bw bh : Int) (k : W) (w : World) : Calls Try.prog 13 #[.agg #[.int .i64 bw, .int .i64 bh], (.agg #[.int .u64 (hi k), .int .u64 (lo k)])] w fun e w' => e = .returned (.tuple #[(.agg #[.int .u64 (hi (refM bw bh k)), .int .u64 (lo (refM bw bh k))]), (.agg #[.int .u64 (hi (refS bw bh k)), .int .u64 (lo (refS bw bh k))]), .bool (refOk bw bh k)]) ∧ Below w.heap.size w w' := by
  cases hm : mayB bw bh with
  | true => exact rSplit_yes bw bh hm k w
  | false =>
    have e1 : refOk bw bh k = false := by unfold refOk; rw [hm]; rfl
    have e2 : refM bw bh k = wz := by unfold refM; rw [e1]; rfl
    have e3 : refS bw bh k = wz := by unfold refS; rw [e1]; rfl
    rw [e1, e2, e3]
    exact rSplit_no bw bh hm k w
end Go.Proofs.Ytgiggomcpifjmaa
