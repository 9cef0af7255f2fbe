/- The reference's Word, Has, At. -/
import Derived.Test.YtgiggomcpifjmaaTa
import Derived.Test.YtgiggomcpifjmaaTm
set_option linter.unusedVariables false
set_option linter.unusedSimpArgs false
namespace Go.Proofs.Ytgiggomcpifjmaa
open Go.RowKit Plm
set_option maxRecDepth 100000 in
set_option maxHeartbeats 400000 in
theorem rWord_any (f : Nat → Bool) (w : World) : Calls Try.prog 79 #[.agg (BA f)] w fun e w' => e = .returned (.agg #[.int .u64 (hi (wordF f)), .int .u64 (lo (wordF f))]) ∧ Below w.heap.size w w' := by
  go_enter Try.func79, Try.ntmps79
  go_wp2
  go_loopw [4] (fun i wr => ∃ n : Int, -1 ≤ n ∧ n ≤ 63 ∧ i = .int .i64 n ∧ Below w.heap.size w wr ∧ wr.heap.size = w.heap.size + 1 + 1 + 1 ∧ Blk wr w.heap.size (BA f) ∧ Blk wr (w.heap.size + 1) #[.int .u64 0, .int .u64 0] ∧ Blk wr (w.heap.size + 1 + 1) #[.int .u64 (acc f 64 (63 - n).toNat : Nat), .int .u64 (acc f 0 (63 - n).toNat : Nat)]) (fun i _ => (intOf i + 1).toNat)
  case atStart => exact ⟨63, by omega, by omega, rfl, (by repeat (first | (with_reducible exact Below.refl _ _) | (with_reducible assumption) | (with_reducible refine bl_alloc ?_ _) | (with_reducible refine bl_drew ?_) | (with_reducible refine bl_drewN ?_ _) | ((with_reducible refine bl_set ?_ ?_ _); rotate_left; (focus (first | omega | (simp; done) | (simp; omega)))) | (with_reducible refine bl_trans ?_ (by assumption)))), by simp, (by repeat (first | (with_reducible assumption) | ((with_reducible refine Blk.new' ?_ _ _); (first | rfl | (simp; done))) | (with_reducible apply Blk.set2) | (with_reducible apply Blk.set1) | ((with_reducible refine Blk.other ?_ ?_ _); rotate_left; (focus (first | omega | (simp; done) | (simp; omega)))) | (with_reducible refine Blk.alloc ?_ _) | (with_reducible refine Blk.drew ?_) | (with_reducible refine Blk.drewN ?_ _) | (with_reducible refine Blk.bl ?_ (by assumption)) | (with_reducible apply Blk.seti) | rfl)), (by repeat (first | (with_reducible assumption) | ((with_reducible refine Blk.new' ?_ _ _); (first | rfl | (simp; done))) | (with_reducible apply Blk.set2) | (with_reducible apply Blk.set1) | ((with_reducible refine Blk.other ?_ ?_ _); rotate_left; (focus (first | omega | (simp; done) | (simp; omega)))) | (with_reducible refine Blk.alloc ?_ _) | (with_reducible refine Blk.drew ?_) | (with_reducible refine Blk.drewN ?_ _) | (with_reducible refine Blk.bl ?_ (by assumption)) | (with_reducible apply Blk.seti) | rfl)), (show Blk _ _ #[.int .u64 0, .int .u64 0] from (by repeat (first | (with_reducible assumption) | ((with_reducible refine Blk.new' ?_ _ _); (first | rfl | (simp; done))) | (with_reducible apply Blk.set2) | (with_reducible apply Blk.set1) | ((with_reducible refine Blk.other ?_ ?_ _); rotate_left; (focus (first | omega | (simp; done) | (simp; omega)))) | (with_reducible refine Blk.alloc ?_ _) | (with_reducible refine Blk.drew ?_) | (with_reducible refine Blk.drewN ?_ _) | (with_reducible refine Blk.bl ?_ (by assumption)) | (with_reducible apply Blk.seti) | rfl)))⟩
  case round =>
    obtain ⟨n, h1, h2, rfl, hB, hz, b0, b1, b2⟩ := hrel
    by_cases hlt : 0 ≤ n
    · obtain ⟨j, rfl⟩ := Int.eq_ofNat_of_zero_le hlt
      obtain ⟨k, hk⟩ : ∃ k, (63 - (j : Int)).toNat = k := ⟨_, rfl⟩
      have hk1 : k + j = 63 := by omega
      rw [hk] at b2
      have g1 : wr.cell? ⟨w.heap.size, j, none⟩ = some (.bool (f j)) := (b0.cell j).trans (BA_get f j (by omega))
      have g2 : wr.cell? ⟨w.heap.size, 64 + j, none⟩ = some (.bool (f (64 + j))) := (b0.cell (64 + j)).trans (BA_get f (64 + j) (by omega))
      have c2 := b2.cell; have f2 := b2.frozen
      have e1 := acc_dbl f 64 k (by omega)
      have e2 := acc_dbl f 0 k (by omega)
      have e3 := acc_dbl1 f 64 k (by omega)
      have e4 := acc_dbl1 f 0 k (by omega)
      have e5 : (64 + (j : Int)).toNat = 64 + j := by omega
      have HK := hid hk; clear hk
      have he : (63 - ((j : Int) - 1)).toNat = k + 1 := by omega
      have HE := hid he; clear he
      cases u1 : f j <;> cases u2 : f (64 + j) <;> rw [u1] at g1 <;> rw [u2] at g2
      all_goals
        have U1 := hid u1; have U2 := hid u2
        clear u1 u2
        go_wp2
        go_roundw
        case rel =>
          refine ⟨(j : Int) - 1, by omega, by omega, rfl, (by repeat (first | (with_reducible exact Below.refl _ _) | (with_reducible assumption) | (with_reducible refine bl_alloc ?_ _) | (with_reducible refine bl_drew ?_) | (with_reducible refine bl_drewN ?_ _) | ((with_reducible refine bl_set ?_ ?_ _); rotate_left; (focus (first | omega | (simp; done) | (simp; omega)))) | (with_reducible refine bl_trans ?_ (by assumption)))), by simp [hz], (by repeat (first | (with_reducible assumption) | ((with_reducible refine Blk.new' ?_ _ _); (first | rfl | (simp; done))) | (with_reducible apply Blk.set2) | (with_reducible apply Blk.set1) | ((with_reducible refine Blk.other ?_ ?_ _); rotate_left; (focus (first | omega | (simp; done) | (simp; omega)))) | (with_reducible refine Blk.alloc ?_ _) | (with_reducible refine Blk.drew ?_) | (with_reducible refine Blk.drewN ?_ _) | (with_reducible refine Blk.bl ?_ (by assumption)) | (with_reducible apply Blk.seti) | rfl)), (by repeat (first | (with_reducible assumption) | ((with_reducible refine Blk.new' ?_ _ _); (first | rfl | (simp; done))) | (with_reducible apply Blk.set2) | (with_reducible apply Blk.set1) | ((with_reducible refine Blk.other ?_ ?_ _); rotate_left; (focus (first | omega | (simp; done) | (simp; omega)))) | (with_reducible refine Blk.alloc ?_ _) | (with_reducible refine Blk.drew ?_) | (with_reducible refine Blk.drewN ?_ _) | (with_reducible refine Blk.bl ?_ (by assumption)) | (with_reducible apply Blk.seti) | rfl)), ?_⟩
          rw [HE.out]
          first | rw [acc_t f 0 k j (by omega) U1.out] | rw [acc_f f 0 k j (by omega) U1.out]
          first | rw [acc_t f 64 k (64 + j) (by omega) U2.out] | rw [acc_f f 64 k (64 + j) (by omega) U2.out]
          first | with_reducible exact ((b2.s1 _).s0 _) | with_reducible exact (((b2.s1 _).s0 _).s1 _) | with_reducible exact (((b2.s1 _).s0 _).s0 _) | with_reducible exact ((((b2.s1 _).s0 _).s1 _).s0 _)
        case measure => simp [intOf]
    · obtain rfl : n = -1 := by omega
      have HW := hid (hi_wordF f); have HL := hid (lo_wordF f)
      rw [show (63 - (-1 : Int)).toNat = 64 by decide, ← HW.out, ← HL.out] at b2
      have c2 := b2.cell; have f2 := b2.frozen
      have c1 := b1.cell; have f1 := b1.frozen
      go_wp2
      refine bodyPost_ret (v := (.agg #[.int .u64 (hi (wordF f)), .int .u64 (lo (wordF f))])) (by simp [results, Try.results79, go_sem, *]) rfl ⟨rfl, ?_⟩
      exact (by repeat (first | (with_reducible exact Below.refl _ _) | (with_reducible assumption) | (with_reducible refine bl_alloc ?_ _) | (with_reducible refine bl_drew ?_) | (with_reducible refine bl_drewN ?_ _) | ((with_reducible refine bl_set ?_ ?_ _); rotate_left; (focus (first | omega | (simp; done) | (simp; omega)))) | (with_reducible refine bl_trans ?_ (by assumption))))
end Go.Proofs.Ytgiggomcpifjmaa
