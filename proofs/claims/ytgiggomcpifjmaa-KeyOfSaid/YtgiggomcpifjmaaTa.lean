/- The reference's words place by place: Of, Word. -/
import Derived.Test.YtgiggomcpifjmaaBd
import Derived.Test.YtgiggomcpifjmaaTo
set_option linter.unusedVariables false
set_option linter.unusedSimpArgs false
namespace Go.Proofs.Ytgiggomcpifjmaa
open Go.RowKit Plm
set_option maxHeartbeats 400000
theorem zc_bits : Try.zeroCells89 = BA fun _ => false := by kernel_rfl
theorem ui_bit1 (x : BitVec 64) (k : Nat) : (bits .and .u64 (ui x / 2 ^ k) 1 == 1) = x.getLsbD k := by
  rw [ui_shr, show (1 : Int) = ui 1#64 from rfl, bits_and]
  rw [Bool.eq_iff_iff, beq_iff_eq]
  constructor
  · intro h
    have h' := ui_inj h
    have := congrArg (fun z => BitVec.getLsbD z 0) h'
    simpa using this
  · intro h
    congr 1
    apply BitVec.eq_of_getLsbD_eq
    intro i hi
    by_cases h0 : i = 0
    · subst h0; simpa using h
    · simp [h0]
theorem lo_bit (x : W) (k : Nat) (h : k < 64) : (bits .and .u64 (lo x / 2 ^ k) 1 == 1) = bit x k := by
  unfold lo; rw [ui_bit1, bit_lb]; simp [h]
theorem hi_bit (x : W) (k : Nat) (h : k < 64) : (bits .and .u64 (hi x / 2 ^ k) 1 == 1) = bit x (64 + k) := by
  unfold hi; rw [ui_bit1, bit_hb]; simp [h]
def ofF (x : W) (k : Nat) (j : Nat) : Bool := (decide (j < k) || (decide (64 ≤ j) && decide (j < 64 + k))) && bit x j
set_option maxRecDepth 100000 in
set_option maxHeartbeats 400000 in
theorem rOf_any (x : W) (w : World) : Calls Try.prog 47 #[(.agg #[.int .u64 (hi x), .int .u64 (lo x)])] w fun e w' => e = .returned (.agg (BA (bit x))) ∧ Below w.heap.size w w' := by
  go_enter Try.func47, Try.ntmps47
  go_wp2
  go_loopw [4] (fun i wr => ∃ k : Nat, k ≤ 64 ∧ i = .int .i64 k ∧ Below w.heap.size w wr ∧ wr.heap.size = w.heap.size + 1 + 1 + 1 ∧ Blk wr w.heap.size #[.int .u64 (hi x), .int .u64 (lo x)] ∧ Blk wr (w.heap.size + 1) (BA fun _ => false) ∧ Blk wr (w.heap.size + 1 + 1) (BA (ofF x k))) (fun i _ => 64 - (intOf i).toNat)
  case atStart =>
    refine ⟨0, by omega, rfl, (by repeat (first | (with_reducible exact Below.refl _ _) | (with_reducible assumption) | (with_reducible refine bl_alloc ?_ _) | (with_reducible refine bl_drew ?_) | (with_reducible refine bl_drewN ?_ _) | ((with_reducible refine bl_set ?_ ?_ _); rotate_left; (focus (first | omega | (simp; done) | (simp; omega)))) | (with_reducible refine bl_trans ?_ (by assumption)))), by simp, (by repeat (first | (with_reducible assumption) | ((with_reducible refine Blk.new' ?_ _ _); (first | rfl | (simp; done))) | (with_reducible apply Blk.set2) | (with_reducible apply Blk.set1) | ((with_reducible refine Blk.other ?_ ?_ _); rotate_left; (focus (first | omega | (simp; done) | (simp; omega)))) | (with_reducible refine Blk.alloc ?_ _) | (with_reducible refine Blk.drew ?_) | (with_reducible refine Blk.drewN ?_ _) | (with_reducible refine Blk.bl ?_ (by assumption)) | (with_reducible apply Blk.seti) | rfl)), ?_, ?_⟩
    · rw [zc_bits]; exact (by repeat (first | (with_reducible assumption) | ((with_reducible refine Blk.new' ?_ _ _); (first | rfl | (simp; done))) | (with_reducible apply Blk.set2) | (with_reducible apply Blk.set1) | ((with_reducible refine Blk.other ?_ ?_ _); rotate_left; (focus (first | omega | (simp; done) | (simp; omega)))) | (with_reducible refine Blk.alloc ?_ _) | (with_reducible refine Blk.drew ?_) | (with_reducible refine Blk.drewN ?_ _) | (with_reducible refine Blk.bl ?_ (by assumption)) | (with_reducible apply Blk.seti) | rfl))
    · rw [zc_bits, show (BA fun _ => false) = BA (ofF x 0) from BA_congr fun j hj => by simp [ofF]; omega]; exact (by repeat (first | (with_reducible assumption) | ((with_reducible refine Blk.new' ?_ _ _); (first | rfl | (simp; done))) | (with_reducible apply Blk.set2) | (with_reducible apply Blk.set1) | ((with_reducible refine Blk.other ?_ ?_ _); rotate_left; (focus (first | omega | (simp; done) | (simp; omega)))) | (with_reducible refine Blk.alloc ?_ _) | (with_reducible refine Blk.drew ?_) | (with_reducible refine Blk.drewN ?_ _) | (with_reducible refine Blk.bl ?_ (by assumption)) | (with_reducible apply Blk.seti) | rfl))
  case round =>
    obtain ⟨k, hk, rfl, hB, hz, b0, b1, b2⟩ := hrel
    have c0 := b0.cell; have f0 := b0.frozen
    have f2 := b2.frozen
    by_cases hlt : k < 64
    · have g1 : wr.cell? ⟨w.heap.size + 1 + 1, k, none⟩ = some (.bool (ofF x k k)) := (b2.cell k).trans (BA_get (ofF x k) k (by omega))
      have g2 : wr.cell? ⟨w.heap.size + 1 + 1, 64 + k, none⟩ = some (.bool (ofF x k (64 + k))) := (b2.cell (64 + k)).trans (BA_get (ofF x k) (64 + k) (by omega))
      have e1 := lo_bit x k hlt
      have e2 := hi_bit x k hlt
      have e3 : (64 + (k : Int)).toNat = 64 + k := by omega
      go_wp2
      go_roundw
      case rel =>
        refine ⟨k + 1, by omega, by go_num, (by repeat (first | (with_reducible exact Below.refl _ _) | (with_reducible assumption) | (with_reducible refine bl_alloc ?_ _) | (with_reducible refine bl_drew ?_) | (with_reducible refine bl_drewN ?_ _) | ((with_reducible refine bl_set ?_ ?_ _); rotate_left; (focus (first | omega | (simp; done) | (simp; omega)))) | (with_reducible refine bl_trans ?_ (by assumption)))), by simp [hz], (by repeat (first | (with_reducible assumption) | ((with_reducible refine Blk.new' ?_ _ _); (first | rfl | (simp; done))) | (with_reducible apply Blk.set2) | (with_reducible apply Blk.set1) | ((with_reducible refine Blk.other ?_ ?_ _); rotate_left; (focus (first | omega | (simp; done) | (simp; omega)))) | (with_reducible refine Blk.alloc ?_ _) | (with_reducible refine Blk.drew ?_) | (with_reducible refine Blk.drewN ?_ _) | (with_reducible refine Blk.bl ?_ (by assumption)) | (with_reducible apply Blk.seti) | rfl)), (by repeat (first | (with_reducible assumption) | ((with_reducible refine Blk.new' ?_ _ _); (first | rfl | (simp; done))) | (with_reducible apply Blk.set2) | (with_reducible apply Blk.set1) | ((with_reducible refine Blk.other ?_ ?_ _); rotate_left; (focus (first | omega | (simp; done) | (simp; omega)))) | (with_reducible refine Blk.alloc ?_ _) | (with_reducible refine Blk.drew ?_) | (with_reducible refine Blk.drewN ?_ _) | (with_reducible refine Blk.bl ?_ (by assumption)) | (with_reducible apply Blk.seti) | rfl)), ?_⟩
        refine Blk.setb (f := fun j => if j = k then bit x k else ofF x k j) (Blk.setb b2 k _ (fun j hj => rfl)) (64 + k) _ (fun j hj => ?_)
        unfold ofF
        by_cases h1 : j = 64 + k
        · subst h1; simp
        · by_cases h2 : j = k
          · subst h2; simp [h1]
          · rw [if_neg h1]; simp only [if_neg h2]
            have a1 : decide (j < k) = decide (j < k + 1) := by rw [decide_eq_decide]; omega
            have a2 : decide (j < 64 + k) = decide (j < 64 + (k + 1)) := by rw [decide_eq_decide]; omega
            rw [a1, a2]
      case measure => simp [intOf]; omega
    · obtain rfl : k = 64 := by omega
      have e0 : BA (ofF x 64) = BA (bit x) := BA_congr fun j hj => by
        unfold ofF
        by_cases h : j < 64
        · simp [h]
        · have : 64 ≤ j ∧ j < 128 := by omega
          simp [this]
      rw [e0] at b2
      have HT := hid (rfl : Try.prog.info? 89 = Try.prog.info? 89)
      obtain ⟨t2, hb2⟩ := b2
      have b2' : Blk wr (w.heap.size + 1 + 1) (BA (bit x)) := ⟨t2, hb2⟩
      have hb1 := b1.there
      go_wp2_with (first | (refine wpList_load_row rfl 89 _ rfl _ rfl _ _ _ _ hb2 Try.underlying89 rfl (by rw [BA_size]; kernel_rfl) ?_) | (refine wpList_store_mid rfl 89 _ _ rfl _ _ _ rfl rfl ?_ (by rw [BA_size]; kernel_rfl) (BA_one _) ?_; (focus (rw [BA_size]; rw [BA_size] at hb1; exact hb1))))
      have br : Blk (wr.setCells (w.heap.size + 1) 0 (BA (bit x)).toList) (w.heap.size + 1) (BA (bit x)) := b1.setRow (by rw [BA_size, BA_size])
      have hr := br.range
      have hl := run_loadVar_mid (P := Try.prog) (wr.setCells (w.heap.size + 1) 0 (BA (bit x)).toList) (w.heap.size + 1) 0 89 (BA (bit x)).toList _ hr Try.underlying89 rfl (by rw [Array.length_toList, BA_size]; kernel_rfl)
      rw [Array.toArray_toList] at hl
      refine bodyPost_ret (v := .agg (BA (bit x))) (results_cell (ad := ⟨w.heap.size + 1, 0, none⟩) Try.results47 (by simp) hl) rfl ⟨rfl, ?_⟩
      exact bl_setRow hB (by omega) _ _
end Go.Proofs.Ytgiggomcpifjmaa
