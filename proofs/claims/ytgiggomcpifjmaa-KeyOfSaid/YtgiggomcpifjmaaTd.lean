/- The reference's At, May. -/
import Derived.Test.YtgiggomcpifjmaaTc
import Derived.Test.YtgiggomcpifjmaaQa
set_option linter.unusedVariables false
set_option linter.unusedSimpArgs false
namespace Go.Proofs.Ytgiggomcpifjmaa
open Go.RowKit Plm
theorem wofs_in (l : List Int) (p : Nat) (hp : p < 128) (j : Nat) (hj : j < 128) : (if j = p then true else bit (wofs l) j) = bit (wofs (l ++ [(p : Int)])) j := by
  rw [wofs_snoc, bit_wor, bit_wof]
  by_cases h : j = p
  · subst h; simp [hj]
  · have h' : ¬ (j : Int) = (p : Int) := by omega
    simp [h, h']
theorem wofs_outs (l : List Int) (p : Int) (h : p < 0 ∨ 128 ≤ p) : wofs (l ++ [p]) = wofs l := by rw [wofs_snoc, wof_out p h, wor_wz]
theorem rWord_bit (x : W) (w : World) : Calls Try.prog 79 #[.agg (BA (bit x))] w fun e w' => e = .returned (.agg #[.int .u64 (hi x), .int .u64 (lo x)]) ∧ Below w.heap.size w w' := by
  have h := rWord_any (bit x) w
  rw [wordF_eq (bit x) x fun _ _ => rfl] at h
  exact h
set_option maxRecDepth 100000 in
set_option maxHeartbeats 400000 in
theorem rAt_any (l : List Int) (v : Value) (base : Nat) (w : World) (hown : Own w base v l) (hl : l.length ≤ 1000000) : Calls Try.prog 46 #[v] w fun e w' => e = .returned (.agg #[.int .u64 (hi (wofs l)), .int .u64 (lo (wofs l))]) ∧ Below w.heap.size w w' := by
  obtain ⟨r, cap, rfl, hc⟩ := hown.shape
  have HC := hid hc; clear hc hown
  go_enter Try.func46, Try.ntmps46
  go_wp2
  go_loopw [4] (fun i wr => ∃ k : Nat, k ≤ l.length ∧ i = .int .i64 k ∧ Below w.heap.size w wr ∧ Blk wr w.heap.size #[.int .u64 0, .int .u64 0] ∧ Blk wr (w.heap.size + 1) (BA (bit (wofs (l.take k))))) (fun i _ => l.length - (intOf i).toNat)
  case atStart =>
    refine ⟨0, by omega, rfl, (by repeat (first | (with_reducible exact Below.refl _ _) | (with_reducible assumption) | (with_reducible refine bl_alloc ?_ _) | (with_reducible refine bl_drew ?_) | (with_reducible refine bl_drewN ?_ _) | ((with_reducible refine bl_set ?_ ?_ _); rotate_left; (focus (first | omega | (simp; done) | (simp; omega)))) | (with_reducible refine bl_trans ?_ (by assumption)))), (by repeat (first | (with_reducible assumption) | ((with_reducible refine Blk.new' ?_ _ _); (first | rfl | (simp; done))) | (with_reducible apply Blk.set2) | (with_reducible apply Blk.set1) | ((with_reducible refine Blk.other ?_ ?_ _); rotate_left; (focus (first | omega | (simp; done) | (simp; omega)))) | (with_reducible refine Blk.alloc ?_ _) | (with_reducible refine Blk.drew ?_) | (with_reducible refine Blk.drewN ?_ _) | (with_reducible refine Blk.bl ?_ (by assumption)) | (with_reducible apply Blk.seti) | rfl)), ?_⟩
    rw [zc_bits, show (BA fun _ => false) = BA (bit (wofs (l.take 0))) from BA_congr fun j hj => by simp [wofs_nil, bit_wz]]; exact (by repeat (first | (with_reducible assumption) | ((with_reducible refine Blk.new' ?_ _ _); (first | rfl | (simp; done))) | (with_reducible apply Blk.set2) | (with_reducible apply Blk.set1) | ((with_reducible refine Blk.other ?_ ?_ _); rotate_left; (focus (first | omega | (simp; done) | (simp; omega)))) | (with_reducible refine Blk.alloc ?_ _) | (with_reducible refine Blk.drew ?_) | (with_reducible refine Blk.drewN ?_ _) | (with_reducible refine Blk.bl ?_ (by assumption)) | (with_reducible apply Blk.seti) | rfl))
  case round =>
    obtain ⟨k, hk, rfl, hB, b0, b1⟩ := hrel
    by_cases hlt : k < l.length
    · obtain ⟨g, rfl, hg0, hg1, hg2⟩ := HC.out (by intro h; rw [h] at hlt; simp at hlt)
      have g2 : wr.cell? ⟨g, k, none⟩ = some (.int .i64 (l.getD k 0)) := (hB.cell (p := ⟨g, k, none⟩) hg1).trans (hg2 k hlt)
      clear hg2
      have HT := hid (getD_take l k hlt)
      generalize l.getD k 0 = p at *
      by_cases h0 : 0 ≤ p
      · by_cases h1 : p < 128
        · obtain ⟨q, rfl⟩ := Int.eq_ofNat_of_zero_le h0
          have hq : q < 128 := by omega
          have g3 : wr.cell? ⟨w.heap.size + 1, q, none⟩ = some (.bool (bit (wofs (l.take k)) q)) := (b1.cell q).trans (BA_get _ q hq)
          have f1 := b1.frozen
          go_wp2
          go_roundw
          case rel =>
            refine ⟨k + 1, by omega, by go_num, (by repeat (first | (with_reducible exact Below.refl _ _) | (with_reducible assumption) | (with_reducible refine bl_alloc ?_ _) | (with_reducible refine bl_drew ?_) | (with_reducible refine bl_drewN ?_ _) | ((with_reducible refine bl_set ?_ ?_ _); rotate_left; (focus (first | omega | (simp; done) | (simp; omega)))) | (with_reducible refine bl_trans ?_ (by assumption)))), (by repeat (first | (with_reducible assumption) | ((with_reducible refine Blk.new' ?_ _ _); (first | rfl | (simp; done))) | (with_reducible apply Blk.set2) | (with_reducible apply Blk.set1) | ((with_reducible refine Blk.other ?_ ?_ _); rotate_left; (focus (first | omega | (simp; done) | (simp; omega)))) | (with_reducible refine Blk.alloc ?_ _) | (with_reducible refine Blk.drew ?_) | (with_reducible refine Blk.drewN ?_ _) | (with_reducible refine Blk.bl ?_ (by assumption)) | (with_reducible apply Blk.seti) | rfl)), ?_⟩
            rw [HT.out]
            exact Blk.setb b1 q true (wofs_in _ q hq)
          case measure => simp [intOf]; omega
        · have HO := hid (wofs_outs (l.take k) p (.inr (by omega)))
          go_wp2
          go_roundw
          case rel =>
            refine ⟨k + 1, by omega, by go_num, hB, b0, ?_⟩
            rw [HT.out, HO.out]; exact b1
          case measure => simp [intOf]; omega
      · have HO := hid (wofs_outs (l.take k) p (.inl (by omega)))
        go_wp2
        go_roundw
        case rel =>
          refine ⟨k + 1, by omega, by go_num, hB, b0, ?_⟩
          rw [HT.out, HO.out]; exact b1
        case measure => simp [intOf]; omega
    · obtain rfl : k = l.length := by omega
      rw [List.take_length] at b1
      have l0 := b0.lt; have c0 := b0.cell; have f0 := b0.frozen
      obtain ⟨t1, hq1⟩ := b1
      
      go_wp2_with (first | (refine wpList_load_row rfl 89 _ rfl _ rfl _ _ _ _ hq1 Try.underlying89 rfl (info_bits _) ?_) | (go_at_call 79; (with_reducible refine (rWord_bit _ _).mono ?_); rintro e_ w1 ⟨rfl, hb1⟩; obtain ⟨hc1, hf1⟩ := bcell hb1; have hz1 := hb1.size; (try simp at hz1); have k1_0 : Blk w1 (w.heap.size) #[.int .u64 0, .int .u64 0] := Blk.bl (by repeat (first | (with_reducible assumption) | ((with_reducible refine Blk.new' ?_ _ _); (first | rfl | (simp; done))) | (with_reducible apply Blk.set2) | (with_reducible apply Blk.set1) | ((with_reducible refine Blk.other ?_ ?_ _); rotate_left; (focus (first | omega | (simp; done) | (simp; omega)))) | (with_reducible refine Blk.alloc ?_ _) | (with_reducible refine Blk.drew ?_) | (with_reducible refine Blk.drewN ?_ _) | (with_reducible refine Blk.bl ?_ (by assumption)) | (with_reducible apply Blk.seti) | rfl)) hb1; have c1_0 := k1_0.cell; have f1_0 := k1_0.frozen; have l1_0 := k1_0.lt))

      refine bodyPost_ret (v := (.agg #[.int .u64 (hi (wofs l)), .int .u64 (lo (wofs l))])) (by simp [results, Try.results46, go_sem, *]) rfl ⟨rfl, ?_⟩
      exact (by repeat (first | (with_reducible exact Below.refl _ _) | (with_reducible assumption) | (with_reducible refine bl_alloc ?_ _) | (with_reducible refine bl_drew ?_) | (with_reducible refine bl_drewN ?_ _) | ((with_reducible refine bl_set ?_ ?_ _); rotate_left; (focus (first | omega | (simp; done) | (simp; omega)))) | (with_reducible refine bl_trans ?_ (by assumption))))
end Go.Proofs.Ytgiggomcpifjmaa
