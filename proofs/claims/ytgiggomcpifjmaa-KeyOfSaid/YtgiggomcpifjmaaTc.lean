/- The reference's Has and Places. -/
import Derived.Test.YtgiggomcpifjmaaTb
import Derived.Test.YtgiggomcpifjmaaTl
set_option linter.unusedVariables false
set_option linter.unusedSimpArgs false
namespace Go.Proofs.Ytgiggomcpifjmaa
open Go.RowKit Plm
def hasP (x : W) (p : Int) : Bool := decide (0 ≤ p) && (decide (p < 128) && bit x p.toNat)
set_option maxRecDepth 100000 in
set_option maxHeartbeats 400000 in
theorem rHas_any (x : W) (p : Int) (w : World) : Calls Try.prog 45 #[(.agg #[.int .u64 (hi x), .int .u64 (lo x)]), .int .i64 p] w fun e w' => e = .returned (.bool (hasP x p)) ∧ Below w.heap.size w w' := by
  
  by_cases h0 : p < 0
  · have H := hid (show hasP x p = false by unfold hasP; rw [decide_eq_false (by omega)]; rfl)
    go_enter Try.func45, Try.ntmps45
    go_wp2
    go_ret
    rw [H.out]
    exact ⟨rfl, (by repeat (first | (with_reducible exact Below.refl _ _) | (with_reducible assumption) | (with_reducible refine bl_alloc ?_ _) | (with_reducible refine bl_drew ?_) | (with_reducible refine bl_drewN ?_ _) | ((with_reducible refine bl_set ?_ ?_ _); rotate_left; (focus (first | omega | (simp; done) | (simp; omega)))) | (with_reducible refine bl_trans ?_ (by assumption))))⟩
  by_cases h1 : 127 < p
  · have H := hid (show hasP x p = false by unfold hasP; rw [decide_eq_false (p := p < 128) (by omega)]; simp)
    go_enter Try.func45, Try.ntmps45
    go_wp2
    go_ret
    rw [H.out]
    exact ⟨rfl, (by repeat (first | (with_reducible exact Below.refl _ _) | (with_reducible assumption) | (with_reducible refine bl_alloc ?_ _) | (with_reducible refine bl_drew ?_) | (with_reducible refine bl_drewN ?_ _) | ((with_reducible refine bl_set ?_ ?_ _); rotate_left; (focus (first | omega | (simp; done) | (simp; omega)))) | (with_reducible refine bl_trans ?_ (by assumption))))⟩
  · obtain ⟨n, rfl⟩ := Int.eq_ofNat_of_zero_le (show 0 ≤ p by omega)
    have hn : n < 128 := by omega
    have H := hid (show hasP x n = bit x n by unfold hasP; simp; intro h; omega)
    have g1 := hid (BA_get (bit x) n hn)
    go_enter Try.func45, Try.ntmps45
    go_wp2_with (first | (go_at_call 47; (with_reducible refine (rOf_any _ _).mono ?_); rintro e_ w1 ⟨rfl, hb1⟩; obtain ⟨hc1, hf1⟩ := bcell hb1; have hz1 := hb1.size; (try simp at hz1); have k1_0 : Blk w1 (w.heap.size) #[.int .u64 (hi x), .int .u64 (lo x)] := Blk.bl (by repeat (first | (with_reducible assumption) | ((with_reducible refine Blk.new' ?_ _ _); (first | rfl | (simp; done))) | (with_reducible apply Blk.set2) | (with_reducible apply Blk.set1) | ((with_reducible refine Blk.other ?_ ?_ _); rotate_left; (focus (first | omega | (simp; done) | (simp; omega)))) | (with_reducible refine Blk.alloc ?_ _) | (with_reducible refine Blk.drew ?_) | (with_reducible refine Blk.drewN ?_ _) | (with_reducible refine Blk.bl ?_ (by assumption)) | (with_reducible apply Blk.seti) | rfl)) hb1; have c1_0 := k1_0.cell; have f1_0 := k1_0.frozen; have l1_0 := k1_0.lt) | ((refine wpList_store_new rfl 89 _ _ rfl _ _ _ rfl rfl ?_ (info_bits _) (BA_one _) ?_); (focus (rw [BA_size, zc_size])); intro w2 hb2 hz2 k2; have c2 := (k2.cell n).trans g1.out))
    go_ret
    rw [H.out]
    exact ⟨rfl, bl_trans (b := w1) (by repeat (first | (with_reducible exact Below.refl _ _) | (with_reducible assumption) | (with_reducible refine bl_alloc ?_ _) | (with_reducible refine bl_drew ?_) | (with_reducible refine bl_drewN ?_ _) | ((with_reducible refine bl_set ?_ ?_ _); rotate_left; (focus (first | omega | (simp; done) | (simp; omega)))) | (with_reducible refine bl_trans ?_ (by assumption)))) hb2⟩
def placesTo (x : W) (n : Nat) : List Int := ((List.range n).filter fun i => bit x i).map fun (i : Nat) => (i : Int)
def places (x : W) : List Int := placesTo x 128
theorem placesTo_yes (x : W) (n : Nat) (h : bit x n = true) : placesTo x (n + 1) = placesTo x n ++ [(n : Int)] := by
  unfold placesTo; rw [List.range_succ, List.filter_append, List.map_append]; simp [h]
theorem placesTo_no (x : W) (n : Nat) (h : bit x n = false) : placesTo x (n + 1) = placesTo x n := by
  unfold placesTo; rw [List.range_succ, List.filter_append, List.map_append]; simp [h]
theorem placesTo_len (x : W) (n : Nat) : (placesTo x n).length ≤ n := by
  unfold placesTo; rw [List.length_map]; exact Nat.le_trans (List.length_filter_le _ _) (by simp)
theorem places_len (x : W) : (places x).length = cnt x := by unfold places placesTo cnt; rw [List.length_map]
set_option maxRecDepth 100000 in
set_option maxHeartbeats 400000 in
theorem rPlaces_any (x : W) (w : World) : Calls Try.prog 14 #[(.agg #[.int .u64 (hi x), .int .u64 (lo x)])] w fun e w' => (∃ v, e = .returned v ∧ Own w' w.heap.size v (places x)) ∧ Below w.heap.size w w' := by
  
  go_enter Try.func14, Try.ntmps14
  go_wp2_with (first | (go_at_call 47; (with_reducible refine (rOf_any _ _).mono ?_); rintro e_ w1 ⟨rfl, hb1⟩; obtain ⟨hc1, hf1⟩ := bcell hb1; have hz1 := hb1.size; (try simp at hz1); have k1_0 : Blk w1 (w.heap.size) #[.int .u64 (hi x), .int .u64 (lo x)] := Blk.bl (by repeat (first | (with_reducible assumption) | ((with_reducible refine Blk.new' ?_ _ _); (first | rfl | (simp; done))) | (with_reducible apply Blk.set2) | (with_reducible apply Blk.set1) | ((with_reducible refine Blk.other ?_ ?_ _); rotate_left; (focus (first | omega | (simp; done) | (simp; omega)))) | (with_reducible refine Blk.alloc ?_ _) | (with_reducible refine Blk.drew ?_) | (with_reducible refine Blk.drewN ?_ _) | (with_reducible refine Blk.bl ?_ (by assumption)) | (with_reducible apply Blk.seti) | rfl)) hb1; have c1_0 := k1_0.cell; have f1_0 := k1_0.frozen; have l1_0 := k1_0.lt) | ((refine wpList_store_new rfl 89 _ _ rfl _ _ _ rfl rfl ?_ (info_bits _) (BA_one _) ?_); (focus (rw [BA_size, zc_size])); intro w2 hb2 hz2 k2; have HZ2 := hid hz2; clear hz2))
  have c2 := k2.lt
  have hBw : Below w.heap.size w w2 := bl_trans (b := w1) (by repeat (first | (with_reducible exact Below.refl _ _) | (with_reducible assumption) | (with_reducible refine bl_alloc ?_ _) | (with_reducible refine bl_drew ?_) | (with_reducible refine bl_drewN ?_ _) | ((with_reducible refine bl_set ?_ ?_ _); rotate_left; (focus (first | omega | (simp; done) | (simp; omega)))) | (with_reducible refine bl_trans ?_ (by assumption)))) hb2
  go_loopw [4, 5] (fun v i wr => ∃ k : Nat, k ≤ 128 ∧ i = .int .i64 k ∧ Own wr w2.heap.size v (placesTo x k) ∧ Below w2.heap.size w2 wr) (fun _ i _ => 128 - (intOf i).toNat)
  case atStart => exact ⟨0, by omega, rfl, Own.made (Nat.le_refl _) _ rfl, bl_alloc (Below.refl _ _) _⟩
  case round =>
    obtain ⟨k, hk, rfl, hown, hB⟩ := hrel
    have hsz := hB.size
    by_cases hlt : k < 128
    · have g1 := BA_get (bit x) k hlt
      have g2 : wr.cell? ⟨w1.heap.size, k, none⟩ = some (.bool (bit x k)) := (hB.cell (p := ⟨w1.heap.size, k, none⟩) c2).trans ((k2.cell k).trans g1)
      have hlen := placesTo_len x k
      clear g1
      cases u1 : bit x k <;> rw [u1] at g2
      · have HP := hid (placesTo_no x k u1); clear u1
        go_wp2
        go_roundw
        case rel => exact ⟨k + 1, by omega, by go_num, by rw [HP.out]; exact hown, hB⟩
        case measure => simp [intOf]; omega
      · have HP := hid (placesTo_yes x k u1); clear u1
        go_wp2_with (at_builtin; refine wpList_app rfl _ _ rfl w2.heap.size _ (placesTo x k) rfl rfl hown hsz (by omega) ?_; intro v' w' hown' hB' _ _)
        go_roundw
        case rel => exact ⟨k + 1, by omega, by go_num, by rw [HP.out]; exact hown', hB.trans hB'⟩
        case measure => simp [intOf]; omega
    · obtain rfl : k = 128 := by omega
      go_wp2
      go_ret
      refine ⟨⟨_, rfl, ?_⟩, bl_trans hBw hB⟩
      obtain ⟨h1, h2⟩ := hown
      refine ⟨h1, h2.imp id fun ⟨g, cap, cur, e, hg, r⟩ => ⟨g, cap, cur, e, Nat.le_trans hBw.size hg, r⟩⟩
end Go.Proofs.Ytgiggomcpifjmaa
