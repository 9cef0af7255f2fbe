/- The reference's cells of a side; of who is to move. -/
import Derived.Test.YtgiggomcpifjmaaVa
import Derived.Test.YtgiggomcpifjmaaUg
set_option linter.unusedVariables false
set_option linter.unusedSimpArgs false
namespace Go.Proofs.Ytgiggomcpifjmaa
open Go Go.RowKit Plm
attribute [local go_sem ↓] Go.wp_at_zero Go.wp_at_succ
def ofCol (f : Nat → Int) (who : Int) (x : Nat) : Nat → List (Int × Int)
  | 0 => []
  | y + 1 => if pAt f x y = who then ofCol f who x y ++ [((x : Int), (y : Int))] else ofCol f who x y
def ofAll (f : Nat → Int) (who : Int) (H : Nat) : Nat → List (Int × Int)
  | 0 => []
  | x + 1 => ofAll f who H x ++ ofCol f who x H
theorem ofCol_yes (f : Nat → Int) (who : Int) (x y : Nat) (h : pAt f x y = who) : ofCol f who x (y + 1) = ofCol f who x y ++ [((x : Int), (y : Int))] := by rw [ofCol, if_pos h]
theorem ofCol_no (f : Nat → Int) (who : Int) (x y : Nat) (h : pAt f x y ≠ who) : ofCol f who x (y + 1) = ofCol f who x y := by rw [ofCol, if_neg h]
theorem ofCol_len (f : Nat → Int) (who : Int) (x : Nat) : ∀ y, (ofCol f who x y).length ≤ y
  | 0 => by simp [ofCol]
  | y + 1 => by
    have := ofCol_len f who x y
    rw [ofCol]; split
    · rw [List.length_append]; simp; omega
    · omega
theorem ofAll_len (f : Nat → Int) (who : Int) (H : Nat) : ∀ x, (ofAll f who H x).length ≤ x * H
  | 0 => by simp [ofAll]
  | x + 1 => by
    have := ofAll_len f who H x; have := ofCol_len f who x H
    rw [ofAll, List.length_append, Nat.succ_mul]; omega
theorem mem_ofCol (f : Nat → Int) (who : Int) (x : Nat) : ∀ n (p : Int × Int), p ∈ ofCol f who x n ↔ ∃ y : Nat, y < n ∧ pAt f x y = who ∧ p = ((x : Int), (y : Int))
  | 0, p => by simp [ofCol]
  | n + 1, p => by
    have ih := mem_ofCol f who x n p
    by_cases h : pAt f x n = who
    · rw [ofCol_yes f who x n h, List.mem_append, ih]
      constructor
      · rintro (⟨y, h1, h2⟩ | h1)
        · exact ⟨y, by omega, h2⟩
        · exact ⟨n, by omega, h, by simpa using h1⟩
      · rintro ⟨y, h1, h2, h3⟩
        by_cases e : y = n
        · subst e; exact .inr (by simp [h3])
        · exact .inl ⟨y, by omega, h2, h3⟩
    · rw [ofCol_no f who x n h, ih]
      constructor
      · rintro ⟨y, h1, h2⟩; exact ⟨y, by omega, h2⟩
      · rintro ⟨y, h1, h2, h3⟩
        by_cases e : y = n
        · subst e; exact absurd h2 h
        · exact ⟨y, by omega, h2, h3⟩
theorem mem_ofAll (f : Nat → Int) (who : Int) (H : Nat) : ∀ n (p : Int × Int), p ∈ ofAll f who H n ↔ ∃ x y : Nat, x < n ∧ y < H ∧ pAt f x y = who ∧ p = ((x : Int), (y : Int))
  | 0, p => by simp [ofAll]
  | n + 1, p => by
    rw [ofAll, List.mem_append, mem_ofAll f who H n p, mem_ofCol]
    constructor
    · rintro (⟨x, y, h1, h2⟩ | ⟨y, h1, h2⟩)
      · exact ⟨x, y, by omega, h2⟩
      · exact ⟨n, y, by omega, h1, h2⟩
    · rintro ⟨x, y, h1, h2⟩
      by_cases e : x = n
      · subst e; exact .inr ⟨y, h2⟩
      · exact .inl ⟨x, y, by omega, h2⟩
set_option maxRecDepth 100000 in
set_option maxHeartbeats 2000000 in
theorem rOfS_any (f : Nat → Int) (ok : PosOk f) (who : Int) (w : World) :
    Calls Try.prog 90 #[.agg (PV f), .int .i64 who] w fun e w' => e = .returned (.agg #[.int .u64 (hi (wofs (plL (f 1).toNat (ofAll f who (f 1).toNat (f 0).toNat)))), .int .u64 (lo (wofs (plL (f 1).toNat (ofAll f who (f 1).toNat (f 0).toNat))))]) ∧ Below w.heap.size w w' := by
  have A := hid (fun (x y : Int) (w : World) => pAt_any f ok x y w)
  have P0 := hid (PV_get f 0 (by omega)); have P1 := hid (PV_get f 1 (by omega))
  obtain ⟨w1, w2, h1, h2, _, _⟩ := ok
  obtain ⟨Wd, hW⟩ : ∃ Wd : Nat, f 0 = (Wd : Int) := ⟨(f 0).toNat, by omega⟩
  obtain ⟨H, hH⟩ : ∃ H : Nat, f 1 = (H : Int) := ⟨(f 1).toNat, by omega⟩
  rw [hW] at w1 w2 P0
  rw [hH] at h1 h2 P1
  rw [show (f 0).toNat = Wd by omega, show (f 1).toNat = H by omega]
  clear hW hH
  go_enter Try.func90, Try.ntmps90
  go_upto_region 1 with fail
  have b0 : Blk ((w.alloc (.cells (PV f) 52)).alloc (.cells #[.int .u64 0, .int .u64 0] 26)) w.heap.size (PV f) := (Blk.new _ _ _).alloc _
  have b1 : Blk ((w.alloc (.cells (PV f) 52)).alloc (.cells #[.int .u64 0, .int .u64 0] 26)) (w.heap.size + 1) #[.int .u64 0, .int .u64 0] := Blk.new' (by simp) _ _
  have hB0 : Below w.heap.size w ((w.alloc (.cells (PV f) 52)).alloc (.cells #[.int .u64 0, .int .u64 0] 26)) := bl_alloc (bl_alloc (Below.refl _ _) _) _
  have hz0 : w.heap.size + 1 < ((w.alloc (.cells (PV f) 52)).alloc (.cells #[.int .u64 0, .int .u64 0] 26)).heap.size := by simp
  generalize (w.alloc (.cells (PV f) 52)).alloc (.cells #[.int .u64 0, .int .u64 0] 26) = w0 at *
  go_wp2
  have own1 : OwnC (w0.alloc (.cells #[] 140)) w0.heap.size (.slice (some ⟨w0.heap.size, 0, none⟩) 0 0) [] := OwnC.made (Nat.le_refl _) _ rfl
  go_loopw [5, 6] (fun v i wr => ∃ x : Nat, x ≤ Wd ∧ i = .int .i64 x ∧ OwnC wr w0.heap.size v (ofAll f who H x) ∧ Below w0.heap.size w0 wr) (fun _ i _ => Wd - (intOf i).toNat)
  case atStart => exact ⟨0, by omega, rfl, own1, (Below.refl _ _).alloc (Nat.le_refl _) _⟩
  case round =>
    obtain ⟨x, hx, rfl, hv, hB⟩ := hrel
    have k0 := b0.bl hB; have k1 := b1.bl hB
    have g0 : wr.cell? ⟨w.heap.size, 0, none⟩ = some (.int .i64 Wd) := (k0.cell 0).trans P0.out
    have hl0 := ofAll_len f who H x
    have hl1 : x * H ≤ 8 * 8 := Nat.mul_le_mul (by omega) (by omega)
    by_cases hlt : (x : Int) < (Wd : Int)
    · obtain ⟨wx, rfl⟩ : ∃ wx : World, wx = wr := ⟨_, rfl⟩
      have hwx := hB.size
      go_wp2
      clear g0
      go_loopw [5, 7] (fun v i wr => ∃ y : Nat, y ≤ H ∧ i = .int .i64 y ∧ OwnC wr w0.heap.size v (ofAll f who H x ++ ofCol f who x y) ∧ Below w0.heap.size wx wr) (fun _ i _ => H - (intOf i).toNat)
      case atStart => exact ⟨0, by omega, rfl, by simpa [ofCol] using hv, Below.refl _ _⟩
      case round =>
        obtain ⟨y, hy, rfl, hv, hB3⟩ := hrel
        have hBy : Below w0.heap.size w0 wr := hB.trans hB3
        have j0 := b0.bl hBy
        have g1 : wr.cell? ⟨w.heap.size, 1, none⟩ = some (.int .i64 H) := (j0.cell 1).trans P1.out
        have hl2 := ofCol_len f who x y
        have hsz := hBy.size
        by_cases hlty : (y : Int) < (H : Int)
        · obtain ⟨t, hk⟩ := j0
          by_cases hz : pAt f x y = who
          · have HZ := hid (ofCol_yes f who x y hz)
            have hz' : (pAt f x y == who) = true := by simp [hz]
            clear hz
            go_wp2_with (first | (refine wpList_load_row rfl 52 _ rfl _ rfl _ _ _ _ hk Try.underlying52 rfl (info_pos _) ?_) | (go_at_call 60; (with_reducible refine (A.out _ _ _).mono ?_); rintro e_ w5 ⟨rfl, hb5⟩; have hv5 := hv.kept hb5) | (at_builtin; refine wpList_appC rfl _ _ rfl w0.heap.size _ (ofAll f who H x ++ ofCol f who x y) rfl rfl hv5 (by have := hb5.size; omega) (by rw [List.length_append]; omega) ?_; intro v6 w6 hv6 hB6))
            go_roundw
            case rel => exact ⟨y + 1, by omega, by go_num, by rw [HZ.out, ← List.append_assoc]; exact hv6, hB3.trans ((hb5.mono (by omega)).trans hB6)⟩
            case measure => simp [intOf]; omega
          · have HZ := hid (ofCol_no f who x y hz)
            have hz' : (pAt f x y == who) = false := by simp [hz]
            clear hz
            go_wp2_with (first | (refine wpList_load_row rfl 52 _ rfl _ rfl _ _ _ _ hk Try.underlying52 rfl (info_pos _) ?_) | (go_at_call 60; (with_reducible refine (A.out _ _ _).mono ?_); rintro e_ w5 ⟨rfl, hb5⟩; have hv5 := hv.kept hb5))
            go_roundw
            case rel => exact ⟨y + 1, by omega, by go_num, by rw [HZ.out]; exact hv5, hB3.trans (hb5.mono (by omega))⟩
            case measure => simp [intOf]; omega
        · obtain rfl : y = H := by omega
          go_wp2
          go_roundw
          case rel => exact ⟨x + 1, by omega, by go_num, by rw [ofAll]; exact hv, hBy⟩
          case measure => simp [intOf]; omega
    · obtain rfl : x = Wd := by omega
      have CS := hid (fun (wx : World) (hw : OwnC wx w0.heap.size u5 (ofAll f who H x)) => rSet_any x H (by omega) (ofAll f who H x) w0.heap.size u5 wx hw (by omega) fun p hp => by
        obtain ⟨a, b, h1, h2, _, rfl⟩ := (mem_ofAll f who H x p).1 hp
        simp only; omega)
      have g1 : wr.cell? ⟨w.heap.size, 1, none⟩ = some (.int .i64 H) := (k0.cell 1).trans P1.out
      have c1 := k1.cell; have f1 := k1.frozen; have l1 := k1.lt
      have hBr : Below w.heap.size w wr := bl_trans hB0 hB
      
      go_wp2_with (go_at_call 102; (with_reducible refine (CS.out _ hv).mono ?_); rintro e_ w8 ⟨rfl, hb8⟩; obtain ⟨hc8, hf8⟩ := bcell hb8; have hz8 := hb8.size; (try simp at hz8); have k8_0 : Blk w8 (w.heap.size + 1) #[.int .u64 0, .int .u64 0] := Blk.bl (by repeat (first | (with_reducible assumption) | ((with_reducible refine Blk.new' ?_ _ _); (first | rfl | (simp; done))) | (with_reducible apply Blk.set2) | (with_reducible apply Blk.set1) | ((with_reducible refine Blk.other ?_ ?_ _); rotate_left; (focus (first | omega | (simp; done) | (simp; omega)))) | (with_reducible refine Blk.alloc ?_ _) | (with_reducible refine Blk.drew ?_) | (with_reducible refine Blk.drewN ?_ _) | (with_reducible refine Blk.bl ?_ (by assumption)) | (with_reducible apply Blk.seti) | rfl)) hb8; have c8_0 := k8_0.cell; have f8_0 := k8_0.frozen; have l8_0 := k8_0.lt)
      refine bodyPost_ret (v := (.agg #[.int .u64 (hi (wofs (plL H (ofAll f who H x)))), .int .u64 (lo (wofs (plL H (ofAll f who H x))))])) (by simp [results, Try.results90, go_sem, *]) rfl ⟨rfl, ?_⟩
      exact (by repeat (first | (with_reducible exact Below.refl _ _) | (with_reducible assumption) | (with_reducible refine bl_alloc ?_ _) | (with_reducible refine bl_drew ?_) | (with_reducible refine bl_drewN ?_ _) | ((with_reducible refine bl_set ?_ ?_ _); rotate_left; (focus (first | omega | (simp; done) | (simp; omega)))) | (with_reducible refine bl_trans ?_ (by assumption))))
end Go.Proofs.Ytgiggomcpifjmaa
