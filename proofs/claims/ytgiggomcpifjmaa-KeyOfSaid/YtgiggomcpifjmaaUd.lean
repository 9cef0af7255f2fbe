/- The walk of the reference's Rows. -/
import Derived.Test.YtgiggomcpifjmaaUb
set_option linter.unusedVariables false
set_option linter.unusedSimpArgs false
namespace Go.Proofs.Ytgiggomcpifjmaa
open Go Go.RowKit
attribute [local go_sem ↓] Go.wp_at_zero Go.wp_at_succ
def DX : Nat → Int
  | 0 => 1
  | 1 => 1
  | 2 => 0
  | _ => -1
def DY : Nat → Int
  | 0 => 0
  | _ => 1
theorem DX_bd (d : Nat) : -1 ≤ DX d ∧ DX d ≤ 1 := by unfold DX; split <;> omega
theorem DY_bd (d : Nat) : -1 ≤ DY d ∧ DY d ≤ 1 := by unfold DY; split <;> omega
def onLine (x y a b : Int) (d n : Nat) : Prop := ∃ i : Nat, i < n ∧ a + i * DX d = x ∧ b + i * DY d = y
instance (x y a b : Int) (d n : Nat) : Decidable (onLine x y a b d n) := by unfold onLine; infer_instance
def hitL (f : Nat → Int) (who x y a b : Int) (d : Nat) : Prop := rowOk f a b (DX d) (DY d) who 4 ∧ onLine x y a b d 4
instance (f : Nat → Int) (who x y a b : Int) (d : Nat) : Decidable (hitL f who x y a b d) := by unfold hitL; infer_instance
def cD (f : Nat → Int) (who x y a b : Int) : Nat → Nat
  | 0 => 0
  | d + 1 => if hitL f who x y a b d then cD f who x y a b d + 1 else cD f who x y a b d
def cB (f : Nat → Int) (who x y a : Int) : Nat → Nat
  | 0 => 0
  | b + 1 => cB f who x y a b + cD f who x y a b 4
def cA (f : Nat → Int) (who x y : Int) (H : Nat) : Nat → Nat
  | 0 => 0
  | a + 1 => cA f who x y H a + cB f who x y a H
theorem cD_le (f : Nat → Int) (who x y a b : Int) : ∀ d, cD f who x y a b d ≤ d
  | 0 => by simp [cD]
  | d + 1 => by have := cD_le f who x y a b d; rw [cD]; split <;> omega
theorem cB_le (f : Nat → Int) (who x y a : Int) : ∀ b, cB f who x y a b ≤ b * 4
  | 0 => by simp [cB]
  | b + 1 => by have := cB_le f who x y a b; have := cD_le f who x y a b 4; rw [cB]; omega
theorem cA_le (f : Nat → Int) (who x y : Int) (H : Nat) : ∀ a, cA f who x y H a ≤ a * (H * 4)
  | 0 => by simp [cA]
  | a + 1 => by have := cA_le f who x y H a; have := cB_le f who x y a H; rw [cA, Nat.succ_mul]; omega
theorem cD_pos (f : Nat → Int) (who x y a b : Int) : ∀ n, 0 < cD f who x y a b n ↔ ∃ d, d < n ∧ hitL f who x y a b d
  | 0 => by simp [cD]
  | n + 1 => by
    have ih := cD_pos f who x y a b n
    rw [cD]
    split
    · rename_i h
      exact ⟨fun _ => ⟨n, by omega, h⟩, fun _ => by omega⟩
    · rename_i h
      rw [ih]
      exact ⟨fun ⟨d, h1, h2⟩ => ⟨d, by omega, h2⟩, fun ⟨d, h1, h2⟩ => ⟨d, by
        rcases Nat.lt_or_ge d n with g | g
        · exact g
        · obtain rfl : d = n := by omega
          exact absurd h2 h, h2⟩⟩
theorem cB_pos (f : Nat → Int) (who x y a : Int) : ∀ n, 0 < cB f who x y a n ↔ ∃ b d : Nat, b < n ∧ d < 4 ∧ hitL f who x y a b d
  | 0 => by simp [cB]
  | n + 1 => by
    have ih := cB_pos f who x y a n
    have h4 := cD_pos f who x y a n 4
    rw [cB]
    constructor
    · intro h
      by_cases h0 : 0 < cB f who x y a n
      · obtain ⟨b, d, h1, h2, h3⟩ := ih.1 h0; exact ⟨b, d, by omega, h2, h3⟩
      · obtain ⟨d, h1, h2⟩ := h4.1 (by omega); exact ⟨n, d, by omega, h1, h2⟩
    · rintro ⟨b, d, h1, h2, h3⟩
      by_cases e : b = n
      · subst e; have := h4.2 ⟨d, h2, h3⟩; omega
      · have := ih.2 ⟨b, d, by omega, h2, h3⟩; omega
theorem cA_pos (f : Nat → Int) (who x y : Int) (H : Nat) : ∀ n, 0 < cA f who x y H n ↔ ∃ a b d : Nat, a < n ∧ b < H ∧ d < 4 ∧ hitL f who x y a b d
  | 0 => by simp [cA]
  | n + 1 => by
    have ih := cA_pos f who x y H n
    have h4 := cB_pos f who x y n H
    rw [cA]
    constructor
    · intro h
      by_cases h0 : 0 < cA f who x y H n
      · obtain ⟨a, b, d, h1, h2⟩ := ih.1 h0; exact ⟨a, b, d, by omega, h2⟩
      · obtain ⟨b, d, h1, h2⟩ := h4.1 (by omega); exact ⟨n, b, d, by omega, h1, h2⟩
    · rintro ⟨a, b, d, h1, h2, h3⟩
      by_cases e : a = n
      · subst e; have := h4.2 ⟨b, d, h2, h3⟩; omega
      · have := ih.2 ⟨a, b, d, by omega, h2, h3⟩; omega
set_option maxRecDepth 100000 in
set_option maxHeartbeats 2000000 in
theorem pRows_any (f : Nat → Int) (ok : PosOk f) (who x y : Int) (hx : 0 ≤ x) (hx' : x ≤ 8) (hy : 0 ≤ y) (hy' : y ≤ 8) (w : World) :
    Calls Try.prog 89 #[.agg (PV f), .int .i64 who, .int .i64 x, .int .i64 y] w fun e w' => e = .returned (.int .i64 (cA f who x y (f 1).toNat (f 0).toNat : Nat)) ∧ Below w.heap.size w w' := by
  have R := hid (fun (a b dx dy : Int) (h1 : 0 ≤ a) (h2 : a ≤ 8) (h3 : 0 ≤ b) (h4 : b ≤ 8) (h5 : -1 ≤ dx) (h6 : dx ≤ 1) (h7 : -1 ≤ dy) (h8 : dy ≤ 1) (w : World) => pRow_any f ok a b dx dy who h1 h2 h3 h4 h5 h6 h7 h8 w)
  have P0 := hid (PV_get f 0 (by omega)); have P1 := hid (PV_get f 1 (by omega))
  obtain ⟨w1, w2, h1, h2, _, _⟩ := ok
  obtain ⟨Wd, hW⟩ : ∃ Wd : Nat, f 0 = (Wd : Int) := ⟨(f 0).toNat, by omega⟩
  obtain ⟨H, hH⟩ : ∃ H : Nat, f 1 = (H : Int) := ⟨(f 1).toNat, by omega⟩
  rw [hW] at w1 w2 P0
  rw [hH] at h1 h2 P1
  rw [show (f 0).toNat = Wd by omega, show (f 1).toNat = H by omega]
  clear hW hH
  go_enter Try.func89, Try.ntmps89
  go_upto_region 1 with fail
  (have b0 : Blk (w.alloc (.cells (PV f) 52)) w.heap.size (PV f) := Blk.new _ _ _); (have hB0 : Below w.heap.size w (w.alloc (.cells (PV f) 52)) := bl_alloc (Below.refl _ _) _); (have hz0 : (w.alloc (.cells (PV f) 52)).heap.size = w.heap.size + 1 := (by simp)); generalize (w.alloc (.cells (PV f) 52)) = w0 at *
  go_wp2
  have hB1 : Below w.heap.size w ((w0.alloc (.cells #[.int .i64 1, .int .i64 1, .int .i64 0, .int .i64 (-1)] 136)).alloc (.cells #[.int .i64 0, .int .i64 1, .int .i64 1, .int .i64 1] 136)) := bl_alloc (bl_alloc hB0 _) _
  have k0 : Blk ((w0.alloc (.cells #[.int .i64 1, .int .i64 1, .int .i64 0, .int .i64 (-1)] 136)).alloc (.cells #[.int .i64 0, .int .i64 1, .int .i64 1, .int .i64 1] 136)) w.heap.size (PV f) := (b0.alloc _).alloc _
  have k1 : Blk ((w0.alloc (.cells #[.int .i64 1, .int .i64 1, .int .i64 0, .int .i64 (-1)] 136)).alloc (.cells #[.int .i64 0, .int .i64 1, .int .i64 1, .int .i64 1] 136)) (w.heap.size + 1) #[.int .i64 1, .int .i64 1, .int .i64 0, .int .i64 (-1)] := (Blk.new' hz0.symm _ _).alloc _
  have k2 : Blk ((w0.alloc (.cells #[.int .i64 1, .int .i64 1, .int .i64 0, .int .i64 (-1)] 136)).alloc (.cells #[.int .i64 0, .int .i64 1, .int .i64 1, .int .i64 1] 136)) (w.heap.size + 1 + 1) #[.int .i64 0, .int .i64 1, .int .i64 1, .int .i64 1] := Blk.new' (by simp [hz0]) _ _
  clear hz0 b0 hB0
  generalize (w0.alloc (.cells #[.int .i64 1, .int .i64 1, .int .i64 0, .int .i64 (-1)] 136)).alloc (.cells #[.int .i64 0, .int .i64 1, .int .i64 1, .int .i64 1] 136) = v1 at *
  have dx : ∀ d : Nat, d < 4 → (#[.int .i64 1, .int .i64 1, .int .i64 0, .int .i64 (-1)] : Array Value)[d]? = some (.int .i64 (DX d)) := fun d hd => by
    have : d = 0 ∨ d = 1 ∨ d = 2 ∨ d = 3 := by omega
    rcases this with rfl | rfl | rfl | rfl <;> rfl
  have dy : ∀ d : Nat, d < 4 → (#[.int .i64 0, .int .i64 1, .int .i64 1, .int .i64 1] : Array Value)[d]? = some (.int .i64 (DY d)) := fun d hd => by
    have : d = 0 ∨ d = 1 ∨ d = 2 ∨ d = 3 := by omega
    rcases this with rfl | rfl | rfl | rfl <;> rfl
  have HDX := hid dx; have HDY := hid dy; clear dx dy
  go_loopw [9, 12] (fun c i wr => ∃ a : Nat, a ≤ Wd ∧ i = .int .i64 a ∧ c = .int .i64 (cA f who x y H a : Nat) ∧ Below v1.heap.size v1 wr) (fun _ i _ => Wd - (intOf i).toNat)
  case atStart => exact ⟨0, by omega, rfl, rfl, Below.refl _ _⟩
  case round =>
    obtain ⟨a, ha, rfl, rfl, hBa⟩ := hrel
    have j0 := k0.bl hBa; have j1 := k1.bl hBa; have j2 := k2.bl hBa
    have g0 : wr.cell? ⟨w.heap.size, 0, none⟩ = some (.int .i64 Wd) := (j0.cell 0).trans P0.out
    have hca := cA_le f who x y H a
    have hca2 : a * (H * 4) ≤ 8 * (8 * 4) := Nat.mul_le_mul (by omega) (by omega)
    by_cases hlta : (a : Int) < (Wd : Int)
    · obtain ⟨wa, rfl⟩ : ∃ wa : World, wa = wr := ⟨_, rfl⟩
      go_wp2
      clear g0
      go_loopw [9, 13] (fun c i wr => ∃ b : Nat, b ≤ H ∧ i = .int .i64 b ∧ c = .int .i64 (((cA f who x y H a : Nat) : Int) + (cB f who x y a b : Nat)) ∧ Below wa.heap.size wa wr) (fun _ i _ => H - (intOf i).toNat)
      case atStart => exact ⟨0, by omega, rfl, by show _ = Value.int .i64 (_ + 0); rw [Int.add_zero], Below.refl _ _⟩
      case round =>
        obtain ⟨b, hb, rfl, rfl, hBb⟩ := hrel
        have i0 := j0.bl hBb; have i1 := j1.bl hBb; have i2 := j2.bl hBb
        have g1 : wr.cell? ⟨w.heap.size, 1, none⟩ = some (.int .i64 H) := (i0.cell 1).trans P1.out
        have hcb := cB_le f who x y a b
        by_cases hltb : (b : Int) < (H : Int)
        · obtain ⟨wb, rfl⟩ : ∃ wb : World, wb = wr := ⟨_, rfl⟩
          go_wp2
          clear g1
          go_loopw [9, 14] (fun c i wr => ∃ d : Nat, d ≤ 4 ∧ i = .int .i64 d ∧ c = .int .i64 (((cA f who x y H a : Nat) : Int) + (cB f who x y a b : Nat) + (cD f who x y a b d : Nat)) ∧ Below wb.heap.size wb wr) (fun _ i _ => 4 - (intOf i).toNat)
          case atStart => exact ⟨0, by omega, rfl, by show _ = Value.int .i64 (_ + 0); rw [Int.add_zero], Below.refl _ _⟩
          case round =>
            obtain ⟨d, hd, rfl, rfl, hBd⟩ := hrel
            have e0 := i0.bl hBd; have e1 := i1.bl hBd; have e2 := i2.bl hBd
            have hcd := cD_le f who x y a b d
            by_cases hltd : d < 4
            · go_upto_if 33 with (fail)
              rw [show decide ((d : Int) < 4) = true from decide_eq_true (by omega)]
              refine wp_cond_true rfl ?_
              apply wp_skip
              rename_i K_ hK_
              refine hK_ _ _ ?_
              clear hK_
              (apply wp_seq_k; intro _ _)
              apply wp_block
              (repeat (apply wp_seq_k; intro _ _))
              have gx : wr.cell? ⟨w.heap.size + 1, d, none⟩ = some (.int .i64 (DX d)) := (e1.cell d).trans (HDX.out d hltd)
              have gy : wr.cell? ⟨w.heap.size + 1 + 1, d, none⟩ = some (.int .i64 (DY d)) := (e2.cell d).trans (HDY.out d hltd)
              obtain ⟨dx1, dx2⟩ := DX_bd d
              obtain ⟨dy1, dy2⟩ := DY_bd d
              have z0 : (0 : Int) ≤ (d : Int) := by omega
              have z1 : (d : Int) < 4 := by omega
              have HC := hid (show cD f who x y a b (d + 1) = if hitL f who x y a b d then cD f who x y a b d + 1 else cD f who x y a b d from rfl)
              have HR := hid (show ∀ q : Bool, decide (rowOk f a b (DX d) (DY d) who 4) = q → (q = false → ¬ hitL f who x y a b d) from fun q h1 h2 h3 => by subst h2; exact of_decide_eq_false h1 h3.1)
              have HOn := hid (show decide (rowOk f a b (DX d) (DY d) who 4) = true → (hitL f who x y a b d ↔ onLine x y a b d 4) from fun h => ⟨fun h' => h'.2, fun h' => ⟨of_decide_eq_true h, h'⟩⟩)
              have CR := hid (fun wx : World => R.out a b (DX d) (DY d) (by omega) (by omega) (by omega) (by omega) dx1 dx2 dy1 dy2 wx)
              obtain ⟨wd, rfl⟩ : ∃ wd : World, wd = wr := ⟨_, rfl⟩
              obtain ⟨q, hq⟩ : ∃ q : Int, q = ((cA f who x y H a : Nat) : Int) + (cB f who x y a b : Nat) + (cD f who x y a b d : Nat) := ⟨_, rfl⟩
              have hq0 : 0 ≤ q := by omega
              have hq1 : q ≤ 1000 := by omega
              rw [← hq]
              have HQ := hid hq
              clear hq hca hca2 hcb hcd j0 j1 j2 i0 i1 i2 k0 k1 k2
              cases hr : decide (rowOk f a b (DX d) (DY d) who 4) <;> rw [hr] at CR HR HOn
              · have HN := hid (HR.out false rfl rfl)
                clear hr HR HOn
                refine wp_region_noPanic ?_
                refine wp_region_held_drew (S := fun w' => w'.cell? ⟨w.heap.size + 1, d, none⟩ = some (.int .i64 (DX d)) ∧ w'.cell? ⟨w.heap.size + 1 + 1, d, none⟩ = some (.int .i64 (DY d))) (by kernel_rfl) ?_ (fun hHeld => ?_)
                · exact ⟨gx, gy⟩
                (refine wpAnyH_take (i := 1) (v := .int .i64 a) rfl (by kernel_rfl) (by kernel_rfl) (by kernel_rfl) (fun _ _ _ h => h) (Or.inl ⟨by rfl, ?_⟩) hHeld ?_; (focus (intro w_ hSw; (try dsimp only at hSw); go_simp)); (try simp only [Array.getInternal_eq_getElem, List.getElem_toArray, List.getElem_cons_succ, List.getElem_cons_zero, Act.put, List.setIfInBounds_toArray, List.set_cons_zero, List.set_cons_succ]))
                (refine wpAnyH_take (i := 2) (v := .int .i64 b) rfl (by kernel_rfl) (by kernel_rfl) (by kernel_rfl) (fun _ _ _ h => h) (Or.inl ⟨by rfl, ?_⟩) hHeld ?_; (focus (intro w_ hSw; (try dsimp only at hSw); go_simp)); (try simp only [Array.getInternal_eq_getElem, List.getElem_toArray, List.getElem_cons_succ, List.getElem_cons_zero, Act.put, List.setIfInBounds_toArray, List.set_cons_zero, List.set_cons_succ]))
                (refine wpAnyH_take (i := 3) (v := .int .i64 d) rfl (by kernel_rfl) (by kernel_rfl) (by kernel_rfl) (fun _ _ _ h => h) (Or.inl ⟨by rfl, ?_⟩) hHeld ?_; (focus (intro w_ hSw; (try dsimp only at hSw); go_simp)); (try simp only [Array.getInternal_eq_getElem, List.getElem_toArray, List.getElem_cons_succ, List.getElem_cons_zero, Act.put, List.setIfInBounds_toArray, List.set_cons_zero, List.set_cons_succ]))
                (refine wpAnyH_take (i := 4) (v := .pointer (some ⟨w.heap.size + 1, d, none⟩)) rfl (by kernel_rfl) (by kernel_rfl) (by kernel_rfl) (fun _ _ _ h => h) (Or.inl ⟨by rfl, ?_⟩) hHeld ?_; (focus (intro w_ hSw; (try dsimp only at hSw); go_simp)); (try simp only [Array.getInternal_eq_getElem, List.getElem_toArray, List.getElem_cons_succ, List.getElem_cons_zero, Act.put, List.setIfInBounds_toArray, List.set_cons_zero, List.set_cons_succ]))
                (refine wpAnyH_take (i := 5) (v := .int .i64 (DX d)) rfl (by kernel_rfl) (by kernel_rfl) (by kernel_rfl) (fun _ _ _ h => h) (Or.inl ⟨by rfl, ?_⟩) hHeld ?_; (focus (intro w_ hSw; (try dsimp only at hSw); go_simp)); (try simp only [Array.getInternal_eq_getElem, List.getElem_toArray, List.getElem_cons_succ, List.getElem_cons_zero, Act.put, List.setIfInBounds_toArray, List.set_cons_zero, List.set_cons_succ]))
                (refine wpAnyH_take (i := 6) (v := .int .i64 d) rfl (by kernel_rfl) (by kernel_rfl) (by kernel_rfl) (fun _ _ _ h => h) (Or.inl ⟨by rfl, ?_⟩) hHeld ?_; (focus (intro w_ hSw; (try dsimp only at hSw); go_simp)); (try simp only [Array.getInternal_eq_getElem, List.getElem_toArray, List.getElem_cons_succ, List.getElem_cons_zero, Act.put, List.setIfInBounds_toArray, List.set_cons_zero, List.set_cons_succ]))
                (refine wpAnyH_take (i := 7) (v := .pointer (some ⟨w.heap.size + 1 + 1, d, none⟩)) rfl (by kernel_rfl) (by kernel_rfl) (by kernel_rfl) (fun _ _ _ h => h) (Or.inl ⟨by rfl, ?_⟩) hHeld ?_; (focus (intro w_ hSw; (try dsimp only at hSw); go_simp)); (try simp only [Array.getInternal_eq_getElem, List.getElem_toArray, List.getElem_cons_succ, List.getElem_cons_zero, Act.put, List.setIfInBounds_toArray, List.set_cons_zero, List.set_cons_succ]))
                (refine wpAnyH_take (i := 8) (v := .int .i64 (DY d)) rfl (by kernel_rfl) (by kernel_rfl) (by kernel_rfl) (fun _ _ _ h => h) (Or.inl ⟨by rfl, ?_⟩) hHeld ?_; (focus (intro w_ hSw; (try dsimp only at hSw); go_simp)); (try simp only [Array.getInternal_eq_getElem, List.getElem_toArray, List.getElem_cons_succ, List.getElem_cons_zero, Act.put, List.setIfInBounds_toArray, List.set_cons_zero, List.set_cons_succ]))
                (refine wpAnyH_take (i := 9) (v := .int .i64 who) rfl (by kernel_rfl) (by kernel_rfl) (by kernel_rfl) (fun _ _ _ h => h) (Or.inl ⟨by rfl, ?_⟩) hHeld ?_; (focus (intro w_ hSw; (try dsimp only at hSw); go_simp)); (try simp only [Array.getInternal_eq_getElem, List.getElem_toArray, List.getElem_cons_succ, List.getElem_cons_zero, Act.put, List.setIfInBounds_toArray, List.set_cons_zero, List.set_cons_succ]))
                refine wpAnyH_ready (rs := [0]) (by kernel_rfl) (by simp) ?_; refine AllReadyH.cons rfl (fun K hK => ?_) AllReadyH.nil
                have e0' := e0
                obtain ⟨t5, hk5⟩ := e0'
                refine step_if' (by rfl) ?_
                refine wp_load_row (w := wd.drew) 52 _ rfl w.heap.size (by rfl) _ _ _ _ hk5 Try.underlying52 rfl (info_pos _) ?_
                (refine hK.out _ _ ?_ (fun hHeld => ?_)); (focus (try dsimp only); exact ⟨gx, gy⟩); clear hK K; (try simp only [Array.getInternal_eq_getElem, List.getElem_toArray, List.getElem_cons_succ, List.getElem_cons_zero, Act.put, List.setIfInBounds_toArray, List.set_cons_zero, List.set_cons_succ])
                refine wpAnyH_ready (rs := [10]) (by kernel_rfl) (by simp) ?_; refine AllReadyH.cons rfl (fun K hK => ?_) AllReadyH.nil
                go_simp
                (go_at_call 101; (with_reducible refine (CR.out _).mono ?_); rintro e_ w6 ⟨rfl, hb6⟩)
                have hbf : Below wd.heap.size wd w6 := bl_trans (bl_drew (Below.refl _ _)) hb6
                have gx6 : w6.cell? ⟨w.heap.size + 1, d, none⟩ = some (.int .i64 (DX d)) := ((e1.bl hbf).cell d).trans (HDX.out d hltd)
                have gy6 : w6.cell? ⟨w.heap.size + 1 + 1, d, none⟩ = some (.int .i64 (DY d)) := ((e2.bl hbf).cell d).trans (HDY.out d hltd)
                (refine hK.out _ _ ?_ (fun hHeld => ?_)); (focus (try dsimp only); exact ⟨gx6, gy6⟩); clear hK K; (try simp only [Array.getInternal_eq_getElem, List.getElem_toArray, List.getElem_cons_succ, List.getElem_cons_zero, Act.put, List.setIfInBounds_toArray, List.set_cons_zero, List.set_cons_succ])
                refine wpAnyH_ready (rs := [11]) (by kernel_rfl) (by simp) ?_; refine AllReadyH.cons rfl (fun K hK => ?_) AllReadyH.nil
                go_simp
                (refine hK.out _ _ ?_ (fun hHeld => ?_)); (focus (try dsimp only); exact ⟨gx6, gy6⟩); clear hK K; (try simp only [Array.getInternal_eq_getElem, List.getElem_toArray, List.getElem_cons_succ, List.getElem_cons_zero, Act.put, List.setIfInBounds_toArray, List.set_cons_zero, List.set_cons_succ])
                refine wpAnyH_done (by kernel_rfl) (NoPanic.normal ?_) _
                go_wp2
                go_roundw
                case rel => exact ⟨d + 1, by omega, by go_num, by rw [HC.out, if_neg HN.out, HQ.out], bl_trans hBd hbf⟩
                case measure => simp [intOf]; omega
              · have HN := hid (HOn.out rfl)
                clear hr HR HOn
                refine wp_region_noPanic ?_
                refine wp_region_held_drew (S := fun w' => w'.cell? ⟨w.heap.size + 1, d, none⟩ = some (.int .i64 (DX d)) ∧ w'.cell? ⟨w.heap.size + 1 + 1, d, none⟩ = some (.int .i64 (DY d))) (by kernel_rfl) ?_ (fun hHeld => ?_)
                · exact ⟨gx, gy⟩
                (refine wpAnyH_take (i := 1) (v := .int .i64 a) rfl (by kernel_rfl) (by kernel_rfl) (by kernel_rfl) (fun _ _ _ h => h) (Or.inl ⟨by rfl, ?_⟩) hHeld ?_; (focus (intro w_ hSw; (try dsimp only at hSw); go_simp)); (try simp only [Array.getInternal_eq_getElem, List.getElem_toArray, List.getElem_cons_succ, List.getElem_cons_zero, Act.put, List.setIfInBounds_toArray, List.set_cons_zero, List.set_cons_succ]))
                (refine wpAnyH_take (i := 2) (v := .int .i64 b) rfl (by kernel_rfl) (by kernel_rfl) (by kernel_rfl) (fun _ _ _ h => h) (Or.inl ⟨by rfl, ?_⟩) hHeld ?_; (focus (intro w_ hSw; (try dsimp only at hSw); go_simp)); (try simp only [Array.getInternal_eq_getElem, List.getElem_toArray, List.getElem_cons_succ, List.getElem_cons_zero, Act.put, List.setIfInBounds_toArray, List.set_cons_zero, List.set_cons_succ]))
                (refine wpAnyH_take (i := 3) (v := .int .i64 d) rfl (by kernel_rfl) (by kernel_rfl) (by kernel_rfl) (fun _ _ _ h => h) (Or.inl ⟨by rfl, ?_⟩) hHeld ?_; (focus (intro w_ hSw; (try dsimp only at hSw); go_simp)); (try simp only [Array.getInternal_eq_getElem, List.getElem_toArray, List.getElem_cons_succ, List.getElem_cons_zero, Act.put, List.setIfInBounds_toArray, List.set_cons_zero, List.set_cons_succ]))
                (refine wpAnyH_take (i := 4) (v := .pointer (some ⟨w.heap.size + 1, d, none⟩)) rfl (by kernel_rfl) (by kernel_rfl) (by kernel_rfl) (fun _ _ _ h => h) (Or.inl ⟨by rfl, ?_⟩) hHeld ?_; (focus (intro w_ hSw; (try dsimp only at hSw); go_simp)); (try simp only [Array.getInternal_eq_getElem, List.getElem_toArray, List.getElem_cons_succ, List.getElem_cons_zero, Act.put, List.setIfInBounds_toArray, List.set_cons_zero, List.set_cons_succ]))
                (refine wpAnyH_take (i := 5) (v := .int .i64 (DX d)) rfl (by kernel_rfl) (by kernel_rfl) (by kernel_rfl) (fun _ _ _ h => h) (Or.inl ⟨by rfl, ?_⟩) hHeld ?_; (focus (intro w_ hSw; (try dsimp only at hSw); go_simp)); (try simp only [Array.getInternal_eq_getElem, List.getElem_toArray, List.getElem_cons_succ, List.getElem_cons_zero, Act.put, List.setIfInBounds_toArray, List.set_cons_zero, List.set_cons_succ]))
                (refine wpAnyH_take (i := 6) (v := .int .i64 d) rfl (by kernel_rfl) (by kernel_rfl) (by kernel_rfl) (fun _ _ _ h => h) (Or.inl ⟨by rfl, ?_⟩) hHeld ?_; (focus (intro w_ hSw; (try dsimp only at hSw); go_simp)); (try simp only [Array.getInternal_eq_getElem, List.getElem_toArray, List.getElem_cons_succ, List.getElem_cons_zero, Act.put, List.setIfInBounds_toArray, List.set_cons_zero, List.set_cons_succ]))
                (refine wpAnyH_take (i := 7) (v := .pointer (some ⟨w.heap.size + 1 + 1, d, none⟩)) rfl (by kernel_rfl) (by kernel_rfl) (by kernel_rfl) (fun _ _ _ h => h) (Or.inl ⟨by rfl, ?_⟩) hHeld ?_; (focus (intro w_ hSw; (try dsimp only at hSw); go_simp)); (try simp only [Array.getInternal_eq_getElem, List.getElem_toArray, List.getElem_cons_succ, List.getElem_cons_zero, Act.put, List.setIfInBounds_toArray, List.set_cons_zero, List.set_cons_succ]))
                (refine wpAnyH_take (i := 8) (v := .int .i64 (DY d)) rfl (by kernel_rfl) (by kernel_rfl) (by kernel_rfl) (fun _ _ _ h => h) (Or.inl ⟨by rfl, ?_⟩) hHeld ?_; (focus (intro w_ hSw; (try dsimp only at hSw); go_simp)); (try simp only [Array.getInternal_eq_getElem, List.getElem_toArray, List.getElem_cons_succ, List.getElem_cons_zero, Act.put, List.setIfInBounds_toArray, List.set_cons_zero, List.set_cons_succ]))
                (refine wpAnyH_take (i := 9) (v := .int .i64 who) rfl (by kernel_rfl) (by kernel_rfl) (by kernel_rfl) (fun _ _ _ h => h) (Or.inl ⟨by rfl, ?_⟩) hHeld ?_; (focus (intro w_ hSw; (try dsimp only at hSw); go_simp)); (try simp only [Array.getInternal_eq_getElem, List.getElem_toArray, List.getElem_cons_succ, List.getElem_cons_zero, Act.put, List.setIfInBounds_toArray, List.set_cons_zero, List.set_cons_succ]))
                refine wpAnyH_ready (rs := [0]) (by kernel_rfl) (by simp) ?_; refine AllReadyH.cons rfl (fun K hK => ?_) AllReadyH.nil
                have e0' := e0
                obtain ⟨t5, hk5⟩ := e0'
                refine step_if' (by rfl) ?_
                refine wp_load_row (w := wd.drew) 52 _ rfl w.heap.size (by rfl) _ _ _ _ hk5 Try.underlying52 rfl (info_pos _) ?_
                (refine hK.out _ _ ?_ (fun hHeld => ?_)); (focus (try dsimp only); exact ⟨gx, gy⟩); clear hK K; (try simp only [Array.getInternal_eq_getElem, List.getElem_toArray, List.getElem_cons_succ, List.getElem_cons_zero, Act.put, List.setIfInBounds_toArray, List.set_cons_zero, List.set_cons_succ])
                refine wpAnyH_ready (rs := [10]) (by kernel_rfl) (by simp) ?_; refine AllReadyH.cons rfl (fun K hK => ?_) AllReadyH.nil
                go_simp
                (go_at_call 101; (with_reducible refine (CR.out _).mono ?_); rintro e_ w6 ⟨rfl, hb6⟩)
                have hbf : Below wd.heap.size wd w6 := bl_trans (bl_drew (Below.refl _ _)) hb6
                have gx6 : w6.cell? ⟨w.heap.size + 1, d, none⟩ = some (.int .i64 (DX d)) := ((e1.bl hbf).cell d).trans (HDX.out d hltd)
                have gy6 : w6.cell? ⟨w.heap.size + 1 + 1, d, none⟩ = some (.int .i64 (DY d)) := ((e2.bl hbf).cell d).trans (HDY.out d hltd)
                (refine hK.out _ _ ?_ (fun hHeld => ?_)); (focus (try dsimp only); exact ⟨gx6, gy6⟩); clear hK K; (try simp only [Array.getInternal_eq_getElem, List.getElem_toArray, List.getElem_cons_succ, List.getElem_cons_zero, Act.put, List.setIfInBounds_toArray, List.set_cons_zero, List.set_cons_succ])
                refine wpAnyH_ready (rs := [11]) (by kernel_rfl) (by simp) ?_; refine AllReadyH.cons rfl (fun K hK => ?_) AllReadyH.nil
                go_simp
                (refine hK.out _ _ ?_ (fun hHeld => ?_)); (focus (try dsimp only); exact ⟨gx6, gy6⟩); clear hK K; (try simp only [Array.getInternal_eq_getElem, List.getElem_toArray, List.getElem_cons_succ, List.getElem_cons_zero, Act.put, List.setIfInBounds_toArray, List.set_cons_zero, List.set_cons_succ])
                refine wpAnyH_done (by kernel_rfl) (NoPanic.normal ?_) _
                go_wp2
                clear gx6 gy6 hHeld hk5 hb6
                go_loopw [9, 15] (fun c i wr => ∃ n : Nat, n ≤ 4 ∧ i = .int .i64 n ∧ c = .int .i64 q ∧ Hid (¬ onLine x y a b d n) ∧ Below w6.heap.size w6 wr) (fun _ i _ => 4 - (intOf i).toNat)
                case atStart => exact ⟨0, by omega, rfl, rfl, hid fun ⟨i, hi, _⟩ => by omega, Below.refl _ _⟩
                case round =>
                  obtain ⟨n, hn, rfl, rfl, HO, hBn⟩ := hrel
                  have hbw : Below wd.heap.size wd wr := bl_trans hbf hBn
                  have gx : wr.cell? ⟨w.heap.size + 1, d, none⟩ = some (.int .i64 (DX d)) := ((e1.bl hbw).cell d).trans (HDX.out d hltd)
                  have gy : wr.cell? ⟨w.heap.size + 1 + 1, d, none⟩ = some (.int .i64 (DY d)) := ((e2.bl hbw).cell d).trans (HDY.out d hltd)
                  by_cases hltn : n < 4
                  · go_upto_if 49 with (fail)
                    rw [show decide ((n : Int) < 4) = true from decide_eq_true (by omega)]
                    refine wp_cond_true rfl ?_
                    apply wp_skip
                    rename_i KK hKK
                    refine hKK _ _ ?_
                    clear hKK
                    (apply wp_seq_k; intro K16 h16)
                    have H16 := hid h16
                    clear h16
                    apply wp_block
                    (apply wp_seq_k; intro Kif hif)
                    have Hif := hid hif
                    clear hif
                    obtain ⟨m1, m2⟩ := mul_small n hltn (DX d) dx1 dx2
                    obtain ⟨m3, m4⟩ := mul_small n hltn (DY d) dy1 dy2
                    have s1 : IntKind.i64.wrap ((n : Int) * DX d) = (n : Int) * DX d := wr64 (by omega) (by omega)
                    have s2 : IntKind.i64.wrap ((n : Int) * DY d) = (n : Int) * DY d := wr64 (by omega) (by omega)
                    have s3 : IntKind.i64.wrap ((a : Int) + (n : Int) * DX d) = (a : Int) + (n : Int) * DX d := wr64 (by omega) (by omega)
                    have s4 : IntKind.i64.wrap ((b : Int) + (n : Int) * DY d) = (b : Int) + (n : Int) * DY d := wr64 (by omega) (by omega)
                    clear m1 m2 m3 m4
                    by_cases q1 : (a : Int) + (n : Int) * DX d = x
                    · by_cases q2 : (b : Int) + (n : Int) * DY d = y
                      · have HH := hid (HN.out.2 ⟨n, hltn, q1, q2⟩)
                        have b1 : ((a : Int) + (n : Int) * DX d == x) = true := by simp [q1]
                        have b2 : ((b : Int) + (n : Int) * DY d == y) = true := by simp [q2]
                        clear q1 q2
                        go_wp2
                        refine Hif.out _ _ ?_
                        go_wp2
                        go_roundw
                        case rel => exact ⟨d + 1, by omega, by go_num, by rw [HC.out, if_pos HH.out, HQ.out]; simp only [Int.natCast_add, Int.natCast_one, Int.add_assoc], bl_trans hBd hbw⟩
                        case measure => simp [intOf]; omega
                      · have HO' := hid (show ¬ onLine x y a b d (n + 1) from fun ⟨i, h1, h2, h3⟩ => by
                          by_cases e : i = n
                          · subst e; exact q2 h3
                          · exact HO.out ⟨i, by omega, h2, h3⟩)
                        have b1 : ((a : Int) + (n : Int) * DX d == x) = true := by simp [q1]
                        have b2 : ((b : Int) + (n : Int) * DY d == y) = false := by simp [q2]
                        clear q1 q2
                        go_wp2
                        refine Hif.out _ _ ?_
                        refine wp_cond_false (by first | rfl | (simp; omega) | (simp [Act.eval]; omega)) ?_
                        apply wp_skip
                        refine H16.out _ _ ?_
                        go_wp2
                        go_roundw
                        case rel => exact ⟨n + 1, by omega, by go_num, rfl, HO', hBn⟩
                        case measure => simp [intOf]; omega
                    · have HO' := hid (show ¬ onLine x y a b d (n + 1) from fun ⟨i, h1, h2, h3⟩ => by
                        by_cases e : i = n
                        · subst e; exact q1 h2
                        · exact HO.out ⟨i, by omega, h2, h3⟩)
                      have b1 : ((a : Int) + (n : Int) * DX d == x) = false := by simp [q1]
                      clear q1
                      go_wp2
                      refine Hif.out _ _ ?_
                      refine wp_cond_false (by first | rfl | (simp; omega) | (simp [Act.eval]; omega)) ?_
                      apply wp_skip
                      refine H16.out _ _ ?_
                      go_wp2
                      go_roundw
                      case rel => exact ⟨n + 1, by omega, by go_num, rfl, HO', hBn⟩
                      case measure => simp [intOf]; omega
                  · obtain rfl : n = 4 := by omega
                    have HH := hid (fun h => HO.out (HN.out.1 h))
                    go_wp2
                    go_roundw
                    case rel => exact ⟨d + 1, by omega, by go_num, by rw [HC.out, if_neg HH.out, HQ.out], bl_trans hBd hbw⟩
                    case measure => simp [intOf]; omega
            · obtain rfl : d = 4 := by omega
              have HS := hid (show cB f who x y a (b + 1) = cB f who x y a b + cD f who x y a b 4 from rfl)
              go_wp2
              go_roundw
              case rel => exact ⟨b + 1, by omega, by go_num, by rw [HS.out]; simp only [Int.natCast_add, Int.add_assoc], bl_trans hBb hBd⟩
              case measure => simp [intOf]; omega
        · obtain rfl : b = H := by omega
          have HS := hid (show cA f who x y b (a + 1) = cA f who x y b a + cB f who x y a b from rfl)
          go_wp2
          go_roundw
          case rel => exact ⟨a + 1, by omega, by go_num, by rw [HS.out]; simp only [Int.natCast_add], bl_trans hBa hBb⟩
          case measure => simp [intOf]; omega
    · obtain rfl : a = Wd := by omega
      go_wp2
      go_ret
      exact ⟨rfl, bl_trans hB1 hBa⟩
end Go.Proofs.Ytgiggomcpifjmaa
