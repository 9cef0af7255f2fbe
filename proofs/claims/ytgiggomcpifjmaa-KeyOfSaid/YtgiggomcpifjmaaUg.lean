/- The walks of the reference's New and Plays. -/
import Derived.Test.YtgiggomcpifjmaaUe
import Derived.Test.YtgiggomcpifjmaaTe
set_option linter.unusedVariables false
set_option linter.unusedSimpArgs false
namespace Go.Proofs.Ytgiggomcpifjmaa
open Go Go.RowKit
attribute [local go_sem ↓] Go.wp_at_zero Go.wp_at_succ
/-- The position without stones. -/
def posZ (bw bh : Int) : Nat → Int := upd (upd (fun _ => 0) 0 bw) 1 bh
set_option maxRecDepth 100000 in
set_option maxHeartbeats 400000 in
theorem pNew_yes (bw bh : Int) (hm : mayB bw bh = true) (w : World) :
    Calls Try.prog 54 #[.agg #[.int .i64 bw, .int .i64 bh]] w fun e w' => e = .returned (.tuple #[.agg (PV (posZ bw bh)), .int .i64 0]) ∧ Below w.heap.size w w' := by
  have M := hid (fun w => by have h := rMay_any bw bh w; rw [hm] at h; exact h)
  go_enter Try.func54, Try.ntmps54
  go_upto_region 1 with fail
  have b1 : Blk ((w.alloc (.cells #[.int .i64 bw, .int .i64 bh] 23)).alloc (.cells Try.zeroCells52 52)) (w.heap.size + 1) (PV fun _ => 0) := by rw [zc_pos]; exact Blk.new' (by simp) _ _
  have b0 : Blk ((w.alloc (.cells #[.int .i64 bw, .int .i64 bh] 23)).alloc (.cells Try.zeroCells52 52)) w.heap.size #[.int .i64 bw, .int .i64 bh] := (Blk.new _ _ _).alloc _
  have hB0 : Below w.heap.size w ((w.alloc (.cells #[.int .i64 bw, .int .i64 bh] 23)).alloc (.cells Try.zeroCells52 52)) := bl_alloc (bl_alloc (Below.refl _ _) _) _
  generalize (w.alloc (.cells #[.int .i64 bw, .int .i64 bh] 23)).alloc (.cells Try.zeroCells52 52) = w0 at *
  have c0 := b0.cell
  go_upto_region 3 with (go_at_call 16; (with_reducible refine (M.out _).mono ?_); rintro e_ w5 ⟨rfl, hb5⟩; have k5 := b0.bl hb5; have r5 := b1.bl hb5; have c5 := k5.cell)
  have hcz : (Try.zeroCells52.setIfInBounds 0 (.int .i64 bw)).setIfInBounds 1 (.int .i64 bh) = PV (posZ bw bh) := by rw [zc_pos, PV_set, PV_set]; rfl
  have hth := r5.there
  have hB5 : Below w.heap.size w w5 := bl_trans hB0 hb5
  go_wp2_with (refine wpList_store_mid rfl 52 _ _ rfl _ _ (PV (posZ bw bh)) rfl rfl ?_ (info_pos _) (PV_one _) ?_; (focus (rw [PV_size]; rw [PV_size] at hth; exact hth)))
  have br : Blk (w5.setCells (w.heap.size + 1) 0 (PV (posZ bw bh)).toList) (w.heap.size + 1) (PV (posZ bw bh)) := r5.setRow (by rw [PV_size, PV_size])
  have hl := load_pos _ br
  refine bodyPost_ret (v := .tuple #[.agg (PV (posZ bw bh)), .int .i64 0]) (results_cell2 (ad := ⟨w.heap.size + 1, 0, none⟩) Try.results54 (by simp) (by simp) hl) rfl ⟨rfl, ?_⟩
  exact bl_setRow hB5 (by omega) _ _
set_option maxRecDepth 100000 in
set_option maxHeartbeats 400000 in
theorem pNew_no (bw bh : Int) (hm : mayB bw bh = false) (w : World) :
    Calls Try.prog 54 #[.agg #[.int .i64 bw, .int .i64 bh]] w fun e w' => e = .returned (.tuple #[.agg (PV fun _ => 0), .int .i64 10]) ∧ Below w.heap.size w w' := by
  have M := hid (fun w => by have h := rMay_any bw bh w; rw [hm] at h; exact h)
  go_enter Try.func54, Try.ntmps54
  go_upto_region 1 with fail
  have b1 : Blk ((w.alloc (.cells #[.int .i64 bw, .int .i64 bh] 23)).alloc (.cells Try.zeroCells52 52)) (w.heap.size + 1) (PV fun _ => 0) := by rw [zc_pos]; exact Blk.new' (by simp) _ _
  have b0 : Blk ((w.alloc (.cells #[.int .i64 bw, .int .i64 bh] 23)).alloc (.cells Try.zeroCells52 52)) w.heap.size #[.int .i64 bw, .int .i64 bh] := (Blk.new _ _ _).alloc _
  have hB0 : Below w.heap.size w ((w.alloc (.cells #[.int .i64 bw, .int .i64 bh] 23)).alloc (.cells Try.zeroCells52 52)) := bl_alloc (bl_alloc (Below.refl _ _) _) _
  generalize (w.alloc (.cells #[.int .i64 bw, .int .i64 bh] 23)).alloc (.cells Try.zeroCells52 52) = w0 at *
  have c0 := b0.cell
  go_upto_region 2 with (go_at_call 16; (with_reducible refine (M.out _).mono ?_); rintro e_ w5 ⟨rfl, hb5⟩; have k5 := b0.bl hb5; have r5 := b1.bl hb5; have c5 := k5.cell)
  have hcz := zc_pos
  have hth := r5.there
  have hB5 : Below w.heap.size w w5 := bl_trans hB0 hb5
  go_wp2_with (refine wpList_store_mid rfl 52 _ _ rfl _ _ (PV fun _ => 0) rfl rfl ?_ (info_pos _) (PV_one _) ?_; (focus (rw [PV_size]; rw [PV_size] at hth; exact hth)))
  have br : Blk (w5.setCells (w.heap.size + 1) 0 (PV fun _ => 0).toList) (w.heap.size + 1) (PV fun _ => 0) := r5.setRow rfl
  have hl := load_pos _ br
  refine bodyPost_ret (v := .tuple #[.agg (PV fun _ => 0), .int .i64 10]) (results_cell2 (ad := ⟨w.heap.size + 1, 0, none⟩) Try.results54 (by simp) (by simp) hl) rfl ⟨rfl, ?_⟩
  exact bl_setRow hB5 (by omega) _ _
/-! ### Plays -/
structure PosIn (f : Nat → Int) : Prop where
  ok : PosOk f
  room : f 130 ≤ f 0 * f 1
theorem PosIn.lt {f : Nat → Int} (h : PosIn f) {x : Int} (hc : pCan f x = 0) : f 130 < f 0 * f 1 ∧ f 130 < 64 := by
  obtain ⟨_, _, _, ho⟩ := pCan_zero f x hc
  unfold pOver at ho
  simp only [Bool.or_eq_false_iff, decide_eq_false_iff_not] at ho
  have h1 := h.room
  have h2 : f 0 * f 1 ≤ 8 * 8 := Int.mul_le_mul h.ok.w2 h.ok.h2 (by have := h.ok.h1; omega) (by omega)
  have h3 := ho.2
  omega
theorem PosIn.drop {f : Nat → Int} (h : PosIn f) {x : Nat} (hc : pCan f x = 0) : PosIn (dropF f x) := by
  obtain ⟨h1, h2⟩ := h.lt hc
  obtain ⟨_, hx, hh, _⟩ := pCan_zero f x hc
  obtain ⟨⟨a1, a2, a3, a4, a5, a6⟩, hr⟩ := h
  have hple := pH_le f x (f 1).toNat
  have hy : dropY f x < 8 := by unfold dropY; omega
  have e0 : drop3 f x 0 = f 0 := drop3_ne f x 0 (by omega) (by omega) (by omega)
  have e1 : drop3 f x 1 = f 1 := drop3_ne f x 1 (by omega) (by omega) (by omega)
  have e130 : drop3 f x 130 = f 130 + 1 := upd_at _ _ _
  have g : dropF f x 0 = f 0 ∧ dropF f x 1 = f 1 ∧ dropF f x 130 = f 130 + 1 := by
    unfold dropF; split
    · rw [upd_ne _ _ _ _ (by omega), upd_ne _ _ _ _ (by omega), upd_ne _ _ _ _ (by omega)]; exact ⟨e0, e1, e130⟩
    · exact ⟨e0, e1, e130⟩
  obtain ⟨g0, g1, g2⟩ := g
  exact ⟨⟨by rw [g0]; exact a1, by rw [g0]; exact a2, by rw [g1]; exact a3, by rw [g1]; exact a4, by rw [g2]; omega, by rw [g2]; omega⟩, by rw [g0, g1, g2]; omega⟩
def dropG (f : Nat → Int) (x : Int) : Nat → Int := if pCan f x = 0 then dropF f x.toNat else f
theorem pDrop_any (f : Nat → Int) (h : PosIn f) (x : Int) (w : World) :
    Calls Try.prog 55 #[.agg (PV f), .int .i64 x] w fun e w' => e = .returned (.tuple #[.agg (PV (dropG f x)), .int .i64 (pCan f x)]) ∧ Below w.heap.size w w' := by
  by_cases hc : pCan f x = 0
  · obtain ⟨h0, _, _, _⟩ := pCan_zero f x hc
    obtain ⟨X, rfl⟩ := Int.eq_ofNat_of_zero_le h0
    have e : dropG f X = dropF f X := by unfold dropG; rw [if_pos hc, Int.toNat_natCast]
    rw [e, hc]
    exact pDrop_yes f h.ok X hc (h.lt hc).2 w
  · have e : dropG f x = f := by unfold dropG; rw [if_neg hc]
    rw [e]
    exact pDrop_no f h.ok x hc w
def playR : (Nat → Int) → List Int → (Nat → Int) × Int × Int
  | f, [] => (f, 0, 0)
  | f, x :: l => if pCan f x = 0 then ((playR (dropF f x.toNat) l).1, (playR (dropF f x.toNat) l).2.1 + 1, (playR (dropF f x.toNat) l).2.2) else (f, 0, pCan f x)
theorem playR_yes (f : Nat → Int) (x : Int) (l : List Int) (h : pCan f x = 0) : playR f (x :: l) = ((playR (dropF f x.toNat) l).1, (playR (dropF f x.toNat) l).2.1 + 1, (playR (dropF f x.toNat) l).2.2) := by rw [playR, if_pos h]
theorem playR_no (f : Nat → Int) (x : Int) (l : List Int) (h : pCan f x ≠ 0) : playR f (x :: l) = (f, 0, pCan f x) := by rw [playR, if_neg h]
theorem posZ_in (bw bh : Int) (hm : mayB bw bh = true) : PosIn (posZ bw bh) := by
  obtain ⟨h1, h2, h3, h4⟩ := mayB_iff.1 hm
  have e0 : posZ bw bh 0 = bw := by unfold posZ; rw [upd_ne _ _ _ _ (by omega), upd_at]
  have e1 : posZ bw bh 1 = bh := by unfold posZ; rw [upd_at]
  have e2 : posZ bw bh 130 = 0 := by unfold posZ; rw [upd_ne _ _ _ _ (by omega), upd_ne _ _ _ _ (by omega)]
  have : 0 ≤ bw * bh := Int.mul_nonneg (by omega) (by omega)
  exact ⟨⟨by omega, by omega, by omega, by omega, by omega, by omega⟩, by rw [e0, e1, e2]; exact this⟩
theorem results_cell3 {P : Program} {fn : Func} {tmps : Array Value} {w : World} {a u q : Nat} {t : TypeId} {ad : Addr} {v v2 v3 : Value}
    (hr : fn.results = #[.cell a t, .tmp u, .tmp q]) (ht : tmps.getD a undef = .pointer (some ad)) (h2 : tmps.getD u undef = v2) (h3 : tmps.getD q undef = v3) (hl : (loadVar t ad).run P w = .ok v w) : (results fn tmps).run P w = .ok (.tuple #[v, v2, v3]) w := by
  unfold results
  rw [hr]
  have ht' : tmps[a]?.getD undef = .pointer (some ad) := by simpa using ht
  have h2' : tmps[u]?.getD undef = v2 := by simpa using h2
  have h3' : tmps[q]?.getD undef = v3 := by simpa using h3
  simp [Sem.run_bind, ht', h2', h3', asAddr, hl]
end Go.Proofs.Ytgiggomcpifjmaa
