/- The walk of the reference's Plays. -/
import Derived.Test.YtgiggomcpifjmaaUg
import Derived.Test.YtgiggomcpifjmaaTn
set_option linter.unusedVariables false
set_option linter.unusedSimpArgs false
namespace Go.Proofs.Ytgiggomcpifjmaa
open Go Go.RowKit
attribute [local go_sem ↓] Go.wp_at_zero Go.wp_at_succ
set_option maxRecDepth 100000 in
set_option maxHeartbeats 1000000 in
theorem pPlays_no (bw bh : Int) (hm : mayB bw bh = false) (sv : Value) (w : World) :
    Calls Try.prog 22 #[.agg #[.int .i64 bw, .int .i64 bh], sv] w fun e w' => e = .returned (.tuple #[.agg (PV fun _ => 0), .int .i64 0, .int .i64 10]) ∧ Below w.heap.size w w' := by
  have N := hid (fun w => pNew_no bw bh hm w)
  go_enter Try.func22, Try.ntmps22
  go_upto_region 1 with fail
  have b1 : Blk ((w.alloc (.cells #[.int .i64 bw, .int .i64 bh] 23)).alloc (.cells Try.zeroCells52 52)) (w.heap.size + 1) (PV fun _ => 0) := by rw [zc_pos]; exact Blk.new' (by simp) _ _
  have b0 : Blk ((w.alloc (.cells #[.int .i64 bw, .int .i64 bh] 23)).alloc (.cells Try.zeroCells52 52)) w.heap.size #[.int .i64 bw, .int .i64 bh] := (Blk.new _ _ _).alloc _
  have hB0 : Below w.heap.size w ((w.alloc (.cells #[.int .i64 bw, .int .i64 bh] 23)).alloc (.cells Try.zeroCells52 52)) := bl_alloc (bl_alloc (Below.refl _ _) _) _
  generalize (w.alloc (.cells #[.int .i64 bw, .int .i64 bh] 23)).alloc (.cells Try.zeroCells52 52) = w0 at *
  have c0 := b0.cell
  go_upto_region 2 with (first | (go_at_call 54; (with_reducible refine (N.out _).mono ?_); rintro e_ w5 ⟨rfl, hb5⟩) | ((refine wpList_store_new rfl 52 _ _ rfl _ _ _ rfl rfl ?_ (info_pos _) (PV_one _) ?_); (focus (rw [PV_size, zcp_size])); intro w6 hb6 hz6 k6; have HZ6 := hid hz6; clear hz6))
  have r6 := (b1.bl hb5).bl hb6
  have hB6 : Below w.heap.size w w6 := bl_trans (bl_trans hB0 hb5) hb6
  clear c0 b0
  have hcz := zc_pos
  have hth := r6.there
  go_wp2_with (refine wpList_store_mid rfl 52 _ _ rfl _ _ (PV fun _ => 0) rfl rfl ?_ (info_pos _) (PV_one _) ?_; (focus (rw [PV_size]; rw [PV_size] at hth; exact hth)))
  have br : Blk (w6.setCells (w.heap.size + 1) 0 (PV fun _ => 0).toList) (w.heap.size + 1) (PV fun _ => 0) := r6.setRow rfl
  have hl := load_pos _ br
  refine bodyPost_ret (v := .tuple #[.agg (PV fun _ => 0), .int .i64 0, .int .i64 10]) (results_cell3 (ad := ⟨w.heap.size + 1, 0, none⟩) Try.results22 (by simp) (by simp) (by simp) hl) rfl ⟨rfl, ?_⟩
  exact bl_setRow hB6 (by omega) _ _
theorem yieldsIf_pos {ops : Array Oper} {S : World → Prop} {op : Oper} {a : Act} (hw : Region.wanted op (yielded ops a.tmps) = true) (x : Operand) (ho : op.op = .load 52 x)
    (b : Nat) (hx : a.eval x = .pointer (some ⟨b, 0, none⟩)) (f : Nat → Int) (hS : ∀ w, S w → Blk w b (PV f)) : YieldsIf Try.prog ops S op (.agg (PV f)) a := by
  have hy := yieldsIf_load_mid (P := Try.prog) (S := S) hw 52 x ho b 0 hx (PV f).toList _ (fun w' h => (hS w' h).range) Try.underlying52 rfl (by rw [Array.length_toList]; exact info_pos f)
  rw [Array.toArray_toList] at hy
  exact hy
theorem size_setCells (b : Nat) : ∀ (vs : List Value) (o : Nat) (w : World), (w.setCells b o vs).heap.size = w.heap.size
  | [], _, _ => rfl
  | v :: vs, o, w => by rw [World.setCells, size_setCells b vs]; simp
theorem wp_store_blk {o : Oper} {a : Act} {w : World} {K : Act → World → Prop} {Q : Exit → Act → World → Prop} (x y : Operand) (ho : o.op = .store 52 x y) (b : Nat) (f g : Nat → Int)
    (hk : Blk w b (PV f)) (hx : a.eval x = .pointer (some ⟨b, 0, none⟩)) (hy : a.eval y = .agg (PV g))
    (h : ∀ w', w'.heap.size = w.heap.size → Blk w' b (PV g) → (∀ b' cs, b' ≠ b → Blk w b' cs → Blk w' b' cs) → (∀ a0 : World, Below a0.heap.size a0 w → a0.heap.size ≤ b → Below a0.heap.size a0 w') → K (a.put o.dst undef) w') : o.wp Try.prog a w K Q := by
  refine wp_store_mid 52 x y ho b 0 (PV g) hx hy ?_ (info_pos g) (PV_one g) (h _ (size_setCells b _ _ _) (hk.setRow (by rw [PV_size, PV_size])) (fun b' cs hne hb => hb.otherRow hne _ _) (fun a0 hB hle => bl_setRow hB hle _ _))
  have := hk.there
  rw [PV_size] at this ⊢; exact this
theorem wpList_store_blk {ops : Array Oper} {rest : List Oper} {o : Oper} {a : Act} {w : World} {Q : Exit → Act → World → Prop} (hgd : o.guard = none) (x y : Operand) (ho : o.op = .store 52 x y) (b : Nat) (f g : Nat → Int)
    (hk : Blk w b (PV f)) (hx : a.eval x = .pointer (some ⟨b, 0, none⟩)) (hy : a.eval y = .agg (PV g))
    (h : ∀ w', w'.heap.size = w.heap.size → Blk w' b (PV g) → (∀ b' cs, b' ≠ b → Blk w b' cs → Blk w' b' cs) → (∀ a0 : World, Below a0.heap.size a0 w → a0.heap.size ≤ b → Below a0.heap.size a0 w') → wpList Try.prog ops Q rest (a.put o.dst undef) w') : wpList Try.prog ops Q (o :: rest) a w :=
  wpList_plain hgd fun _ hK => wp_store_blk x y ho b f g hk hx hy fun w' h1 h2 h3 h4 => hK _ _ (h w' h1 h2 h3 h4)
def addR (k : Int) (r : (Nat → Int) × Int × Int) : (Nat → Int) × Int × Int := (r.1, r.2.1 + k, r.2.2)
set_option maxRecDepth 100000 in
set_option maxHeartbeats 1000000 in
theorem pPlays_yes (bw bh : Int) (hm : mayB bw bh = true) (r : Option Addr) (len cap : Nat) (l : List Int) (w : World) (hsl : SlIs w r len l) (hlen : len ≤ 90) :
    Calls Try.prog 22 #[.agg #[.int .i64 bw, .int .i64 bh], .slice r len cap] w fun e w' => e = .returned (.tuple #[.agg (PV (playR (posZ bw bh) l).1), .int .i64 (playR (posZ bw bh) l).2.1, .int .i64 (playR (posZ bw bh) l).2.2]) ∧ Below w.heap.size w w' := by
  have N := hid (fun w => pNew_yes bw bh hm w)
  have HZ := hid (posZ_in bw bh hm)
  have HS := hid hsl; clear hsl
  generalize posZ bw bh = fz at *
  go_enter Try.func22, Try.ntmps22
  go_upto_region 1 with fail
  have b1 : Blk ((w.alloc (.cells #[.int .i64 bw, .int .i64 bh] 23)).alloc (.cells Try.zeroCells52 52)) (w.heap.size + 1) (PV fun _ => 0) := by rw [zc_pos]; exact Blk.new' (by simp) _ _
  have b0 : Blk ((w.alloc (.cells #[.int .i64 bw, .int .i64 bh] 23)).alloc (.cells Try.zeroCells52 52)) w.heap.size #[.int .i64 bw, .int .i64 bh] := (Blk.new _ _ _).alloc _
  have hB0 : Below w.heap.size w ((w.alloc (.cells #[.int .i64 bw, .int .i64 bh] 23)).alloc (.cells Try.zeroCells52 52)) := bl_alloc (bl_alloc (Below.refl _ _) _) _
  have hz0 : w.heap.size + 1 < ((w.alloc (.cells #[.int .i64 bw, .int .i64 bh] 23)).alloc (.cells Try.zeroCells52 52)).heap.size := by simp
  generalize (w.alloc (.cells #[.int .i64 bw, .int .i64 bh] 23)).alloc (.cells Try.zeroCells52 52) = w0 at *
  have c0 := b0.cell
  go_upto_region 2 with (first | (go_at_call 54; (with_reducible refine (N.out _).mono ?_); rintro e_ w5 ⟨rfl, hb5⟩) | ((refine wpList_store_new rfl 52 _ _ rfl _ _ _ rfl rfl ?_ (info_pos _) (PV_one _) ?_); (focus (rw [PV_size, zcp_size])); intro w6 hb6 hz6 k6; have HZ6 := hid hz6; clear hz6))
  have r6 := (b1.bl hb5).bl hb6
  have hB6 : Below w.heap.size w w6 := bl_trans (bl_trans hB0 hb5) hb6
  have hlt5 : w.heap.size + 1 < w5.heap.size := by have := hb5.size; omega
  have hlt6 : w5.heap.size < w6.heap.size := by rw [HZ6.out]; omega
  clear c0 b0 b1 hB0 hb5 hb6 hz0 N
  go_upto_region 4 with fail
  go_wp2
  go_loopw [9] (fun i wr => ∃ (k : Nat) (g : Nat → Int), k ≤ len ∧ i = .int .i64 k ∧ Hid (PosIn g) ∧ Hid (playR fz l = addR k (playR g (l.drop k))) ∧ Below w.heap.size w wr ∧ w6.heap.size ≤ wr.heap.size ∧ Blk wr (w.heap.size + 1) (PV fun _ => 0) ∧ Blk wr w5.heap.size (PV g)) (fun i _ => len - (intOf i).toNat)
  case atStart => exact ⟨0, fz, by omega, rfl, HZ, hid (by unfold addR; simp), hB6, Nat.le_refl _, r6, k6⟩
  case round =>
    obtain ⟨k, g, hk, rfl, HG, HP, hB, hsz, r7, k7⟩ := hrel
    by_cases hlt : k < len
    · obtain ⟨gb, go, rfl, hgb, hcell⟩ := HS.out.2 (by omega)
      have hcx := hcell k hlt
      clear hcell
      have HD := hid (drop_getD l k (by rw [HS.out.1]; exact hlt))
      have hc : wr.cell? ⟨gb, go + k, none⟩ = some (.int .i64 (l.getD k 0)) := (hB.cell (p := ⟨gb, go + k, none⟩) hgb).trans hcx
      have HX := hid hcx
      clear hcx
      generalize l.getD k 0 = x at *
      have D := hid (fun wx => pDrop_any g HG.out x wx)
      have HGe := hid (show dropG g x = if pCan g x = 0 then dropF g x.toNat else g from rfl)
      have z0 : (0 : Int) ≤ (k : Int) := by omega
      have z1 : (k : Int) < (len : Int) := by omega
      have hgl : gb < wr.heap.size := by have := hB.size; omega
      go_upto_if 24 with (fail)
      refine wp_cond_true rfl ?_
      apply wp_skip
      rename_i KK hKK
      refine hKK _ _ ?_
      clear hKK
      (apply wp_seq_k; intro Ka ha; have Ha := hid ha; clear ha)
      apply wp_block
      (apply wp_seq_k; intro Kb hb; have Hb := hid hb; clear hb)
      refine wp_region_noPanic ?_
      refine wp_region_held_drew (S := fun w' => Blk w' w5.heap.size (PV g) ∧ w'.cell? ⟨gb, go + k, none⟩ = some (.int .i64 x)) (by kernel_rfl) ?_ (fun hHeld => ?_)
      · exact ⟨k7, hc⟩
      refine wpAnyH_take (i := 0) (v := .agg (PV g)) rfl (by kernel_rfl) (by kernel_rfl) (by kernel_rfl) (fun _ _ _ h => h) ?_ hHeld ?_
      · exact yieldsIf_pos (by rfl) _ rfl w5.heap.size (by rfl) g (fun w' h => h.1)
      (try simp only [Array.getInternal_eq_getElem, List.getElem_toArray, List.getElem_cons_succ, List.getElem_cons_zero, Act.put, List.setIfInBounds_toArray, List.set_cons_zero, List.set_cons_succ])
      (refine wpAnyH_take (i := 1) (v := .slice (some ⟨gb, go, none⟩) len cap) rfl (by kernel_rfl) (by kernel_rfl) (by kernel_rfl) (fun _ _ _ h => h) (Or.inl ⟨by rfl, ?_⟩) hHeld ?_; (focus (intro w_ hSw; (try dsimp only at hSw); go_simp)); (try simp only [Array.getInternal_eq_getElem, List.getElem_toArray, List.getElem_cons_succ, List.getElem_cons_zero, Act.put, List.setIfInBounds_toArray, List.set_cons_zero, List.set_cons_succ]))
      (refine wpAnyH_take (i := 2) (v := .int .i64 k) rfl (by kernel_rfl) (by kernel_rfl) (by kernel_rfl) (fun _ _ _ h => h) (Or.inl ⟨by rfl, ?_⟩) hHeld ?_; (focus (intro w_ hSw; (try dsimp only at hSw); go_simp)); (try simp only [Array.getInternal_eq_getElem, List.getElem_toArray, List.getElem_cons_succ, List.getElem_cons_zero, Act.put, List.setIfInBounds_toArray, List.set_cons_zero, List.set_cons_succ]))
      (refine wpAnyH_take (i := 3) (v := .pointer (some ⟨gb, go + k, none⟩)) rfl (by kernel_rfl) (by kernel_rfl) (by kernel_rfl) (fun _ _ _ h => h) (Or.inl ⟨by rfl, ?_⟩) hHeld ?_; (focus (intro w_ hSw; (try dsimp only at hSw); go_simp)); (try simp only [Array.getInternal_eq_getElem, List.getElem_toArray, List.getElem_cons_succ, List.getElem_cons_zero, Act.put, List.setIfInBounds_toArray, List.set_cons_zero, List.set_cons_succ]))
      (refine wpAnyH_take (i := 4) (v := .int .i64 x) rfl (by kernel_rfl) (by kernel_rfl) (by kernel_rfl) (fun _ _ _ h => h) (Or.inl ⟨by rfl, ?_⟩) hHeld ?_; (focus (intro w_ hSw; (try dsimp only at hSw); go_simp)); (try simp only [Array.getInternal_eq_getElem, List.getElem_toArray, List.getElem_cons_succ, List.getElem_cons_zero, Act.put, List.setIfInBounds_toArray, List.set_cons_zero, List.set_cons_succ]))
      refine wpAnyH_ready (rs := [5, 9]) (by kernel_rfl) (by simp) ?_
      refine AllReadyH.cons rfl (fun K hK => ?_) (AllReadyH.cons rfl (fun K hK => ?_) AllReadyH.nil)
      · go_simp
        (go_at_call 55; (with_reducible refine (D.out _).mono ?_); rintro e_ w8 ⟨rfl, hb8'⟩)
        have hb8 : Below wr.heap.size wr w8 := bl_trans (bl_drew (Below.refl _ _)) hb8'
        have k8 := k7.bl hb8; have r8 := r7.bl hb8
        have hc8 : w8.cell? ⟨gb, go + k, none⟩ = some (.int .i64 x) := (hb8.cell (p := ⟨gb, go + k, none⟩) hgl).trans hc
        (refine hK.out _ _ ?_ (fun hHeld => ?_)); (focus (try dsimp only); exact ⟨k8, hc8⟩); clear hK K; (try simp only [Array.getInternal_eq_getElem, List.getElem_toArray, List.getElem_cons_succ, List.getElem_cons_zero, Act.put, List.setIfInBounds_toArray, List.set_cons_zero, List.set_cons_succ])
        (refine wpAnyH_take (i := 6) (v := .tuple #[.agg (PV (dropG g x)), .int .i64 (pCan g x)]) rfl (by kernel_rfl) (by kernel_rfl) (by kernel_rfl) (fun _ _ _ h => h) (Or.inl ⟨by rfl, ?_⟩) hHeld ?_; (focus (intro w_ hSw; (try dsimp only at hSw); go_simp)); (try simp only [Array.getInternal_eq_getElem, List.getElem_toArray, List.getElem_cons_succ, List.getElem_cons_zero, Act.put, List.setIfInBounds_toArray, List.set_cons_zero, List.set_cons_succ]))
        (refine wpAnyH_take (i := 7) (v := .agg (PV (dropG g x))) rfl (by kernel_rfl) (by kernel_rfl) (by kernel_rfl) (fun _ _ _ h => h) (Or.inl ⟨by rfl, ?_⟩) hHeld ?_; (focus (intro w_ hSw; (try dsimp only at hSw); go_simp)); (try simp only [Array.getInternal_eq_getElem, List.getElem_toArray, List.getElem_cons_succ, List.getElem_cons_zero, Act.put, List.setIfInBounds_toArray, List.set_cons_zero, List.set_cons_succ]))
        (refine wpAnyH_take (i := 8) (v := .int .i64 (pCan g x)) rfl (by kernel_rfl) (by kernel_rfl) (by kernel_rfl) (fun _ _ _ h => h) (Or.inl ⟨by rfl, ?_⟩) hHeld ?_; (focus (intro w_ hSw; (try dsimp only at hSw); go_simp)); (try simp only [Array.getInternal_eq_getElem, List.getElem_toArray, List.getElem_cons_succ, List.getElem_cons_zero, Act.put, List.setIfInBounds_toArray, List.set_cons_zero, List.set_cons_succ]))
        refine wpAnyH_ready (rs := [9]) (by kernel_rfl) (by simp) ?_; refine AllReadyH.cons rfl (fun K hK => ?_) AllReadyH.nil
        go_simp
        have qz : Blk (w8.alloc (.cells Try.zeroCells52 52)) w8.heap.size (PV fun _ => 0) := by rw [zc_pos]; exact Blk.new _ _ _
        have k8' := k8.alloc (.cells Try.zeroCells52 52)
        have r8' := r8.alloc (.cells Try.zeroCells52 52)
        have hB8' : Below w.heap.size w (w8.alloc (.cells Try.zeroCells52 52)) := bl_alloc (bl_trans hB hb8) _
        have hcz : (w8.alloc (.cells Try.zeroCells52 52)).cell? ⟨gb, go + k, none⟩ = some (.int .i64 x) := (hB8'.cell (p := ⟨gb, go + k, none⟩) hgb).trans HX.out
        have hsz8 : w6.heap.size ≤ w8.heap.size := Nat.le_trans hsz hb8.size
        have hzz : (w8.alloc (.cells Try.zeroCells52 52)).heap.size = w8.heap.size + 1 := by simp
        (refine hK.out _ _ ?_ (fun hHeld => ?_)); (focus (try dsimp only); exact ⟨k8', hcz⟩); clear hK K; (try simp only [Array.getInternal_eq_getElem, List.getElem_toArray, List.getElem_cons_succ, List.getElem_cons_zero, Act.put, List.setIfInBounds_toArray, List.set_cons_zero, List.set_cons_succ])
        refine wpAnyH_ready (rs := [10]) (by kernel_rfl) (by simp) ?_
        refine AllReadyH.cons rfl (fun K hK => step_if' (by kernel_rfl) (wp_store_blk _ _ rfl w8.heap.size (fun _ => 0) (dropG g x) qz (by rfl) (by rfl) fun w9 hz9 q9 ho9 hb9 => ?_)) AllReadyH.nil
        have k9 := ho9 _ _ (by omega) k8'
        have r9 := ho9 _ _ (by omega) r8'
        have hB9 := hb9 w hB8' (by omega)
        have hc9 : w9.cell? ⟨gb, go + k, none⟩ = some (.int .i64 x) := (hB9.cell (p := ⟨gb, go + k, none⟩) hgb).trans HX.out
        (refine hK.out _ _ ?_ (fun hHeld => ?_)); (focus (try dsimp only); exact ⟨k9, hc9⟩); clear hK K; (try simp only [Array.getInternal_eq_getElem, List.getElem_toArray, List.getElem_cons_succ, List.getElem_cons_zero, Act.put, List.setIfInBounds_toArray, List.set_cons_zero, List.set_cons_succ])
        refine wpAnyH_ready (rs := [11]) (by kernel_rfl) (by simp) ?_; refine AllReadyH.cons rfl (fun K hK => ?_) AllReadyH.nil
        go_simp
        (refine hK.out _ _ ?_ (fun hHeld => ?_)); (focus (try dsimp only); exact ⟨k9, hc9⟩); clear hK K; (try simp only [Array.getInternal_eq_getElem, List.getElem_toArray, List.getElem_cons_succ, List.getElem_cons_zero, Act.put, List.setIfInBounds_toArray, List.set_cons_zero, List.set_cons_succ])
        refine wpAnyH_done (by kernel_rfl) (NoPanic.normal ?_) _
        refine Hb.out _ _ ?_
        clear k8' r8' hB8'
        by_cases hcan : pCan g x = 0
        · have HE := hid (show playR fz l = addR ((k + 1 : Nat) : Int) (playR (dropG g x) (l.drop (k + 1))) by
            rw [HP.out, HD.out, playR_yes g x _ hcan]
            have e : dropG g x = dropF g x.toNat := by unfold dropG; rw [if_pos hcan]
            rw [e]; unfold addR; simp only [Prod.mk.injEq, true_and, and_true]; omega)
          have HI := hid (show PosIn (dropG g x) by
            obtain ⟨h0, _, _, _⟩ := pCan_zero g x hcan
            obtain ⟨X, rfl⟩ := Int.eq_ofNat_of_zero_le h0
            unfold dropG; rw [if_pos hcan, Int.toNat_natCast]; exact HG.out.drop hcan)
          rw [hcan]
          clear hcan
          generalize dropG g x = g2 at *
          obtain ⟨t9, hk9⟩ := q9
          go_wp2_with (first | (refine wpList_load_row rfl 52 _ rfl _ rfl _ _ _ _ hk9 Try.underlying52 rfl (info_pos _) ?_) | (refine wpList_store_blk rfl _ _ rfl w5.heap.size g g2 k9 (by rfl) (by rfl) ?_; intro w10 hz10 k10 ho10 hb10; have r10 := ho10 _ _ (by omega) r9; have hB10 := hb10 w hB9 (by omega)))
          refine Ha.out _ _ ?_
          go_wp2
          go_roundw
          case rel => exact ⟨k + 1, g2, by omega, by go_num, HI, HE, hB10, by omega, r10, k10⟩
          case measure => simp [intOf]; omega
        · have HE := hid (show playR fz l = (g, (k : Int), pCan g x) by
            rw [HP.out, HD.out, playR_no g x _ hcan]; unfold addR; simp)
          have hne : (pCan g x != 0) = true := by simp [hcan]
          clear hcan
          generalize pCan g x = e at *
          have k9' := k9
          obtain ⟨t9, hk9⟩ := k9'
          go_wp2_with (first | (refine wpList_load_row rfl 52 _ rfl _ rfl _ _ _ _ hk9 Try.underlying52 rfl (info_pos _) ?_) | (refine wpList_store_blk rfl _ _ rfl (w.heap.size + 1) (fun _ => 0) g r9 (by rfl) (by rfl) ?_; intro w10 hz10 r10 ho10 hb10; have hB10 := hb10 w hB9 (by omega)))
          have hl := load_pos _ r10
          rw [HE.out]
          refine bodyPost_ret (v := .tuple #[.agg (PV g), .int .i64 k, .int .i64 e]) (results_cell3 (ad := ⟨w.heap.size + 1, 0, none⟩) Try.results22 (by simp) (by simp) (by simp) hl) rfl ⟨rfl, ?_⟩
          exact hB10
      · go_simp
        have qz0 : Blk (wr.alloc (.cells Try.zeroCells52 52)) wr.heap.size (PV fun _ => 0) := by rw [zc_pos]; exact Blk.new _ _ _
        have k70 := k7.alloc (.cells Try.zeroCells52 52)
        have r70 := r7.alloc (.cells Try.zeroCells52 52)
        have hB0' : Below w.heap.size w (wr.alloc (.cells Try.zeroCells52 52)) := bl_alloc hB _
        have hcz : (wr.alloc (.cells Try.zeroCells52 52)).cell? ⟨gb, go + k, none⟩ = some (.int .i64 x) := (hB0'.cell (p := ⟨gb, go + k, none⟩) hgb).trans HX.out
        have hzz : (wr.alloc (.cells Try.zeroCells52 52)).heap.size = wr.heap.size + 1 := by simp
        (refine hK.out _ _ ?_ (fun hHeld => ?_)); (focus (try dsimp only); exact ⟨k70, hcz⟩); clear hK K; (try simp only [Array.getInternal_eq_getElem, List.getElem_toArray, List.getElem_cons_succ, List.getElem_cons_zero, Act.put, List.setIfInBounds_toArray, List.set_cons_zero, List.set_cons_succ])
        refine wpAnyH_ready (rs := [5]) (by kernel_rfl) (by simp) ?_; refine AllReadyH.cons rfl (fun K hK => ?_) AllReadyH.nil
        go_simp
        (go_at_call 55; (with_reducible refine (D.out _).mono ?_); rintro e_ w8 ⟨rfl, hb8'⟩)
        have hb8 : Below (wr.alloc (.cells Try.zeroCells52 52)).heap.size (wr.alloc (.cells Try.zeroCells52 52)) w8 := bl_trans (bl_drew (Below.refl _ _)) hb8'
        have k8' := k70.bl hb8
        have r8' := r70.bl hb8
        have qz := qz0.bl hb8
        have hB8' : Below w.heap.size w w8 := bl_trans hB0' hb8
        have hc8 : w8.cell? ⟨gb, go + k, none⟩ = some (.int .i64 x) := (hB8'.cell (p := ⟨gb, go + k, none⟩) hgb).trans HX.out
        have hsz8 : wr.heap.size + 1 ≤ w8.heap.size := by have := hb8.size; omega
        (refine hK.out _ _ ?_ (fun hHeld => ?_)); (focus (try dsimp only); exact ⟨k8', hc8⟩); clear hK K; (try simp only [Array.getInternal_eq_getElem, List.getElem_toArray, List.getElem_cons_succ, List.getElem_cons_zero, Act.put, List.setIfInBounds_toArray, List.set_cons_zero, List.set_cons_succ])
        (refine wpAnyH_take (i := 6) (v := .tuple #[.agg (PV (dropG g x)), .int .i64 (pCan g x)]) rfl (by kernel_rfl) (by kernel_rfl) (by kernel_rfl) (fun _ _ _ h => h) (Or.inl ⟨by rfl, ?_⟩) hHeld ?_; (focus (intro w_ hSw; (try dsimp only at hSw); go_simp)); (try simp only [Array.getInternal_eq_getElem, List.getElem_toArray, List.getElem_cons_succ, List.getElem_cons_zero, Act.put, List.setIfInBounds_toArray, List.set_cons_zero, List.set_cons_succ]))
        (refine wpAnyH_take (i := 7) (v := .agg (PV (dropG g x))) rfl (by kernel_rfl) (by kernel_rfl) (by kernel_rfl) (fun _ _ _ h => h) (Or.inl ⟨by rfl, ?_⟩) hHeld ?_; (focus (intro w_ hSw; (try dsimp only at hSw); go_simp)); (try simp only [Array.getInternal_eq_getElem, List.getElem_toArray, List.getElem_cons_succ, List.getElem_cons_zero, Act.put, List.setIfInBounds_toArray, List.set_cons_zero, List.set_cons_succ]))
        (refine wpAnyH_take (i := 8) (v := .int .i64 (pCan g x)) rfl (by kernel_rfl) (by kernel_rfl) (by kernel_rfl) (fun _ _ _ h => h) (Or.inl ⟨by rfl, ?_⟩) hHeld ?_; (focus (intro w_ hSw; (try dsimp only at hSw); go_simp)); (try simp only [Array.getInternal_eq_getElem, List.getElem_toArray, List.getElem_cons_succ, List.getElem_cons_zero, Act.put, List.setIfInBounds_toArray, List.set_cons_zero, List.set_cons_succ]))
        refine wpAnyH_ready (rs := [10]) (by kernel_rfl) (by simp) ?_
        refine AllReadyH.cons rfl (fun K hK => step_if' (by kernel_rfl) (wp_store_blk _ _ rfl wr.heap.size (fun _ => 0) (dropG g x) qz (by rfl) (by rfl) fun w9 hz9 q9 ho9 hb9 => ?_)) AllReadyH.nil
        have k9 := ho9 _ _ (by omega) k8'
        have r9 := ho9 _ _ (by omega) r8'
        have hB9 := hb9 w hB8' (by omega)
        have hc9 : w9.cell? ⟨gb, go + k, none⟩ = some (.int .i64 x) := (hB9.cell (p := ⟨gb, go + k, none⟩) hgb).trans HX.out
        (refine hK.out _ _ ?_ (fun hHeld => ?_)); (focus (try dsimp only); exact ⟨k9, hc9⟩); clear hK K; (try simp only [Array.getInternal_eq_getElem, List.getElem_toArray, List.getElem_cons_succ, List.getElem_cons_zero, Act.put, List.setIfInBounds_toArray, List.set_cons_zero, List.set_cons_succ])
        refine wpAnyH_ready (rs := [11]) (by kernel_rfl) (by simp) ?_; refine AllReadyH.cons rfl (fun K hK => ?_) AllReadyH.nil
        go_simp
        (refine hK.out _ _ ?_ (fun hHeld => ?_)); (focus (try dsimp only); exact ⟨k9, hc9⟩); clear hK K; (try simp only [Array.getInternal_eq_getElem, List.getElem_toArray, List.getElem_cons_succ, List.getElem_cons_zero, Act.put, List.setIfInBounds_toArray, List.set_cons_zero, List.set_cons_succ])
        refine wpAnyH_done (by kernel_rfl) (NoPanic.normal ?_) _
        refine Hb.out _ _ ?_
        clear k8' r8' hB8'
        by_cases hcan : pCan g x = 0
        · have HE := hid (show playR fz l = addR ((k + 1 : Nat) : Int) (playR (dropG g x) (l.drop (k + 1))) by
            rw [HP.out, HD.out, playR_yes g x _ hcan]
            have e : dropG g x = dropF g x.toNat := by unfold dropG; rw [if_pos hcan]
            rw [e]; unfold addR; simp only [Prod.mk.injEq, true_and, and_true]; omega)
          have HI := hid (show PosIn (dropG g x) by
            obtain ⟨h0, _, _, _⟩ := pCan_zero g x hcan
            obtain ⟨X, rfl⟩ := Int.eq_ofNat_of_zero_le h0
            unfold dropG; rw [if_pos hcan, Int.toNat_natCast]; exact HG.out.drop hcan)
          rw [hcan]
          clear hcan
          generalize dropG g x = g2 at *
          obtain ⟨t9, hk9⟩ := q9
          go_wp2_with (first | (refine wpList_load_row rfl 52 _ rfl _ rfl _ _ _ _ hk9 Try.underlying52 rfl (info_pos _) ?_) | (refine wpList_store_blk rfl _ _ rfl w5.heap.size g g2 k9 (by rfl) (by rfl) ?_; intro w10 hz10 k10 ho10 hb10; have r10 := ho10 _ _ (by omega) r9; have hB10 := hb10 w hB9 (by omega)))
          refine Ha.out _ _ ?_
          go_wp2
          go_roundw
          case rel => exact ⟨k + 1, g2, by omega, by go_num, HI, HE, hB10, by omega, r10, k10⟩
          case measure => simp [intOf]; omega
        · have HE := hid (show playR fz l = (g, (k : Int), pCan g x) by
            rw [HP.out, HD.out, playR_no g x _ hcan]; unfold addR; simp)
          have hne : (pCan g x != 0) = true := by simp [hcan]
          clear hcan
          generalize pCan g x = e at *
          have k9' := k9
          obtain ⟨t9, hk9⟩ := k9'
          go_wp2_with (first | (refine wpList_load_row rfl 52 _ rfl _ rfl _ _ _ _ hk9 Try.underlying52 rfl (info_pos _) ?_) | (refine wpList_store_blk rfl _ _ rfl (w.heap.size + 1) (fun _ => 0) g r9 (by rfl) (by rfl) ?_; intro w10 hz10 r10 ho10 hb10; have hB10 := hb10 w hB9 (by omega)))
          have hl := load_pos _ r10
          rw [HE.out]
          refine bodyPost_ret (v := .tuple #[.agg (PV g), .int .i64 k, .int .i64 e]) (results_cell3 (ad := ⟨w.heap.size + 1, 0, none⟩) Try.results22 (by simp) (by simp) (by simp) hl) rfl ⟨rfl, ?_⟩
          exact hB10
    · obtain rfl : k = len := by omega
      have HE := hid (show playR fz l = (g, (k : Int), 0) by
        rw [HP.out, List.drop_of_length_le (by rw [HS.out.1]; omega)]; unfold addR playR; simp)
      have k9 := k7
      obtain ⟨t9, hk9⟩ := k9
      go_wp2_with (first | (refine wpList_load_row rfl 52 _ rfl _ rfl _ _ _ _ hk9 Try.underlying52 rfl (info_pos _) ?_) | (refine wpList_store_blk rfl _ _ rfl (w.heap.size + 1) (fun _ => 0) g r7 (by rfl) (by rfl) ?_; intro w10 hz10 r10 ho10 hb10; have hB10 := hb10 w hB (by omega)))
      have hl := load_pos _ r10
      rw [HE.out]
      refine bodyPost_ret (v := .tuple #[.agg (PV g), .int .i64 k, .int .i64 0]) (results_cell3 (ad := ⟨w.heap.size + 1, 0, none⟩) Try.results22 (by simp) (by simp) (by simp) hl) rfl ⟨rfl, ?_⟩
      exact hB10
end Go.Proofs.Ytgiggomcpifjmaa
