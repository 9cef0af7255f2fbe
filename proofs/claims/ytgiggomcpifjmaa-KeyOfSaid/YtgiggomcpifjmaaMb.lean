/- Plain laws: how many bits a number of 64 bits has, reckoned in halves, quarters, bytes. -/
import Derived.Test.YtgiggomcpifjmaaMa
import Derived.Laws.Bits128
import Derived.RowKit
set_option linter.unusedVariables false
namespace Plm
open Go

theorem land_step (q r M m : Nat) (hr : r < 256) (hm : m < 256) : (256 * q + r) &&& (256 * M + m) = 256 * (q &&& M) + (r &&& m) := by
  have h1 := Nat.div_add_mod ((256 * q + r) &&& (256 * M + m)) 256
  have h2 : ((256 * q + r) &&& (256 * M + m)) / 256 = q &&& M := by
    have := Nat.and_div_two_pow (a := 256 * q + r) (b := 256 * M + m) (n := 8)
    rw [show (2 : Nat) ^ 8 = 256 from rfl] at this
    rw [this]; congr 1 <;> omega
  have h3 : ((256 * q + r) &&& (256 * M + m)) % 256 = r &&& m := by
    have := Nat.and_mod_two_pow (a := 256 * q + r) (b := 256 * M + m) (n := 8)
    rw [show (2 : Nat) ^ 8 = 256 from rfl] at this
    rw [this]; congr 1 <;> omega
  rw [h2, h3] at h1; omega

/-- Eight bytes, the lowest first. -/
def by8 (a b c d e f g h : Nat) : Nat := 256 * (256 * (256 * (256 * (256 * (256 * (256 * h + g) + f) + e) + d) + c) + b) + a

theorem land_by8 (m a b c d e f g h : Nat) (hm : m < 256) (ha : a < 256) (hb : b < 256) (hc : c < 256) (hd : d < 256) (he : e < 256) (hf : f < 256) (hg : g < 256) :
    by8 a b c d e f g h &&& by8 m m m m m m m m = by8 (a &&& m) (b &&& m) (c &&& m) (d &&& m) (e &&& m) (f &&& m) (g &&& m) (h &&& m) := by
  unfold by8
  rw [land_step _ a _ m ha hm, land_step _ b _ m hb hm, land_step _ c _ m hc hm, land_step _ d _ m hd hm, land_step _ e _ m he hm, land_step _ f _ m hf hm, land_step _ g _ m hg hm]

/-- Of a byte: each pair of bits holds how many it has; then each four. -/
def y1b (r : Nat) : Nat := (r / 2 &&& 85) + (r &&& 85)
def y2b (r : Nat) : Nat := (r / 4 &&& 51) + (r &&& 51)
def pop8 (r : Nat) : Nat := ((List.range 8).filter fun i => r.testBit i).length
theorem byte_facts : ∀ r, r < 256 → y1b r < 256 ∧ y2b (y1b r) / 16 ≤ 4 ∧ y2b (y1b r) % 16 ≤ 4 ∧ y2b (y1b r) / 16 + y2b (y1b r) % 16 = pop8 r := by decide +kernel
theorem half_and : ∀ r, r < 128 → (r + 128 &&& 85) = (r &&& 85) := by decide +kernel
theorem quarter_and : ∀ r, r < 64 → (r + 64 &&& 51) = (r &&& 51) ∧ (r + 128 &&& 51) = (r &&& 51) ∧ (r + 192 &&& 51) = (r &&& 51) := by decide +kernel
theorem half_and' (r n : Nat) (h : r < 256) : (r / 2 + 128 * (n % 2)) &&& 85 = r / 2 &&& 85 := by
  have : n % 2 = 0 ∨ n % 2 = 1 := by omega
  rcases this with e | e <;> rw [e]
  · rfl
  · exact half_and (r / 2) (by omega)
theorem quarter_and' (r n : Nat) (h : r < 256) : (r / 4 + 64 * (n % 4)) &&& 51 = r / 4 &&& 51 := by
  have q := quarter_and (r / 4) (by omega)
  have : n % 4 = 0 ∨ n % 4 = 1 ∨ n % 4 = 2 ∨ n % 4 = 3 := by omega
  rcases this with e | e | e | e <;> rw [e]
  · rfl
  · exact q.1
  · exact q.2.1
  · exact q.2.2

theorem step1 (a b c d e f g h : Nat) (ha : a < 256) (hb : b < 256) (hc : c < 256) (hd : d < 256) (he : e < 256) (hf : f < 256) (hg : g < 256) (hh : h < 256) :
    (by8 a b c d e f g h / 2 &&& 6148914691236517205) + (by8 a b c d e f g h &&& 6148914691236517205) = by8 (y1b a) (y1b b) (y1b c) (y1b d) (y1b e) (y1b f) (y1b g) (y1b h) := by
  have e1 : by8 a b c d e f g h / 2 = by8 (a / 2 + 128 * (b % 2)) (b / 2 + 128 * (c % 2)) (c / 2 + 128 * (d % 2)) (d / 2 + 128 * (e % 2)) (e / 2 + 128 * (f % 2)) (f / 2 + 128 * (g % 2)) (g / 2 + 128 * (h % 2)) (h / 2) := by
    unfold by8; omega
  have e2 : 6148914691236517205 = by8 85 85 85 85 85 85 85 85 := rfl
  rw [e1, e2, land_by8 85 _ _ _ _ _ _ _ _ (by omega) (by omega) (by omega) (by omega) (by omega) (by omega) (by omega) (by omega), land_by8 85 _ _ _ _ _ _ _ _ (by omega) ha hb hc hd he hf hg,
    half_and' a b ha, half_and' b c hb, half_and' c d hc, half_and' d e hd, half_and' e f he, half_and' f g hf, half_and' g h hg]
  unfold by8 y1b; omega
theorem step2 (a b c d e f g h : Nat) (ha : a < 256) (hb : b < 256) (hc : c < 256) (hd : d < 256) (he : e < 256) (hf : f < 256) (hg : g < 256) (hh : h < 256) :
    (by8 a b c d e f g h / 4 &&& 3689348814741910323) + (by8 a b c d e f g h &&& 3689348814741910323) = by8 (y2b a) (y2b b) (y2b c) (y2b d) (y2b e) (y2b f) (y2b g) (y2b h) := by
  have e1 : by8 a b c d e f g h / 4 = by8 (a / 4 + 64 * (b % 4)) (b / 4 + 64 * (c % 4)) (c / 4 + 64 * (d % 4)) (d / 4 + 64 * (e % 4)) (e / 4 + 64 * (f % 4)) (f / 4 + 64 * (g % 4)) (g / 4 + 64 * (h % 4)) (h / 4) := by
    unfold by8; omega
  have e2 : 3689348814741910323 = by8 51 51 51 51 51 51 51 51 := rfl
  rw [e1, e2, land_by8 51 _ _ _ _ _ _ _ _ (by omega) (by omega) (by omega) (by omega) (by omega) (by omega) (by omega) (by omega), land_by8 51 _ _ _ _ _ _ _ _ (by omega) ha hb hc hd he hf hg,
    quarter_and' a b ha, quarter_and' b c hb, quarter_and' c d hc, quarter_and' d e hd, quarter_and' e f he, quarter_and' f g hf, quarter_and' g h hg]
  unfold by8 y2b; omega
theorem low_and (r : Nat) : r &&& 15 = r % 16 := Nat.and_two_pow_sub_one_eq_mod r 4
theorem step3 (a b c d e f g h A B C D E F G H : Nat) (ha : a ≤ 4) (hb : b ≤ 4) (hc : c ≤ 4) (hd : d ≤ 4) (he : e ≤ 4) (hf : f ≤ 4) (hg : g ≤ 4) (hh : h ≤ 4)
    (hA : A ≤ 4) (hB : B ≤ 4) (hC : C ≤ 4) (hD : D ≤ 4) (hE : E ≤ 4) (hF : F ≤ 4) (hG : G ≤ 4) (hH : H ≤ 4) :
    (by8 (16 * A + a) (16 * B + b) (16 * C + c) (16 * D + d) (16 * E + e) (16 * F + f) (16 * G + g) (16 * H + h) / 16 + by8 (16 * A + a) (16 * B + b) (16 * C + c) (16 * D + d) (16 * E + e) (16 * F + f) (16 * G + g) (16 * H + h)) &&& 1085102592571150095
      = by8 (a + A) (b + B) (c + C) (d + D) (e + E) (f + F) (g + G) (h + H) := by
  have e1 : by8 (16 * A + a) (16 * B + b) (16 * C + c) (16 * D + d) (16 * E + e) (16 * F + f) (16 * G + g) (16 * H + h) / 16 = by8 (A + 16 * b) (B + 16 * c) (C + 16 * d) (D + 16 * e) (E + 16 * f) (F + 16 * g) (G + 16 * h) H := by
    unfold by8; omega
  have e3 : by8 (A + 16 * b) (B + 16 * c) (C + 16 * d) (D + 16 * e) (E + 16 * f) (F + 16 * g) (G + 16 * h) H + by8 (16 * A + a) (16 * B + b) (16 * C + c) (16 * D + d) (16 * E + e) (16 * F + f) (16 * G + g) (16 * H + h)
      = by8 (16 * (A + b) + (a + A)) (16 * (B + c) + (b + B)) (16 * (C + d) + (c + C)) (16 * (D + e) + (d + D)) (16 * (E + f) + (e + E)) (16 * (F + g) + (f + F)) (16 * (G + h) + (g + G)) (16 * H + (h + H)) := by
    unfold by8; omega
  have e2 : 1085102592571150095 = by8 15 15 15 15 15 15 15 15 := rfl
  rw [e1, e3, e2, land_by8 15 _ _ _ _ _ _ _ _ (by omega) (by omega) (by omega) (by omega) (by omega) (by omega) (by omega) (by omega)]
  simp only [low_and]
  have k : ∀ x y : Nat, y < 16 → (16 * x + y) % 16 = y := fun x y h => by omega
  rw [k _ _ (by omega), k _ _ (by omega), k _ _ (by omega), k _ _ (by omega), k _ _ (by omega), k _ _ (by omega), k _ _ (by omega), k _ _ (by omega)]
theorem step4 (a b c d e f g h : Nat) (ha : a ≤ 8) (hb : b ≤ 8) (hc : c ≤ 8) (hd : d ≤ 8) (he : e ≤ 8) (hf : f ≤ 8) (hg : g ≤ 8) (hh : h ≤ 8) :
    by8 a b c d e f g h + by8 a b c d e f g h / 256 = by8 (a + b) (b + c) (c + d) (d + e) (e + f) (f + g) (g + h) h := by
  unfold by8; omega
theorem step5 (a b c d e f g h : Nat) (ha : a ≤ 16) (hb : b ≤ 16) (hc : c ≤ 16) (hd : d ≤ 16) (he : e ≤ 16) (hf : f ≤ 16) (hg : g ≤ 16) (hh : h ≤ 16) :
    by8 a b c d e f g h + by8 a b c d e f g h / 65536 = by8 (a + c) (b + d) (c + e) (d + f) (e + g) (f + h) g h := by
  unfold by8; omega
theorem step6 (a b c d e f g h : Nat) (ha : a ≤ 32) (hb : b ≤ 32) (hc : c ≤ 32) (hd : d ≤ 32) (he : e ≤ 32) (hf : f ≤ 32) (hg : g ≤ 32) (hh : h ≤ 32) :
    by8 a b c d e f g h + by8 a b c d e f g h / 4294967296 = by8 (a + e) (b + f) (c + g) (d + h) e f g h := by
  unfold by8; omega
theorem by8_lt (a b c d e f g h : Nat) (ha : a < 256) (hb : b < 256) (hc : c < 256) (hd : d < 256) (he : e < 256) (hf : f < 256) (hg : g < 256) (hh : h < 256) :
    by8 a b c d e f g h < 18446744073709551616 := by unfold by8; omega

/-! ### The steps as words of 64 bits -/
def pc1 (x : BitVec 64) : BitVec 64 := ((x >>> 1) &&& 6148914691236517205#64) + (x &&& 6148914691236517205#64)
def pc2 (x : BitVec 64) : BitVec 64 := ((x >>> 2) &&& 3689348814741910323#64) + (x &&& 3689348814741910323#64)
def pc3 (x : BitVec 64) : BitVec 64 := ((x >>> 4) + x) &&& 1085102592571150095#64
def pc4 (x : BitVec 64) : BitVec 64 := x + x >>> 8
def pc5 (x : BitVec 64) : BitVec 64 := x + x >>> 16
def pc6 (x : BitVec 64) : BitVec 64 := x + x >>> 32
theorem ui_add (x y : BitVec 64) : IntKind.u64.wrap (ui x + ui y) = ui (x + y) := by
  rw [IntKind.wrap_u64]; unfold ui; rw [BitVec.toNat_add]; omega
theorem ui_div2 (x : BitVec 64) : (ui x) / (2 : Int) = ui (x >>> (1 : Nat)) := ui_shr x 1
theorem ui_div4 (x : BitVec 64) : (ui x) / (4 : Int) = ui (x >>> (2 : Nat)) := ui_shr x 2
theorem ui_div16 (x : BitVec 64) : (ui x) / (16 : Int) = ui (x >>> (4 : Nat)) := ui_shr x 4
theorem ui_div256 (x : BitVec 64) : (ui x) / (256 : Int) = ui (x >>> (8 : Nat)) := ui_shr x 8
theorem ui_div65536 (x : BitVec 64) : (ui x) / (65536 : Int) = ui (x >>> (16 : Nat)) := ui_shr x 16
theorem ui_div32 (x : BitVec 64) : (ui x) / (4294967296 : Int) = ui (x >>> (32 : Nat)) := ui_shr x 32
theorem pcw1 (x : BitVec 64) : IntKind.u64.wrap (bits .and .u64 (ui x / 2) 6148914691236517205 + bits .and .u64 (ui x) 6148914691236517205) = ui (pc1 x) := by
  rw [show (6148914691236517205 : Int) = ui 6148914691236517205#64 from rfl, ui_div2, bits_and, bits_and, ui_add]; rfl
theorem pcw2 (x : BitVec 64) : IntKind.u64.wrap (bits .and .u64 (ui x / 4) 3689348814741910323 + bits .and .u64 (ui x) 3689348814741910323) = ui (pc2 x) := by
  rw [show (3689348814741910323 : Int) = ui 3689348814741910323#64 from rfl, ui_div4, bits_and, bits_and, ui_add]; rfl
theorem pcw3 (x : BitVec 64) : bits .and .u64 (IntKind.u64.wrap (ui x / 16 + ui x)) 1085102592571150095 = ui (pc3 x) := by
  rw [show (1085102592571150095 : Int) = ui 1085102592571150095#64 from rfl, ui_div16, ui_add, bits_and]; rfl
theorem pcw4 (x : BitVec 64) : IntKind.u64.wrap (ui x + ui x / 256) = ui (pc4 x) := by rw [ui_div256, ui_add]; rfl
theorem pcw5 (x : BitVec 64) : IntKind.u64.wrap (ui x + ui x / 65536) = ui (pc5 x) := by rw [ui_div65536, ui_add]; rfl
theorem pcw6 (x : BitVec 64) : IntKind.u64.wrap (ui x + ui x / 4294967296) = ui (pc6 x) := by rw [ui_div32, ui_add]; rfl
def pc (x : BitVec 64) : BitVec 64 := pc6 (pc5 (pc4 (pc3 (pc2 (pc1 x)))))

/-- How many bits. -/
def pop (x : BitVec 64) : Nat := ((List.range 64).filter fun i => x.getLsbD i).length

theorem filter_len_map {α β : Type} (p : β → Bool) (f : α → β) (l : List α) : ((l.map f).filter p).length = (l.filter fun a => p (f a)).length := by
  rw [List.filter_map, List.length_map]; rfl
theorem pop_eight (p : Nat → Bool) : ((List.range 64).filter p).length =
    ((List.range 8).filter fun i => p i).length + (((List.range 8).filter fun i => p (8 + i)).length + (((List.range 8).filter fun i => p (16 + i)).length + (((List.range 8).filter fun i => p (24 + i)).length +
    (((List.range 8).filter fun i => p (32 + i)).length + (((List.range 8).filter fun i => p (40 + i)).length + (((List.range 8).filter fun i => p (48 + i)).length + ((List.range 8).filter fun i => p (56 + i)).length)))))) := by
  rw [show List.range 64 = List.range 8 ++ ((List.range 8).map (8 + ·) ++ ((List.range 8).map (16 + ·) ++ ((List.range 8).map (24 + ·) ++ ((List.range 8).map (32 + ·) ++ ((List.range 8).map (40 + ·) ++ ((List.range 8).map (48 + ·) ++ (List.range 8).map (56 + ·))))))) from by decide]
  simp only [List.filter_append, List.length_append, filter_len_map]
theorem pop_byte (n k r : Nat) (h : r = n / 2 ^ k % 256) : ((List.range 8).filter fun i => n.testBit (k + i)).length = pop8 r := by
  unfold pop8; congr 1; apply List.filter_congr; intro i hi
  rw [h, show (256 : Nat) = 2 ^ 8 from rfl, Nat.testBit_mod_two_pow, Nat.testBit_div_two_pow]
  simp only [List.mem_range] at hi; simp [hi, Nat.add_comm]

theorem pc_pop (x : BitVec 64) : (pc x).toNat % 128 = pop x ∧ pop x ≤ 64 := by
  have hp : pop x ≤ 64 := by unfold pop; exact Nat.le_trans (List.length_filter_le _ _) (by simp)
  refine ⟨?_, hp⟩
  have hx := x.isLt
  obtain ⟨n, hn⟩ : ∃ n, x.toNat = n := ⟨_, rfl⟩
  rw [hn] at hx
  have hpop : pop x = pop8 (n % 256) + (pop8 (n / 256 % 256) + (pop8 (n / 65536 % 256) + (pop8 (n / 16777216 % 256) + (pop8 (n / 4294967296 % 256) + (pop8 (n / 1099511627776 % 256) + (pop8 (n / 281474976710656 % 256) + pop8 (n / 72057594037927936 % 256))))))) := by
    unfold pop
    rw [pop_eight]
    have g : ∀ i, x.getLsbD i = n.testBit i := fun i => by rw [← hn]; rfl
    simp only [g]
    have z := pop_byte n 0 (n % 256) (by omega)
    simp only [Nat.zero_add] at z
    rw [z, pop_byte n 8 _ rfl, pop_byte n 16 _ rfl, pop_byte n 24 _ rfl, pop_byte n 32 _ rfl, pop_byte n 40 _ rfl, pop_byte n 48 _ rfl, pop_byte n 56 _ rfl]
  have hb : n = by8 (n % 256) (n / 256 % 256) (n / 65536 % 256) (n / 16777216 % 256) (n / 4294967296 % 256) (n / 1099511627776 % 256) (n / 281474976710656 % 256) (n / 72057594037927936 % 256) := by unfold by8; omega
  have la := Nat.mod_lt n (show 256 > 0 by omega)
  have lb := Nat.mod_lt (n / 256) (show 256 > 0 by omega)
  have lc := Nat.mod_lt (n / 65536) (show 256 > 0 by omega)
  have ld := Nat.mod_lt (n / 16777216) (show 256 > 0 by omega)
  have le := Nat.mod_lt (n / 4294967296) (show 256 > 0 by omega)
  have lf := Nat.mod_lt (n / 1099511627776) (show 256 > 0 by omega)
  have lg := Nat.mod_lt (n / 281474976710656) (show 256 > 0 by omega)
  have lh := Nat.mod_lt (n / 72057594037927936) (show 256 > 0 by omega)
  rw [hpop]; clear hpop hp
  generalize n % 256 = a at *
  generalize n / 256 % 256 = b at *
  generalize n / 65536 % 256 = c at *
  generalize n / 16777216 % 256 = d at *
  generalize n / 4294967296 % 256 = e at *
  generalize n / 1099511627776 % 256 = f at *
  generalize n / 281474976710656 % 256 = g at *
  generalize n / 72057594037927936 % 256 = h at *
  have fa := byte_facts a la
  have fb := byte_facts b lb
  have fc := byte_facts c lc
  have fd := byte_facts d ld
  have fe := byte_facts e le
  have ff := byte_facts f lf
  have fg := byte_facts g lg
  have fh := byte_facts h lh
  have s1 : (pc1 x).toNat = by8 (y1b a) (y1b b) (y1b c) (y1b d) (y1b e) (y1b f) (y1b g) (y1b h) := by
    have s := step1 a b c d e f g h la lb lc ld le lf lg lh
    rw [← hb] at s
    have l := by8_lt (y1b a) (y1b b) (y1b c) (y1b d) (y1b e) (y1b f) (y1b g) (y1b h) fa.1 fb.1 fc.1 fd.1 fe.1 ff.1 fg.1 fh.1
    unfold pc1
    rw [BitVec.toNat_add, BitVec.toNat_and, BitVec.toNat_and, BitVec.toNat_ushiftRight, hn, Nat.shiftRight_eq_div_pow]
    show ((n / 2 &&& 6148914691236517205) + (n &&& 6148914691236517205)) % 18446744073709551616 = _
    rw [s]; exact Nat.mod_eq_of_lt l
  have s2 : (pc2 (pc1 x)).toNat = by8 (y2b (y1b a)) (y2b (y1b b)) (y2b (y1b c)) (y2b (y1b d)) (y2b (y1b e)) (y2b (y1b f)) (y2b (y1b g)) (y2b (y1b h)) := by
    have s := step2 _ _ _ _ _ _ _ _ fa.1 fb.1 fc.1 fd.1 fe.1 ff.1 fg.1 fh.1
    have l := by8_lt (y2b (y1b a)) (y2b (y1b b)) (y2b (y1b c)) (y2b (y1b d)) (y2b (y1b e)) (y2b (y1b f)) (y2b (y1b g)) (y2b (y1b h)) (by omega) (by omega) (by omega) (by omega) (by omega) (by omega) (by omega) (by omega)
    unfold pc2
    rw [BitVec.toNat_add, BitVec.toNat_and, BitVec.toNat_and, BitVec.toNat_ushiftRight, s1, Nat.shiftRight_eq_div_pow]
    show (((by8 _ _ _ _ _ _ _ _) / 4 &&& 3689348814741910323) + ((by8 _ _ _ _ _ _ _ _) &&& 3689348814741910323)) % 18446744073709551616 = _
    rw [s]; exact Nat.mod_eq_of_lt l
  rw [← fa.2.2.2, ← fb.2.2.2, ← fc.2.2.2, ← fd.2.2.2, ← fe.2.2.2, ← ff.2.2.2, ← fg.2.2.2, ← fh.2.2.2]
  replace fa := fa.2; replace fb := fb.2; replace fc := fc.2; replace fd := fd.2; replace fe := fe.2; replace ff := ff.2; replace fg := fg.2; replace fh := fh.2
  clear s1 hb
  generalize y2b (y1b a) = a' at *
  generalize y2b (y1b b) = b' at *
  generalize y2b (y1b c) = c' at *
  generalize y2b (y1b d) = d' at *
  generalize y2b (y1b e) = e' at *
  generalize y2b (y1b f) = f' at *
  generalize y2b (y1b g) = g' at *
  generalize y2b (y1b h) = h' at *
  clear la lb lc ld le lf lg lh hx hn
  unfold pc
  generalize pc2 (pc1 x) = x2 at s2 ⊢
  have s3 : (pc3 x2).toNat = by8 (a' % 16 + a' / 16) (b' % 16 + b' / 16) (c' % 16 + c' / 16) (d' % 16 + d' / 16) (e' % 16 + e' / 16) (f' % 16 + f' / 16) (g' % 16 + g' / 16) (h' % 16 + h' / 16) := by
    have s := step3 (a' % 16) (b' % 16) (c' % 16) (d' % 16) (e' % 16) (f' % 16) (g' % 16) (h' % 16) (a' / 16) (b' / 16) (c' / 16) (d' / 16) (e' / 16) (f' / 16) (g' / 16) (h' / 16)
      fa.2.1 fb.2.1 fc.2.1 fd.2.1 fe.2.1 ff.2.1 fg.2.1 fh.2.1 fa.1 fb.1 fc.1 fd.1 fe.1 ff.1 fg.1 fh.1
    simp only [Nat.div_add_mod] at s
    have l := by8_lt a' b' c' d' e' f' g' h' (by omega) (by omega) (by omega) (by omega) (by omega) (by omega) (by omega) (by omega)
    have l2 : by8 a' b' c' d' e' f' g' h' / 16 + by8 a' b' c' d' e' f' g' h' < 18446744073709551616 := by
      have : h' < 72 := by omega
      unfold by8; omega
    unfold pc3
    rw [BitVec.toNat_and, BitVec.toNat_add, BitVec.toNat_ushiftRight, s2, Nat.shiftRight_eq_div_pow]
    show ((by8 a' b' c' d' e' f' g' h' / 16 + by8 a' b' c' d' e' f' g' h') % 18446744073709551616) &&& 1085102592571150095 = _
    rw [Nat.mod_eq_of_lt l2, s]
  have ha : a' % 16 + a' / 16 ≤ 8 := by omega
  have hb : b' % 16 + b' / 16 ≤ 8 := by omega
  have hc : c' % 16 + c' / 16 ≤ 8 := by omega
  have hd : d' % 16 + d' / 16 ≤ 8 := by omega
  have he : e' % 16 + e' / 16 ≤ 8 := by omega
  have hf : f' % 16 + f' / 16 ≤ 8 := by omega
  have hg : g' % 16 + g' / 16 ≤ 8 := by omega
  have hh : h' % 16 + h' / 16 ≤ 8 := by omega
  rw [Nat.add_comm (a' / 16), Nat.add_comm (b' / 16), Nat.add_comm (c' / 16), Nat.add_comm (d' / 16), Nat.add_comm (e' / 16), Nat.add_comm (f' / 16), Nat.add_comm (g' / 16), Nat.add_comm (h' / 16)]
  clear fa fb fc fd fe ff fg fh s2
  generalize a' % 16 + a' / 16 = A at *
  generalize b' % 16 + b' / 16 = B at *
  generalize c' % 16 + c' / 16 = C at *
  generalize d' % 16 + d' / 16 = D at *
  generalize e' % 16 + e' / 16 = E at *
  generalize f' % 16 + f' / 16 = F at *
  generalize g' % 16 + g' / 16 = G at *
  generalize h' % 16 + h' / 16 = H at *
  generalize pc3 x2 = x3 at s3 ⊢
  have s3' := s3
  have s4 : (pc4 x3).toNat = by8 (A + B) (B + C) (C + D) (D + E) (E + F) (F + G) (G + H) H := by
    have s := step4 A B C D E F G H ha hb hc hd he hf hg hh
    have l := by8_lt (A + B) (B + C) (C + D) (D + E) (E + F) (F + G) (G + H) H (by omega) (by omega) (by omega) (by omega) (by omega) (by omega) (by omega) (by omega)
    unfold pc4
    rw [BitVec.toNat_add, BitVec.toNat_ushiftRight, s3', Nat.shiftRight_eq_div_pow]
    show (by8 A B C D E F G H + by8 A B C D E F G H / 256) % 18446744073709551616 = _
    rw [s]; exact Nat.mod_eq_of_lt l
  have s5 : (pc5 (pc4 x3)).toNat = by8 (A + B + (C + D)) (B + C + (D + E)) (C + D + (E + F)) (D + E + (F + G)) (E + F + (G + H)) (F + G + H) (G + H) H := by
    have s := step5 (A + B) (B + C) (C + D) (D + E) (E + F) (F + G) (G + H) H (by omega) (by omega) (by omega) (by omega) (by omega) (by omega) (by omega) (by omega)
    have l := by8_lt (A + B + (C + D)) (B + C + (D + E)) (C + D + (E + F)) (D + E + (F + G)) (E + F + (G + H)) (F + G + H) (G + H) H (by omega) (by omega) (by omega) (by omega) (by omega) (by omega) (by omega) (by omega)
    unfold pc5
    rw [BitVec.toNat_add, BitVec.toNat_ushiftRight, s4, Nat.shiftRight_eq_div_pow]
    show (by8 (A + B) (B + C) (C + D) (D + E) (E + F) (F + G) (G + H) H + by8 (A + B) (B + C) (C + D) (D + E) (E + F) (F + G) (G + H) H / 65536) % 18446744073709551616 = _
    rw [s]; exact Nat.mod_eq_of_lt l
  have s6 : (pc6 (pc5 (pc4 x3))).toNat % 128 = A + B + (C + D) + (E + F + (G + H)) := by
    have s := step6 (A + B + (C + D)) (B + C + (D + E)) (C + D + (E + F)) (D + E + (F + G)) (E + F + (G + H)) (F + G + H) (G + H) H (by omega) (by omega) (by omega) (by omega) (by omega) (by omega) (by omega) (by omega)
    unfold pc6
    rw [BitVec.toNat_add, BitVec.toNat_ushiftRight, s5, Nat.shiftRight_eq_div_pow]
    show ((by8 (A + B + (C + D)) (B + C + (D + E)) (C + D + (E + F)) (D + E + (F + G)) (E + F + (G + H)) (F + G + H) (G + H) H + by8 (A + B + (C + D)) (B + C + (D + E)) (C + D + (E + F)) (D + E + (F + G)) (E + F + (G + H)) (F + G + H) (G + H) H / 4294967296) % 18446744073709551616) % 128 = _
    rw [s]; unfold by8; omega
  rw [s6]; omega
/-- How many bits a word has. -/
def cnt (x : W) : Nat := ((List.range 128).filter fun i => bit x i).length
theorem cnt_pop (x : W) : cnt x = pop (hb x) + pop (lb x) := by
  unfold cnt pop
  rw [show List.range 128 = List.range 64 ++ (List.range 64).map (64 + ·) from by decide, List.filter_append, List.length_append, filter_len_map, Nat.add_comm]
  congr 2
  · apply List.filter_congr; intro i hi
    rw [bit_hb]; simp only [List.mem_range] at hi; simp [hi]
  · apply List.filter_congr; intro i hi
    rw [bit_lb]; simp only [List.mem_range] at hi; simp [hi]
theorem cnt_le (x : W) : cnt x ≤ 128 := Nat.le_trans (List.length_filter_le _ _) (by simp)
/-- A word with one bit; with bits at places. -/
def wof (p : Int) : W := if 0 ≤ p ∧ p < 128 then ⟨1#128 <<< p.toNat⟩ else wz
def wofs : List Int → W := fun l => l.foldl (fun x p => wor x (wof p)) wz
theorem wofs_nil : wofs [] = wz := rfl
theorem wofs_snoc (l : List Int) (p : Int) : wofs (l ++ [p]) = wor (wofs l) (wof p) := by unfold wofs; rw [List.foldl_append]; rfl
theorem one_shl {n : Nat} (k i : Nat) (hi : i < n) (hk : k < n) : (1#n <<< k).getLsbD i = decide (i = k) := by
  rw [BitVec.getLsbD_shiftLeft, BitVec.getLsbD_one]
  by_cases c : i = k
  · subst c; simp [hi]; omega
  · by_cases d : i < k
    · simp [c, d]
    · simp [c, d, show i - k ≠ 0 from by omega]
theorem bit_wof (p : Int) (i : Nat) : bit (wof p) i = (decide (0 ≤ p) && decide (i < 128) && decide ((i : Int) = p)) := by
  by_cases c : i < 128
  · unfold wof; split
    · unfold bit; rw [one_shl _ _ c (by omega)]
      rw [Bool.eq_iff_iff]; simp; omega
    · rw [bit_wz]; rw [Bool.eq_iff_iff]; simp; omega
  · rw [bit_ge _ _ (by omega)]; simp [c]
theorem wor_wz (x : W) : wor x wz = x := by apply ext; intro i hi; rw [bit_wor, bit_wz]; simp
theorem wof_out (p : Int) (h : p < 0 ∨ 128 ≤ p) : wof p = wz := by unfold wof; rw [if_neg (by omega)]
theorem ui_pow (k : Nat) : IntKind.u64.wrap (2 ^ k) = ui (1#64 <<< k) := by
  rw [← ui_shl, show ui 1#64 = 1 from rfl, Int.one_mul]
theorem of_lo (x : W) (p : Int) (h : 0 ≤ p) (h' : p < 64) : bits .or .u64 (lo x) (IntKind.u64.wrap (2 ^ p.toNat)) = lo (wor x (wof p)) := by
  unfold lo; rw [ui_pow, bits_or, lb_wor]; congr 2
  apply eq_of_bits; intro i hi
  rw [bit_lb, bit_wof, one_shl _ _ hi (by omega), Bool.eq_iff_iff]; simp; omega
theorem of_lo_hi (x : W) (p : Int) (h : p < 64) : hi (wor x (wof p)) = hi x := by
  unfold hi; rw [hb_wor]; congr 1
  apply eq_of_bits; intro i hi
  rw [BitVec.getLsbD_or, bit_hb (wof p), bit_wof, show decide (((64 + i : Nat) : Int) = p) = false from by simp; omega]; simp
theorem of_hi (x : W) (p : Int) (h : 64 ≤ p) (h' : p < 128) : bits .or .u64 (hi x) (IntKind.u64.wrap (2 ^ (p - 64).toNat)) = hi (wor x (wof p)) := by
  unfold hi; rw [ui_pow, bits_or, hb_wor]; congr 2
  apply eq_of_bits; intro i hi
  rw [bit_hb, bit_wof, one_shl _ _ hi (by omega), Bool.eq_iff_iff]; simp; omega
theorem of_hi_lo (x : W) (p : Int) (h : 64 ≤ p) : lo (wor x (wof p)) = lo x := by
  unfold lo; rw [lb_wor]; congr 1
  apply eq_of_bits; intro i hi
  rw [BitVec.getLsbD_or, bit_lb (wof p), bit_wof, show decide ((i : Int) = p) = false from by simp; omega]; simp
/-- What the machine makes of it. -/
theorem pcw7 (x : BitVec 64) : bits .and .i64 (RowKit.wrap64 (ui (pc x))) 127 = (pop x : Int) := by
  have h := pc_pop x
  rw [i64_and127]
  unfold RowKit.wrap64 ui; omega
end Plm
