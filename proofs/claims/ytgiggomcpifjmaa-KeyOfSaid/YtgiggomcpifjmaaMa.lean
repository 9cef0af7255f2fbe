/- Plain laws on words of 128 bits: no Go, no program. A word is a BitVec 128; 'hi' and 'lo' are its halves as whole numbers. -/
import Derived.Laws.BitsLemmas
import Derived.Laws.Bits64
namespace Plm
open Go

/-- A number of 64 bits, as the machine's whole number. -/
def ui (x : BitVec 64) : Int := (x.toNat : Int)
theorem ui_nonneg (x : BitVec 64) : 0 ≤ ui x := Int.natCast_nonneg _
theorem ui_lt (x : BitVec 64) : ui x < 18446744073709551616 := by
  have := x.isLt; unfold ui; omega
theorem ui_inj {x y : BitVec 64} (h : ui x = ui y) : x = y := by
  unfold ui at h; exact BitVec.eq_of_toNat_eq (by omega)
theorem ui_ofInt {n : Int} (h0 : 0 ≤ n) (h1 : n < 18446744073709551616) : ui (BitVec.ofInt 64 n) = n := by
  unfold ui; rw [BitVec.toNat_ofInt]; omega
theorem ofInt_ui (x : BitVec 64) : BitVec.ofInt 64 (ui x) = x := by
  apply BitVec.eq_of_toNat_eq; rw [BitVec.toNat_ofInt]; have := x.isLt; unfold ui; omega

theorem wrap_ui (x : BitVec 64) : IntKind.u64.wrap (x.toNat : Int) = ui x := by
  rw [IntKind.wrap_u64]; have := x.isLt; unfold ui; omega
theorem bits_and (x y : BitVec 64) : bits .and .u64 (ui x) (ui y) = ui (x &&& y) := by
  simp only [bits, IntKind.bits]; rw [ofInt_ui, ofInt_ui]; exact wrap_ui _
theorem bits_or (x y : BitVec 64) : bits .or .u64 (ui x) (ui y) = ui (x ||| y) := by
  simp only [bits, IntKind.bits]; rw [ofInt_ui, ofInt_ui]; exact wrap_ui _
theorem bits_xor (x y : BitVec 64) : bits .xor .u64 (ui x) (ui y) = ui (x ^^^ y) := by
  simp only [bits, IntKind.bits]; rw [ofInt_ui, ofInt_ui]; exact wrap_ui _

/-- A word of 128 bits. -/
structure W where
  v : BitVec 128
theorem W.eq {x y : W} (h : x.v = y.v) : x = y := by cases x; cases y; cases h; rfl
instance : DecidableEq W := fun x y => if h : x.v = y.v then isTrue (W.eq h) else isFalse (fun e => h (by rw [e]))
def hb (x : W) : BitVec 64 := x.v.extractLsb' 64 64
def lb (x : W) : BitVec 64 := x.v.extractLsb' 0 64
def hi (x : W) : Int := ui (hb x)
def lo (x : W) : Int := ui (lb x)
def mk (h l : BitVec 64) : W := ⟨(h ++ l : BitVec (64 + 64))⟩
theorem hb_mk (h l : BitVec 64) : hb (mk h l) = h := by
  unfold hb mk; ext i hi; simp only [BitVec.getElem_extractLsb']; rw [BitVec.getLsbD_append]; simp [hi]
theorem lb_mk (h l : BitVec 64) : lb (mk h l) = l := by
  unfold lb mk; ext i hi; simp only [BitVec.getElem_extractLsb']; rw [BitVec.getLsbD_append]; simp [hi]
def bit (x : W) (i : Nat) : Bool := x.v.getLsbD i
theorem bit_hb (x : W) (i : Nat) : (hb x).getLsbD i = (decide (i < 64) && bit x (64 + i)) := by
  unfold hb bit; rw [BitVec.getLsbD_extractLsb']
theorem bit_lb (x : W) (i : Nat) : (lb x).getLsbD i = (decide (i < 64) && bit x i) := by
  unfold lb bit; rw [BitVec.getLsbD_extractLsb']; simp
theorem bit_mk (h l : BitVec 64) (i : Nat) : bit (mk h l) i = if i < 64 then l.getLsbD i else h.getLsbD (i - 64) := by
  unfold bit mk; rw [BitVec.getLsbD_append]
theorem bit_ge (x : W) (i : Nat) (h : 128 ≤ i) : bit x i = false := by unfold bit; exact BitVec.getLsbD_of_ge _ _ h
theorem ext (x y : W) (h : ∀ i, i < 128 → bit x i = bit y i) : x = y := W.eq (BitVec.eq_of_getLsbD_eq h)
theorem mk_eta (x : W) : mk (hb x) (lb x) = x := by
  apply ext; intro i hi
  rw [bit_mk]; split
  · rw [bit_lb]; simp [*]
  · rw [bit_hb]; rw [show 64 + (i - 64) = i from by omega]; simp; omega
theorem ext_hl (x y : W) (h1 : hi x = hi y) (h2 : lo x = lo y) : x = y := by
  rw [← mk_eta x, ← mk_eta y, ui_inj h1, ui_inj h2]
theorem hl_iff (x y : W) : x = y ↔ hi x = hi y ∧ lo x = lo y := ⟨fun h => by rw [h]; exact ⟨rfl, rfl⟩, fun h => ext_hl x y h.1 h.2⟩
theorem hi_mk (h l : BitVec 64) : hi (mk h l) = ui h := by unfold hi; rw [hb_mk]
theorem lo_mk (h l : BitVec 64) : lo (mk h l) = ui l := by unfold lo; rw [lb_mk]
/-- Any two halves are a word's. -/
theorem word_of {h l : Int} (h0 : 0 ≤ h) (h1 : h < 18446744073709551616) (l0 : 0 ≤ l) (l1 : l < 18446744073709551616) : ∃ x : W, h = hi x ∧ l = lo x :=
  ⟨mk (BitVec.ofInt 64 h) (BitVec.ofInt 64 l), by rw [hi_mk, ui_ofInt h0 h1], by rw [lo_mk, ui_ofInt l0 l1]⟩
theorem hi_nonneg (x : W) : 0 ≤ hi x := ui_nonneg _
theorem lo_nonneg (x : W) : 0 ≤ lo x := ui_nonneg _
theorem hi_lt (x : W) : hi x < 18446744073709551616 := ui_lt _
theorem lo_lt (x : W) : lo x < 18446744073709551616 := ui_lt _

def nat (x : W) : Nat := x.v.toNat
theorem nat_mk (h l : BitVec 64) : nat (mk h l) = h.toNat * 18446744073709551616 + l.toNat := by
  unfold nat mk; rw [BitVec.toNat_append]
  rw [Nat.shiftLeft_eq, Nat.mul_comm, ← Nat.two_pow_add_eq_or_of_lt l.isLt, Nat.mul_comm]
theorem nat_eq (x : W) : (nat x : Int) = hi x * 18446744073709551616 + lo x := by
  conv => lhs; rw [← mk_eta x]
  rw [nat_mk]; unfold hi lo ui; omega
theorem nat_lt (x : W) : nat x < 340282366920938463463374607431768211456 := x.v.isLt
theorem nat_inj {x y : W} (h : nat x = nat y) : x = y := W.eq (BitVec.eq_of_toNat_eq h)
theorem bit_nat (x : W) (i : Nat) : bit x i = (nat x).testBit i := rfl

/-! ### The words' operations -/
def wz : W := ⟨0#128⟩
def wand (x y : W) : W := ⟨x.v &&& y.v⟩
def wor (x y : W) : W := ⟨x.v ||| y.v⟩
def wxor (x y : W) : W := ⟨x.v ^^^ y.v⟩
def wnot (x : W) : W := ⟨~~~x.v⟩
def wup (x : W) (n : Int) : W := ⟨x.v <<< n.toNat⟩
def wdown (x : W) (n : Int) : W := ⟨x.v >>> n.toNat⟩
def wadd (x y : W) : W := ⟨x.v + y.v⟩
def wsub (x y : W) : W := ⟨x.v - y.v⟩
theorem bit_wz (i : Nat) : bit wz i = false := by unfold bit wz; simp
theorem bit_wand (x y : W) (i : Nat) : bit (wand x y) i = (bit x i && bit y i) := BitVec.getLsbD_and
theorem bit_wor (x y : W) (i : Nat) : bit (wor x y) i = (bit x i || bit y i) := BitVec.getLsbD_or
theorem bit_wxor (x y : W) (i : Nat) : bit (wxor x y) i = (bit x i ^^ bit y i) := BitVec.getLsbD_xor
theorem bit_wnot (x : W) (i : Nat) : bit (wnot x) i = (decide (i < 128) && !bit x i) := BitVec.getLsbD_not
theorem bit_wup (x : W) (n : Int) (i : Nat) : bit (wup x n) i = (decide (i < 128) && !decide (i < n.toNat) && bit x (i - n.toNat)) := BitVec.getLsbD_shiftLeft _ _
theorem bit_wdown (x : W) (n : Int) (i : Nat) : bit (wdown x n) i = bit x (n.toNat + i) := BitVec.getLsbD_ushiftRight _ _ _
theorem nat_wadd (x y : W) : nat (wadd x y) = (nat x + nat y) % 340282366920938463463374607431768211456 := BitVec.toNat_add _ _
theorem nat_wsub (x y : W) : nat (wsub x y) = (340282366920938463463374607431768211456 - nat y + nat x) % 340282366920938463463374607431768211456 := BitVec.toNat_sub _ _
theorem nat_wz : nat wz = 0 := rfl
theorem hi_wz : hi wz = 0 := by decide
theorem lo_wz : lo wz = 0 := by decide

theorem ui_bit (x : BitVec 64) (i : Nat) : x.getLsbD i = (ui x).toNat.testBit i := rfl
theorem eq_of_bits {x y : BitVec 64} (h : ∀ i, i < 64 → x.getLsbD i = y.getLsbD i) : x = y := BitVec.eq_of_getLsbD_eq h

theorem hb_wand (x y : W) : hb (wand x y) = hb x &&& hb y := by
  apply eq_of_bits; intro i hi; rw [bit_hb, BitVec.getLsbD_and, bit_hb, bit_hb, bit_wand]; simp [hi]
theorem lb_wand (x y : W) : lb (wand x y) = lb x &&& lb y := by
  apply eq_of_bits; intro i hi; rw [bit_lb, BitVec.getLsbD_and, bit_lb, bit_lb, bit_wand]; simp [hi]
theorem hb_wor (x y : W) : hb (wor x y) = hb x ||| hb y := by
  apply eq_of_bits; intro i hi; rw [bit_hb, BitVec.getLsbD_or, bit_hb, bit_hb, bit_wor]; simp [hi]
theorem lb_wor (x y : W) : lb (wor x y) = lb x ||| lb y := by
  apply eq_of_bits; intro i hi; rw [bit_lb, BitVec.getLsbD_or, bit_lb, bit_lb, bit_wor]; simp [hi]
theorem hb_wxor (x y : W) : hb (wxor x y) = hb x ^^^ hb y := by
  apply eq_of_bits; intro i hi; rw [bit_hb, BitVec.getLsbD_xor, bit_hb, bit_hb, bit_wxor]; simp [hi]
theorem lb_wxor (x y : W) : lb (wxor x y) = lb x ^^^ lb y := by
  apply eq_of_bits; intro i hi; rw [bit_lb, BitVec.getLsbD_xor, bit_lb, bit_lb, bit_wxor]; simp [hi]
theorem and_hi (x y : W) : bits .and .u64 (hi x) (hi y) = hi (wand x y) := by unfold hi; rw [bits_and, hb_wand]
theorem and_lo (x y : W) : bits .and .u64 (lo x) (lo y) = lo (wand x y) := by unfold lo; rw [bits_and, lb_wand]
theorem or_hi (x y : W) : bits .or .u64 (hi x) (hi y) = hi (wor x y) := by unfold hi; rw [bits_or, hb_wor]
theorem or_lo (x y : W) : bits .or .u64 (lo x) (lo y) = lo (wor x y) := by unfold lo; rw [bits_or, lb_wor]
theorem xor_hi (x y : W) : bits .xor .u64 (hi x) (hi y) = hi (wxor x y) := by unfold hi; rw [bits_xor, hb_wxor]
theorem xor_lo (x y : W) : bits .xor .u64 (lo x) (lo y) = lo (wxor x y) := by unfold lo; rw [bits_xor, lb_wxor]

/-- The sum's halves, as the machine reckons them. -/
theorem add_lo (x y : W) : (lo x + lo y) % 18446744073709551616 = lo (wadd x y) := by
  have h := nat_wadd x y
  have a := nat_eq x; have b := nat_eq y; have c := nat_eq (wadd x y)
  have := hi_nonneg x; have := hi_nonneg y; have := hi_nonneg (wadd x y); have := hi_lt x; have := hi_lt y; have := hi_lt (wadd x y)
  have := lo_nonneg x; have := lo_nonneg y; have := lo_nonneg (wadd x y); have := lo_lt x; have := lo_lt y; have := lo_lt (wadd x y)
  omega
theorem add_hi (x y : W) : (hi x + hi y + (lo x + lo y) / 18446744073709551616) % 18446744073709551616 = hi (wadd x y) := by
  have h := nat_wadd x y
  have a := nat_eq x; have b := nat_eq y; have c := nat_eq (wadd x y)
  have := hi_nonneg x; have := hi_nonneg y; have := hi_nonneg (wadd x y); have := hi_lt x; have := hi_lt y; have := hi_lt (wadd x y)
  have := lo_nonneg x; have := lo_nonneg y; have := lo_nonneg (wadd x y); have := lo_lt x; have := lo_lt y; have := lo_lt (wadd x y)
  omega
theorem sub_lo (x y : W) : (lo x + 18446744073709551616 - lo y) % 18446744073709551616 = lo (wsub x y) := by
  have h := nat_wsub x y
  have a := nat_eq x; have b := nat_eq y; have c := nat_eq (wsub x y)
  have := hi_nonneg x; have := hi_nonneg y; have := hi_nonneg (wsub x y); have := hi_lt x; have := hi_lt y; have := hi_lt (wsub x y)
  have := lo_nonneg x; have := lo_nonneg y; have := lo_nonneg (wsub x y); have := lo_lt x; have := lo_lt y; have := lo_lt (wsub x y)
  omega
theorem sub_hi (x y : W) : (hi x + 18446744073709551616 - hi y - (if lo x < lo y then 1 else 0)) % 18446744073709551616 = hi (wsub x y) := by
  have h := nat_wsub x y
  have a := nat_eq x; have b := nat_eq y; have c := nat_eq (wsub x y)
  have := hi_nonneg x; have := hi_nonneg y; have := hi_nonneg (wsub x y); have := hi_lt x; have := hi_lt y; have := hi_lt (wsub x y)
  have := lo_nonneg x; have := lo_nonneg y; have := lo_nonneg (wsub x y); have := lo_lt x; have := lo_lt y; have := lo_lt (wsub x y)
  split <;> omega

/-! ### Shifts -/
theorem ui_shl (x : BitVec 64) (k : Nat) : IntKind.u64.wrap (ui x * 2 ^ k) = ui (x <<< k) := by
  rw [IntKind.wrap_u64]; unfold ui
  rw [BitVec.toNat_shiftLeft, Nat.shiftLeft_eq]
  have : ((x.toNat : Int) * 2 ^ k) = ((x.toNat * 2 ^ k : Nat) : Int) := by rw [Int.natCast_mul, Int.natCast_pow]; rfl
  rw [this]; omega
theorem ui_shr (x : BitVec 64) (k : Nat) : ui x / 2 ^ k = ui (x >>> k) := by
  unfold ui
  rw [BitVec.toNat_ushiftRight, Nat.shiftRight_eq_div_pow, Int.natCast_ediv, Int.natCast_pow]; rfl
theorem ui_zero : ui 0#64 = 0 := rfl
theorem hb_wup_big (x : W) (n : Int) (h : 64 ≤ n) (h' : n ≤ 127) : hb (wup x n) = lb x <<< (n - 64).toNat := by
  apply eq_of_bits; intro i hi
  rw [bit_hb, bit_wup, BitVec.getLsbD_shiftLeft, bit_lb]
  by_cases c : i < (n - 64).toNat
  · simp [c, show 64 + i < n.toNat from by omega]
  · rw [show 64 + i - n.toNat = i - (n - 64).toNat from by omega]
    simp [c, hi, show ¬ 64 + i < n.toNat from by omega, show 64 + i < 128 from by omega, show i - (n - 64).toNat < 64 from by omega]
theorem lb_wup_big (x : W) (n : Int) (h : 64 ≤ n) : lb (wup x n) = 0#64 := by
  apply eq_of_bits; intro i hi
  rw [bit_lb, bit_wup]; simp [show i < n.toNat from by omega]
theorem wup_over (x : W) (n : Int) (h : 127 < n) : wup x n = wz := by
  apply ext; intro i hi
  rw [bit_wup, bit_wz]; simp [show i < n.toNat from by omega]
theorem wdown_over (x : W) (n : Int) (h : 127 < n) : wdown x n = wz := by
  apply ext; intro i hi
  rw [bit_wdown, bit_wz, bit_ge _ _ (by omega)]
theorem hb_wup (x : W) (n : Int) (h : 0 < n) (h' : n < 64) : hb (wup x n) = hb x <<< n.toNat ||| lb x >>> (64 - n).toNat := by
  apply eq_of_bits; intro i hi
  rw [bit_hb, bit_wup, BitVec.getLsbD_or, BitVec.getLsbD_shiftLeft, BitVec.getLsbD_ushiftRight, bit_lb, bit_hb]
  by_cases c : i < n.toNat
  · rw [show 64 + i - n.toNat = (64 - n).toNat + i from by omega]
    simp [c, hi, show ¬ 64 + i < n.toNat from by omega, show 64 + i < 128 from by omega, show (64 - n).toNat + i < 64 from by omega]
  · rw [show 64 + i - n.toNat = 64 + (i - n.toNat) from by omega]
    simp [c, hi, show ¬ 64 + i < n.toNat from by omega, show 64 + i < 128 from by omega, show ¬ (64 - n).toNat + i < 64 from by omega, show i - n.toNat < 64 from by omega]
theorem lb_wup (x : W) (n : Int) (h : n < 64) : lb (wup x n) = lb x <<< n.toNat := by
  apply eq_of_bits; intro i hi
  rw [bit_lb, bit_wup, BitVec.getLsbD_shiftLeft, bit_lb]
  simp [hi, show i < 128 from by omega, show i - n.toNat < 64 from by omega]
theorem lb_wdown_big (x : W) (n : Int) (h : 64 ≤ n) (h' : n ≤ 127) : lb (wdown x n) = hb x >>> (n - 64).toNat := by
  apply eq_of_bits; intro i hi
  rw [bit_lb, bit_wdown, BitVec.getLsbD_ushiftRight, bit_hb]
  rw [show 64 + ((n - 64).toNat + i) = n.toNat + i from by omega]
  by_cases c : (n - 64).toNat + i < 64
  · simp [c, hi]
  · simp [c, hi, bit_ge x (n.toNat + i) (by omega)]
theorem hb_wdown_big (x : W) (n : Int) (h : 64 ≤ n) : hb (wdown x n) = 0#64 := by
  apply eq_of_bits; intro i hi
  rw [bit_hb, bit_wdown, bit_ge _ _ (by omega)]; simp
theorem lb_wdown (x : W) (n : Int) (h : 0 < n) (h' : n < 64) : lb (wdown x n) = lb x >>> n.toNat ||| hb x <<< (64 - n).toNat := by
  apply eq_of_bits; intro i hi
  rw [bit_lb, bit_wdown, BitVec.getLsbD_or, BitVec.getLsbD_shiftLeft, BitVec.getLsbD_ushiftRight, bit_lb, bit_hb]
  by_cases c : n.toNat + i < 64
  · simp [c, hi, show i < (64 - n).toNat from by omega]
  · rw [show n.toNat + i = 64 + (i - (64 - n).toNat) from by omega]
    simp [hi, show ¬ i < (64 - n).toNat from by omega, show i - (64 - n).toNat < 64 from by omega]
theorem hb_wdown (x : W) (n : Int) : hb (wdown x n) = hb x >>> n.toNat := by
  apply eq_of_bits; intro i hi
  rw [bit_hb, bit_wdown, BitVec.getLsbD_ushiftRight, bit_hb]
  rw [show 64 + (n.toNat + i) = n.toNat + (64 + i) from by omega]
  by_cases c : n.toNat + i < 64
  · simp [c, hi]
  · simp [c, hi, bit_ge x (n.toNat + (64 + i)) (by omega)]
theorem wup_le (x : W) (n : Int) (h : n ≤ 0) : wup x n = x := by
  apply ext; intro i hi; rw [bit_wup]; rw [show n.toNat = 0 from by omega]; simp [hi]
theorem wdown_le (x : W) (n : Int) (h : n ≤ 0) : wdown x n = x := by
  apply ext; intro i hi; rw [bit_wdown]; rw [show n.toNat = 0 from by omega]; simp
theorem up_hi_big (x : W) (n : Int) (h : 64 ≤ n) (h' : n ≤ 127) : IntKind.u64.wrap (lo x * 2 ^ (n - 64).toNat) = hi (wup x n) := by
  unfold lo hi; rw [ui_shl, hb_wup_big x n h h']
theorem up_lo_big (x : W) (n : Int) (h : 64 ≤ n) : lo (wup x n) = 0 := by unfold lo; rw [lb_wup_big x n h, ui_zero]
theorem up_hi (x : W) (n : Int) (h : 0 < n) (h' : n < 64) : bits .or .u64 (IntKind.u64.wrap (hi x * 2 ^ n.toNat)) (lo x / 2 ^ (64 - n).toNat) = hi (wup x n) := by
  unfold lo hi; rw [ui_shl, ui_shr, bits_or, hb_wup x n h h']
theorem up_lo (x : W) (n : Int) (h : n < 64) : IntKind.u64.wrap (lo x * 2 ^ n.toNat) = lo (wup x n) := by
  unfold lo; rw [ui_shl, lb_wup x n h]
theorem down_lo_big (x : W) (n : Int) (h : 64 ≤ n) (h' : n ≤ 127) : hi x / 2 ^ (n - 64).toNat = lo (wdown x n) := by
  unfold lo hi; rw [ui_shr, lb_wdown_big x n h h']
theorem down_hi_big (x : W) (n : Int) (h : 64 ≤ n) : hi (wdown x n) = 0 := by unfold hi; rw [hb_wdown_big x n h, ui_zero]
theorem down_lo (x : W) (n : Int) (h : 0 < n) (h' : n < 64) : bits .or .u64 (lo x / 2 ^ n.toNat) (IntKind.u64.wrap (hi x * 2 ^ (64 - n).toNat)) = lo (wdown x n) := by
  unfold lo hi; rw [ui_shl, ui_shr, bits_or, lb_wdown x n h h']
theorem down_hi (x : W) (n : Int) : hi x / 2 ^ n.toNat = hi (wdown x n) := by
  unfold hi; rw [ui_shr, hb_wdown x n]
/-- Below, by the numbers. -/
def wless (x y : W) : Bool := decide (nat x < nat y)
theorem wless_hi (x y : W) (h : hi x ≠ hi y) : wless x y = decide (hi x < hi y) := by
  unfold wless; have a := nat_eq x; have b := nat_eq y
  have := lo_nonneg x; have := lo_nonneg y; have := lo_lt x; have := lo_lt y
  congr 1; apply propext; omega
theorem wless_lo (x y : W) (h : hi x = hi y) : wless x y = decide (lo x < lo y) := by
  unfold wless; have a := nat_eq x; have b := nat_eq y
  congr 1; apply propext; omega
theorem wz_cases (x : W) : (x = wz ∧ hi x = 0 ∧ lo x = 0) ∨ (x ≠ wz ∧ (hi x == 0) = false) ∨ (x ≠ wz ∧ hi x = 0 ∧ (lo x == 0) = false) := by
  by_cases h : x = wz
  · left; exact ⟨h, by rw [h]; exact hi_wz, by rw [h]; exact lo_wz⟩
  · right
    by_cases h1 : hi x = 0
    · right; refine ⟨h, h1, ?_⟩
      rw [beq_eq_false_iff_ne]; intro h2; exact h (ext_hl _ _ (by rw [h1, hi_wz]) (by rw [h2, lo_wz]))
    · left; exact ⟨h, by rw [beq_eq_false_iff_ne]; exact h1⟩
end Plm
