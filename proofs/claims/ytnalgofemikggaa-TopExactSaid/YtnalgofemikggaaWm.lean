/- Wide numbers as numbers modulo 2^128: plain arithmetic. -/
import Derived.RowKit
import Derived.IntWalk
import Derived.Laws.Bits
import Derived.Lib.Hide
import Derived.Laws.BitsAllLaws
namespace Go.Proofs.Ytnalgofemikggaa
open Go.RowKit
/-- The upper half of x modulo 2^128, as a number with a sign. -/
def hi (x : Int) : Int := wrap64 (x / 18446744073709551616)
/-- The lower half. -/
def lo (x : Int) : Int := x % 18446744073709551616
def I64 (n : Int) : Prop := -9223372036854775808 ≤ n ∧ n ≤ 9223372036854775807
def U64 (n : Int) : Prop := 0 ≤ n ∧ n ≤ 18446744073709551615
def W128 (x : Int) : Prop := -170141183460469231731687303715884105728 ≤ x ∧ x ≤ 170141183460469231731687303715884105727
def cy (b : Bool) : Int := if b then 1 else 0
theorem wu (n : Int) : IntKind.u64.wrap n = n % 18446744073709551616 := by simp [IntKind.wrap, IntKind.bits, IntKind.signed]
theorem hi_bd (x : Int) : I64 (hi x) := by unfold I64 hi wrap64; omega
theorem lo_bd (x : Int) : U64 (lo x) := by unfold U64 lo; omega
/-- Two halves are a number's. -/
theorem halves_of (a b : Int) (ha : I64 a) (hb : U64 b) : hi (a * 18446744073709551616 + b) = a ∧ lo (a * 18446744073709551616 + b) = b ∧ W128 (a * 18446744073709551616 + b) := by
  unfold I64 at ha; unfold U64 at hb; unfold hi lo wrap64 W128; omega
theorem eq_of_halves {x y : Int} (hx : W128 x) (hy : W128 y) (h1 : hi x = hi y) (h2 : lo x = lo y) : x = y := by
  unfold W128 at hx hy; unfold hi wrap64 at h1; unfold lo at h2; omega
theorem of_hi (n : Int) (h : I64 n) : n / 9223372036854775808 = hi n := by unfold I64 at h; unfold hi wrap64; omega
theorem of_lo (n : Int) : IntKind.u64.wrap n = lo n := by rw [wu]; rfl
theorem of_hi_neg (n : Int) (h : I64 n) (h' : n < 0) : -1 = hi n := by unfold I64 at h; unfold hi wrap64; omega
theorem of_hi_pos (n : Int) (h : I64 n) (h' : ¬ n < 0) : 0 = hi n := by unfold I64 at h; unfold hi wrap64; omega
theorem of_wide (n : Int) (h : I64 n) : W128 n := by unfold I64 at h; unfold W128; omega
theorem add_lo (x y : Int) : IntKind.u64.wrap (lo x + lo y) = lo (x + y) := by rw [wu]; unfold lo; omega
theorem add_hi (x y : Int) : wrap64 (IntKind.u64.wrap (IntKind.u64.wrap (IntKind.u64.wrap (hi x) + IntKind.u64.wrap (hi y)) + cy (decide (lo (x + y) < lo y)))) = hi (x + y) := by
  simp only [wu]; unfold cy hi wrap64 lo; by_cases h : (x + y) % 18446744073709551616 < y % 18446744073709551616 <;> simp [h] <;> omega
theorem sub_lo (x y : Int) : IntKind.u64.wrap (lo x - lo y) = lo (x - y) := by rw [wu]; unfold lo; omega
theorem sub_hi (x y : Int) : wrap64 (IntKind.u64.wrap (IntKind.u64.wrap (IntKind.u64.wrap (hi x) - IntKind.u64.wrap (hi y)) - cy (decide (lo x < lo y)))) = hi (x - y) := by
  simp only [wu]; unfold cy hi wrap64 lo; by_cases h : x % 18446744073709551616 < y % 18446744073709551616 <;> simp [h] <;> omega
theorem add_hi2 (x y : Int) (h : lo (x + y) < lo x) : wrap64 (wrap64 (hi x + hi y) + 1) = hi (x + y) := by unfold hi wrap64; unfold lo at h; omega
theorem add_hi3 (x y : Int) (h : ¬ lo (x + y) < lo x) : wrap64 (hi x + hi y) = hi (x + y) := by unfold hi wrap64; unfold lo at h; omega
def hl (n : Int) : Int := n % 4294967296
def hh (n : Int) : Int := n / 4294967296
/-- A number without its sign. -/
def mag (n : Int) : Int := if n < 0 then -n else n
theorem i64_and1 (n : Int) : bits BinOp.and IntKind.i64 n 1 = n % 2 := by
  show IntKind.i64.wrap ((BitVec.ofInt 64 n &&& BitVec.ofInt 64 1).toNat : Int) = _
  have e : BitVec.ofInt 64 1 = 1#64 := by decide
  rw [e, BitVec.toNat_and, BitVec.toNat_ofInt, IntWalk.i64_left]
  have e2 : (1#64).toNat = 2 ^ 1 - 1 := by decide
  rw [e2, Nat.and_two_pow_sub_one_eq_mod]
  have : ((2 ^ 64 : Nat) : Int) = 18446744073709551616 := rfl
  rw [this]; unfold wrap64; omega
theorem i64_odd (n : Int) (h : n % 2 = 1) : (bits BinOp.and IntKind.i64 n 1 == 1) = true := by rw [i64_and1, h]; rfl
theorem i64_even (n : Int) (h : ¬ n % 2 = 1) : (bits BinOp.and IntKind.i64 n 1 == 1) = false := by rw [i64_and1]; simp; omega
theorem i64_not (n : Int) (h0 : -9223372036854775808 ≤ n) (h1 : n ≤ 9223372036854775807) : bits BinOp.xor IntKind.i64 (-1) n = -1 - n := by
  show IntKind.i64.wrap ((BitVec.ofInt 64 (-1) ^^^ BitVec.ofInt 64 n).toNat : Int) = -1 - n
  have e : BitVec.ofInt 64 (-1) = BitVec.allOnes 64 := by decide
  rw [e, BitVec.allOnes_xor, BitVec.toNat_not, BitVec.toNat_ofInt, IntWalk.i64_left]
  unfold wrap64
  have : ((2 ^ 64 : Nat) : Int) = 18446744073709551616 := rfl
  rw [this]
  omega
theorem u64_not (n : Int) (h0 : 0 ≤ n) (h1 : n ≤ 18446744073709551615) : bits BinOp.xor IntKind.u64 IntKind.u64.max n = 18446744073709551615 - n := by
  show IntKind.u64.wrap ((BitVec.ofInt 64 IntKind.u64.max ^^^ BitVec.ofInt 64 n).toNat : Int) = _
  have e : BitVec.ofInt 64 IntKind.u64.max = BitVec.allOnes 64 := by decide
  rw [e, BitVec.allOnes_xor, BitVec.toNat_not, BitVec.toNat_ofInt, wu]
  have : ((2 ^ 64 : Nat) : Int) = 18446744073709551616 := rfl
  rw [this]
  omega
theorem min_lo (x : Int) : (bits BinOp.xor IntKind.i64 (-1) (hi x)) = hi (-1 - x) := by
  have hb := hi_bd x
  unfold I64 at hb
  have : bits BinOp.xor IntKind.i64 (-1) (hi x) = -1 - hi x := i64_not _ hb.1 hb.2
  rw [this]; unfold hi wrap64; omega
theorem min_hi (x : Int) : (bits BinOp.xor IntKind.u64 IntKind.u64.max (lo x)) = lo (-1 - x) := by
  have hb := lo_bd x
  unfold U64 at hb
  have : bits BinOp.xor IntKind.u64 IntKind.u64.max (lo x) = 18446744073709551615 - lo x := u64_not _ hb.1 hb.2
  rw [this]; unfold lo; omega
theorem one_hi : hi 1 = 0 := by unfold hi wrap64; omega
theorem one_lo : lo 1 = 1 := by decide
theorem zero_hi : hi 0 = 0 := by unfold hi wrap64; omega
theorem zero_lo : lo 0 = 0 := by decide

/-! ### Shifts -/
theorem p64 (k : Nat) (hk : k ≤ 64) : (2 : Int) ^ k * 2 ^ (64 - k) = 18446744073709551616 := by
  rw [← Int.pow_add, show k + (64 - k) = 64 by omega]; rfl
theorem ppos (k : Nat) : (0 : Int) < 2 ^ k := Int.pow_pos (by decide)
theorem wrap64_congr {a b : Int} (h : a % 18446744073709551616 = b % 18446744073709551616) : wrap64 a = wrap64 b := by unfold wrap64; omega
theorem wrap64_mod (a : Int) : wrap64 (a % 18446744073709551616) = wrap64 a := wrap64_congr (by omega)
theorem mul_mod_l (a p : Int) : (a % 18446744073709551616 * p) % 18446744073709551616 = (a * p) % 18446744073709551616 := by
  rw [Int.mul_emod, Int.emod_emod, ← Int.mul_emod]
theorem wrap64_mul (a p : Int) : (wrap64 a * p) % 18446744073709551616 = (a * p) % 18446744073709551616 := by
  rw [← mul_mod_l (wrap64 a), ← mul_mod_l a]
  have : wrap64 a % 18446744073709551616 = a % 18446744073709551616 := by unfold wrap64; omega
  rw [this]

theorem shl_lo (x : Int) (k : Nat) : IntKind.u64.wrap (lo x * 2 ^ k) = lo (x * 2 ^ k) := by
  rw [wu]; unfold lo; exact mul_mod_l x _
theorem or_nat (A B k : Nat) (hk : k ≤ 64) (hA : A < 18446744073709551616) (hd : 2 ^ k ∣ A) (hB : B < 2 ^ k) : A ||| B = A + B := by
  obtain ⟨c, rfl⟩ := hd
  exact (Nat.two_pow_add_eq_or_of_lt hB c).symm
theorem bv_or (a b : Int) (k : Nat) (hk : k ≤ 64) (h0 : 0 ≤ b) (h1 : b < 2 ^ k) : ((BitVec.ofInt 64 (a * 2 ^ k) ||| BitVec.ofInt 64 b).toNat : Int) = (a * 2 ^ k + b) % 18446744073709551616 := by
  have hq := p64 k hk
  have hp := ppos k
  have hpq := ppos (64 - k)
  rw [BitVec.toNat_or, BitVec.toNat_ofInt, BitVec.toNat_ofInt]
  have e1 : (a * 2 ^ k) % ((2 ^ 64 : Nat) : Int) = (a % 2 ^ (64 - k)) * 2 ^ k := by
    have : ((2 ^ 64 : Nat) : Int) = 2 ^ k * 2 ^ (64 - k) := by rw [hq]; rfl
    rw [this, Int.mul_comm a, Int.mul_emod_mul_of_pos _ _ hp, Int.mul_comm]
  have ha0 := Int.emod_nonneg a (Int.ne_of_gt hpq)
  have ha1 := Int.emod_lt_of_pos a hpq
  have hble : (2 : Int) ^ k ≤ 18446744073709551616 := by
    rw [← hq]
    have : (1 : Int) ≤ 2 ^ (64 - k) := hpq
    calc (2 : Int) ^ k = 2 ^ k * 1 := by omega
      _ ≤ 2 ^ k * 2 ^ (64 - k) := Int.mul_le_mul_of_nonneg_left this (Int.le_of_lt hp)
  have e2 : b % ((2 ^ 64 : Nat) : Int) = b := Int.emod_eq_of_lt h0 (by have : ((2 ^ 64 : Nat) : Int) = 18446744073709551616 := rfl; omega)
  rw [e1, e2]
  obtain ⟨A, hA⟩ := Int.eq_ofNat_of_zero_le ha0
  obtain ⟨B, rfl⟩ := Int.eq_ofNat_of_zero_le h0
  rw [hA] at ha1 ⊢
  have e3 : ((A : Int) * 2 ^ k).toNat = A * 2 ^ k := by
    have : ((A : Int) * 2 ^ k) = ((A * 2 ^ k : Nat) : Int) := by simp
    rw [this, Int.toNat_natCast]
  have hAl : A * 2 ^ k < 18446744073709551616 := by
    have h2 : (A : Int) * 2 ^ k < 2 ^ (64 - k) * 2 ^ k := Int.mul_lt_mul_of_pos_right ha1 hp
    rw [Int.mul_comm (2 ^ (64 - k)), hq] at h2
    have : ((A : Int) * 2 ^ k) = ((A * 2 ^ k : Nat) : Int) := by simp
    omega
  have hB : B < 2 ^ k := by
    have : ((2 : Int) ^ k) = ((2 ^ k : Nat) : Int) := by simp
    omega
  rw [e3, Int.toNat_natCast, or_nat _ _ k hk hAl (Nat.dvd_mul_left _ _) hB]
  have e4 : (a * 2 ^ k + B) % 18446744073709551616 = ((a * 2 ^ k) % 18446744073709551616 + B) % 18446744073709551616 := by omega
  have e5 : (a * 2 ^ k) % 18446744073709551616 = (a * 2 ^ k) % ((2 ^ 64 : Nat) : Int) := rfl
  rw [e4, e5, e1, hA]
  have hsum : A * 2 ^ k + B < 18446744073709551616 := by
    have h3 : A + 1 ≤ 2 ^ (64 - k) := by
      have : ((2 : Int) ^ (64 - k)) = ((2 ^ (64 - k) : Nat) : Int) := by simp
      omega
    have h4 : (A + 1) * 2 ^ k ≤ 2 ^ (64 - k) * 2 ^ k := Nat.mul_le_mul_right _ h3
    have h5 : 2 ^ (64 - k) * 2 ^ k = 18446744073709551616 := by rw [← Nat.pow_add, show 64 - k + k = 64 by omega]
    have h6 : (A + 1) * 2 ^ k = A * 2 ^ k + 2 ^ k := by rw [Nat.add_mul, Nat.one_mul]
    omega
  have e6 : (A : Int) * 2 ^ k + B = ((A * 2 ^ k + B : Nat) : Int) := by simp
  rw [e6]
  omega
theorem ofInt_wrap64 (a : Int) : BitVec.ofInt 64 (wrap64 a) = BitVec.ofInt 64 a := by
  apply BitVec.eq_of_toNat_eq
  rw [BitVec.toNat_ofInt, BitVec.toNat_ofInt]
  have : ((2 ^ 64 : Nat) : Int) = 18446744073709551616 := rfl
  rw [this]; unfold wrap64; congr 1; omega
theorem ofInt_mod64 (a : Int) : BitVec.ofInt 64 (a % 18446744073709551616) = BitVec.ofInt 64 a := by
  apply BitVec.eq_of_toNat_eq
  rw [BitVec.toNat_ofInt, BitVec.toNat_ofInt]
  have : ((2 ^ 64 : Nat) : Int) = 18446744073709551616 := rfl
  rw [this]; congr 1; omega
theorem or_i64 (a b : Int) (k : Nat) (hk : k ≤ 64) (h0 : 0 ≤ b) (h1 : b < 2 ^ k) : bits BinOp.or IntKind.i64 (wrap64 (a * 2 ^ k)) (wrap64 b) = wrap64 (a * 2 ^ k + b) := by
  have : bits BinOp.or IntKind.i64 (wrap64 (a * 2 ^ k)) (wrap64 b) = IntKind.i64.wrap ((BitVec.ofInt 64 (wrap64 (a * 2 ^ k)) ||| BitVec.ofInt 64 (wrap64 b)).toNat : Int) := rfl
  rw [this, ofInt_wrap64, ofInt_wrap64, bv_or a b k hk h0 h1, IntWalk.i64_left, wrap64_mod]
theorem or_u64 (a b : Int) (k : Nat) (hk : k ≤ 64) (h0 : 0 ≤ b) (h1 : b < 2 ^ k) : bits BinOp.or IntKind.u64 (IntKind.u64.wrap (a * 2 ^ k)) b = (a * 2 ^ k + b) % 18446744073709551616 := by
  have : bits BinOp.or IntKind.u64 (IntKind.u64.wrap (a * 2 ^ k)) b = IntKind.u64.wrap ((BitVec.ofInt 64 (IntKind.u64.wrap (a * 2 ^ k)) ||| BitVec.ofInt 64 b).toNat : Int) := rfl
  rw [this, wu (a * 2 ^ k), ofInt_mod64, bv_or a b k hk h0 h1, wu]; omega
theorem or_comm_u64 (a b : Int) : bits BinOp.or IntKind.u64 a b = bits BinOp.or IntKind.u64 b a := by
  show IntKind.u64.wrap ((BitVec.ofInt 64 a ||| BitVec.ofInt 64 b).toNat : Int) = IntKind.u64.wrap ((BitVec.ofInt 64 b ||| BitVec.ofInt 64 a).toNat : Int)
  rw [BitVec.or_comm]
theorem split_mul (x : Int) : x = x / 18446744073709551616 * 18446744073709551616 + lo x := by unfold lo; omega

theorem shl_hi (x : Int) (k : Nat) (hk : k ≤ 64) : bits BinOp.or IntKind.i64 (wrap64 (hi x * 2 ^ k)) (wrap64 (lo x / 2 ^ (64 - k))) = hi (x * 2 ^ k) := by
  have hq := p64 k hk
  have hp := ppos k
  have hpq := ppos (64 - k)
  have hb := lo_bd x
  unfold U64 at hb
  have h0 : 0 ≤ lo x / 2 ^ (64 - k) := Int.ediv_nonneg hb.1 (Int.le_of_lt hpq)
  have h1 : lo x / 2 ^ (64 - k) < 2 ^ k := by
    apply Int.ediv_lt_of_lt_mul hpq
    rw [hq]; omega
  rw [or_i64 _ _ k hk h0 h1]
  have hx := split_mul x
  have hl := Int.mul_ediv_add_emod (lo x) (2 ^ (64 - k))
  have hm0 := Int.emod_nonneg (lo x) (Int.ne_of_gt hpq)
  have hm1 := Int.emod_lt_of_pos (lo x) hpq
  generalize lo x / 2 ^ (64 - k) = A at *
  generalize lo x % 2 ^ (64 - k) = B at *
  have e : x * 2 ^ k = (x / 18446744073709551616 * 2 ^ k + A) * 18446744073709551616 + B * 2 ^ k := by
    have : x * 2 ^ k = (x / 18446744073709551616 * 18446744073709551616 + lo x) * 2 ^ k := by rw [← hx]
    rw [this, ← hl, ← hq]
    simp only [Int.add_mul, Int.mul_add]
    ac_rfl
  have hB0 : 0 ≤ B * 2 ^ k := Int.mul_nonneg hm0 (Int.le_of_lt hp)
  have hB1 : B * 2 ^ k < 18446744073709551616 := by
    rw [← hq, Int.mul_comm]
    exact Int.mul_lt_mul_of_pos_left hm1 hp
  have e2 : (x * 2 ^ k) / 18446744073709551616 = x / 18446744073709551616 * 2 ^ k + A := by rw [e]; omega
  show wrap64 (hi x * 2 ^ k + A) = wrap64 _
  rw [e2]
  apply wrap64_congr
  have := wrap64_mul (x / 18446744073709551616) (2 ^ k)
  show (wrap64 (x / 18446744073709551616) * 2 ^ k + A) % _ = _
  omega
theorem shl_big_hi (x : Int) (k : Nat) (hk : 64 ≤ k) : wrap64 (IntKind.u64.wrap (lo x * 2 ^ min (k - 64) 64)) = hi (x * 2 ^ k) := by
  rw [shl_lo]
  have e : (2 : Int) ^ k = 2 ^ (k - 64) * 18446744073709551616 := by
    have : k = (k - 64) + 64 := by omega
    rw [this, Int.pow_add]; simp
  have e2 : x * 2 ^ k / 18446744073709551616 = x * 2 ^ (k - 64) := by rw [e, ← Int.mul_assoc]; omega
  unfold hi lo
  rw [e2]
  apply wrap64_congr
  by_cases h : k - 64 ≤ 64
  · rw [Nat.min_eq_left h]; omega
  · rw [Nat.min_eq_right (by omega)]
    have e3 : (2 : Int) ^ (k - 64) = 2 ^ (k - 128) * 18446744073709551616 := by
      have : k - 64 = (k - 128) + 64 := by omega
      rw [this, Int.pow_add]; simp
    rw [e3, ← Int.mul_assoc]
    omega
theorem shl_big_lo (x : Int) (k : Nat) (hk : 64 ≤ k) : 0 = lo (x * 2 ^ k) := by
  have e : (2 : Int) ^ k = 2 ^ (k - 64) * 18446744073709551616 := by
    have : k = (k - 64) + 64 := by omega
    rw [this, Int.pow_add]; simp
  unfold lo
  rw [e, ← Int.mul_assoc]; omega
theorem hi_in (x : Int) (h : W128 x) : hi x = x / 18446744073709551616 := by unfold W128 at h; unfold hi wrap64; omega
theorem shr_wide (x : Int) (k : Nat) (h : W128 x) : W128 (x / 2 ^ k) := by
  unfold W128 at *
  have hp := ppos k
  refine ⟨?_, ?_⟩
  · apply Int.le_ediv_of_mul_le hp
    have : (1 : Int) ≤ 2 ^ k := hp
    have h2 : (-170141183460469231731687303715884105728 : Int) * 2 ^ k ≤ -170141183460469231731687303715884105728 * 1 := Int.mul_le_mul_of_nonpos_left (by decide) this
    omega
  · by_cases h0 : 0 ≤ x
    · exact Int.le_trans (Int.ediv_le_self _ h0) h.2
    · have : x / 2 ^ k ≤ 0 := Int.ediv_nonpos_of_nonpos_of_neg (by omega) hp
      omega
theorem shr_hi (x : Int) (k : Nat) (h : W128 x) : hi x / 2 ^ k = hi (x / 2 ^ k) := by
  have hp := ppos k
  rw [hi_in x h, hi_in _ (shr_wide x k h), Int.ediv_ediv_of_nonneg (by decide), Int.ediv_ediv_of_nonneg (Int.le_of_lt hp), Int.mul_comm]
theorem shr_lo (x : Int) (k : Nat) (hk : k ≤ 64) (h : W128 x) : bits BinOp.or IntKind.u64 (lo x / 2 ^ k) (IntKind.u64.wrap (IntKind.u64.wrap (hi x) * 2 ^ (64 - k))) = lo (x / 2 ^ k) := by
  have hq := p64 k hk
  have hp := ppos k
  have hpq := ppos (64 - k)
  have hb := lo_bd x
  unfold U64 at hb
  have h0 : 0 ≤ lo x / 2 ^ k := Int.ediv_nonneg hb.1 (Int.le_of_lt hp)
  have h1 : lo x / 2 ^ k < 2 ^ (64 - k) := by
    apply Int.ediv_lt_of_lt_mul hp
    rw [Int.mul_comm, hq]; omega
  rw [or_comm_u64, or_u64 _ _ _ (by omega) h0 h1, hi_in x h, wu]
  have hx := split_mul x
  have e : x / 2 ^ k = x / 18446744073709551616 * 2 ^ (64 - k) + lo x / 2 ^ k := by
    have : x = lo x + (x / 18446744073709551616 * 2 ^ (64 - k)) * 2 ^ k := by
      rw [Int.mul_assoc, Int.mul_comm (2 ^ (64 - k)), hq]; omega
    calc x / 2 ^ k = (lo x + (x / 18446744073709551616 * 2 ^ (64 - k)) * 2 ^ k) / 2 ^ k := by rw [← this]
      _ = lo x / 2 ^ k + x / 18446744073709551616 * 2 ^ (64 - k) := Int.add_mul_ediv_right _ _ (Int.ne_of_gt hp)
      _ = _ := by omega
  rw [e]
  unfold lo
  have := mul_mod_l (x / 18446744073709551616) (2 ^ (64 - k))
  omega
theorem shr_big (x : Int) (k : Nat) (hk : 64 ≤ k) (h : W128 x) : hi x / 2 ^ min (k - 64) 64 = x / 2 ^ k ∧ I64 (x / 2 ^ k) := by
  rw [hi_in x h]
  have hb : I64 (x / 18446744073709551616) := by unfold W128 at h; unfold I64; omega
  have e : (2 : Int) ^ k = 18446744073709551616 * 2 ^ (k - 64) := by
    have : k = 64 + (k - 64) := by omega
    rw [this, Int.pow_add]; simp
  rw [e, ← Int.ediv_ediv_of_nonneg (by decide)]
  generalize x / 18446744073709551616 = H at *
  unfold I64 at *
  have small : ∀ j : Nat, -9223372036854775808 ≤ H / 2 ^ j ∧ H / 2 ^ j ≤ 9223372036854775807 := fun j => by
    have hp := ppos j
    refine ⟨?_, ?_⟩
    · apply Int.le_ediv_of_mul_le hp
      have : (1 : Int) ≤ 2 ^ j := hp
      have h2 : (-9223372036854775808 : Int) * 2 ^ j ≤ -9223372036854775808 * 1 := Int.mul_le_mul_of_nonpos_left (by decide) this
      omega
    · by_cases h0 : 0 ≤ H
      · exact Int.le_trans (Int.ediv_le_self _ h0) hb.2
      · have : H / 2 ^ j ≤ 0 := Int.ediv_nonpos_of_nonpos_of_neg (by omega) hp
        omega
  refine ⟨?_, small _⟩
  by_cases hs : k - 64 ≤ 64
  · rw [Nat.min_eq_left hs]
  · rw [Nat.min_eq_right (by omega)]
    have e3 : (2 : Int) ^ (k - 64) = 18446744073709551616 * 2 ^ (k - 128) := by
      have : k - 64 = 64 + (k - 128) := by omega
      rw [this, Int.pow_add]; simp
    rw [e3, ← Int.ediv_ediv_of_nonneg (by decide)]
    have e4 : H / 2 ^ 64 = H / 18446744073709551616 := rfl
    rw [e4]
    have : H / 18446744073709551616 = 0 ∨ H / 18446744073709551616 = -1 := by omega
    rcases this with h | h
    · rw [h]; simp
    · rw [h]; symm; rw [Int.neg_one_ediv, Int.sign_eq_one_of_pos (ppos _)]
theorem shl_all (x : Int) (k : Nat) (hk : 128 ≤ k) : hi (x * 2 ^ 128) = hi (x * 2 ^ k) ∧ lo (x * 2 ^ 128) = lo (x * 2 ^ k) := by
  have e : (2 : Int) ^ k = 2 ^ (k - 128) * 340282366920938463463374607431768211456 := by
    have : k = (k - 128) + 128 := by omega
    rw [this, Int.pow_add]; simp
  have e2 : (2 : Int) ^ 128 = 340282366920938463463374607431768211456 := by decide
  rw [e, e2, ← Int.mul_assoc]
  unfold hi lo
  constructor
  · apply wrap64_congr; omega
  · omega
theorem half_lo_odd (y : Int) (h : W128 y) (ho : hi y % 2 = 1) : lo y / 2 + 9223372036854775808 = lo (y / 2) := by
  rw [hi_in y h] at ho; unfold lo; omega
theorem half_lo_even (y : Int) (h : W128 y) (ho : ¬ hi y % 2 = 1) : lo y / 2 = lo (y / 2) := by
  rw [hi_in y h] at ho; unfold lo; omega
theorem half_hi_pos (y : Int) (h : W128 y) : hi y / 2 = hi (y / 2) := by
  rw [hi_in y h, hi_in (y / 2) (by unfold W128 at *; omega)]; omega
theorem half_hi_neg_odd (y : Int) (h : W128 y) (hn : hi y < 0) (ho : hi y % 2 = 1) : wrap64 ((hi y).tdiv 2 - 1) = hi (y / 2) := by
  rw [← half_hi_pos y h]
  have hb := hi_bd y
  unfold I64 at hb
  generalize hi y = H at *
  rw [Int.tdiv_eq_ediv, if_neg (by omega), show (2 : Int).sign = 1 by rfl]
  unfold wrap64
  omega
theorem half_hi_neg_even (y : Int) (h : W128 y) (hn : hi y < 0) (ho : ¬ hi y % 2 = 1) : (hi y).tdiv 2 = hi (y / 2) := by
  rw [← half_hi_pos y h]
  generalize hi y = H at *
  rw [Int.tdiv_eq_ediv, if_pos (by omega)]
  omega
theorem tmod_odd (n : Int) (hn : n < 0) (h : n % 2 = 1) : n.tmod 2 = -1 := by
  rw [Int.tmod_eq_emod, if_neg (by omega)]; simp; omega
theorem tmod_even (n : Int) (h : ¬ n % 2 = 1) : n.tmod 2 = 0 := by
  rw [Int.tmod_eq_emod, if_pos (by omega)]; omega
theorem half_pow (x : Int) (j : Nat) : x / 2 ^ j / 2 = x / 2 ^ (j + 1) := by
  rw [Int.ediv_ediv_of_nonneg (Int.le_of_lt (ppos j)), Int.pow_succ]
theorem shr_all (x : Int) (k : Nat) (hk : 128 ≤ k) (h : W128 x) : x / 2 ^ 128 = x / 2 ^ k := by
  have e3 : (2 : Int) ^ k = 340282366920938463463374607431768211456 * 2 ^ (k - 128) := by
    have : k = 128 + (k - 128) := by omega
    rw [this, Int.pow_add]; simp
  have e2 : (2 : Int) ^ 128 = 340282366920938463463374607431768211456 := by decide
  rw [e3, ← Int.ediv_ediv_of_nonneg (by decide), e2]
  unfold W128 at h
  have : x / 340282366920938463463374607431768211456 = 0 ∨ x / 340282366920938463463374607431768211456 = -1 := by omega
  rcases this with h | h
  · rw [h]; simp
  · rw [h]; symm; rw [Int.neg_one_ediv, Int.sign_eq_one_of_pos (ppos _)]

/-! ### Products -/
theorem mag_bd (n : Int) (h : I64 n) : 0 ≤ mag n ∧ mag n ≤ 9223372036854775808 := by unfold I64 at h; unfold mag; split <;> omega
theorem mul_bd (a b A B : Int) (ha : 0 ≤ a) (hb : 0 ≤ b) (hA : a ≤ A) (hB : b ≤ B) : 0 ≤ a * b ∧ a * b ≤ A * B :=
  ⟨Int.mul_nonneg ha hb, Int.mul_le_mul hA hB hb (Int.le_trans ha hA)⟩
theorem hlh (n : Int) : n = hh n * 4294967296 + hl n := by unfold hh hl; omega
theorem hl_bd (n : Int) : 0 ≤ hl n ∧ hl n ≤ 4294967295 := by unfold hl; omega
theorem hh_bd (n : Int) (h : U64 n) : 0 ≤ hh n ∧ hh n ≤ 4294967295 := by unfold U64 at h; unfold hh; omega
theorem mul_split (a b : Int) : a * b = hh a * hh b * 18446744073709551616 + (hh a * hl b + hl a * hh b) * 4294967296 + hl a * hl b := by
  have h1 := hlh a
  have h2 := hlh b
  calc a * b = (hh a * 4294967296 + hl a) * (hh b * 4294967296 + hl b) := by rw [← h1, ← h2]
    _ = _ := by simp only [Int.add_mul, Int.mul_add]; rw [show hh a * 4294967296 * (hh b * 4294967296) = hh a * hh b * 18446744073709551616 by rw [Int.mul_assoc, Int.mul_left_comm 4294967296, ← Int.mul_assoc]; rfl, show hh a * 4294967296 * hl b = hh a * hl b * 4294967296 by rw [Int.mul_assoc, Int.mul_comm 4294967296, ← Int.mul_assoc], show hl a * (hh b * 4294967296) = hl a * hh b * 4294967296 by rw [Int.mul_assoc]]; omega
theorem prod_eq (p00 p10 p01 p11 : Int) (h00 : 0 ≤ p00 ∧ p00 ≤ 18446744065119617025) (h10 : 0 ≤ p10 ∧ p10 ≤ 18446744065119617025) (h01 : 0 ≤ p01 ∧ p01 ≤ 18446744065119617025) (h11 : 0 ≤ p11 ∧ p11 ≤ 18446744065119617025) :
    wrap64 (IntKind.u64.wrap (IntKind.u64.wrap (p11 + hh (p10 + hh p00)) + hh (p01 + hl (p10 + hh p00)))) = hi (p11 * 18446744073709551616 + (p10 + p01) * 4294967296 + p00) ∧
    hl (p01 + hl (p10 + hh p00)) * 4294967296 + hl p00 = lo (p11 * 18446744073709551616 + (p10 + p01) * 4294967296 + p00) := by
  simp only [wu]; unfold hi lo wrap64 hh hl; omega
theorem or_hl (p q : Int) : bits BinOp.or IntKind.u64 (IntKind.u64.wrap (hl p * 4294967296)) (hl q) = hl p * 4294967296 + hl q := by
  have hb := hl_bd p
  have hb2 := hl_bd q
  have := or_u64 (hl p) (hl q) 32 (by omega) hb2.1 (by have : (2 : Int) ^ 32 = 4294967296 := by decide
                                                       omega)
  have e : (2 : Int) ^ 32 = 4294967296 := by decide
  rw [e] at this
  rw [this]; omega

/-! ### The order -/
def sgn3 (a b : Int) : Int := if a < b then -1 else if b < a then 1 else 0
def or2 (p q : Int) : Int := if p = 0 then q else p
theorem sgn_halves (x y : Int) (hx : W128 x) (hy : W128 y) : or2 (sgn3 (hi x) (hi y)) (sgn3 (lo x) (lo y)) = sgn3 x y := by
  rw [hi_in x hx, hi_in y hy]
  unfold or2 sgn3 lo
  by_cases h1 : x / 18446744073709551616 < y / 18446744073709551616
  · simp [h1]; omega
  · by_cases h2 : y / 18446744073709551616 < x / 18446744073709551616
    · simp [h1, h2]; rw [if_neg (by omega), if_pos (by omega)]
    · simp [h1, h2]
      by_cases h3 : x % 18446744073709551616 < y % 18446744073709551616
      · rw [if_pos h3, if_pos (by omega)]
      · rw [if_neg h3]
        by_cases h4 : y % 18446744073709551616 < x % 18446744073709551616
        · rw [if_pos h4, if_neg (by omega), if_pos (by omega)]
        · rw [if_neg h4, if_neg (by omega), if_neg (by omega)]
/-! ### The way back -/
def fits (x : Int) : Bool := decide (-9223372036854775808 ≤ x ∧ x ≤ 9223372036854775807)
def nar (x : Int) : Int := if fits x = true then x else 0
theorem low64 (x : Int) : wrap64 (lo x) = wrap64 x := by unfold lo; exact wrap64_mod x
theorem wrap64_bd (x : Int) : I64 (wrap64 x) := by unfold I64 wrap64; omega
theorem fits_yes (x : Int) (_hx : W128 x) (h : fits x = true) : nar x = wrap64 x ∧ hi (wrap64 x) = hi x ∧ lo (wrap64 x) = lo x := by
  have e : nar x = x := by unfold nar; simp [h]
  simp only [fits, decide_eq_true_eq] at h
  have e2 : wrap64 x = x := by unfold wrap64; omega
  rw [e, e2]; exact ⟨rfl, rfl, rfl⟩
theorem fits_no (x : Int) (hx : W128 x) (h : fits x = false) : ¬ hi (wrap64 x) = hi x := by
  simp only [fits, decide_eq_false_iff_not] at h
  rw [hi_in x hx]
  unfold W128 at hx
  unfold hi wrap64
  omega
theorem fits_iff (x : Int) (hx : W128 x) : fits x = true ↔ (hi x = 0 ∧ 0 ≤ wrap64 x) ∨ (hi x = -1 ∧ wrap64 x < 0) := by
  simp only [fits, decide_eq_true_eq]
  rw [hi_in x hx]
  unfold W128 at hx
  unfold wrap64
  omega
end Go.Proofs.Ytnalgofemikggaa