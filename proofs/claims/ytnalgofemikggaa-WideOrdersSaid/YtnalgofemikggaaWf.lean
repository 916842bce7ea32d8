/- The laws of layer 1: walks, second part. -/
import Derived.Test.YtnalgofemikggaaWe
namespace Go.Proofs.Ytnalgofemikggaa
open Go.RowKit
set_option maxHeartbeats 1000000 in
theorem wideSpreads_walk (a b c : Int) (ha : I64 a) (hb : I64 b) (hc : I64 c) (w : World) :
    Calls Try.prog 7 #[.int .i64 a, .int .i64 b, .int .i64 c] w fun e w' => e = .returned (.bool true) ∧ Ext w w' := by
  have hs : W128 (b + c) := by unfold I64 at hb hc; unfold W128; omega
  have e1 : b * a = a * b := Int.mul_comm _ _
  have e2 := Int.mul_add a b c
  by_cases hf : fits (b + c) = true
  · have hi64 : I64 (b + c) := by unfold fits at hf; simpa [I64] using hf
    have e3 : nar (b + c) = b + c := by unfold nar; simp [hf]
    go_enter Try.func7, Try.ntmps7
    go_wp2_with (first | (go_at_call 14; refine (wide_Of _ (by assumption) _).mono ?_; rintro e w1 ⟨rfl, k1⟩) | (go_at_call 18; refine (wide_Add _ _ _).mono ?_; rintro e w1 ⟨rfl, k1⟩) | (go_at_call 11; refine (wide_Narrow _ hs _).mono ?_; rintro e w1 ⟨rfl, k1⟩) | (go_at_call 13; refine (live_any _).mono ?_; rintro e w1 ⟨rfl, k1⟩) | (go_at_call 22; refine (wide_Mul _ _ (by assumption) (by first | assumption | (unfold I64; omega)) _).mono ?_; rintro e w1 ⟨rfl, k1⟩))
    go_ret
    exact ⟨rfl, by (repeat (first | exact Ext.refl _ | assumption | (refine Ext.setCell' ?_ (by simp <;> omega) _) | refine Ext.alloc' ?_ _ | refine Ext.drew' ?_ | (refine Ext.trans _ _ _ ?_ (by assumption))))⟩
  · have hf := Bool.eq_false_iff.2 hf
    go_enter Try.func7, Try.ntmps7
    go_wp2_with (first | (go_at_call 14; refine (wide_Of _ (by assumption) _).mono ?_; rintro e w1 ⟨rfl, k1⟩) | (go_at_call 18; refine (wide_Add _ _ _).mono ?_; rintro e w1 ⟨rfl, k1⟩) | (go_at_call 11; refine (wide_Narrow _ hs _).mono ?_; rintro e w1 ⟨rfl, k1⟩) | (go_at_call 13; refine (live_any _).mono ?_; rintro e w1 ⟨rfl, k1⟩) | (go_at_call 22; refine (wide_Mul _ _ (by assumption) (by first | assumption | (unfold I64; omega)) _).mono ?_; rintro e w1 ⟨rfl, k1⟩))
    go_ret
    exact ⟨rfl, by (repeat (first | exact Ext.refl _ | assumption | (refine Ext.setCell' ?_ (by simp <;> omega) _) | refine Ext.alloc' ?_ _ | refine Ext.drew' ?_ | (refine Ext.trans _ _ _ ?_ (by assumption))))⟩

theorem back_law (a : Int) (k : Nat) (hk : k < 64) (ha : I64 a) : W128 (a * 2 ^ k) ∧ a * 2 ^ k / 2 ^ k = a := by
  have hp := ppos k
  refine ⟨?_, Int.mul_ediv_cancel _ (Int.ne_of_gt hp)⟩
  have h1 : (2 : Int) ^ k ≤ 9223372036854775808 := by
    have h2 : k ≤ 63 := by omega
    have h3 : (2 : Nat) ^ k ≤ 2 ^ 63 := Nat.pow_le_pow_right (by decide) h2
    have h4 : ((2 : Int) ^ k) = ((2 ^ k : Nat) : Int) := by simp
    rw [h4]; omega
  unfold I64 at ha
  unfold W128
  have h5 : a * 2 ^ k ≤ 9223372036854775807 * 2 ^ k := Int.mul_le_mul_of_nonneg_right ha.2 (Int.le_of_lt hp)
  have h6 : -9223372036854775808 * 2 ^ k ≤ a * 2 ^ k := Int.mul_le_mul_of_nonneg_right ha.1 (Int.le_of_lt hp)
  omega
set_option maxHeartbeats 1000000 in
theorem wideBack_walk (a : Int) (n : Nat) (ha : I64 a) (hn : n < 256) (w : World) :
    Calls Try.prog 9 #[.int .i64 a, .int .u8 n] w fun e w' => e = .returned (.bool true) ∧ Ext w w' := by
  obtain ⟨k, hk, hk2⟩ : ∃ k : Nat, k < 64 ∧ n % 64 = k := ⟨n % 64, by omega, rfl⟩
  obtain ⟨h1, h2⟩ := back_law a k hk ha
  have t1 : ((k : Int) + 3).toNat = k + 3 := by omega
  have e3 : a * 2 ^ k * 8 = a * 2 ^ (k + 3) := by rw [Int.pow_add, ← Int.mul_assoc]; rfl
  have m1 : (n : Int) % 64 = k := by omega
  have m2 : ((n : Int) % 64).toNat = k := by omega
  have i1 : I64 (k : Int) := by unfold I64; omega
  have i2 : I64 3 := by unfold I64; omega
  have i3 : I64 ((k : Int) + 3) := by unfold I64; omega
  have hkk : (k : Int) < 64 := by omega
  clear hk2
  go_enter Try.func9, Try.ntmps9
  go_wp2_with (first | (go_at_call 14; refine (wide_Of _ (by assumption) _).mono ?_; rintro e w1 ⟨rfl, k1⟩) | (go_at_call 24; refine (wide_Left _ _ (by assumption) _).mono ?_; rintro e w1 ⟨rfl, k1⟩) | (go_at_call 26; refine (wide_Right _ _ (by assumption) (by assumption) _).mono ?_; rintro e w1 ⟨rfl, k1⟩) | (go_at_call 13; refine (live_any _).mono ?_; rintro e w1 ⟨rfl, k1⟩))
  go_ret
  exact ⟨rfl, by (repeat (first | exact Ext.refl _ | assumption | (refine Ext.setCell' ?_ (by simp <;> omega) _) | refine Ext.alloc' ?_ _ | refine Ext.drew' ?_ | (refine Ext.trans _ _ _ ?_ (by assumption))))⟩

theorem sgn3_neg (p q : Int) : wrap64 (-(sgn3 q p)) = sgn3 p q := by
  have : -(sgn3 q p) = sgn3 p q := by unfold sgn3; split <;> split <;> (try split) <;> omega
  rw [this]
  have : -1 ≤ sgn3 p q ∧ sgn3 p q ≤ 1 := by unfold sgn3; split <;> (try split) <;> omega
  unfold wrap64; omega
theorem sgn3_zero (p q : Int) : (sgn3 p q == 0) = decide (p = q) := by
  unfold sgn3
  by_cases h1 : p < q
  · simp [h1]; omega
  · by_cases h2 : q < p
    · simp [h1, h2]; omega
    · simp [h1, h2]; omega
theorem sgn3_le (p q r : Int) (h1 : ¬ 0 < sgn3 p q) (h2 : ¬ 0 < sgn3 q r) : sgn3 p r ≤ 0 := by
  unfold sgn3 at *
  by_cases a1 : q < p
  · rw [if_neg (by omega), if_pos a1] at h1; omega
  · by_cases a2 : r < q
    · rw [if_neg (by omega), if_pos a2] at h2; omega
    · split
      · omega
      · rw [if_neg (by omega)]; omega
theorem sgn3_more (p : Int) : sgn3 p (p + 1) = -1 := by unfold sgn3; rw [if_pos (by omega)]
theorem eq_iff_halves (p q : Int) (hp : W128 p) (hq : W128 q) : p = q ↔ hi p = hi q ∧ lo p = lo q := ⟨fun h => by subst h; exact ⟨rfl, rfl⟩, fun h => eq_of_halves hp hq h.1 h.2⟩
def Top : Int := 170141183460469231731687303715884105727
theorem top_hi : hi Top = 9223372036854775807 := by unfold hi wrap64 Top; omega
theorem top_lo : lo Top = 18446744073709551615 := by unfold lo Top; omega

end Go.Proofs.Ytnalgofemikggaa
