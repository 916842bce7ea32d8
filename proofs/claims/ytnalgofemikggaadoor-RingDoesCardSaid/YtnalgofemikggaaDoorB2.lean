/- The laws of rings. Sums of a ring's values; products with sums. -/
import Derived.Test.YtnalgofemikggaaDoorB1
namespace Go.Proofs.YtnalgofemikggaaDoor
section
open Go.RowKit
attribute [local irreducible] FS FO IT HS

/-- What sums of values are. -/
def SR (r s : Int) : Prop := (r = 5 ∧ W128 s) ∨ (r = 2 ∧ (s = 0 ∨ s = 1)) ∨ (lt3 r = true ∧ 0 ≤ s ∧ s ≤ 4611686018427387904)
/-- Values; factors. -/
def VR (r x : Int) : Prop := (r = 5 ∧ I64 x) ∨ (r = 2 ∧ (x = 0 ∨ x = 1)) ∨ (lt3 r = true ∧ 0 ≤ x ∧ x ≤ 4611686018427387904)
def FR (r a : Int) : Prop := (r = 5 ∧ -2147483648 < a ∧ a < 2147483648) ∨ (r = 2 ∧ (a = 0 ∨ a = 1)) ∨ (lt3 r = true ∧ 0 ≤ a ∧ a ≤ 4611686018427387904)
theorem lt3_iff {r : Int} : lt3 r = true ↔ r = 1 ∨ r = 3 ∨ r = 4 := by
  unfold lt3
  rw [Bool.or_eq_true, Bool.or_eq_true, decide_eq_true_eq, decide_eq_true_eq, decide_eq_true_eq]
theorem ring_cases3 {r : Int} (h : isR r = true) : r = 5 ∨ r = 2 ∨ lt3 r = true := by
  unfold isR at h
  rw [Bool.and_eq_true, decide_eq_true_eq, decide_eq_true_eq] at h
  rw [lt3_iff]; omega
theorem radd5 (x y : Int) : rAdd 5 x y = norm (x + y) := rfl
theorem radd2 (x y : Int) : rAdd 2 x y = tru (decide (x ≠ 0) || decide (y ≠ 0)) := rfl
theorem radd3 {r : Int} (h : lt3 r = true) (x y : Int) : rAdd r x y = if x ≤ y then x else y := if_pos h
theorem rZero_3 {r : Int} (h : lt3 r = true) : rZero r = 4611686018427387904 := if_pos h
theorem valR_V {r n : Int} (hr : isR r = true) (h : I64 n) : VR r (valR r n) := by
  unfold VR
  rcases ring_cases3 hr with rfl | rfl | h3
  · exact .inl ⟨rfl, h⟩
  · refine .inr (.inl ⟨rfl, ?_⟩)
    show n % 2 = 0 ∨ n % 2 = 1
    omega
  · refine .inr (.inr ⟨h3, ?_⟩)
    have h5 : r ≠ 5 ∧ r ≠ 2 := by rw [lt3_iff] at h3; omega
    unfold valR
    rw [if_neg h5.1, if_neg h5.2]
    split <;> omega
theorem facR_F {r n : Int} (hr : isR r = true) (h : I64 n) : FR r (facR r n) := by
  unfold FR
  rcases ring_cases3 hr with rfl | rfl | h3
  · refine .inl ⟨rfl, ?_⟩
    show -2147483648 < n.tmod 2147483648 ∧ n.tmod 2147483648 < 2147483648
    exact ⟨by have := Int.lt_tmod_of_pos n (show (0 : Int) < 2147483648 by omega); omega, Int.tmod_lt_of_pos n (by omega)⟩
  · have := valR_V (r := 2) rfl h
    rcases this with ⟨h, _⟩ | h | ⟨h, _⟩
    · omega
    · exact .inr (.inl h)
    · cases h
  · have h5 : r ≠ 5 ∧ r ≠ 2 := by rw [lt3_iff] at h3; omega
    have e : facR r n = valR r n := if_neg h5.1
    rw [e]
    have := valR_V hr h
    rcases this with ⟨h, _⟩ | ⟨h, _⟩ | h
    · exact absurd h h5.1
    · exact absurd h h5.2
    · exact .inr (.inr h)
theorem VR.sr {r x : Int} (h : VR r x) : SR r x := by
  rcases h with ⟨h, h2⟩ | h | h
  · exact .inl ⟨h, W64i h2⟩
  · exact .inr (.inl h)
  · exact .inr (.inr h)
theorem tru_01 (b : Bool) : tru b = 0 ∨ tru b = 1 := by cases b <;> simp [tru]
theorem add_sr {r x y : Int} (hx : SR r x) (hy : SR r y) : SR r (rAdd r x y) := by
  rcases hx with ⟨rfl, h1⟩ | ⟨rfl, h1⟩ | ⟨h3, h1⟩
  · rw [radd5]; exact .inl ⟨rfl, norm_w _⟩
  · rw [radd2]; exact .inr (.inl ⟨rfl, tru_01 _⟩)
  · rw [radd3 h3]
    rcases hy with ⟨rfl, _⟩ | ⟨rfl, _⟩ | ⟨_, h2⟩
    · cases h3
    · cases h3
    · refine .inr (.inr ⟨h3, ?_⟩)
      split <;> assumption
theorem mul_sr {r a x : Int} (ha : FR r a) (hx : VR r x) : SR r (rMul r a x) := by
  rcases hx with ⟨rfl, h1⟩ | ⟨rfl, h1⟩ | ⟨h3, h1⟩
  · refine .inl ⟨rfl, ?_⟩
    rw [rMul_5]
    rcases ha with ⟨_, h2⟩ | ⟨h, _⟩ | ⟨h, _⟩
    · exact rMul_5 a x ▸ rMul_w (r := 5) (by unfold I64; omega) h1
    · omega
    · cases h
  · rw [rMul_2]; exact .inr (.inl ⟨rfl, tru_01 _⟩)
  · rcases ha with ⟨rfl, _⟩ | ⟨rfl, _⟩ | ⟨_, h2⟩
    · cases h3
    · cases h3
    · refine .inr (.inr ⟨h3, ?_⟩)
      rw [lt3_iff] at h3
      rcases h3 with rfl | rfl | rfl
      · rw [rMul_1]; split <;> omega
      · rw [rMul_3]; split <;> omega
      · rw [rMul_4]; split <;> omega
/-- Zero adds nothing. -/
theorem add_zero {r s : Int} (hs : SR r s) : rAdd r s (rZero r) = s ∧ rAdd r (rZero r) s = s := by
  rcases hs with ⟨rfl, h1⟩ | ⟨rfl, h1⟩ | ⟨h3, h1⟩
  · rw [radd5, radd5, show rZero 5 = 0 from rfl, Int.add_zero, Int.zero_add, norm_id h1]
    exact ⟨rfl, rfl⟩
  · rw [radd2, radd2, show rZero 2 = 0 from rfl]
    rcases h1 with rfl | rfl <;> exact ⟨rfl, rfl⟩
  · rw [radd3 h3, radd3 h3, rZero_3 h3]
    constructor
    · rw [if_pos h1.2]
    · split <;> omega
/-- A product with zero is zero. -/
theorem mul_zero {r a : Int} (ha : FR r a) : rMul r a (rZero r) = rZero r := by
  rcases ha with ⟨rfl, _⟩ | ⟨rfl, _⟩ | ⟨h3, h1⟩
  · rw [rMul_5]; show a * 0 = 0; rw [Int.mul_zero]
  · rw [rMul_2]; show tru (decide (a ≠ 0) && decide ((0 : Int) ≠ 0)) = 0; simp [tru]
  · rw [rZero_3 h3]
    rw [lt3_iff] at h3
    rcases h3 with rfl | rfl | rfl
    · rw [rMul_1, if_pos (by omega)]
    · rw [rMul_3, if_pos (by omega)]
    · rw [rMul_4, if_pos (by omega)]
/-- A product with a sum. -/
theorem mul_add {r a x y : Int} (ha : FR r a) (hx : VR r x) (hy : VR r y) (hI : r = 5 → I64 (x + y)) : rMul r a (rAdd r x y) = rAdd r (rMul r a x) (rMul r a y) := by
  rcases hx with ⟨rfl, h1⟩ | ⟨rfl, h1⟩ | ⟨h3, h1⟩
  · have hI := hI rfl
    rcases ha with ⟨_, h2⟩ | ⟨h, _⟩ | ⟨h, _⟩
    · have hw : W128 (a * (x + y)) := by
        have := rMul_w (r := 5) (a := a) (x := x + y) (by unfold I64; omega) hI
        rwa [rMul_5] at this
      simp only [radd5, rMul_5]
      rw [norm_id (W64i hI), ← Int.mul_add, norm_id hw]
    · omega
    · cases h
  · rcases hy with ⟨h, _⟩ | ⟨_, h2⟩ | ⟨h, _⟩
    · omega
    · simp only [radd2, rMul_2]
      have h : ∀ b : Bool, decide (tru b ≠ 0) = b := fun b => by cases b <;> rfl
      rw [h, h, h]
      congr 1
      cases decide (a ≠ 0) <;> cases decide (x ≠ 0) <;> cases decide (y ≠ 0) <;> rfl
    · cases h
  · rcases ha with ⟨rfl, _⟩ | ⟨rfl, _⟩ | ⟨_, h2⟩
    · cases h3
    · cases h3
    · rcases hy with ⟨rfl, _⟩ | ⟨rfl, _⟩ | ⟨_, h4⟩
      · cases h3
      · cases h3
      · rw [radd3 h3, radd3 h3]
        rw [lt3_iff] at h3
        rcases h3 with rfl | rfl | rfl
        · simp only [rMul_1]; split <;> split <;> split <;> (try split) <;> omega
        · simp only [rMul_3]; split <;> split <;> split <;> (try split) <;> omega
        · simp only [rMul_4]; split <;> split <;> split <;> (try split) <;> omega

theorem norm_add (x y : Int) : norm (norm x + y) = norm (x + y) := by unfold norm hi lo wrap64; omega
theorem norm_add' (x y : Int) : norm (x + norm y) = norm (x + y) := by unfold norm hi lo wrap64; omega
theorem rAdd_comm (r x y : Int) : rAdd r x y = rAdd r y x := by
  unfold rAdd
  split
  · split <;> split <;> omega
  · split
    · rw [Bool.or_comm]
    · split
      · rw [Int.add_comm]
      · rfl
theorem rAdd_assoc {r : Int} (hr : isR r = true) (x y z : Int) : rAdd r (rAdd r x y) z = rAdd r x (rAdd r y z) := by
  rcases ring_cases3 hr with rfl | rfl | h
  · simp only [radd5, norm_add, norm_add', Int.add_assoc]
  · simp only [radd2]
    have h : ∀ b : Bool, decide (tru b ≠ 0) = b := fun b => by cases b <;> rfl
    rw [h, h, Bool.or_assoc]
  · simp only [radd3 h]
    (repeat' split) <;> omega
theorem VR.i64 {r x : Int} (h : VR r x) : I64 x := by
  unfold I64
  rcases h with ⟨_, h⟩ | ⟨_, h⟩ | ⟨_, h⟩
  · exact h
  · omega
  · omega
theorem FR.i64 {r x : Int} (h : FR r x) : I64 x := by
  unfold I64
  rcases h with ⟨_, h⟩ | ⟨_, h⟩ | ⟨_, h⟩ <;> omega
theorem SR.w {r x : Int} (h : SR r x) : W128 x := by
  rcases h with ⟨_, h⟩ | ⟨_, h⟩ | ⟨_, h⟩
  · exact h
  · unfold W128; omega
  · unfold W128; omega
/-- Of a ring of little values every sum is a value. -/
theorem SR.fit {r x : Int} (h : SR r x) (h5 : r ≠ 5) : fits x = true ∧ nar x = x ∧ rightR r x = true := by
  have hf : fits x = true := by
    unfold fits
    rw [decide_eq_true_eq]
    rcases h with ⟨h, _⟩ | ⟨_, h⟩ | ⟨_, h⟩ <;> omega
  refine ⟨hf, if_pos hf, ?_⟩
  unfold rightR
  rcases h with ⟨h, _⟩ | ⟨rfl, h⟩ | ⟨h3, h⟩
  · exact absurd h h5
  · rw [if_neg (by decide), if_pos rfl, decide_eq_true_eq]; exact h
  · rw [if_pos h3, decide_eq_true_eq]; exact h
theorem add_same {r x : Int} (h : VR r x) (h5 : r ≠ 5) : rAdd r x x = x := by
  rcases h with ⟨h, _⟩ | ⟨rfl, h⟩ | ⟨h3, _⟩
  · exact absurd h h5
  · rw [radd2]; rcases h with rfl | rfl <;> rfl
  · rw [radd3 h3, if_pos (Int.le_refl _)]
theorem zero_mul {r x : Int} (hx : VR r x) : rMul r (rZero r) x = rZero r := by
  rcases hx with ⟨rfl, _⟩ | ⟨rfl, _⟩ | ⟨h3, h1⟩
  · rw [rMul_5]; show 0 * x = 0; rw [Int.zero_mul]
  · rw [rMul_2]; show tru (decide ((0 : Int) ≠ 0) && decide (x ≠ 0)) = 0; simp [tru]
  · rw [rZero_3 h3]
    rw [lt3_iff] at h3
    rcases h3 with rfl | rfl | rfl
    · rw [rMul_1, if_pos (by omega)]
    · rw [rMul_3, if_pos (by omega)]
    · rw [rMul_4, if_pos (by omega)]
theorem one_mul {r x : Int} (hx : VR r x) (h1 : (oneR r).2 = true) : rMul r (oneR r).1 x = x := by
  rcases hx with ⟨rfl, _⟩ | ⟨rfl, h⟩ | ⟨h3, h⟩
  · rw [rMul_5]; show 1 * x = x; rw [Int.one_mul]
  · rw [rMul_2]; rcases h with rfl | rfl <;> rfl
  · rw [lt3_iff] at h3
    rcases h3 with rfl | rfl | rfl
    · rw [rMul_1]; show (if 4611686018427387904 ≤ max 0 x then 4611686018427387904 else min 4611686018427387904 (0 + x)) = x
      split <;> omega
    · cases h1
    · cases h1
theorem one_i (r : Int) : I64 (oneR r).1 := by
  unfold oneR I64
  split
  · exact ⟨by decide, by decide⟩
  · split
    · exact ⟨by decide, by decide⟩
    · exact ⟨by decide, by decide⟩
theorem zero_i (r : Int) : I64 (rZero r) := by unfold rZero I64; split <;> omega
theorem eqT {x : Int} (hx : W128 x) : EqOk Tryd.prog false 25 [.int .i64 (hi x), .int .u64 (lo x)] [.int .i64 (hi x), .int .u64 (lo x)] true := by
  have := eqw false hx hx
  simp only [decide_true] at this
  exact this
theorem eqF {x : Int} (hx : W128 x) : EqOk Tryd.prog true 25 [.int .i64 (hi x), .int .u64 (lo x)] [.int .i64 (hi x), .int .u64 (lo x)] false := by
  have h : EqOk Tryd.prog true 25 [.int .i64 (hi x), .int .u64 (lo x)] [.int .i64 (hi x), .int .u64 (lo x)] (decide (x ≠ x)) := eqw true hx hx
  rw [decide_eq_false (fun h => h rfl)] at h
  exact h

def ir_fretworklaw02_live : IR :=
(.seq (.reg (⟨(some 0), .mv (.c (.bool false)), none⟩ :: [])) (.seq (.reg (⟨(some 6), .call (.c (.fn 18 [])) [(.c (.int .i64 2))], none⟩ ::⟨(some 5), .mv (.t 6), none⟩ ::⟨(some 7), .ex 0 (.t 5), none⟩ ::⟨(some 8), .ex 1 (.t 5), none⟩ ::⟨(some 1), .mv (.t 7), none⟩ ::⟨(some 2), .mv (.t 8), none⟩ :: [])) (.seq (.reg (⟨(some 10), .call (.c (.fn 18 [])) [(.c (.int .i64 3))], none⟩ ::⟨(some 9), .mv (.t 10), none⟩ ::⟨(some 11), .ex 0 (.t 9), none⟩ ::⟨(some 12), .ex 1 (.t 9), none⟩ ::⟨(some 3), .mv (.t 11), none⟩ ::⟨(some 4), .mv (.t 12), none⟩ :: [])) (.seq (.reg (⟨(some 13), .call (.c (.fn 20 [])) [(.c (.int .i64 1))], none⟩ ::⟨(some 14), .mv (.t 13), none⟩ ::⟨(some 15), .call (.c (.fn 20 [])) [(.c (.int .i64 0))], some (14, true)⟩ ::⟨(some 16), .un .not (.t 15), some (14, true)⟩ ::⟨(some 17), .pick (.t 14) (.t 16) (.c (.bool false)), none⟩ ::⟨(some 18), .mv (.t 17), none⟩ ::⟨(some 19), .call (.c (.fn 9 [])) [(.c (.int .i64 1)), (.c (.int .i64 4611686018427387904)), (.c (.int .i64 3))], some (18, true)⟩ ::⟨(some 20), .call (.c (.fn 32 [])) [(.c (.int .i64 4611686018427387904))], some (18, true)⟩ ::⟨(some 21), .eqv false 25 (.t 19) (.t 20), some (18, true)⟩ ::⟨(some 22), .pick (.t 18) (.t 21) (.c (.bool false)), none⟩ ::⟨(some 23), .mv (.t 22), none⟩ ::⟨(some 24), .call (.c (.fn 9 [])) [(.c (.int .i64 4)), (.c (.int .i64 1)), (.c (.int .i64 7))], some (23, true)⟩ ::⟨(some 25), .call (.c (.fn 32 [])) [(.c (.int .i64 7))], some (23, true)⟩ ::⟨(some 26), .eqv false 25 (.t 24) (.t 25), some (23, true)⟩ ::⟨(some 27), .pick (.t 23) (.t 26) (.c (.bool false)), none⟩ ::⟨(some 28), .mv (.t 27), none⟩ ::⟨(some 29), .call (.c (.fn 26 [])) [(.c (.int .i64 1))], some (28, true)⟩ ::⟨(some 30), .bin .eql (.t 29) (.c (.int .i64 4611686018427387904)), some (28, true)⟩ ::⟨(some 31), .pick (.t 28) (.t 30) (.c (.bool false)), none⟩ ::⟨(some 32), .mv (.t 31), none⟩ ::⟨(some 33), .mv (.t 1), some (32, true)⟩ ::⟨(some 34), .bin .eql (.t 33) (.c (.int .i64 1)), some (32, true)⟩ ::⟨(some 35), .pick (.t 32) (.t 34) (.c (.bool false)), none⟩ ::⟨(some 36), .mv (.t 35), none⟩ ::⟨(some 37), .mv (.t 2), some (36, true)⟩ ::⟨(some 38), .pick (.t 36) (.t 37) (.c (.bool false)), none⟩ ::⟨(some 39), .mv (.t 38), none⟩ ::⟨(some 40), .mv (.t 4), some (39, true)⟩ ::⟨(some 41), .un .not (.t 40), some (39, true)⟩ ::⟨(some 42), .pick (.t 39) (.t 41) (.c (.bool false)), none⟩ ::⟨(some 43), .mv (.t 42), none⟩ ::⟨(some 44), .call (.c (.fn 28 [])) [(.c (.int .i64 2))], some (43, true)⟩ ::⟨(some 45), .seq false (.t 44) (.c (.str [111, 114, 97, 110, 100])), some (43, true)⟩ ::⟨(some 46), .pick (.t 43) (.t 45) (.c (.bool false)), none⟩ ::⟨(some 47), .mv (.t 46), none⟩ ::⟨(some 48), .call (.c (.fn 30 [])) [(.c (.str [109, 105, 110, 102, 105, 114, 115, 116]))], some (47, true)⟩ ::⟨(some 49), .bin .eql (.t 48) (.c (.int .i64 3)), some (47, true)⟩ ::⟨(some 50), .pick (.t 47) (.t 49) (.c (.bool false)), none⟩ ::⟨(some 51), .mv (.t 50), none⟩ ::⟨(some 52), .call (.c (.fn 32 [])) [(.c (.int .i64 2))], some (51, true)⟩ ::⟨(some 53), .call (.c (.fn 32 [])) [(.c (.int .i64 3))], some (51, true)⟩ ::⟨(some 54), .call (.c (.fn 8 [])) [(.c (.int .i64 5)), (.t 52), (.t 53)], some (51, true)⟩ ::⟨(some 55), .call (.c (.fn 32 [])) [(.c (.int .i64 5))], some (51, true)⟩ ::⟨(some 56), .eqv false 25 (.t 54) (.t 55), some (51, true)⟩ ::⟨(some 57), .pick (.t 51) (.t 56) (.c (.bool false)), none⟩ ::⟨(some 0), .mv (.t 57), none⟩ :: [])) .ret))))
theorem cd_fretworklaw02_live : Code1 Tryd.prog 13 58 ir_fretworklaw02_live [.t 0] := ⟨Tryd.call13, _, _, Tryd.func13, rfl, by kernel_rfl, by kernel_rfl, by kernel_rfl, by kernel_rfl⟩

set_option maxHeartbeats 8000000 in
set_option maxRecDepth 100000 in
theorem fs_live2 : FS Tryd.prog 13 [] (.bool true) := by
  refine fs_of_cvc mixed cd_fretworklaw02_live (by simp) ?_
  have w3 : I64 3 := I64c rfl
  have wI : I64 4611686018427387904 := I64c rfl
  have w1 : I64 1 := I64c rfl
  have w7 : I64 7 := I64c rfl
  have w2 : I64 2 := I64c rfl
  have w5 : I64 5 := I64c rfl
  have c1 : FS Tryd.prog 18 [.int .i64 2] (.tup [.int .i64 1, .bool true]) := fs_rOne 2
  have c2 : FS Tryd.prog 18 [.int .i64 3] (.tup [.int .i64 0, .bool false]) := fs_rOne 3
  have c3 : FS Tryd.prog 20 [.int .i64 1] (.bool true) := fs_Is 1
  have c4 : FS Tryd.prog 20 [.int .i64 0] (.bool false) := fs_Is 0
  have c5 := fs_rMul 1 4611686018427387904 3 wI w3
  rw [show rMul 1 4611686018427387904 3 = 4611686018427387904 by decide] at c5
  have c6 := fs_r1Of 4611686018427387904 wI
  have c7 := fs_rMul 4 1 7 w1 w7
  rw [show rMul 4 1 7 = 7 by decide] at c7
  have c8 := fs_r1Of 7 w7
  have c9 : FS Tryd.prog 26 [.int .i64 1] (.int .i64 4611686018427387904) := fs_rZero 1
  have d1 : FS Tryd.prog 28 [.int .i64 2] (.str [111, 114, 97, 110, 100]) := fs_rName 2
  have d2 := fs_rParse [109, 105, 110, 102, 105, 114, 115, 116]
  rw [show parL [109, 105, 110, 102, 105, 114, 115, 116] = 3 by decide] at d2
  have d3 := fs_r1Of 2 w2
  have d4 := fs_r1Of 3 w3
  have d5 := fs_rAdd 5 2 3 (W64i w2) (W64i w3)
  rw [show rAdd 5 2 3 = 5 by rw [radd5, norm_id (by unfold W128; omega)]; rfl] at d5
  have d6 := fs_r1Of 5 w5
  have e1 := eqT (W64i wI)
  have e2 := eqT (W64i w7)
  have e3 := eqT (W64i w5)
  repeat' (conv => whnf); first
    | ((refine Or.inl ⟨by rfl, _, c1, ?_⟩))
    | ((refine Or.inl ⟨by rfl, _, c2, ?_⟩))
    | ((refine Or.inl ⟨by rfl, _, c3, ?_⟩))
    | ((refine Or.inl ⟨by rfl, _, c4, ?_⟩))
    | ((refine Or.inl ⟨by rfl, _, c5, ?_⟩))
    | ((refine Or.inl ⟨by rfl, _, c6, ?_⟩))
    | ((refine Or.inl ⟨by rfl, _, c7, ?_⟩))
    | ((refine Or.inl ⟨by rfl, _, c8, ?_⟩))
    | ((refine Or.inl ⟨by rfl, _, c9, ?_⟩))
    | ((refine Or.inl ⟨by rfl, _, d1, ?_⟩))
    | ((refine Or.inl ⟨by rfl, _, d2, ?_⟩))
    | ((refine Or.inl ⟨by rfl, _, d3, ?_⟩))
    | ((refine Or.inl ⟨by rfl, _, d4, ?_⟩))
    | ((refine Or.inl ⟨by rfl, _, d5, ?_⟩))
    | ((refine Or.inl ⟨by rfl, _, d6, ?_⟩))
    | ((refine ⟨_, e1, ?_⟩))
    | ((refine ⟨_, e2, ?_⟩))
    | ((refine ⟨_, e3, ?_⟩))
    | ((refine Br.beq (by rfl) ?_))
    | ((refine Br.bne (by rfl) ?_))
    | ((refine Br.mk (fun _ => ?_) (fun h => absurd rfl (of_decide_eq_false h))))
    | ((refine And.intro (show _ ≤ _ from Nat.le_of_ble_eq_true rfl) ?_))
    | (refine Br.tt ?_)
    | (refine Br.ff ?_)
    | (refine Br.dec (fun h => ?_) (fun h => ?_)) <;> try (exfalso; omega)
    | (refine Br.neg ?_)
    | (refine Br.mk (fun h => ?_) (fun h => ?_))
    | (refine And.intro rfl ?_)
    | (refine And.intro (by omega) ?_)
    | (refine ⟨_, Or.inl ⟨⟨by omega, by omega⟩, rfl⟩, ?_⟩)
    | (refine And.intro (by simp only [lens_all, zs_len]; first | done | omega) ?_)
    | (refine And.intro (Nat.le_refl _) ?_)
    | fail
  all_goals exact rfl

def ir_fretworklaw02_RingIs : IR :=
(.seq (.reg (⟨(some 6), .mv (.c (.bool false)), none⟩ :: [])) (.seq (.reg (⟨(some 12), .mv (.t 0), none⟩ ::⟨(some 13), .call (.c (.fn 18 [])) [(.t 12)], none⟩ ::⟨(some 11), .mv (.t 13), none⟩ ::⟨(some 14), .ex 0 (.t 11), none⟩ ::⟨(some 15), .ex 1 (.t 11), none⟩ ::⟨(some 7), .mv (.t 14), none⟩ ::⟨(some 8), .mv (.t 15), none⟩ :: [])) (.seq (.reg (⟨(some 17), .mv (.t 0), none⟩ ::⟨(some 18), .call (.c (.fn 19 [])) [(.t 17)], none⟩ ::⟨(some 16), .mv (.t 18), none⟩ ::⟨(some 19), .ex 0 (.t 16), none⟩ ::⟨(some 20), .ex 1 (.t 16), none⟩ ::⟨(some 9), .mv (.t 19), none⟩ ::⟨(some 10), .mv (.t 20), none⟩ :: [])) (.seq (.reg (⟨(some 21), .call (.c (.fn 13 [])) [], none⟩ ::⟨(some 22), .mv (.t 21), none⟩ ::⟨(some 23), .mv (.t 0), some (22, true)⟩ ::⟨(some 24), .call (.c (.fn 20 [])) [(.t 23)], some (22, true)⟩ ::⟨(some 25), .mv (.t 0), some (22, true)⟩ ::⟨(some 26), .call (.c (.fn 21 [])) [(.t 25)], some (22, true)⟩ ::⟨(some 27), .beq false (.t 24) (.t 26), some (22, true)⟩ ::⟨(some 28), .pick (.t 22) (.t 27) (.c (.bool false)), none⟩ ::⟨(some 29), .mv (.t 28), none⟩ ::⟨(some 30), .mv (.t 0), some (29, true)⟩ ::⟨(some 31), .mv (.t 1), some (29, true)⟩ ::⟨(some 32), .call (.c (.fn 22 [])) [(.t 30), (.t 31)], some (29, true)⟩ ::⟨(some 33), .mv (.t 0), some (29, true)⟩ ::⟨(some 34), .mv (.t 1), some (29, true)⟩ ::⟨(some 35), .call (.c (.fn 23 [])) [(.t 33), (.t 34)], some (29, true)⟩ ::⟨(some 36), .beq false (.t 32) (.t 35), some (29, true)⟩ ::⟨(some 37), .pick (.t 29) (.t 36) (.c (.bool false)), none⟩ ::⟨(some 38), .mv (.t 37), none⟩ ::⟨(some 39), .mv (.t 0), some (38, true)⟩ ::⟨(some 40), .mv (.t 1), some (38, true)⟩ ::⟨(some 41), .call (.c (.fn 24 [])) [(.t 39), (.t 40)], some (38, true)⟩ ::⟨(some 42), .mv (.t 0), some (38, true)⟩ ::⟨(some 43), .mv (.t 1), some (38, true)⟩ ::⟨(some 44), .call (.c (.fn 25 [])) [(.t 42), (.t 43)], some (38, true)⟩ ::⟨(some 45), .beq false (.t 41) (.t 44), some (38, true)⟩ ::⟨(some 46), .pick (.t 38) (.t 45) (.c (.bool false)), none⟩ ::⟨(some 47), .mv (.t 46), none⟩ ::⟨(some 48), .mv (.t 0), some (47, true)⟩ ::⟨(some 49), .call (.c (.fn 26 [])) [(.t 48)], some (47, true)⟩ ::⟨(some 50), .mv (.t 0), some (47, true)⟩ ::⟨(some 51), .call (.c (.fn 27 [])) [(.t 50)], some (47, true)⟩ ::⟨(some 52), .bin .eql (.t 49) (.t 51), some (47, true)⟩ ::⟨(some 53), .pick (.t 47) (.t 52) (.c (.bool false)), none⟩ ::⟨(some 54), .mv (.t 53), none⟩ ::⟨(some 55), .mv (.t 7), some (54, true)⟩ ::⟨(some 56), .mv (.t 9), some (54, true)⟩ ::⟨(some 57), .bin .eql (.t 55) (.t 56), some (54, true)⟩ ::⟨(some 58), .pick (.t 54) (.t 57) (.c (.bool false)), none⟩ ::⟨(some 59), .mv (.t 58), none⟩ ::⟨(some 60), .mv (.t 8), some (59, true)⟩ ::⟨(some 61), .mv (.t 10), some (59, true)⟩ ::⟨(some 62), .beq false (.t 60) (.t 61), some (59, true)⟩ ::⟨(some 63), .pick (.t 59) (.t 62) (.c (.bool false)), none⟩ ::⟨(some 64), .mv (.t 63), none⟩ ::⟨(some 65), .mv (.t 0), some (64, true)⟩ ::⟨(some 66), .call (.c (.fn 28 [])) [(.t 65)], some (64, true)⟩ ::⟨(some 67), .mv (.t 0), some (64, true)⟩ ::⟨(some 68), .call (.c (.fn 29 [])) [(.t 67)], some (64, true)⟩ ::⟨(some 69), .seq false (.t 66) (.t 68), some (64, true)⟩ ::⟨(some 70), .pick (.t 64) (.t 69) (.c (.bool false)), none⟩ ::⟨(some 71), .mv (.t 70), none⟩ ::⟨(some 72), .mv (.t 2), some (71, true)⟩ ::⟨(some 73), .call (.c (.fn 30 [])) [(.t 72)], some (71, true)⟩ ::⟨(some 74), .mv (.t 2), some (71, true)⟩ ::⟨(some 75), .call (.c (.fn 31 [])) [(.t 74)], some (71, true)⟩ ::⟨(some 76), .bin .eql (.t 73) (.t 75), some (71, true)⟩ ::⟨(some 77), .pick (.t 71) (.t 76) (.c (.bool false)), none⟩ ::⟨(some 78), .mv (.t 77), none⟩ ::⟨(some 79), .mv (.t 0), some (78, true)⟩ ::⟨(some 80), .call (.c (.fn 20 [])) [(.t 79)], some (78, true)⟩ ::⟨(some 81), .un .not (.t 80), some (78, true)⟩ ::⟨(some 82), .mv (.t 81), some (78, true)⟩ ::⟨(some 83), .mv (.t 0), some (82, false)⟩ ::⟨(some 84), .call (.c (.fn 28 [])) [(.t 83)], some (82, false)⟩ ::⟨(some 85), .call (.c (.fn 30 [])) [(.t 84)], some (82, false)⟩ ::⟨(some 86), .mv (.t 0), some (82, false)⟩ ::⟨(some 87), .bin .eql (.t 85) (.t 86), some (82, false)⟩ ::⟨(some 88), .pick (.t 82) (.c (.bool true)) (.t 87), some (78, true)⟩ ::⟨(some 89), .pick (.t 78) (.t 88) (.c (.bool false)), none⟩ ::⟨(some 6), .mv (.t 89), none⟩ :: [])) .ret))))
theorem cd_fretworklaw02_RingIs : Code1 Tryd.prog 5 90 ir_fretworklaw02_RingIs [.t 6] := ⟨Tryd.call5, _, _, Tryd.func5, rfl, by kernel_rfl, by kernel_rfl, by kernel_rfl, by kernel_rfl⟩

set_option maxHeartbeats 8000000 in
theorem fs_RingIs (r v : Int) (s : List UInt8) (hv : I64 v) : FS Tryd.prog 5 [.int .i64 r, .int .i64 v, .str s] (.bool true) := by
  refine fs_of_cvc mixed cd_fretworklaw02_RingIs (by simp) ?_
  have c1 := fs_rOne r
  have c2 := fs_r2One r
  have c3 := fs_Is r
  have c4 := fs_r2Is r
  have c5 := fs_rRight r v hv
  have c6 := fs_r2Right r v
  have c7 := fs_rFactor r v hv
  have c8 := fs_r2Factor r v
  have c9 := fs_rZero r
  have d1 := fs_r2Zero r
  have d2 := fs_rName r
  have d3 := fs_r2Name r
  have d4 := fs_rParse s
  have d5 := fs_r2Parse s
  have d6 := fs_rParse (nmL r)
  have hp : isR r = true → parL (nmL r) = r := fun h => by
    have : r = 1 ∨ r = 2 ∨ r = 3 ∨ r = 4 ∨ r = 5 := by
      unfold isR at h
      rw [Bool.and_eq_true, decide_eq_true_eq, decide_eq_true_eq] at h
      omega
    rcases this with rfl | rfl | rfl | rfl | rfl <;> decide
  generalize rightR r v = b1 at *
  generalize factR r v = b2 at *
  obtain ⟨o, ho⟩ : ∃ o, oneR r = o := ⟨_, rfl⟩
  rw [ho] at c1 c2
  obtain ⟨o1, o2⟩ := o
  simp only at c1 c2
  generalize rZero r = z at *
  generalize nmL r = nm at *
  generalize parL s = p at *
  cases hr : isR r with
  | true =>
    rw [hr] at c3 c4
    rw [hp hr] at d6
    repeat' (conv => whnf); first
      | ((refine Or.inl ⟨by rfl, _, c1, ?_⟩))
      | ((refine Or.inl ⟨by rfl, _, c2, ?_⟩))
      | ((refine Or.inl ⟨by rfl, _, c3, ?_⟩))
      | ((refine Or.inl ⟨by rfl, _, c4, ?_⟩))
      | ((refine Or.inl ⟨by rfl, _, c5, ?_⟩))
      | ((refine Or.inl ⟨by rfl, _, c6, ?_⟩))
      | ((refine Or.inl ⟨by rfl, _, c7, ?_⟩))
      | ((refine Or.inl ⟨by rfl, _, c8, ?_⟩))
      | ((refine Or.inl ⟨by rfl, _, c9, ?_⟩))
      | ((refine Or.inl ⟨by rfl, _, d1, ?_⟩))
      | ((refine Or.inl ⟨by rfl, _, d2, ?_⟩))
      | ((refine Or.inl ⟨by rfl, _, d3, ?_⟩))
      | ((refine Or.inl ⟨by rfl, _, d4, ?_⟩))
      | ((refine Or.inl ⟨by rfl, _, d5, ?_⟩))
      | ((refine Or.inl ⟨by rfl, _, d6, ?_⟩))
      | ((refine Or.inl ⟨by rfl, _, fs_live2, ?_⟩))
      | ((refine Br.beq (by rfl) ?_))
      | ((refine Br.bne (by rfl) ?_))
      | ((refine Br.mk (fun _ => ?_) (fun h => absurd rfl (of_decide_eq_false h))))
      | ((refine And.intro (show _ ≤ _ from Nat.le_of_ble_eq_true rfl) ?_))
      | (refine Br.tt ?_)
      | (refine Br.ff ?_)
      | (refine Br.dec (fun h => ?_) (fun h => ?_)) <;> try (exfalso; omega)
      | (refine Br.neg ?_)
      | (refine Br.mk (fun h => ?_) (fun h => ?_))
      | (refine And.intro rfl ?_)
      | (refine And.intro (by omega) ?_)
      | (refine ⟨_, Or.inl ⟨⟨by omega, by omega⟩, rfl⟩, ?_⟩)
      | (refine And.intro (by simp only [lens_all, zs_len]; first | done | omega) ?_)
      | (refine And.intro (Nat.le_refl _) ?_)
      | fail
    all_goals first | exact rfl | (show SV.bool _ = SV.bool true; simp)
  | false =>
    rw [hr] at c3 c4
    repeat' (conv => whnf); first
      | ((refine Or.inl ⟨by rfl, _, c1, ?_⟩))
      | ((refine Or.inl ⟨by rfl, _, c2, ?_⟩))
      | ((refine Or.inl ⟨by rfl, _, c3, ?_⟩))
      | ((refine Or.inl ⟨by rfl, _, c4, ?_⟩))
      | ((refine Or.inl ⟨by rfl, _, c5, ?_⟩))
      | ((refine Or.inl ⟨by rfl, _, c6, ?_⟩))
      | ((refine Or.inl ⟨by rfl, _, c7, ?_⟩))
      | ((refine Or.inl ⟨by rfl, _, c8, ?_⟩))
      | ((refine Or.inl ⟨by rfl, _, c9, ?_⟩))
      | ((refine Or.inl ⟨by rfl, _, d1, ?_⟩))
      | ((refine Or.inl ⟨by rfl, _, d2, ?_⟩))
      | ((refine Or.inl ⟨by rfl, _, d3, ?_⟩))
      | ((refine Or.inl ⟨by rfl, _, d4, ?_⟩))
      | ((refine Or.inl ⟨by rfl, _, d5, ?_⟩))
      | ((refine Or.inl ⟨by rfl, _, d6, ?_⟩))
      | ((refine Or.inl ⟨by rfl, _, fs_live2, ?_⟩))
      | ((refine Br.beq (by rfl) ?_))
      | ((refine Br.bne (by rfl) ?_))
      | ((refine Br.mk (fun _ => ?_) (fun h => absurd rfl (of_decide_eq_false h))))
      | ((refine And.intro (show _ ≤ _ from Nat.le_of_ble_eq_true rfl) ?_))
      | (refine Br.tt ?_)
      | (refine Br.ff ?_)
      | (refine Br.dec (fun h => ?_) (fun h => ?_)) <;> try (exfalso; omega)
      | (refine Br.neg ?_)
      | (refine Br.mk (fun h => ?_) (fun h => ?_))
      | (refine And.intro rfl ?_)
      | (refine And.intro (by omega) ?_)
      | (refine ⟨_, Or.inl ⟨⟨by omega, by omega⟩, rfl⟩, ?_⟩)
      | (refine And.intro (by simp only [lens_all, zs_len]; first | done | omega) ?_)
      | (refine And.intro (Nat.le_refl _) ?_)
      | fail
    all_goals first | exact rfl | (show SV.bool _ = SV.bool true; simp)

def ir_fretworklaw02_RingDoes : IR :=
(.seq (.reg (⟨(some 4), .bx (.t 1), none⟩ ::⟨(some 5), .bx (.t 2), none⟩ ::⟨(some 6), .mv (.c (.bool false)), none⟩ :: [])) (.seq (.reg (⟨(some 12), .mv (.t 0), none⟩ ::⟨(some 13), .iaA 2 2 (.t 4) (.c (.int .i64 0)), none⟩ ::⟨(some 14), .ld 2 true (.t 13), none⟩ ::⟨(some 15), .call (.c (.fn 14 [])) [(.t 12), (.t 14)], none⟩ ::⟨(some 11), .mv (.t 15), none⟩ ::⟨(some 16), .ex 0 (.t 11), none⟩ ::⟨(some 17), .ex 1 (.t 11), none⟩ ::⟨(some 7), .mv (.t 16), none⟩ ::⟨(some 8), .mv (.t 17), none⟩ :: [])) (.seq (.reg (⟨(some 19), .iaA 2 2 (.t 4) (.c (.int .i64 0)), none⟩ ::⟨(some 20), .ld 2 true (.t 19), none⟩ ::⟨(some 21), .call (.c (.fn 15 [])) [(.t 20)], none⟩ ::⟨(some 18), .mv (.t 21), none⟩ ::⟨(some 22), .ex 0 (.t 18), none⟩ ::⟨(some 23), .ex 1 (.t 18), none⟩ ::⟨(some 9), .mv (.t 22), none⟩ ::⟨(some 10), .mv (.t 23), none⟩ :: [])) (.seq (.draw (⟨(some 24), .call (.c (.fn 13 [])) [], none⟩ ::⟨(some 25), .mv (.t 24), none⟩ ::⟨(some 26), .mv (.t 0), some (25, true)⟩ ::⟨(some 27), .iaA 2 2 (.t 4) (.c (.int .i64 0)), some (25, true)⟩ ::⟨(some 28), .ld 2 true (.t 27), some (25, true)⟩ ::⟨(some 29), .iaA 2 2 (.t 4) (.c (.int .i64 1)), some (25, true)⟩ ::⟨(some 30), .ld 2 true (.t 29), some (25, true)⟩ ::⟨(some 31), .call (.c (.fn 8 [])) [(.t 26), (.t 28), (.t 30)], some (25, true)⟩ ::⟨(some 32), .mv (.t 0), some (25, true)⟩ ::⟨(some 33), .iaA 2 2 (.t 4) (.c (.int .i64 0)), some (25, true)⟩ ::⟨(some 34), .ld 2 true (.t 33), some (25, true)⟩ ::⟨(some 35), .iaA 2 2 (.t 4) (.c (.int .i64 1)), some (25, true)⟩ ::⟨(some 36), .ld 2 true (.t 35), some (25, true)⟩ ::⟨(some 37), .call (.c (.fn 16 [])) [(.t 32), (.t 34), (.t 36)], some (25, true)⟩ ::⟨(some 38), .eqv false 25 (.t 31) (.t 37), some (25, true)⟩ ::⟨(some 39), .pick (.t 25) (.t 38) (.c (.bool false)), none⟩ ::⟨(some 40), .mv (.t 39), none⟩ ::⟨(some 41), .mv (.t 0), some (40, true)⟩ ::⟨(some 42), .iaA 2 1 (.t 5) (.c (.int .i64 0)), some (40, true)⟩ ::⟨(some 43), .ld 1 false (.t 42), some (40, true)⟩ ::⟨(some 44), .iaA 2 1 (.t 5) (.c (.int .i64 1)), some (40, true)⟩ ::⟨(some 45), .ld 1 false (.t 44), some (40, true)⟩ ::⟨(some 46), .call (.c (.fn 9 [])) [(.t 41), (.t 43), (.t 45)], some (40, true)⟩ ::⟨(some 47), .mv (.t 0), some (40, true)⟩ ::⟨(some 48), .iaA 2 1 (.t 5) (.c (.int .i64 0)), some (40, true)⟩ ::⟨(some 49), .ld 1 false (.t 48), some (40, true)⟩ ::⟨(some 50), .iaA 2 1 (.t 5) (.c (.int .i64 1)), some (40, true)⟩ ::⟨(some 51), .ld 1 false (.t 50), some (40, true)⟩ ::⟨(some 52), .call (.c (.fn 17 [])) [(.t 47), (.t 49), (.t 51)], some (40, true)⟩ ::⟨(some 53), .eqv false 25 (.t 46) (.t 52), some (40, true)⟩ ::⟨(some 54), .pick (.t 40) (.t 53) (.c (.bool false)), none⟩ ::⟨(some 55), .mv (.t 54), none⟩ ::⟨(some 56), .mv (.t 7), some (55, true)⟩ ::⟨(some 57), .mv (.t 9), some (55, true)⟩ ::⟨(some 58), .bin .eql (.t 56) (.t 57), some (55, true)⟩ ::⟨(some 59), .pick (.t 55) (.t 58) (.c (.bool false)), none⟩ ::⟨(some 60), .mv (.t 59), none⟩ ::⟨(some 61), .mv (.t 8), some (60, true)⟩ ::⟨(some 62), .mv (.t 10), some (60, true)⟩ :: []) (⟨(some 63), .beq false (.t 61) (.t 62), some (60, true)⟩ ::⟨(some 64), .pick (.t 60) (.t 63) (.c (.bool false)), none⟩ ::⟨(some 6), .mv (.t 64), none⟩ :: [])) .ret))))
theorem cd_fretworklaw02_RingDoes : Code1 Tryd.prog 4 65 ir_fretworklaw02_RingDoes [.t 6] := ⟨Tryd.call4, _, _, Tryd.func4, rfl, by kernel_rfl, by kernel_rfl, by kernel_rfl, by kernel_rfl⟩

set_option maxHeartbeats 8000000 in
theorem fs_RingDoes (r x y a b : Int) (hx : W128 x) (hy : W128 y) (ha : I64 a) (hb : I64 b) : FS Tryd.prog 4 [.int .i64 r, .agg [.int .i64 (hi x), .int .u64 (lo x), .int .i64 (hi y), .int .u64 (lo y)], .agg [.int .i64 a, .int .i64 b]] (.bool true) := by
  refine fs_of_cvc mixed cd_fretworklaw02_RingDoes (by simp) ?_
  have c1 := fs_rNarrow r x hx
  have c2 := fs_r1Narrow x hx
  have c3 := fs_rAdd r x y hx hy
  have c4 := fs_r2Add r x y hx hy
  have c5 := fs_rMul r a b ha hb
  have c6 := fs_r2Mul r a b ha hb
  have w1 := rAdd_w (r := r) hx hy
  have w2 := rMul_w (r := r) ha hb
  generalize rAdd r x y = S at *
  generalize rMul r a b = M at *
  generalize nar x = q at *
  generalize fits x = t at *
  have e1 := eqT w1
  have e2 := eqT w2
  repeat' (conv => whnf); first
    | ((refine Or.inl ⟨by rfl, _, c1, ?_⟩))
    | ((refine Or.inl ⟨by rfl, _, c2, ?_⟩))
    | ((refine Or.inl ⟨by rfl, _, c3, ?_⟩))
    | ((refine Or.inl ⟨by rfl, _, c4, ?_⟩))
    | ((refine Or.inl ⟨by rfl, _, c5, ?_⟩))
    | ((refine Or.inl ⟨by rfl, _, c6, ?_⟩))
    | ((refine Or.inl ⟨by rfl, _, fs_live2, ?_⟩))
    | ((refine ⟨_, e1, ?_⟩))
    | ((refine ⟨_, e2, ?_⟩))
    | ((refine Br.beq (by rfl) ?_))
    | ((refine Br.bne (by rfl) ?_))
    | ((refine Br.mk (fun _ => ?_) (fun h => absurd rfl (of_decide_eq_false h))))
    | ((refine And.intro (show _ ≤ _ from Nat.le_of_ble_eq_true rfl) ?_))
    | (refine Br.tt ?_)
    | (refine Br.ff ?_)
    | (refine Br.dec (fun h => ?_) (fun h => ?_)) <;> try (exfalso; omega)
    | (refine Br.neg ?_)
    | (refine Br.mk (fun h => ?_) (fun h => ?_))
    | (refine And.intro rfl ?_)
    | (refine And.intro (by omega) ?_)
    | (refine ⟨_, Or.inl ⟨⟨by omega, by omega⟩, rfl⟩, ?_⟩)
    | (refine And.intro (by simp only [lens_all, zs_len]; first | done | omega) ?_)
    | (refine And.intro (Nat.le_refl _) ?_)
    | fail
  all_goals first | exact rfl | (show SV.bool _ = SV.bool true; simp)
end
section
open Go.RowKit
attribute [local irreducible] FS FO IT HS

def ir_fretworklaw02_RingSums : IR :=
(.seq (.reg (⟨(some 3), .bx (.t 1), none⟩ ::⟨(some 4), .mv (.c (.bool false)), none⟩ :: [])) (.seq (.seq (.reg (⟨(some 12), .mv (.t 0), none⟩ ::⟨(some 13), .call (.c (.fn 21 [])) [(.t 12)], none⟩ ::⟨(some 14), .un .not (.t 13), none⟩ :: [])) (.cond (.t 14) (.seq (.reg (⟨(some 15), .call (.c (.fn 13 [])) [], none⟩ ::⟨(some 4), .mv (.t 15), none⟩ :: [])) .ret) .skip)) (.seq (.draw (⟨(some 16), .mv (.t 0), none⟩ ::⟨(some 17), .iaA 3 1 (.t 3) (.c (.int .i64 0)), none⟩ ::⟨(some 18), .ld 1 false (.t 17), none⟩ ::⟨(some 19), .call (.c (.fn 33 [])) [(.t 16), (.t 18)], none⟩ ::⟨(some 20), .call (.c (.fn 32 [])) [(.t 19)], none⟩ ::⟨(some 21), .mv (.t 0), none⟩ ::⟨(some 22), .iaA 3 1 (.t 3) (.c (.int .i64 1)), none⟩ ::⟨(some 23), .ld 1 false (.t 22), none⟩ ::⟨(some 24), .call (.c (.fn 33 [])) [(.t 21), (.t 23)], none⟩ ::⟨(some 25), .call (.c (.fn 32 [])) [(.t 24)], none⟩ ::⟨(some 26), .mv (.t 0), none⟩ ::⟨(some 27), .iaA 3 1 (.t 3) (.c (.int .i64 2)), none⟩ ::⟨(some 28), .ld 1 false (.t 27), none⟩ ::⟨(some 29), .call (.c (.fn 33 [])) [(.t 26), (.t 28)], none⟩ ::⟨(some 30), .call (.c (.fn 32 [])) [(.t 29)], none⟩ ::⟨(some 5), .al [.int .i64 0, .int .u64 0], none⟩ ::⟨(some 6), .al [.int .i64 0, .int .u64 0], none⟩ ::⟨(some 7), .al [.int .i64 0, .int .u64 0], none⟩ :: []) (⟨none, .st 2 (.t 5) (.t 20), none⟩ ::⟨none, .st 2 (.t 6) (.t 25), none⟩ ::⟨none, .st 2 (.t 7) (.t 30), none⟩ :: [])) (.seq (.reg (⟨(some 31), .mv (.t 0), none⟩ ::⟨(some 32), .call (.c (.fn 26 [])) [(.t 31)], none⟩ ::⟨(some 33), .call (.c (.fn 32 [])) [(.t 32)], none⟩ ::⟨(some 8), .al [.int .i64 0, .int .u64 0], none⟩ ::⟨none, .st 2 (.t 8) (.t 33), none⟩ :: [])) (.seq (.reg (⟨(some 34), .mv (.t 0), none⟩ ::⟨(some 35), .ld 2 true (.t 5), none⟩ ::⟨(some 36), .ld 2 true (.t 6), none⟩ ::⟨(some 37), .call (.c (.fn 8 [])) [(.t 34), (.t 35), (.t 36)], none⟩ ::⟨(some 9), .al [.int .i64 0, .int .u64 0], none⟩ ::⟨none, .st 2 (.t 9) (.t 37), none⟩ :: [])) (.seq (.reg (⟨(some 39), .mv (.t 0), none⟩ ::⟨(some 40), .ld 2 true (.t 9), none⟩ ::⟨(some 41), .call (.c (.fn 14 [])) [(.t 39), (.t 40)], none⟩ ::⟨(some 38), .mv (.t 41), none⟩ ::⟨(some 42), .ex 0 (.t 38), none⟩ ::⟨(some 43), .ex 1 (.t 38), none⟩ ::⟨(some 10), .mv (.t 42), none⟩ ::⟨(some 11), .mv (.t 43), none⟩ :: [])) (.seq (.draw (⟨(some 44), .call (.c (.fn 13 [])) [], none⟩ ::⟨(some 45), .mv (.t 44), none⟩ ::⟨(some 46), .ld 2 true (.t 9), some (45, true)⟩ ::⟨(some 47), .mv (.t 0), some (45, true)⟩ ::⟨(some 48), .ld 2 true (.t 6), some (45, true)⟩ ::⟨(some 49), .ld 2 true (.t 5), some (45, true)⟩ ::⟨(some 50), .call (.c (.fn 8 [])) [(.t 47), (.t 48), (.t 49)], some (45, true)⟩ ::⟨(some 51), .eqv false 25 (.t 46) (.t 50), some (45, true)⟩ ::⟨(some 52), .pick (.t 45) (.t 51) (.c (.bool false)), none⟩ ::⟨(some 53), .mv (.t 52), none⟩ ::⟨(some 54), .mv (.t 0), some (53, true)⟩ ::⟨(some 55), .ld 2 true (.t 9), some (53, true)⟩ ::⟨(some 56), .ld 2 true (.t 7), some (53, true)⟩ ::⟨(some 57), .call (.c (.fn 8 [])) [(.t 54), (.t 55), (.t 56)], some (53, true)⟩ ::⟨(some 58), .mv (.t 0), some (53, true)⟩ ::⟨(some 59), .ld 2 true (.t 5), some (53, true)⟩ ::⟨(some 60), .mv (.t 0), some (53, true)⟩ ::⟨(some 61), .ld 2 true (.t 6), some (53, true)⟩ ::⟨(some 62), .ld 2 true (.t 7), some (53, true)⟩ ::⟨(some 63), .call (.c (.fn 8 [])) [(.t 60), (.t 61), (.t 62)], some (53, true)⟩ ::⟨(some 64), .call (.c (.fn 8 [])) [(.t 58), (.t 59), (.t 63)], some (53, true)⟩ ::⟨(some 65), .eqv false 25 (.t 57) (.t 64), some (53, true)⟩ ::⟨(some 66), .pick (.t 53) (.t 65) (.c (.bool false)), none⟩ ::⟨(some 67), .mv (.t 66), none⟩ ::⟨(some 68), .mv (.t 0), some (67, true)⟩ ::⟨(some 69), .ld 2 true (.t 5), some (67, true)⟩ ::⟨(some 70), .ld 2 true (.t 8), some (67, true)⟩ ::⟨(some 71), .call (.c (.fn 8 [])) [(.t 68), (.t 69), (.t 70)], some (67, true)⟩ ::⟨(some 72), .ld 2 true (.t 5), some (67, true)⟩ ::⟨(some 73), .eqv false 25 (.t 71) (.t 72), some (67, true)⟩ ::⟨(some 74), .pick (.t 67) (.t 73) (.c (.bool false)), none⟩ ::⟨(some 75), .mv (.t 74), none⟩ ::⟨(some 76), .mv (.t 0), some (75, true)⟩ ::⟨(some 77), .bin .eql (.t 76) (.c (.int .i64 5)), some (75, true)⟩ ::⟨(some 78), .mv (.t 77), some (75, true)⟩ ::⟨(some 79), .mv (.t 11), some (78, false)⟩ ::⟨(some 80), .mv (.t 79), some (78, false)⟩ ::⟨(some 81), .mv (.t 0), some (80, true)⟩ ::⟨(some 82), .mv (.t 10), some (80, true)⟩ ::⟨(some 83), .call (.c (.fn 22 [])) [(.t 81), (.t 82)], some (80, true)⟩ ::⟨(some 84), .pick (.t 80) (.t 83) (.c (.bool false)), some (78, false)⟩ ::⟨(some 85), .mv (.t 84), some (78, false)⟩ ::⟨(some 86), .mv (.t 0), some (85, true)⟩ ::⟨(some 87), .ld 2 true (.t 5), some (85, true)⟩ ::⟨(some 88), .ld 2 true (.t 5), some (85, true)⟩ ::⟨(some 89), .call (.c (.fn 8 [])) [(.t 86), (.t 87), (.t 88)], some (85, true)⟩ ::⟨(some 90), .ld 2 true (.t 5), some (85, true)⟩ :: []) (⟨(some 91), .eqv false 25 (.t 89) (.t 90), some (85, true)⟩ ::⟨(some 92), .pick (.t 85) (.t 91) (.c (.bool false)), some (78, false)⟩ ::⟨(some 93), .pick (.t 78) (.c (.bool true)) (.t 92), some (75, true)⟩ ::⟨(some 94), .pick (.t 75) (.t 93) (.c (.bool false)), none⟩ ::⟨(some 4), .mv (.t 94), none⟩ :: [])) .ret)))))))
theorem cd_fretworklaw02_RingSums : Code1 Tryd.prog 6 95 ir_fretworklaw02_RingSums [.t 4] := ⟨Tryd.call6, _, _, Tryd.func6, rfl, by kernel_rfl, by kernel_rfl, by kernel_rfl, by kernel_rfl⟩

set_option maxHeartbeats 16000000 in
theorem fs_RingSums (r a b c : Int) (ha : I64 a) (hb : I64 b) (hc : I64 c) : FS Tryd.prog 6 [.int .i64 r, .agg [.int .i64 a, .int .i64 b, .int .i64 c]] (.bool true) := by
  refine fs_of_cvc mixed cd_fretworklaw02_RingSums (by simp) ?_
  have c1 := fs_r2Is r
  cases hr : isR r with
  | false =>
    rw [hr] at c1
    repeat' (conv => whnf); first
      | ((refine Or.inl ⟨by rfl, _, c1, ?_⟩))
      | ((refine Or.inl ⟨by rfl, _, fs_live2, ?_⟩))
      | ((refine Br.beq (by rfl) ?_))
      | ((refine Br.bne (by rfl) ?_))
      | ((refine And.intro (show _ ≤ _ from Nat.le_of_ble_eq_true rfl) ?_))
      | (refine Br.tt ?_)
      | (refine Br.ff ?_)
      | (refine Br.dec (fun h => ?_) (fun h => ?_)) <;> try (exfalso; omega)
      | (refine Br.neg ?_)
      | (refine Br.mk (fun h => ?_) (fun h => ?_))
      | (refine And.intro rfl ?_)
      | (refine And.intro (by omega) ?_)
      | (refine ⟨_, Or.inl ⟨⟨by omega, by omega⟩, rfl⟩, ?_⟩)
      | (refine And.intro (by simp only [lens_all, zs_len]; first | done | omega) ?_)
      | (refine And.intro (Nat.le_refl _) ?_)
      | fail
    all_goals exact rfl
  | true =>
    rw [hr] at c1
    have va := fs_Value r a
    have vb := fs_Value r b
    have vc := fs_Value r c
    have hA := valR_V hr ha
    have hB := valR_V hr hb
    have hC := valR_V hr hc
    generalize valR r a = A at *
    generalize valR r b = B at *
    generalize valR r c = C at *
    have oa := fs_r1Of A hA.i64
    have ob := fs_r1Of B hB.i64
    have oc := fs_r1Of C hC.i64
    have z0 := fs_rZero r
    have oz := fs_r1Of (rZero r) (zero_i r)
    have wz := W64i (zero_i r)
    have hS := add_sr hA.sr hB.sr
    have c2 := fs_rAdd r A B hA.sr.w hB.sr.w
    have c3 := fs_rAdd r B A hB.sr.w hA.sr.w
    rw [rAdd_comm r B A] at c3
    have c5 := fs_rAdd r B C hB.sr.w hC.sr.w
    have hU := add_sr hB.sr hC.sr
    have c4 := fs_rAdd r (rAdd r A B) C hS.w hC.sr.w
    have hT := add_sr hS hC.sr
    have c6 := fs_rAdd r A (rAdd r B C) hA.sr.w hU.w
    rw [← rAdd_assoc hr] at c6
    have c7 := fs_rAdd r A (rZero r) hA.sr.w wz
    rw [(add_zero hA.sr).1] at c7
    have c8 := fs_rAdd r A A hA.sr.w hA.sr.w
    generalize rAdd r B C = U at *
    generalize rAdd r (rAdd r A B) C = T at *
    generalize rAdd r A B = S at *
    generalize rZero r = Zr at *
    have n1 := fs_rNarrow r S hS.w
    have e1 := eqT hS.w
    have e2 := eqT hT.w
    have e3 := eqT hA.sr.w
    by_cases h5 : r = 5
    · clear c8
      repeat' (conv => whnf); first
        | ((refine Or.inl ⟨by rfl, _, c1, ?_⟩))
        | ((refine Or.inl ⟨by rfl, _, va, ?_⟩))
        | ((refine Or.inl ⟨by rfl, _, vb, ?_⟩))
        | ((refine Or.inl ⟨by rfl, _, vc, ?_⟩))
        | ((refine Or.inl ⟨by rfl, _, oa, ?_⟩))
        | ((refine Or.inl ⟨by rfl, _, ob, ?_⟩))
        | ((refine Or.inl ⟨by rfl, _, oc, ?_⟩))
        | ((refine Or.inl ⟨by rfl, _, z0, ?_⟩))
        | ((refine Or.inl ⟨by rfl, _, oz, ?_⟩))
        | ((refine Or.inl ⟨by rfl, _, c2, ?_⟩))
        | ((refine Or.inl ⟨by rfl, _, c3, ?_⟩))
        | ((refine Or.inl ⟨by rfl, _, c4, ?_⟩))
        | ((refine Or.inl ⟨by rfl, _, c5, ?_⟩))
        | ((refine Or.inl ⟨by rfl, _, c6, ?_⟩))
        | ((refine Or.inl ⟨by rfl, _, c7, ?_⟩))
        | ((refine Or.inl ⟨by rfl, _, n1, ?_⟩))
        | ((refine Or.inl ⟨by rfl, _, fs_live2, ?_⟩))
        | ((refine ⟨_, e1, ?_⟩))
        | ((refine ⟨_, e2, ?_⟩))
        | ((refine ⟨_, e3, ?_⟩))
        | ((refine ex_but 2 ?_; refine And.intro ?_ ?_; focus ((repeat' (first | exact trivial | exact rfl | (refine And.intro ?_ ?_) | omega | exact Nat.le_of_ble_eq_true rfl | ((conv => whnf); first | exact trivial | exact rfl | (refine And.intro ?_ ?_)))); done)))
        | ((exact rfl))
        | ((exact trivial))
        | ((refine And.intro ?_ ?_; focus ((repeat' (first | exact trivial | exact rfl | (refine And.intro ?_ ?_) | omega | exact Nat.le_of_ble_eq_true rfl | ((conv => whnf); first | exact trivial | exact rfl | (refine And.intro ?_ ?_)))); done)))
        | ((refine Br.beq (by rfl) ?_))
        | ((refine Br.bne (by rfl) ?_))
        | ((refine And.intro (show _ ≤ _ from Nat.le_of_ble_eq_true rfl) ?_))
        | (refine Br.tt ?_)
        | (refine Br.ff ?_)
        | (refine Br.dec (fun h => ?_) (fun h => ?_)) <;> try (exfalso; omega)
        | (refine Br.neg ?_)
        | (refine Br.mk (fun h => ?_) (fun h => ?_))
        | (refine And.intro rfl ?_)
        | (refine And.intro (by omega) ?_)
        | (refine ⟨_, Or.inl ⟨⟨by omega, by omega⟩, rfl⟩, ?_⟩)
        | (refine And.intro (by simp only [lens_all, zs_len]; first | done | omega) ?_)
        | (refine And.intro (Nat.le_refl _) ?_)
        | fail
      all_goals exact rfl
    · obtain ⟨f1, f2, f3⟩ := hS.fit h5
      rw [f1, f2] at n1
      rw [add_same hA h5] at c8
      have c9 := fs_rRight r S (by have := hS.w; rw [← f2]; unfold nar; split <;> (unfold fits at f1; rw [decide_eq_true_eq] at f1; unfold I64; omega))
      rw [f3] at c9
      repeat' (conv => whnf); first
        | ((refine Or.inl ⟨by rfl, _, c1, ?_⟩))
        | ((refine Or.inl ⟨by rfl, _, va, ?_⟩))
        | ((refine Or.inl ⟨by rfl, _, vb, ?_⟩))
        | ((refine Or.inl ⟨by rfl, _, vc, ?_⟩))
        | ((refine Or.inl ⟨by rfl, _, oa, ?_⟩))
        | ((refine Or.inl ⟨by rfl, _, ob, ?_⟩))
        | ((refine Or.inl ⟨by rfl, _, oc, ?_⟩))
        | ((refine Or.inl ⟨by rfl, _, z0, ?_⟩))
        | ((refine Or.inl ⟨by rfl, _, oz, ?_⟩))
        | ((refine Or.inl ⟨by rfl, _, c2, ?_⟩))
        | ((refine Or.inl ⟨by rfl, _, c3, ?_⟩))
        | ((refine Or.inl ⟨by rfl, _, c4, ?_⟩))
        | ((refine Or.inl ⟨by rfl, _, c5, ?_⟩))
        | ((refine Or.inl ⟨by rfl, _, c6, ?_⟩))
        | ((refine Or.inl ⟨by rfl, _, c7, ?_⟩))
        | ((refine Or.inl ⟨by rfl, _, c8, ?_⟩))
        | ((refine Or.inl ⟨by rfl, _, c9, ?_⟩))
        | ((refine Or.inl ⟨by rfl, _, n1, ?_⟩))
        | ((refine Or.inl ⟨by rfl, _, fs_live2, ?_⟩))
        | ((refine ⟨_, e1, ?_⟩))
        | ((refine ⟨_, e2, ?_⟩))
        | ((refine ⟨_, e3, ?_⟩))
        | ((refine ex_but 2 ?_; refine And.intro ?_ ?_; focus ((repeat' (first | exact trivial | exact rfl | (refine And.intro ?_ ?_) | omega | exact Nat.le_of_ble_eq_true rfl | ((conv => whnf); first | exact trivial | exact rfl | (refine And.intro ?_ ?_)))); done)))
        | ((exact rfl))
        | ((exact trivial))
        | ((refine And.intro ?_ ?_; focus ((repeat' (first | exact trivial | exact rfl | (refine And.intro ?_ ?_) | omega | exact Nat.le_of_ble_eq_true rfl | ((conv => whnf); first | exact trivial | exact rfl | (refine And.intro ?_ ?_)))); done)))
        | ((refine Br.beq (by rfl) ?_))
        | ((refine Br.bne (by rfl) ?_))
        | ((refine And.intro (show _ ≤ _ from Nat.le_of_ble_eq_true rfl) ?_))
        | (refine Br.tt ?_)
        | (refine Br.ff ?_)
        | (refine Br.dec (fun h => ?_) (fun h => ?_)) <;> try (exfalso; omega)
        | (refine Br.neg ?_)
        | (refine Br.mk (fun h => ?_) (fun h => ?_))
        | (refine And.intro rfl ?_)
        | (refine And.intro (by omega) ?_)
        | (refine ⟨_, Or.inl ⟨⟨by omega, by omega⟩, rfl⟩, ?_⟩)
        | (refine And.intro (by simp only [lens_all, zs_len]; first | done | omega) ?_)
        | (refine And.intro (Nat.le_refl _) ?_)
        | fail
      all_goals exact rfl

def ir_fretworklaw02_RingSpreads : IR :=
(.seq (.reg (⟨(some 3), .bx (.t 1), none⟩ ::⟨(some 4), .mv (.c (.bool false)), none⟩ :: [])) (.seq (.seq (.reg (⟨(some 15), .mv (.t 0), none⟩ ::⟨(some 16), .call (.c (.fn 21 [])) [(.t 15)], none⟩ ::⟨(some 17), .un .not (.t 16), none⟩ :: [])) (.cond (.t 17) (.seq (.reg (⟨(some 18), .call (.c (.fn 13 [])) [], none⟩ ::⟨(some 4), .mv (.t 18), none⟩ :: [])) .ret) .skip)) (.seq (.draw (⟨(some 19), .mv (.t 0), none⟩ ::⟨(some 20), .iaA 3 1 (.t 3) (.c (.int .i64 0)), none⟩ ::⟨(some 21), .ld 1 false (.t 20), none⟩ ::⟨(some 22), .call (.c (.fn 10 [])) [(.t 19), (.t 21)], none⟩ ::⟨(some 23), .mv (.t 0), none⟩ ::⟨(some 24), .iaA 3 1 (.t 3) (.c (.int .i64 1)), none⟩ ::⟨(some 25), .ld 1 false (.t 24), none⟩ ::⟨(some 26), .call (.c (.fn 33 [])) [(.t 23), (.t 25)], none⟩ ::⟨(some 27), .mv (.t 0), none⟩ ::⟨(some 28), .iaA 3 1 (.t 3) (.c (.int .i64 2)), none⟩ ::⟨(some 29), .ld 1 false (.t 28), none⟩ :: []) (⟨(some 30), .call (.c (.fn 33 [])) [(.t 27), (.t 29)], none⟩ ::⟨(some 5), .mv (.t 22), none⟩ ::⟨(some 6), .mv (.t 26), none⟩ ::⟨(some 7), .mv (.t 30), none⟩ :: [])) (.seq (.reg (⟨(some 31), .mv (.t 0), none⟩ ::⟨(some 32), .call (.c (.fn 26 [])) [(.t 31)], none⟩ ::⟨(some 33), .call (.c (.fn 32 [])) [(.t 32)], none⟩ ::⟨(some 8), .al [.int .i64 0, .int .u64 0], none⟩ ::⟨none, .st 2 (.t 8) (.t 33), none⟩ :: [])) (.seq (.reg (⟨(some 35), .mv (.t 0), none⟩ ::⟨(some 36), .mv (.t 0), none⟩ ::⟨(some 37), .mv (.t 6), none⟩ ::⟨(some 38), .call (.c (.fn 32 [])) [(.t 37)], none⟩ ::⟨(some 39), .mv (.t 7), none⟩ ::⟨(some 40), .call (.c (.fn 32 [])) [(.t 39)], none⟩ ::⟨(some 41), .call (.c (.fn 8 [])) [(.t 36), (.t 38), (.t 40)], none⟩ ::⟨(some 42), .call (.c (.fn 14 [])) [(.t 35), (.t 41)], none⟩ ::⟨(some 34), .mv (.t 42), none⟩ ::⟨(some 43), .ex 0 (.t 34), none⟩ ::⟨(some 44), .ex 1 (.t 34), none⟩ ::⟨(some 9), .mv (.t 43), none⟩ ::⟨(some 10), .mv (.t 44), none⟩ :: [])) (.seq (.reg (⟨(some 46), .mv (.t 0), none⟩ ::⟨(some 47), .call (.c (.fn 18 [])) [(.t 46)], none⟩ ::⟨(some 45), .mv (.t 47), none⟩ ::⟨(some 48), .ex 0 (.t 45), none⟩ ::⟨(some 49), .ex 1 (.t 45), none⟩ ::⟨(some 11), .mv (.t 48), none⟩ ::⟨(some 12), .mv (.t 49), none⟩ :: [])) (.seq (.reg (⟨(some 51), .mv (.t 0), none⟩ ::⟨(some 52), .mv (.t 0), none⟩ ::⟨(some 53), .mv (.t 5), none⟩ ::⟨(some 54), .mv (.t 6), none⟩ ::⟨(some 55), .call (.c (.fn 9 [])) [(.t 52), (.t 53), (.t 54)], none⟩ ::⟨(some 56), .call (.c (.fn 14 [])) [(.t 51), (.t 55)], none⟩ ::⟨(some 50), .mv (.t 56), none⟩ ::⟨(some 57), .ex 0 (.t 50), none⟩ ::⟨(some 58), .ex 1 (.t 50), none⟩ ::⟨(some 13), .mv (.t 57), none⟩ ::⟨(some 14), .mv (.t 58), none⟩ :: [])) (.seq (.seq (.reg (⟨(some 59), .call (.c (.fn 13 [])) [], none⟩ ::⟨(some 60), .un .not (.t 59), none⟩ ::⟨(some 61), .mv (.t 60), none⟩ ::⟨(some 62), .mv (.t 10), some (61, false)⟩ ::⟨(some 63), .mv (.t 62), some (61, false)⟩ ::⟨(some 64), .mv (.t 0), some (63, true)⟩ ::⟨(some 65), .mv (.t 5), some (63, true)⟩ ::⟨(some 66), .mv (.t 9), some (63, true)⟩ ::⟨(some 67), .call (.c (.fn 9 [])) [(.t 64), (.t 65), (.t 66)], some (63, true)⟩ ::⟨(some 68), .mv (.t 0), some (63, true)⟩ ::⟨(some 69), .mv (.t 0), some (63, true)⟩ ::⟨(some 70), .mv (.t 5), some (63, true)⟩ ::⟨(some 71), .mv (.t 6), some (63, true)⟩ ::⟨(some 72), .call (.c (.fn 9 [])) [(.t 69), (.t 70), (.t 71)], some (63, true)⟩ ::⟨(some 73), .mv (.t 0), some (63, true)⟩ ::⟨(some 74), .mv (.t 5), some (63, true)⟩ ::⟨(some 75), .mv (.t 7), some (63, true)⟩ ::⟨(some 76), .call (.c (.fn 9 [])) [(.t 73), (.t 74), (.t 75)], some (63, true)⟩ ::⟨(some 77), .call (.c (.fn 8 [])) [(.t 68), (.t 72), (.t 76)], some (63, true)⟩ ::⟨(some 78), .eqv true 25 (.t 67) (.t 77), some (63, true)⟩ ::⟨(some 79), .pick (.t 63) (.t 78) (.c (.bool false)), some (61, false)⟩ ::⟨(some 80), .pick (.t 61) (.c (.bool true)) (.t 79), none⟩ ::⟨(some 81), .mv (.t 80), none⟩ ::⟨(some 82), .mv (.t 12), some (81, false)⟩ ::⟨(some 83), .mv (.t 82), some (81, false)⟩ ::⟨(some 84), .mv (.t 0), some (83, true)⟩ ::⟨(some 85), .mv (.t 11), some (83, true)⟩ ::⟨(some 86), .mv (.t 6), some (83, true)⟩ ::⟨(some 87), .call (.c (.fn 9 [])) [(.t 84), (.t 85), (.t 86)], some (83, true)⟩ ::⟨(some 88), .mv (.t 6), some (83, true)⟩ ::⟨(some 89), .call (.c (.fn 32 [])) [(.t 88)], some (83, true)⟩ ::⟨(some 90), .eqv true 25 (.t 87) (.t 89), some (83, true)⟩ ::⟨(some 91), .pick (.t 83) (.t 90) (.c (.bool false)), some (81, false)⟩ ::⟨(some 92), .pick (.t 81) (.c (.bool true)) (.t 91), none⟩ :: [])) (.cond (.t 92) (.seq (.reg (⟨(some 4), .mv (.c (.bool false)), none⟩ :: [])) .ret) .skip)) (.seq (.draw (⟨(some 93), .mv (.t 0), none⟩ ::⟨(some 94), .mv (.t 5), none⟩ ::⟨(some 95), .mv (.t 0), none⟩ ::⟨(some 96), .call (.c (.fn 26 [])) [(.t 95)], none⟩ ::⟨(some 97), .call (.c (.fn 9 [])) [(.t 93), (.t 94), (.t 96)], none⟩ ::⟨(some 98), .ld 2 true (.t 8), none⟩ ::⟨(some 99), .eqv false 25 (.t 97) (.t 98), none⟩ ::⟨(some 100), .mv (.t 99), none⟩ ::⟨(some 101), .mv (.t 0), some (100, true)⟩ ::⟨(some 102), .mv (.t 0), some (100, true)⟩ ::⟨(some 103), .call (.c (.fn 26 [])) [(.t 102)], some (100, true)⟩ ::⟨(some 104), .mv (.t 6), some (100, true)⟩ ::⟨(some 105), .call (.c (.fn 9 [])) [(.t 101), (.t 103), (.t 104)], some (100, true)⟩ ::⟨(some 106), .ld 2 true (.t 8), some (100, true)⟩ ::⟨(some 107), .eqv false 25 (.t 105) (.t 106), some (100, true)⟩ ::⟨(some 108), .pick (.t 100) (.t 107) (.c (.bool false)), none⟩ ::⟨(some 109), .mv (.t 108), none⟩ ::⟨(some 110), .mv (.t 0), some (109, true)⟩ ::⟨(some 111), .bin .eql (.t 110) (.c (.int .i64 5)), some (109, true)⟩ ::⟨(some 112), .mv (.t 111), some (109, true)⟩ ::⟨(some 113), .mv (.t 14), some (112, false)⟩ ::⟨(some 114), .mv (.t 113), some (112, false)⟩ ::⟨(some 115), .mv (.t 0), some (114, true)⟩ ::⟨(some 116), .mv (.t 13), some (114, true)⟩ :: []) (⟨(some 117), .call (.c (.fn 22 [])) [(.t 115), (.t 116)], some (114, true)⟩ ::⟨(some 118), .pick (.t 114) (.t 117) (.c (.bool false)), some (112, false)⟩ ::⟨(some 119), .pick (.t 112) (.c (.bool true)) (.t 118), some (109, true)⟩ ::⟨(some 120), .pick (.t 109) (.t 119) (.c (.bool false)), none⟩ ::⟨(some 4), .mv (.t 120), none⟩ :: [])) .ret)))))))))
theorem cd_fretworklaw02_RingSpreads : Code1 Tryd.prog 7 121 ir_fretworklaw02_RingSpreads [.t 4] := ⟨Tryd.call7, _, _, Tryd.func7, rfl, by kernel_rfl, by kernel_rfl, by kernel_rfl, by kernel_rfl⟩

set_option maxHeartbeats 16000000 in
theorem fs_RingSpreads (r a b c : Int) (ha : I64 a) (hb : I64 b) (hc : I64 c) : FS Tryd.prog 7 [.int .i64 r, .agg [.int .i64 a, .int .i64 b, .int .i64 c]] (.bool true) := by
  refine fs_of_cvc mixed cd_fretworklaw02_RingSpreads (by simp) ?_
  have c1 := fs_r2Is r
  cases hr : isR r with
  | false =>
    rw [hr] at c1
    repeat' (conv => whnf); first
      | ((refine Or.inl ⟨by rfl, _, c1, ?_⟩))
      | ((refine Or.inl ⟨by rfl, _, fs_live2, ?_⟩))
      | ((refine Br.beq (by rfl) ?_))
      | ((refine Br.bne (by rfl) ?_))
      | ((refine And.intro (show _ ≤ _ from Nat.le_of_ble_eq_true rfl) ?_))
      | (refine Br.tt ?_)
      | (refine Br.ff ?_)
      | (refine Br.dec (fun h => ?_) (fun h => ?_)) <;> try (exfalso; omega)
      | (refine Br.neg ?_)
      | (refine Br.mk (fun h => ?_) (fun h => ?_))
      | (refine And.intro rfl ?_)
      | (refine And.intro (by omega) ?_)
      | (refine ⟨_, Or.inl ⟨⟨by omega, by omega⟩, rfl⟩, ?_⟩)
      | (refine And.intro (by simp only [lens_all, zs_len]; first | done | omega) ?_)
      | (refine And.intro (Nat.le_refl _) ?_)
      | fail
    all_goals exact rfl
  | true =>
    rw [hr] at c1
    have va := fs_Factor r a
    have vb := fs_Value r b
    have vc := fs_Value r c
    have hA := facR_F hr ha
    have hX := valR_V hr hb
    have hY := valR_V hr hc
    generalize facR r a = A at *
    generalize valR r b = X at *
    generalize valR r c = Y at *
    have ox := fs_r1Of X hX.i64
    have oy := fs_r1Of Y hY.i64
    have z0 := fs_rZero r
    have oz := fs_r1Of (rZero r) (zero_i r)
    have wz := W64i (zero_i r)
    have hS := add_sr hX.sr hY.sr
    have c2 := fs_rAdd r X Y hX.sr.w hY.sr.w
    have n1 := fs_rNarrow r (rAdd r X Y) hS.w
    have c3 := fs_rOne r
    have hM := mul_sr hA hX
    have hN := mul_sr hA hY
    have c4 := fs_rMul r A X hA.i64 hX.i64
    have c5 := fs_rMul r A Y hA.i64 hY.i64
    have n2 := fs_rNarrow r (rMul r A X) hM.w
    have c6 := fs_rMul r A (rZero r) hA.i64 (zero_i r)
    rw [mul_zero hA] at c6
    have c7 := fs_rMul r (rZero r) X (zero_i r) hX.i64
    rw [zero_mul hX] at c7
    have c8 := fs_rAdd r (rMul r A X) (rMul r A Y) hM.w hN.w
    have hQ := add_sr hM hN
    have k1 : fits (rAdd r X Y) = true → rMul r A (rAdd r X Y) = rAdd r (rMul r A X) (rMul r A Y) := fun hf => mul_add hA hX hY fun h5 => by
      subst h5
      have h1 := hX.i64
      have h2 := hY.i64
      rw [radd5, norm_id (by unfold I64 at h1 h2; unfold W128; omega)] at hf
      unfold fits at hf
      rw [decide_eq_true_eq] at hf
      exact hf
    have k2 : fits (rAdd r X Y) = true → nar (rAdd r X Y) = rAdd r X Y := fun hf => if_pos hf
    have k3 : (oneR r).2 = true → FS Tryd.prog 9 [.int .i64 r, .int .i64 (oneR r).1, .int .i64 X] (WN X) := fun h => by
      have := fs_rMul r (oneR r).1 X (one_i r) hX.i64
      rwa [one_mul hX h] at this
    have k4 : fits (rAdd r X Y) = true → FS Tryd.prog 9 [.int .i64 r, .int .i64 A, .int .i64 (nar (rAdd r X Y))] (WN (rAdd r (rMul r A X) (rMul r A Y))) := fun h => by
      rw [k2 h, ← k1 h]
      refine fs_rMul r A (rAdd r X Y) hA.i64 ?_
      unfold fits at h
      rw [decide_eq_true_eq] at h
      exact h
    clear k1 k2
    have k5 : r ≠ 5 → fits (rMul r A X) = true ∧ FS Tryd.prog 22 [.int .i64 r, .int .i64 (nar (rMul r A X))] (.bool true) := fun h5 => by
      obtain ⟨f1, f2, f3⟩ := hM.fit h5
      refine ⟨f1, ?_⟩
      rw [f2]
      have := fs_rRight r (rMul r A X) (by unfold fits at f1; rw [decide_eq_true_eq] at f1; exact f1)
      rwa [f3] at this
    generalize rAdd r (rMul r A X) (rMul r A Y) = Q at *
    generalize rMul r A X = M at *
    generalize rMul r A Y = N at *
    generalize rAdd r X Y = S at *
    generalize rZero r = Zr at *
    generalize nar S = sn at *
    generalize nar M = mn at *
    obtain ⟨o, ho⟩ : ∃ o, oneR r = o := ⟨_, rfl⟩
    rw [ho] at c3 k3
    obtain ⟨o1, o2⟩ := o
    simp only at c3 k3
    have e1 := eqF hQ.w
    have e2 := eqF hX.sr.w
    have e3 := eqT wz
    cases hf : fits S <;> cases o2
    all_goals
      rw [hf] at n1 k4
      try (have k4 := k4 rfl)
      try (have k3 := k3 rfl)
      by_cases h5 : r = 5
      · repeat' (conv => whnf); first
          | ((refine Or.inl ⟨by rfl, _, c1, ?_⟩))
          | ((refine Or.inl ⟨by rfl, _, va, ?_⟩))
          | ((refine Or.inl ⟨by rfl, _, vb, ?_⟩))
          | ((refine Or.inl ⟨by rfl, _, vc, ?_⟩))
          | ((refine Or.inl ⟨by rfl, _, ox, ?_⟩))
          | ((refine Or.inl ⟨by rfl, _, oy, ?_⟩))
          | ((refine Or.inl ⟨by rfl, _, z0, ?_⟩))
          | ((refine Or.inl ⟨by rfl, _, oz, ?_⟩))
          | ((refine Or.inl ⟨by rfl, _, c2, ?_⟩))
          | ((refine Or.inl ⟨by rfl, _, n1, ?_⟩))
          | ((refine Or.inl ⟨by rfl, _, c3, ?_⟩))
          | ((refine Or.inl ⟨by rfl, _, c4, ?_⟩))
          | ((refine Or.inl ⟨by rfl, _, c5, ?_⟩))
          | ((refine Or.inl ⟨by rfl, _, n2, ?_⟩))
          | ((refine Or.inl ⟨by rfl, _, c6, ?_⟩))
          | ((refine Or.inl ⟨by rfl, _, c7, ?_⟩))
          | ((refine Or.inl ⟨by rfl, _, c8, ?_⟩))
          | ((refine Or.inl ⟨by rfl, _, k3, ?_⟩))
          | ((refine Or.inl ⟨by rfl, _, k4, ?_⟩))
          | ((refine Or.inl ⟨by rfl, _, fs_live2, ?_⟩))
          | ((refine ⟨_, e1, ?_⟩))
          | ((refine ⟨_, e2, ?_⟩))
          | ((refine ⟨_, e3, ?_⟩))
          | ((refine ex_but 2 ?_; refine And.intro ?_ ?_; focus ((repeat' (first | exact trivial | exact rfl | (refine And.intro ?_ ?_) | omega | exact Nat.le_of_ble_eq_true rfl | ((conv => whnf); first | exact trivial | exact rfl | (refine And.intro ?_ ?_)))); done)))
          | ((exact rfl))
          | ((exact trivial))
          | ((refine And.intro ?_ ?_; focus ((repeat' (first | exact trivial | exact rfl | (refine And.intro ?_ ?_) | omega | exact Nat.le_of_ble_eq_true rfl | ((conv => whnf); first | exact trivial | exact rfl | (refine And.intro ?_ ?_)))); done)))
          | ((refine Br.beq (by rfl) ?_))
          | ((refine Br.bne (by rfl) ?_))
          | ((refine And.intro (show _ ≤ _ from Nat.le_of_ble_eq_true rfl) ?_))
          | (refine Br.tt ?_)
          | (refine Br.ff ?_)
          | (refine Br.dec (fun h => ?_) (fun h => ?_)) <;> try (exfalso; omega)
          | (refine Br.neg ?_)
          | (refine Br.mk (fun h => ?_) (fun h => ?_))
          | (refine And.intro rfl ?_)
          | (refine And.intro (by omega) ?_)
          | (refine ⟨_, Or.inl ⟨⟨by omega, by omega⟩, rfl⟩, ?_⟩)
          | (refine And.intro (by simp only [lens_all, zs_len]; first | done | omega) ?_)
          | (refine And.intro (Nat.le_refl _) ?_)
          | fail
        all_goals exact rfl
      · obtain ⟨f1, f3⟩ := k5 h5
        rw [f1] at n2
        repeat' (conv => whnf); first
          | ((refine Or.inl ⟨by rfl, _, c1, ?_⟩))
          | ((refine Or.inl ⟨by rfl, _, va, ?_⟩))
          | ((refine Or.inl ⟨by rfl, _, vb, ?_⟩))
          | ((refine Or.inl ⟨by rfl, _, vc, ?_⟩))
          | ((refine Or.inl ⟨by rfl, _, ox, ?_⟩))
          | ((refine Or.inl ⟨by rfl, _, oy, ?_⟩))
          | ((refine Or.inl ⟨by rfl, _, z0, ?_⟩))
          | ((refine Or.inl ⟨by rfl, _, oz, ?_⟩))
          | ((refine Or.inl ⟨by rfl, _, c2, ?_⟩))
          | ((refine Or.inl ⟨by rfl, _, n1, ?_⟩))
          | ((refine Or.inl ⟨by rfl, _, c3, ?_⟩))
          | ((refine Or.inl ⟨by rfl, _, c4, ?_⟩))
          | ((refine Or.inl ⟨by rfl, _, c5, ?_⟩))
          | ((refine Or.inl ⟨by rfl, _, n2, ?_⟩))
          | ((refine Or.inl ⟨by rfl, _, c6, ?_⟩))
          | ((refine Or.inl ⟨by rfl, _, c7, ?_⟩))
          | ((refine Or.inl ⟨by rfl, _, c8, ?_⟩))
          | ((refine Or.inl ⟨by rfl, _, k3, ?_⟩))
          | ((refine Or.inl ⟨by rfl, _, k4, ?_⟩))
          | ((refine Or.inl ⟨by rfl, _, f3, ?_⟩))
          | ((refine Or.inl ⟨by rfl, _, fs_live2, ?_⟩))
          | ((refine ⟨_, e1, ?_⟩))
          | ((refine ⟨_, e2, ?_⟩))
          | ((refine ⟨_, e3, ?_⟩))
          | ((refine ex_but 2 ?_; refine And.intro ?_ ?_; focus ((repeat' (first | exact trivial | exact rfl | (refine And.intro ?_ ?_) | omega | exact Nat.le_of_ble_eq_true rfl | ((conv => whnf); first | exact trivial | exact rfl | (refine And.intro ?_ ?_)))); done)))
          | ((exact rfl))
          | ((exact trivial))
          | ((refine And.intro ?_ ?_; focus ((repeat' (first | exact trivial | exact rfl | (refine And.intro ?_ ?_) | omega | exact Nat.le_of_ble_eq_true rfl | ((conv => whnf); first | exact trivial | exact rfl | (refine And.intro ?_ ?_)))); done)))
          | ((refine Br.beq (by rfl) ?_))
          | ((refine Br.bne (by rfl) ?_))
          | ((refine And.intro (show _ ≤ _ from Nat.le_of_ble_eq_true rfl) ?_))
          | (refine Br.tt ?_)
          | (refine Br.ff ?_)
          | (refine Br.dec (fun h => ?_) (fun h => ?_)) <;> try (exfalso; omega)
          | (refine Br.neg ?_)
          | (refine Br.mk (fun h => ?_) (fun h => ?_))
          | (refine And.intro rfl ?_)
          | (refine And.intro (by omega) ?_)
          | (refine ⟨_, Or.inl ⟨⟨by omega, by omega⟩, rfl⟩, ?_⟩)
          | (refine And.intro (by simp only [lens_all, zs_len]; first | done | omega) ?_)
          | (refine And.intro (Nat.le_refl _) ?_)
          | fail
        all_goals exact rfl
end
end Go.Proofs.YtnalgofemikggaaDoor
