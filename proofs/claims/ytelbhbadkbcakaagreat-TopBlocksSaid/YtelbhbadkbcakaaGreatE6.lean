/- Sums of all rows as a vector; rings spread (plain). -/
import Derived.Test.YtelbhbadkbcakaaGreatE5
namespace Go.Proofs.YtelbhbadkbcakaaGreat
section
open Go.RowKit
attribute [local irreducible] FS FO IT HS
theorem sumsL_tab (R : Nat -> Option Int) (m : Nat) : sumsL R (List.range m) = tabL (fun k=>R k.toNat) m:=rfl
def SR (r s : Int) : Prop:=(r = 5 /\ W128 s) \/ (r = 2 /\ (s = 0 \/ s = 1)) \/ (lt3 r = true /\ 0 <= s /\ s <= 4611686018427387904)
def VR (r x : Int) : Prop:=(r = 5 /\ I64 x) \/ (r = 2 /\ (x = 0 \/ x = 1)) \/ (lt3 r = true /\ 0 <= x /\ x <= 4611686018427387904)
def FR (r a : Int) : Prop:=(r = 5 /\ -2147483648 < a /\ a < 2147483648) \/ (r = 2 /\ (a = 0 \/ a = 1)) \/ (lt3 r = true /\ 0 <= a /\ a <= 4611686018427387904)
theorem lt3_iff {r : Int} : lt3 r = true ↔ r = 1 \/ r = 3 \/ r = 4:=by
  unfold lt3
  rw [Bool.or_eq_true,Bool.or_eq_true,decide_eq_true_eq,decide_eq_true_eq,decide_eq_true_eq]
theorem ring_cases {r : Int} (h : isR r = true) : r = 5 \/ r = 2 \/ lt3 r = true:=by
  unfold isR at h
  rw [Bool.and_eq_true,decide_eq_true_eq,decide_eq_true_eq] at h
  rw [lt3_iff]; omega
theorem radd5 (x y : Int) : rAdd 5 x y = norm (x + y):=rfl
theorem radd2 (x y : Int) : rAdd 2 x y = tru (decide (x ≠ 0) || decide (y ≠ 0)):=rfl
theorem radd3 {r : Int} (h : lt3 r = true) (x y : Int) : rAdd r x y = if x <= y then x else y:=if_pos h
theorem rZero_3 {r : Int} (h : lt3 r = true) : rZero r = 4611686018427387904:=if_pos h
theorem valR_V {r n : Int} (hr : isR r = true) (h : I64 n) : VR r (valR r n):=by
  unfold VR
  rcases ring_cases hr with rfl | rfl | h3
  . exact .inl ⟨rfl,h⟩
  . refine .inr (.inl ⟨rfl,?_⟩)
    show n % 2 = 0 \/ n % 2 = 1
    omega
  . refine .inr (.inr ⟨h3,?_⟩)
    have h5 : r ≠ 5 /\ r ≠ 2:=by rw [lt3_iff] at h3; omega
    unfold valR
    rw [if_neg h5.1,if_neg h5.2]
    split <;> omega
theorem facR_F {r n : Int} (hr : isR r = true) (h : I64 n) : FR r (facR r n):=by
  unfold FR
  rcases ring_cases hr with rfl | rfl | h3
  . refine .inl ⟨rfl,?_⟩
    show -2147483648 < n.tmod 2147483648 /\ n.tmod 2147483648 < 2147483648
    exact ⟨by have:=Int.lt_tmod_of_pos n (show (0 : Int) < 2147483648 by omega); omega,Int.tmod_lt_of_pos n (by omega)⟩
  . have:=valR_V (r:=2) rfl h
    rcases this with ⟨h,_⟩ | h | ⟨h,_⟩
    . omega
    . exact .inr (.inl h)
    . cases h
  . have h5 : r ≠ 5 /\ r ≠ 2:=by rw [lt3_iff] at h3; omega
    have e : facR r n = valR r n:=if_neg h5.1
    rw [e]
    have:=valR_V hr h
    rcases this with ⟨h,_⟩ | ⟨h,_⟩ | h
    . exact absurd h h5.1
    . exact absurd h h5.2
    . exact .inr (.inr h)
theorem norm_eq (x : Int) : norm x = (x + 170141183460469231731687303715884105728) % 340282366920938463463374607431768211456 - 170141183460469231731687303715884105728:=by
  unfold norm hi lo wrap64; omega
theorem tru_01 (b : Bool) : tru b = 0 \/ tru b = 1:=by cases b <;> simp [tru]
theorem add_sr {r x y : Int} (hx : SR r x) (hy : SR r y) : SR r (rAdd r x y):=by
  rcases hx with ⟨rfl,h1⟩ | ⟨rfl,h1⟩ | ⟨h3,h1⟩
  . rw [radd5]; exact .inl ⟨rfl,norm_w _⟩
  . rw [radd2]; exact .inr (.inl ⟨rfl,tru_01 _⟩)
  . rw [radd3 h3]
    rcases hy with ⟨rfl,_⟩ | ⟨rfl,_⟩ | ⟨_,h2⟩
    . cases h3
    . cases h3
    . refine .inr (.inr ⟨h3,?_⟩)
      split <;> assumption
theorem mul_sr {r a x : Int} (ha : FR r a) (hx : VR r x) : SR r (rMul r a x):=by
  rcases hx with ⟨rfl,h1⟩ | ⟨rfl,h1⟩ | ⟨h3,h1⟩
  . refine .inl ⟨rfl,?_⟩
    rw [rMul_5]
    rcases ha with ⟨_,h2⟩ | ⟨h,_⟩ | ⟨h,_⟩
    . exact rMul_5 a x ▸ rMul_w (r:=5) (by unfold I64; omega) h1
    . omega
    . cases h
  . rw [rMul_2]; exact .inr (.inl ⟨rfl,tru_01 _⟩)
  . rcases ha with ⟨rfl,_⟩ | ⟨rfl,_⟩ | ⟨_,h2⟩
    . cases h3
    . cases h3
    . refine .inr (.inr ⟨h3,?_⟩)
      rw [lt3_iff] at h3
      rcases h3 with rfl | rfl | rfl
      . rw [rMul_1]; split <;> omega
      . rw [rMul_3]; split <;> omega
      . rw [rMul_4]; split <;> omega
theorem add_zero {r s : Int} (hs : SR r s) : rAdd r s (rZero r) = s /\ rAdd r (rZero r) s = s:=by
  rcases hs with ⟨rfl,h1⟩ | ⟨rfl,h1⟩ | ⟨h3,h1⟩
  . rw [radd5,radd5,show rZero 5 = 0 from rfl,Int.add_zero,Int.zero_add,norm_id h1]
    exact ⟨rfl,rfl⟩
  . rw [radd2,radd2,show rZero 2 = 0 from rfl]
    rcases h1 with rfl | rfl <;> exact ⟨rfl,rfl⟩
  . rw [radd3 h3,radd3 h3,rZero_3 h3]
    constructor
    . rw [if_pos h1.2]
    . split <;> omega
theorem add_swap {r : Int} (s p t q : Int) (hr : isR r = true) : rAdd r (rAdd r s p) (rAdd r t q) = rAdd r (rAdd r s t) (rAdd r p q):=by
  rcases ring_cases hr with rfl | rfl | h3
  . simp only [radd5,norm_eq]; omega
  . simp only [radd2]
    have h : ∀ b : Bool,decide (tru b ≠ 0) = b:=fun b=>by cases b <;> rfl
    rw [h,h,h,h]
    congr 1
    cases decide (s ≠ 0) <;> cases decide (p ≠ 0) <;> cases decide (t ≠ 0) <;> cases decide (q ≠ 0) <;> rfl
  . simp only [radd3 h3]
    split <;> split <;> split <;> split <;> (try split) <;> (try split) <;> omega
end
end Go.Proofs.YtelbhbadkbcakaaGreat
