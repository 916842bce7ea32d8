/- Sums of all rows as a vector; rings spread (plain). A matrix times what two vectors come to. Just the rows that have a column at which the vector is 1. -/
import Derived.Test.YtlbmjnammgffiaaE5
namespace Go.Proofs.Ytlbmjnammgffiaa
section
open Go.RowKit
attribute [local irreducible] FS FO IT HS

/-- What the k-th row is told as. -/
def dn (r : Int) (R : Nat → Option Int) (k : Int) : Option Int := (R k.toNat).bind fun s => if nar s = rZero r then none else some (nar s)
theorem sumsL_tab (R : Nat → Option Int) (m : Nat) : sumsL R (List.range m) = tabL (fun k => R k.toNat) m := rfl
theorem up_upB {l : List (Int × Int)} (h : Up l) : upB l = true := by
  refine allN_iff.2 fun i hi => ?_
  unfold upAt
  rw [Bool.or_eq_true, decide_eq_true_eq, decide_eq_true_eq]
  by_cases h0 : i = 0
  · exact .inl h0
  · right
    have h1 : i - 1 < l.length := by omega
    have e1 : l.getD (i - 1) (0, 0) = l[i - 1] := by simp [h1]
    have e2 : l.getD i (0, 0) = l[i] := by simp [hi]
    rw [e1, e2]
    exact List.pairwise_iff_getElem.1 h (i - 1) i h1 hi (by omega)
theorem done_all {r n : Int} {R : Nat → Option Int} (hr : isR r = true) (h0 : 0 ≤ n) (h1 : n ≤ 4096) : doneR r n (sumsL R (List.range n.toNat)) = if fitB (sumsL R (List.range n.toNat)) = true then (n, tabL (dn r R) n.toNat, 0) else (0, [], 12) := by
  have ho : (sumsL R (List.range n.toNat)).any (outS n) = false := by
    rw [List.any_eq_false]
    intro x hx
    rw [sumsL_tab] at hx
    have := tabL_mem hx
    unfold outS
    rw [Bool.or_eq_true, decide_eq_true_eq, decide_eq_true_eq]
    omega
  have hu : upB (sumsL R (List.range n.toNat)) = true := by rw [sumsL_tab]; exact up_upB (up_tabL _ _)
  have hk : (sumsL R (List.range n.toNat)).filterMap (keepS r) = tabL (dn r R) n.toNat := by
    rw [sumsL_tab]
    unfold tabL
    rw [List.filterMap_filterMap]
    congr 1
    funext i
    show ((R ((i : Int).toNat)).map fun v => ((i : Int), v)).bind (keepS r) = (dn r R (i : Int)).map fun v => ((i : Int), v)
    unfold dn
    cases R ((i : Int).toNat) with
    | none => rfl
    | some s =>
      show keepS r ((i : Int), s) = (if nar s = rZero r then none else some (nar s)).map fun v => ((i : Int), v)
      unfold keepS
      by_cases hz : nar s = rZero r
      · rw [if_pos hz, if_pos hz]; rfl
      · rw [if_neg hz, if_neg hz]; rfl
  unfold doneR
  rw [if_pos hr, if_pos ⟨⟨h0, h1⟩, ho⟩, if_pos hu, hk]
theorem fitB_iff {R : Nat → Option Int} {m : Nat} : fitB (sumsL R (List.range m)) = true ↔ ∀ i, i < m → ∀ s, R i = some s → fits s = true := by
  unfold fitB
  rw [List.all_eq_true]
  constructor
  · intro h i hi s hs
    refine h ((i : Int), s) (List.mem_filterMap.2 ⟨i, List.mem_range.2 hi, ?_⟩)
    rw [hs]; rfl
  · intro h x hx
    obtain ⟨i, hi, hm⟩ := List.mem_filterMap.1 hx
    obtain ⟨s, hs, rfl⟩ := Option.map_eq_some_iff.1 hm
    exact h i (List.mem_range.1 hi) s hs
/-- All rows of a matrix and a vector that fit. -/
def Rw (r _m2 : Int) (m3 m4 mv : List Int) (W : List (Int × Int)) (i : Nat) : Option Int := rowO r (gt W) (rowL m3 m4 mv i)
theorem times_all {r m1 m2 : Int} {m3 m4 mv : List Int} {W : List (Int × Int)} (hr : isR r = true) (hM : OkM m1 m2 m3 m4 mv) (hW : OkV m2 W) : timesR r (m1, m2, m3, m4, mv) (m2, toF m2 W, toL m2 W) [] true = if fitB (sumsL (Rw r m2 m3 m4 mv W) (List.range m1.toNat)) = true then (m1, tabL (dn r (Rw r m2 m3 m4 mv W)) m1.toNat, 0) else (0, [], 12) := by
  have e : (fun i => rowO r (dG (toF m2 W) (toL m2 W)) (rowL m3 m4 mv i)) = Rw r m2 m3 m4 mv W := by
    funext i
    unfold Rw
    rw [show dG (toF m2 W) (toL m2 W) = gt W from funext fun k => dG_to hW k]
  unfold timesR
  rw [sumsR_fit hr rfl, askL_all]
  simp only
  rw [if_pos trivial, e, done_all hr hM.r0 hM.r1]
theorem dn_ib {r : Int} {R : Nat → Option Int} {m : Nat} (hm : (m : Int) ≤ 4096) : Ib (tabL (dn r R) m) := fun x hx => by
  have h := tabL_mem hx
  refine ⟨by unfold I64; omega, ?_⟩
  have h3 := h.2.2
  unfold dn at h3
  cases hR : R x.1.toNat with
  | none => rw [hR] at h3; cases h3
  | some s =>
    rw [hR] at h3
    simp only [Option.bind_some] at h3
    split at h3
    · cases h3
    · have h4 := Option.some.inj h3
      rw [← h4]
      exact nar_i s

/-! ### Rings -/
/-- What sums of values are. -/
def SR (r s : Int) : Prop := (r = 5 ∧ W128 s) ∨ (r = 2 ∧ (s = 0 ∨ s = 1)) ∨ (lt3 r = true ∧ 0 ≤ s ∧ s ≤ 4611686018427387904)
/-- Values; factors. -/
def VR (r x : Int) : Prop := (r = 5 ∧ I64 x) ∨ (r = 2 ∧ (x = 0 ∨ x = 1)) ∨ (lt3 r = true ∧ 0 ≤ x ∧ x ≤ 4611686018427387904)
def FR (r a : Int) : Prop := (r = 5 ∧ -2147483648 < a ∧ a < 2147483648) ∨ (r = 2 ∧ (a = 0 ∨ a = 1)) ∨ (lt3 r = true ∧ 0 ≤ a ∧ a ≤ 4611686018427387904)
theorem lt3_iff {r : Int} : lt3 r = true ↔ r = 1 ∨ r = 3 ∨ r = 4 := by
  unfold lt3
  rw [Bool.or_eq_true, Bool.or_eq_true, decide_eq_true_eq, decide_eq_true_eq, decide_eq_true_eq]
theorem ring_cases {r : Int} (h : isR r = true) : r = 5 ∨ r = 2 ∨ lt3 r = true := by
  unfold isR at h
  rw [Bool.and_eq_true, decide_eq_true_eq, decide_eq_true_eq] at h
  rw [lt3_iff]; omega
theorem radd5 (x y : Int) : rAdd 5 x y = norm (x + y) := rfl
theorem radd2 (x y : Int) : rAdd 2 x y = tru (decide (x ≠ 0) || decide (y ≠ 0)) := rfl
theorem radd3 {r : Int} (h : lt3 r = true) (x y : Int) : rAdd r x y = if x ≤ y then x else y := if_pos h
theorem rZero_3 {r : Int} (h : lt3 r = true) : rZero r = 4611686018427387904 := if_pos h
theorem valR_V {r n : Int} (hr : isR r = true) (h : I64 n) : VR r (valR r n) := by
  unfold VR
  rcases ring_cases hr with rfl | rfl | h3
  · exact .inl ⟨rfl, h⟩
  · refine .inr (.inl ⟨rfl, ?_⟩)
    show n % 2 = 0 ∨ n % 2 = 1
    omega
  · refine .inr (.inr ⟨h3, ?_⟩)
    have h5 : r ≠ 5 ∧ r ≠ 2 := by rw [lt3_iff] at h3; omega
    unfold valR
    rw [if_neg h5.1, if_neg h5.2]
    split <;> omega
theorem facR_F {r n : Int} (hr : isR r = true) (h : I64 n) : FR r (facR r n) := by
  unfold FR
  rcases ring_cases hr with rfl | rfl | h3
  · refine .inl ⟨rfl, ?_⟩
    show -2147483648 < n.tmod 2147483648 ∧ n.tmod 2147483648 < 2147483648
    exact ⟨by have := Int.lt_tmod_of_pos n (show (0 : Int) < 2147483648 by omega); omega, Int.tmod_lt_of_pos n (by omega)⟩
  · have := valR_V (r := 2) rfl h
    rcases this with ⟨h, _⟩ | h | ⟨h, _⟩
    · omega
    · exact .inr (.inl h)
    · cases h
  · have h5 : r ≠ 5 ∧ r ≠ 2 := by rw [lt3_iff] at h3; omega
    have e : facR r n = valR r n := if_neg h5.1
    rw [e]
    have := valR_V hr h
    rcases this with ⟨h, _⟩ | ⟨h, _⟩ | h
    · exact absurd h h5.1
    · exact absurd h h5.2
    · exact .inr (.inr h)
theorem norm_eq (x : Int) : norm x = (x + 170141183460469231731687303715884105728) % 340282366920938463463374607431768211456 - 170141183460469231731687303715884105728 := by
  unfold norm hi lo wrap64; omega
theorem VR.sr {r x : Int} (h : VR r x) : SR r x := by
  rcases h with ⟨h, h2⟩ | h | h
  · exact .inl ⟨h, W64i h2⟩
  · exact .inr (.inl h)
  · exact .inr (.inr h)
theorem zero_V {r : Int} (hr : isR r = true) : VR r (rZero r) := by
  rcases ring_cases hr with rfl | rfl | h3
  · exact .inl ⟨rfl, I0⟩
  · exact .inr (.inl ⟨rfl, .inl rfl⟩)
  · exact .inr (.inr ⟨h3, by rw [rZero_3 h3]; omega⟩)
theorem tru_01 (b : Bool) : tru b = 0 ∨ tru b = 1 := by cases b <;> simp [tru]
theorem add_sr {r x y : Int} (hx : SR r x) (hy : SR r y) : SR r (rAdd r x y) := by
  rcases hx with ⟨rfl, h1⟩ | ⟨rfl, h1⟩ | ⟨h3, h1⟩
  · rw [radd5]; exact .inl ⟨rfl, norm_w _⟩
  · rw [radd2]; exact .inr (.inl ⟨rfl, tru_01 _⟩)
  · rw [radd3 h3]
    rcases hy with ⟨rfl, _⟩ | ⟨rfl, _⟩ | ⟨_, h2⟩
    · cases h3
    · cases h3
    · refine .inr (.inr ⟨h3, ?_⟩)
      split <;> assumption
theorem mul_sr {r a x : Int} (ha : FR r a) (hx : VR r x) : SR r (rMul r a x) := by
  rcases hx with ⟨rfl, h1⟩ | ⟨rfl, h1⟩ | ⟨h3, h1⟩
  · refine .inl ⟨rfl, ?_⟩
    rw [rMul_5]
    rcases ha with ⟨_, h2⟩ | ⟨h, _⟩ | ⟨h, _⟩
    · exact rMul_5 a x ▸ rMul_w (r := 5) (by unfold I64; omega) h1
    · omega
    · cases h
  · rw [rMul_2]; exact .inr (.inl ⟨rfl, tru_01 _⟩)
  · rcases ha with ⟨rfl, _⟩ | ⟨rfl, _⟩ | ⟨_, h2⟩
    · cases h3
    · cases h3
    · refine .inr (.inr ⟨h3, ?_⟩)
      rw [lt3_iff] at h3
      rcases h3 with rfl | rfl | rfl
      · rw [rMul_1]; split <;> omega
      · rw [rMul_3]; split <;> omega
      · rw [rMul_4]; split <;> omega
/-- Zero adds nothing. -/
theorem add_zero {r s : Int} (hs : SR r s) : rAdd r s (rZero r) = s ∧ rAdd r (rZero r) s = s := by
  rcases hs with ⟨rfl, h1⟩ | ⟨rfl, h1⟩ | ⟨h3, h1⟩
  · rw [radd5, radd5, show rZero 5 = 0 from rfl, Int.add_zero, Int.zero_add, norm_id h1]
    exact ⟨rfl, rfl⟩
  · rw [radd2, radd2, show rZero 2 = 0 from rfl]
    rcases h1 with rfl | rfl <;> exact ⟨rfl, rfl⟩
  · rw [radd3 h3, radd3 h3, rZero_3 h3]
    constructor
    · rw [if_pos h1.2]
    · split <;> omega
/-- A product with zero is zero. -/
theorem mul_zero {r a : Int} (ha : FR r a) : rMul r a (rZero r) = rZero r := by
  rcases ha with ⟨rfl, _⟩ | ⟨rfl, _⟩ | ⟨h3, h1⟩
  · rw [rMul_5]; show a * 0 = 0; rw [Int.mul_zero]
  · rw [rMul_2]; show tru (decide (a ≠ 0) && decide ((0 : Int) ≠ 0)) = 0; simp [tru]
  · rw [rZero_3 h3]
    rw [lt3_iff] at h3
    rcases h3 with rfl | rfl | rfl
    · rw [rMul_1, if_pos (by omega)]
    · rw [rMul_3, if_pos (by omega)]
    · rw [rMul_4, if_pos (by omega)]
/-- Sums in any order. -/
theorem add_swap {r : Int} (s p t q : Int) (hr : isR r = true) : rAdd r (rAdd r s p) (rAdd r t q) = rAdd r (rAdd r s t) (rAdd r p q) := by
  rcases ring_cases hr with rfl | rfl | h3
  · simp only [radd5, norm_eq]; omega
  · simp only [radd2]
    have h : ∀ b : Bool, decide (tru b ≠ 0) = b := fun b => by cases b <;> rfl
    rw [h, h, h, h]
    congr 1
    cases decide (s ≠ 0) <;> cases decide (p ≠ 0) <;> cases decide (t ≠ 0) <;> cases decide (q ≠ 0) <;> rfl
  · simp only [radd3 h3]
    split <;> split <;> split <;> split <;> (try split) <;> (try split) <;> omega
/-- A product with a sum. -/
theorem mul_add {r a x y : Int} (ha : FR r a) (hx : VR r x) (hy : VR r y) (hI : r = 5 → I64 (x + y)) : rMul r a (rAdd r x y) = rAdd r (rMul r a x) (rMul r a y) := by
  rcases hx with ⟨rfl, h1⟩ | ⟨rfl, h1⟩ | ⟨h3, h1⟩
  · have hI := hI rfl
    rcases ha with ⟨_, h2⟩ | ⟨h, _⟩ | ⟨h, _⟩
    · have hw : W128 (a * (x + y)) := by
        have := rMul_w (r := 5) (a := a) (x := x + y) (by unfold I64; omega) hI
        rwa [rMul_5] at this
      simp only [radd5, rMul_5]
      rw [norm_id (W64i hI), ← Int.mul_add, norm_id hw]
    · omega
    · cases h
  · rcases hy with ⟨h, _⟩ | ⟨_, h2⟩ | ⟨h, _⟩
    · omega
    · simp only [radd2, rMul_2]
      have h : ∀ b : Bool, decide (tru b ≠ 0) = b := fun b => by cases b <;> rfl
      rw [h, h, h]
      congr 1
      cases decide (a ≠ 0) <;> cases decide (x ≠ 0) <;> cases decide (y ≠ 0) <;> rfl
    · cases h
  · rcases ha with ⟨rfl, _⟩ | ⟨rfl, _⟩ | ⟨_, h2⟩
    · cases h3
    · cases h3
    · rcases hy with ⟨rfl, _⟩ | ⟨rfl, _⟩ | ⟨_, h4⟩
      · cases h3
      · cases h3
      · rw [radd3 h3, radd3 h3]
        rw [lt3_iff] at h3
        rcases h3 with rfl | rfl | rfl
        · simp only [rMul_1]; split <;> split <;> split <;> (try split) <;> omega
        · simp only [rMul_3]; split <;> split <;> split <;> (try split) <;> omega
        · simp only [rMul_4]; split <;> split <;> split <;> (try split) <;> omega

/-! ### Rows -/
/-- The total of a row: zero where nothing is. -/
def Tt (r : Int) (g : Int → Option Int) (row : List (Int × Int)) (s : Int) : Int := row.foldl (fun s x => rAdd r s (rMul r x.2 ((g x.1).getD (rZero r)))) s
theorem row_T {r : Int} (hr : isR r = true) {g : Int → Option Int} (hg : ∀ c v, g c = some v → VR r v) : ∀ (row : List (Int × Int)), (∀ x ∈ row, FR r x.2) → ∀ (o : Option Int), (∀ s, o = some s → SR r s) →
    (row.foldl (rowF r g) o).getD (rZero r) = Tt r g row (o.getD (rZero r)) ∧ ∀ s, row.foldl (rowF r g) o = some s → SR r s
  | [], _, o, ho => ⟨rfl, ho⟩
  | x :: row, hf, o, ho => by
    have hfx := hf x List.mem_cons_self
    have hz := (zero_V hr).sr
    have hos : SR r (o.getD (rZero r)) := by
      cases o with
      | none => exact hz
      | some s => exact ho s rfl
    have ih := fun o ho => row_T hr hg row (fun y hy => hf y (List.mem_cons_of_mem _ hy)) o ho
    show (row.foldl (rowF r g) (rowF r g o x)).getD (rZero r) = row.foldl _ (rAdd r (o.getD (rZero r)) (rMul r x.2 ((g x.1).getD (rZero r)))) ∧ _
    cases hgx : g x.1 with
    | none =>
      have e : rowF r g o x = o := by unfold rowF; rw [hgx]
      have h := ih o ho
      rw [List.foldl_cons, e]
      refine ⟨?_, h.2⟩
      rw [h.1]
      show Tt r g row _ = Tt r g row _
      congr 1
      show _ = rAdd r (o.getD (rZero r)) (rMul r x.2 (rZero r))
      rw [mul_zero hfx, (add_zero hos).1]
    | some v =>
      have hm := mul_sr hfx (hg _ _ hgx)
      have e : rowF r g o x = accS r o (rMul r x.2 v) := by unfold rowF; rw [hgx]
      have hacc : ∀ s, accS r o (rMul r x.2 v) = some s → SR r s := by
        intro s hs
        cases o with
        | none => cases hs; exact hm
        | some t => cases hs; exact add_sr (ho t rfl) hm
      have h := ih _ hacc
      rw [List.foldl_cons, e]
      refine ⟨?_, h.2⟩
      rw [h.1]
      show Tt r g row _ = Tt r g row _
      congr 1
      cases o with
      | none => exact (add_zero hm).2.symm
      | some t => rfl
theorem T_add {r : Int} (hr : isR r = true) {gx gy gu : Int → Option Int} (hu : ∀ c, (gu c).getD (rZero r) = rAdd r ((gx c).getD (rZero r)) ((gy c).getD (rZero r))) (hx : ∀ c, VR r ((gx c).getD (rZero r))) (hy : ∀ c, VR r ((gy c).getD (rZero r))) (hi : r = 5 → ∀ c, I64 ((gx c).getD (rZero r) + (gy c).getD (rZero r))) :
    ∀ (row : List (Int × Int)), (∀ x ∈ row, FR r x.2) → ∀ sx sy : Int, Tt r gu row (rAdd r sx sy) = rAdd r (Tt r gx row sx) (Tt r gy row sy)
  | [], _, _, _ => rfl
  | x :: row, hf, sx, sy => by
    have ih := T_add hr hu hx hy hi row (fun y hy => hf y (List.mem_cons_of_mem _ hy))
    show Tt r gu row (rAdd r (rAdd r sx sy) (rMul r x.2 ((gu x.1).getD (rZero r)))) = rAdd r (Tt r gx row (rAdd r sx (rMul r x.2 ((gx x.1).getD (rZero r))))) (Tt r gy row (rAdd r sy (rMul r x.2 ((gy x.1).getD (rZero r)))))
    rw [← ih, hu, mul_add (hf x List.mem_cons_self) (hx _) (hy _) (fun h => hi h _), add_swap _ _ _ _ hr]

theorem uV_zero {r : Int} (hr : isR r = true) {x y : Option Int} (hx : ∀ v, x = some v → VR r v) (hy : ∀ v, y = some v → VR r v) (h : uE r x y = false) : (uV r x y).getD (rZero r) = rAdd r (x.getD (rZero r)) (y.getD (rZero r)) ∧ (r = 5 → I64 (x.getD (rZero r) + y.getD (rZero r))) := by
  have hz := (zero_V hr).sr
  cases x with
  | none =>
    cases y with
    | none => exact ⟨((add_zero hz).1).symm, fun h => by subst h; exact I0⟩
    | some y =>
      refine ⟨((add_zero (hy y rfl).sr).2).symm, fun h => ?_⟩
      subst h
      rcases hy y rfl with ⟨_, h⟩ | ⟨h, _⟩ | ⟨h, _⟩
      · show I64 (0 + y); rw [Int.zero_add]; exact h
      · omega
      · cases h
  | some x =>
    cases y with
    | none =>
      refine ⟨((add_zero (hx x rfl).sr).1).symm, fun h => ?_⟩
      subst h
      rcases hx x rfl with ⟨_, h⟩ | ⟨h, _⟩ | ⟨h, _⟩
      · show I64 (x + 0); rw [Int.add_zero]; exact h
      · omega
      · cases h
    | some y =>
      have hf : fits (rAdd r x y) = true := by
        have h' : (!fits (rAdd r x y)) = false := h
        simpa using h'
      refine ⟨by show nar (rAdd r x y) = rAdd r x y; unfold nar; rw [if_pos hf], fun h => ?_⟩
      subst h
      rcases hx x rfl with ⟨_, h1⟩ | ⟨h, _⟩ | ⟨h, _⟩
      · rcases hy y rfl with ⟨_, h2⟩ | ⟨h, _⟩ | ⟨h, _⟩
        · rw [radd5, norm_id (show W128 (x + y) by unfold I64 at h1 h2; unfold W128; omega)] at hf
          unfold fits at hf
          have h3 := of_decide_eq_true hf
          show I64 (x + y)
          exact h3
        · omega
        · cases h
      · omega
      · cases h
theorem gt_V {r : Int} {X : List (Int × Int)} (hX : ∀ x ∈ X, VR r x.2) (c v : Int) (h : gt X c = some v) : VR r v := hX _ (gt_mem h)
theorem getD_V {r : Int} (hr : isR r = true) {o : Option Int} (h : ∀ v, o = some v → VR r v) : VR r (o.getD (rZero r)) := by
  cases o with
  | none => exact zero_V hr
  | some v => exact h v rfl

/-- **A MATRIX TIMES WHAT TWO VECTORS COME TO.** -/
theorem spread {r m1 m2 : Int} {m3 m4 mv : List Int} {X Y : List (Int × Int)} (hr : isR r = true) (hM : OkM m1 m2 m3 m4 mv) (hmv : ∀ i, ∀ x ∈ rowL m3 m4 mv i, FR r x.2) (hX : OkV m2 X) (hxv : ∀ x ∈ X, VR r x.2) (hY : OkV m2 Y) (hyv : ∀ x ∈ Y, VR r x.2) (hU : ∀ k, uE r (gt X k) (gt Y k) = false)
    (hA : fitB (sumsL (Rw r m2 m3 m4 mv X) (List.range m1.toNat)) = true) (hB : fitB (sumsL (Rw r m2 m3 m4 mv Y) (List.range m1.toNat)) = true) (hC : fitB (sumsL (Rw r m2 m3 m4 mv (uL r m2 X Y)) (List.range m1.toNat)) = true)
    (hD : ∀ k, uE r (gt (tabL (dn r (Rw r m2 m3 m4 mv X)) m1.toNat) k) (gt (tabL (dn r (Rw r m2 m3 m4 mv Y)) m1.toNat) k) = false) :
    tabL (dn r (Rw r m2 m3 m4 mv (uL r m2 X Y))) m1.toNat = (uL r m1 (tabL (dn r (Rw r m2 m3 m4 mv X)) m1.toNat) (tabL (dn r (Rw r m2 m3 m4 mv Y)) m1.toNat)).filter fun x => hold 4 x.2 (rZero r) := by
  have hOA := okV_tab hM.r0 hM.r1 (dn r (Rw r m2 m3 m4 mv X))
  have hOB := okV_tab hM.r0 hM.r1 (dn r (Rw r m2 m3 m4 mv Y))
  have hUL := okV_uL (r := r) (b := tabL (dn r (Rw r m2 m3 m4 mv Y)) m1.toNat) hOA
  refine up_ext (up_tabL _ _) (hUL.up.filter _) fun k => ?_
  rw [gt_filt hUL.up, gt_uL hOA hOB, gt_tabL]
  have hDk := hD k
  rw [gt_tabL, gt_tabL] at hDk ⊢
  by_cases hk : 0 ≤ k ∧ k < (m1.toNat : Int)
  · rw [if_pos hk, if_pos hk] at hDk
    rw [if_pos hk, if_pos hk, if_pos hk]
    have hlt : k.toNat < m1.toNat := by omega
    have row := hmv k.toNat
    have none0 : ∀ s, (none : Option Int) = some s → SR r s := fun s h => by cases h
    have tx := row_T hr (gt_V hxv) (rowL m3 m4 mv k.toNat) row none none0
    have ty := row_T hr (gt_V hyv) (rowL m3 m4 mv k.toNat) row none none0
    have huv : ∀ c v, gt (uL r m2 X Y) c = some v → VR r v := fun c v h => by
      rw [gt_uL hX hY] at h
      have h1 := uV_zero hr (gt_V hxv c) (gt_V hyv c) (hU c)
      rw [h] at h1
      have h2 : v = rAdd r ((gt X c).getD (rZero r)) ((gt Y c).getD (rZero r)) := h1.1
      have vx := getD_V hr (gt_V hxv c)
      have vy := getD_V hr (gt_V hyv c)
      rcases vx with ⟨rfl, v1⟩ | ⟨rfl, v1⟩ | ⟨h3, v1⟩
      · left
        refine ⟨rfl, ?_⟩
        have h5 := h1.2 rfl
        rw [h2, radd5, norm_id (W64i h5)]; exact h5
      · right; left
        refine ⟨rfl, ?_⟩
        rw [h2, radd2]; exact tru_01 _
      · right; right
        refine ⟨h3, ?_⟩
        rcases vy with ⟨rfl, _⟩ | ⟨rfl, _⟩ | ⟨_, v2⟩
        · cases h3
        · cases h3
        · rw [h2, radd3 h3]; split <;> assumption
    have tu := row_T hr huv (rowL m3 m4 mv k.toNat) row none none0
    have hadd := T_add hr (gx := gt X) (gy := gt Y) (gu := gt (uL r m2 X Y)) (fun c => by rw [gt_uL hX hY]; exact (uV_zero hr (gt_V hxv c) (gt_V hyv c) (hU c)).1) (fun c => getD_V hr (gt_V hxv c)) (fun c => getD_V hr (gt_V hyv c)) (fun h c => (uV_zero hr (gt_V hxv c) (gt_V hyv c) (hU c)).2 h) (rowL m3 m4 mv k.toNat) row (rZero r) (rZero r)
    rw [(add_zero (zero_V hr).sr).1] at hadd
    have fa := fitB_iff.1 hA k.toNat hlt
    have fb := fitB_iff.1 hB k.toNat hlt
    have fc := fitB_iff.1 hC k.toNat hlt
    -- what a row is told as
    have dnV : ∀ (W : List (Int × Int)), (∀ s, Rw r m2 m3 m4 mv W k.toNat = some s → fits s = true) → dn r (Rw r m2 m3 m4 mv W) k = if (Rw r m2 m3 m4 mv W k.toNat).getD (rZero r) = rZero r then none else some ((Rw r m2 m3 m4 mv W k.toNat).getD (rZero r)) := fun W hf => by
      unfold dn
      cases hR : Rw r m2 m3 m4 mv W k.toNat with
      | none => exact (if_pos (show (none : Option Int).getD (rZero r) = rZero r from rfl)).symm
      | some s =>
        have hn : nar s = s := by unfold nar; rw [if_pos (hf s hR)]
        show (if nar s = rZero r then none else some (nar s)) = if s = rZero r then none else some s
        rw [hn]
    rw [dnV X fa, dnV Y fb] at hDk ⊢
    rw [dnV (uL r m2 X Y) fc]
    have sA : SR r ((Rw r m2 m3 m4 mv X k.toNat).getD (rZero r)) := by
      cases hR : Rw r m2 m3 m4 mv X k.toNat with
      | none => exact (zero_V hr).sr
      | some s => exact tx.2 s hR
    have sB : SR r ((Rw r m2 m3 m4 mv Y k.toNat).getD (rZero r)) := by
      cases hR : Rw r m2 m3 m4 mv Y k.toNat with
      | none => exact (zero_V hr).sr
      | some s => exact ty.2 s hR
    have e : (Rw r m2 m3 m4 mv (uL r m2 X Y) k.toNat).getD (rZero r) = rAdd r ((Rw r m2 m3 m4 mv X k.toNat).getD (rZero r)) ((Rw r m2 m3 m4 mv Y k.toNat).getD (rZero r)) := by
      have e1 : (Rw r m2 m3 m4 mv (uL r m2 X Y) k.toNat).getD (rZero r) = Tt r (gt (uL r m2 X Y)) (rowL m3 m4 mv k.toNat) (rZero r) := tu.1
      have e2 : (Rw r m2 m3 m4 mv X k.toNat).getD (rZero r) = Tt r (gt X) (rowL m3 m4 mv k.toNat) (rZero r) := tx.1
      have e3 : (Rw r m2 m3 m4 mv Y k.toNat).getD (rZero r) = Tt r (gt Y) (rowL m3 m4 mv k.toNat) (rZero r) := ty.1
      rw [e1, e2, e3, hadd]
    rw [e]
    generalize (Rw r m2 m3 m4 mv X k.toNat).getD (rZero r) = p at *
    generalize (Rw r m2 m3 m4 mv Y k.toNat).getD (rZero r) = q at *
    have ho : ∀ v, hold 4 v (rZero r) = decide (v ≠ rZero r) := fun v => rfl
    have fin : ∀ v : Int, ((some v : Option Int).bind fun v => if hold 4 (k, v).2 (rZero r) = true then some v else none) = if v = rZero r then none else some v := fun v => by
      show (if hold 4 v (rZero r) = true then some v else none) = _
      rw [ho]
      by_cases h : v = rZero r
      · rw [if_pos h, decide_eq_false (fun h' => h' h)]; rfl
      · rw [if_neg h, decide_eq_true h]; rfl
    by_cases hp : p = rZero r
    · by_cases hq : q = rZero r
      · rw [if_pos hp, if_pos hq, hp, hq, (add_zero (zero_V hr).sr).1, if_pos rfl]; rfl
      · rw [if_pos hp, if_neg hq, hp, (add_zero sB).2, if_neg hq]
        show _ = (some q).bind _
        rw [fin, if_neg hq]
    · by_cases hq : q = rZero r
      · rw [if_neg hp, if_pos hq, hq, (add_zero sA).1, if_neg hp]
        show _ = (some p).bind _
        rw [fin, if_neg hp]
      · rw [if_neg hp, if_neg hq] at hDk ⊢
        have hf : fits (rAdd r p q) = true := by
          have h' : (!fits (rAdd r p q)) = false := hDk
          simpa using h'
        show _ = (some (nar (rAdd r p q))).bind _
        rw [show nar (rAdd r p q) = rAdd r p q by unfold nar; rw [if_pos hf], fin]
  · rw [if_neg hk, if_neg hk, if_neg hk]; rfl
end
section
open Go.RowKit
attribute [local irreducible] FS FO IT HS

theorem ex_last {H : List Blk} {R : List Blk → Prop} (h : leR H (H.set (H.length - 1) .dead) ∧ R (H.set (H.length - 1) .dead)) : ∃ Hr, leR H Hr ∧ R Hr := ⟨_, h⟩
theorem FR_zero {r : Int} (hr : isR r = true) : FR r 0 := by
  rcases ring_cases hr with rfl | rfl | h3
  · exact .inl ⟨rfl, by omega⟩
  · exact .inr (.inl ⟨rfl, .inl rfl⟩)
  · exact .inr (.inr ⟨h3, by omega⟩)
theorem rowL_F {r : Int} (hr : isR r = true) {st col val : List Int} (h : ∀ v ∈ val, FR r v) (i : Nat) : ∀ x ∈ rowL st col val i, FR r x.2 := by
  intro x hx
  obtain ⟨j, _, rfl⟩ := List.mem_map.1 hx
  show FR r (val.getD ((st.getD i 0).toNat + j) 0)
  generalize (st.getD i 0).toNat + j = q
  by_cases hk : q < val.length
  · have : val.getD q 0 = val[q] := by simp [hk]
    rw [this]; exact h _ (List.getElem_mem hk)
  · have : val.getD q 0 = 0 := by simp [List.getElem?_eq_none (show val.length ≤ q by omega)]
    rw [this]; exact FR_zero hr
theorem times_ib {r m1 m2 : Int} {m3 m4 mv : List Int} {W : List (Int × Int)} (hr : isR r = true) (hM : OkM m1 m2 m3 m4 mv) (hW : OkV m2 W) : Ib (timesR r (m1, m2, m3, m4, mv) (m2, toF m2 W, toL m2 W) [] true).2.1 ∧ (timesR r (m1, m2, m3, m4, mv) (m2, toF m2 W, toL m2 W) [] true).2.1.length ≤ 4096 := by
  rw [times_all hr hM hW]
  have h0 := hM.r0
  have h1 := hM.r1
  split
  · exact ⟨dn_ib (by omega), Nat.le_trans (tabL_le _ _) (by omega)⟩
  · exact ⟨(fun x hx => by cases hx), by simp⟩
theorem times_fine {r m1 m2 : Int} {m3 m4 mv : List Int} {W : List (Int × Int)} (hr : isR r = true) (hM : OkM m1 m2 m3 m4 mv) (hW : OkV m2 W) (h : (timesR r (m1, m2, m3, m4, mv) (m2, toF m2 W, toL m2 W) [] true).2.2 = 0) :
    fitB (sumsL (Rw r m2 m3 m4 mv W) (List.range m1.toNat)) = true ∧ timesR r (m1, m2, m3, m4, mv) (m2, toF m2 W, toL m2 W) [] true = (m1, tabL (dn r (Rw r m2 m3 m4 mv W)) m1.toNat, 0) := by
  rw [times_all hr hM hW] at h ⊢
  by_cases hf : fitB (sumsL (Rw r m2 m3 m4 mv W) (List.range m1.toNat)) = true
  · rw [if_pos hf]; exact ⟨hf, rfl⟩
  · rw [if_neg hf] at h; cases h
theorem unR_ib' {r n1 n2 : Int} {a b : List (Int × Int)} (ia : Ib a) (ib : Ib b) : Ib (unR r n1 a n2 b).2.1 ∧ (unR r n1 a n2 b).2.1.length ≤ 4096 := by
  by_cases hr : isR r = true
  · by_cases hn : sn n1 a = sn n2 b
    · have := unR_ib (r := r) (okV n1 a) (by rw [hn]; exact okV n2 b) ia.sl ib.sl hr
      have e : unR r (sn n1 a) (sl n1 a) (sn n1 a) (sl n2 b) = unR r n1 a n2 b := by
        unfold unR
        rw [(okV n1 a).sn, (okV n1 a).sl]
        have h2 := okV n2 b
        rw [← hn] at h2
        rw [h2.sn, h2.sl, hn]
      rwa [e] at this
    · unfold unR resM
      rw [if_pos hr]
      have : ∀ x : Int × List (Int × Int) × Int, x = (0, [], 4) → Ib x.2.1 ∧ x.2.1.length ≤ 4096 := fun x hx => by subst hx; exact ⟨(fun y hy => by cases hy), by simp⟩
      refine this _ ?_
      simp [hn]
  · unfold unR
    rw [if_neg hr]
    exact ⟨(fun y hy => by cases hy), by simp⟩

def ir_fretworklaw13_PullSpreads : IR :=
(.seq (.reg (⟨(some 1), .bx (.t 0), none⟩ ::⟨(some 2), .mv (.c (.bool false)), none⟩ :: [])) (.seq (.reg (⟨(some 17), .fa 0 (.t 1), none⟩ ::⟨(some 18), .ld 1 false (.t 17), none⟩ ::⟨(some 19), .call (.c (.fn 11 [])) [(.t 18)], none⟩ ::⟨(some 3), .mv (.t 19), none⟩ :: [])) (.seq (.draw (⟨(some 20), .ld 8 true (.t 1), none⟩ ::⟨(some 21), .call (.c (.fn 12 [])) [(.t 20)], none⟩ ::⟨(some 22), .ld 8 true (.t 1), none⟩ ::⟨(some 23), .fa 4 (.t 1), none⟩ ::⟨(some 24), .ld 1 false (.t 23), none⟩ ::⟨(some 25), .call (.c (.fn 13 [])) [(.t 22), (.t 24)], none⟩ ::⟨(some 26), .ld 8 true (.t 1), none⟩ ::⟨(some 27), .fa 5 (.t 1), none⟩ ::⟨(some 28), .ld 1 false (.t 27), none⟩ ::⟨(some 29), .call (.c (.fn 13 [])) [(.t 26), (.t 28)], none⟩ ::⟨(some 4), .al [.int .i64 0, .int .i64 0, .nils, .nils, .nils], none⟩ ::⟨(some 5), .al [.int .i64 0, .nils], none⟩ ::⟨(some 6), .al [.int .i64 0, .nils], none⟩ :: []) (⟨none, .st 5 (.t 4) (.t 21), none⟩ ::⟨none, .st 2 (.t 5) (.t 25), none⟩ ::⟨none, .st 2 (.t 6) (.t 29), none⟩ :: [])) (.seq (.reg (⟨(some 31), .mv (.t 3), none⟩ ::⟨(some 32), .ld 2 true (.t 5), none⟩ ::⟨(some 33), .ld 2 true (.t 6), none⟩ ::⟨(some 34), .call (.c (.fn 14 [])) [(.t 31), (.t 32), (.t 33)], none⟩ ::⟨(some 30), .mv (.t 34), none⟩ ::⟨(some 35), .ex 0 (.t 30), none⟩ ::⟨(some 36), .ex 1 (.t 30), none⟩ ::⟨(some 7), .al [.int .i64 0, .nils], none⟩ ::⟨none, .st 2 (.t 7) (.t 35), none⟩ ::⟨(some 8), .mv (.t 36), none⟩ :: [])) (.seq (.drawL (⟨(some 38), .mv (.t 3), none⟩ ::⟨(some 39), .ld 5 true (.t 4), none⟩ ::⟨(some 40), .ld 2 true (.t 5), none⟩ ::⟨(some 41), .call (.c (.fn 16 [])) [(.t 40)], none⟩ ::⟨(some 42), .call (.c (.fn 15 [])) [(.t 38), (.t 39), (.t 41), (.c (.nils)), (.c (.bool true))], none⟩ ::⟨(some 37), .mv (.t 42), none⟩ ::⟨(some 43), .ex 0 (.t 37), none⟩ ::⟨(some 44), .ex 1 (.t 37), none⟩ ::⟨(some 9), .al [.int .i64 0, .nils], none⟩ :: []) (⟨(some 44), .ex 1 (.t 37), none⟩ :: []) (⟨none, .st 2 (.t 9) (.t 43), none⟩ :: []) (⟨(some 10), .mv (.t 44), none⟩ :: [])) (.seq (.drawL (⟨(some 46), .mv (.t 3), none⟩ ::⟨(some 47), .ld 5 true (.t 4), none⟩ ::⟨(some 48), .ld 2 true (.t 6), none⟩ ::⟨(some 49), .call (.c (.fn 16 [])) [(.t 48)], none⟩ ::⟨(some 50), .call (.c (.fn 15 [])) [(.t 46), (.t 47), (.t 49), (.c (.nils)), (.c (.bool true))], none⟩ ::⟨(some 45), .mv (.t 50), none⟩ ::⟨(some 51), .ex 0 (.t 45), none⟩ ::⟨(some 52), .ex 1 (.t 45), none⟩ ::⟨(some 11), .al [.int .i64 0, .nils], none⟩ :: []) (⟨(some 52), .ex 1 (.t 45), none⟩ :: []) (⟨none, .st 2 (.t 11) (.t 51), none⟩ :: []) (⟨(some 12), .mv (.t 52), none⟩ :: [])) (.seq (.drawL (⟨(some 54), .mv (.t 3), none⟩ ::⟨(some 55), .ld 5 true (.t 4), none⟩ ::⟨(some 56), .ld 2 true (.t 7), none⟩ ::⟨(some 57), .call (.c (.fn 16 [])) [(.t 56)], none⟩ ::⟨(some 58), .call (.c (.fn 15 [])) [(.t 54), (.t 55), (.t 57), (.c (.nils)), (.c (.bool true))], none⟩ ::⟨(some 53), .mv (.t 58), none⟩ ::⟨(some 59), .ex 0 (.t 53), none⟩ ::⟨(some 60), .ex 1 (.t 53), none⟩ ::⟨(some 13), .al [.int .i64 0, .nils], none⟩ :: []) (⟨(some 60), .ex 1 (.t 53), none⟩ :: []) (⟨none, .st 2 (.t 13) (.t 59), none⟩ :: []) (⟨(some 14), .mv (.t 60), none⟩ :: [])) (.seq (.reg (⟨(some 62), .mv (.t 3), none⟩ ::⟨(some 63), .ld 2 true (.t 9), none⟩ ::⟨(some 64), .ld 2 true (.t 11), none⟩ ::⟨(some 65), .call (.c (.fn 14 [])) [(.t 62), (.t 63), (.t 64)], none⟩ ::⟨(some 61), .mv (.t 65), none⟩ ::⟨(some 66), .ex 0 (.t 61), none⟩ ::⟨(some 67), .ex 1 (.t 61), none⟩ ::⟨(some 15), .al [.int .i64 0, .nils], none⟩ ::⟨none, .st 2 (.t 15) (.t 66), none⟩ ::⟨(some 16), .mv (.t 67), none⟩ :: [])) (.seq (.seq (.reg (⟨(some 68), .mv (.t 8), none⟩ ::⟨(some 69), .bin .neq (.t 68) (.c (.int .i64 0)), none⟩ ::⟨(some 70), .mv (.t 69), none⟩ ::⟨(some 71), .mv (.t 10), some (70, false)⟩ ::⟨(some 72), .bin .neq (.t 71) (.c (.int .i64 0)), some (70, false)⟩ ::⟨(some 73), .pick (.t 70) (.c (.bool true)) (.t 72), none⟩ ::⟨(some 74), .mv (.t 73), none⟩ ::⟨(some 75), .mv (.t 12), some (74, false)⟩ ::⟨(some 76), .bin .neq (.t 75) (.c (.int .i64 0)), some (74, false)⟩ ::⟨(some 77), .pick (.t 74) (.c (.bool true)) (.t 76), none⟩ ::⟨(some 78), .mv (.t 77), none⟩ ::⟨(some 79), .mv (.t 14), some (78, false)⟩ ::⟨(some 80), .bin .neq (.t 79) (.c (.int .i64 0)), some (78, false)⟩ ::⟨(some 81), .pick (.t 78) (.c (.bool true)) (.t 80), none⟩ ::⟨(some 82), .mv (.t 81), none⟩ ::⟨(some 83), .mv (.t 16), some (82, false)⟩ ::⟨(some 84), .bin .neq (.t 83) (.c (.int .i64 0)), some (82, false)⟩ ::⟨(some 85), .pick (.t 82) (.c (.bool true)) (.t 84), none⟩ :: [])) (.cond (.t 85) (.seq (.reg (⟨(some 86), .call (.c (.fn 7 [])) [], none⟩ ::⟨(some 2), .mv (.t 86), none⟩ :: [])) .ret) .skip)) (.seq (.draw (⟨(some 87), .ld 2 true (.t 15), none⟩ ::⟨(some 88), .mv (.t 3), none⟩ ::⟨(some 89), .call (.c (.fn 18 [])) [(.t 88)], none⟩ :: []) (⟨(some 90), .call (.c (.fn 17 [])) [(.t 87), (.c (.int .i64 4)), (.t 89)], none⟩ ::⟨none, .st 2 (.t 15) (.t 90), none⟩ :: [])) (.seq (.reg (⟨(some 91), .call (.c (.fn 7 [])) [], none⟩ ::⟨(some 92), .mv (.t 91), none⟩ ::⟨(some 93), .ld 2 true (.t 13), some (92, true)⟩ ::⟨(some 94), .ld 2 true (.t 15), some (92, true)⟩ ::⟨(some 95), .call (.c (.fn 19 [])) [(.t 93), (.t 94)], some (92, true)⟩ ::⟨(some 96), .pick (.t 92) (.t 95) (.c (.bool false)), none⟩ ::⟨(some 2), .mv (.t 96), none⟩ :: [])) .ret)))))))))))
theorem cd_fretworklaw13_PullSpreads : Code1 Try.prog 4 97 ir_fretworklaw13_PullSpreads [.t 2] := ⟨Try.call4, _, _, Try.func4, rfl, by kernel_rfl, by kernel_rfl, by kernel_rfl, by kernel_rfl⟩

set_option maxHeartbeats 16000000 in
theorem fs_PullSpreads (r a b : Int) (l : List Tri) (x y : List (Int × Int)) (f : List Nat) (o : Bool) (ha : 0 ≤ a ∧ a ≤ 255) (hb : 0 ≤ b ∧ b ≤ 255) (hl : ∀ x ∈ l, I64 x.2.2) (hx : Ib x) (hy : Ib y) :
    FS Try.prog 4 [TK r a b l x y f o] (.bool true) := by
  refine fs_of_cvc mixed cd_fretworklaw13_PullSpreads (by simp) ?_
  have k1 := fs_Right13 r
  have k2 := fs_Matrix r a b l x y f o ha hb hl
  have k3 := fs_Vector r a b l x y f o x hb hx
  have k4 := fs_Vector r a b l x y f o y hb hy
  have hm := tkM_ok (r := r) ha hb hl
  have hzb := zb_fac (r := r) ha hb hl
  obtain ⟨e1, hX, hXi, hXl⟩ := tkV_V (r := r) hb hx
  obtain ⟨e2, hY, hYi, hYl⟩ := tkV_V (r := r) hb hy
  rw [e1] at k3
  rw [e2] at k4
  have hR := rgt_R r
  have hXv : ∀ z ∈ (tkV r b x).2, VR (rgt r) z.2 := fun z hz => by obtain ⟨n, hn, e⟩ := hXi z hz; rw [e]; exact valR_V hR hn
  have hYv : ∀ z ∈ (tkV r b y).2, VR (rgt r) z.2 := fun z hz => by obtain ⟨n, hn, e⟩ := hYi z hz; rw [e]; exact valR_V hR hn
  have iX : Ib (tkV r b x).2 := fun z hz => ⟨by have := hX.lo z hz; have := hX.n1; unfold I64; omega, by obtain ⟨n, hn, e⟩ := hXi z hz; rw [e]; exact valR_i hn⟩
  have iY : Ib (tkV r b y).2 := fun z hz => ⟨by have := hY.lo z hz; have := hY.n1; unfold I64; omega, by obtain ⟨n, hn, e⟩ := hYi z hz; rw [e]; exact valR_i hn⟩
  have hmF : ∀ v ∈ (tkM r a b l).2.2.2.2, FR (rgt r) v := fun v hv => by obtain ⟨n, hn, e⟩ := hm.2.1 v hv; rw [e]; exact facR_F hR hn
  clear hXi hYi
  generalize rgt r = R at *
  obtain ⟨hM, _, hm1, hm2⟩ := hm
  generalize tkM r a b l = m at *
  obtain ⟨m1, m2, m3, m4, mv⟩ := m
  simp only at hM hzb hm1 hm2 hmF
  have k2' : FS Try.prog 12 [TK r a b l x y f o] (MX m1 m2 m3 m4 mv) := k2
  rw [← hm2] at k3 k4 hX hY
  generalize (tkV r b x).2 = X at *
  generalize (tkV r b y).2 = Y at *
  have hc0 := hM.c0
  have hc1 := hM.c1
  have hr1 := hM.r1
  have hrow := rowL_F hR (st := m3) (col := m4) hmF
  -- what is called
  have iN : I64 m2 := by unfold I64; omega
  have dense : ∀ W : List (Int × Int), OkV m2 W → Ib W → FS Try.prog 15 [.int .i64 R, MX m1 m2 m3 m4 mv, dV m2 W, .nils, .bool true] (VE (timesR R (m1, m2, m3, m4, mv) (m2, toF m2 W, toL m2 W) [] true)) := fun W hW iW => by
    have hD := okD_to hW
    have := fs_pTimesN (r := R) (rows := m1) (cols := m2) (st := m3) (col := m4) (val := mv) (n := m2) (f := toF m2 W) (v := toL m2 W) (o := true) hzb iN hD.wd (dl_f hW) (dl_v hW) (zb_toL fun z hz => (iW z hz).2)
    rw [hM.mS, hD.dS] at this
    exact this
  have c1 := fs_r11Union R m2 X m2 Y (by omega) (by omega) iX iY
  rw [← unR_eq] at c1
  have hUi := unR_ib' (r := R) (n1 := m2) (n2 := m2) iX iY
  obtain ⟨U, hU⟩ : ∃ U, unR R m2 X m2 Y = U := ⟨_, rfl⟩
  rw [hU] at c1 hUi
  obtain ⟨un, ul, ue⟩ := U
  simp only at hUi
  have c1' : FS Try.prog 14 [.int .i64 R, VC m2 X, VC m2 Y] (.tup [VC un ul, .int .i64 ue]) := c1
  have d1 := fs_r10Of m2 X (by omega)
  rw [hX.sn, hX.sl] at d1
  have d2 := fs_r10Of m2 Y (by omega)
  rw [hY.sn, hY.sl] at d2
  have d3 := fs_r10Of un ul (by omega)
  have t1 := dense X hX iX
  have t2 := dense Y hY iY
  have b1 := times_ib hR hM hX
  have b2 := times_ib hR hM hY
  -- the third: of whatever comes
  have hO3 := okV un ul
  have t3 := fs_pTimesN (r := R) (rows := m1) (cols := m2) (st := m3) (col := m4) (val := mv) (n := sn un ul) (f := toF (sn un ul) (sl un ul)) (v := toL (sn un ul) (sl un ul)) (o := true) hzb hO3.i64 (okD_to hO3).wd (dl_f hO3) (dl_v hO3) (zb_toL fun z hz => (hUi.1.sl z hz).2)
  rw [hM.mS, (okD_to hO3).dS] at t3
  obtain ⟨A, hA⟩ : ∃ A, timesR R (m1, m2, m3, m4, mv) (m2, toF m2 X, toL m2 X) [] true = A := ⟨_, rfl⟩
  obtain ⟨B, hB⟩ : ∃ B, timesR R (m1, m2, m3, m4, mv) (m2, toF m2 Y, toL m2 Y) [] true = B := ⟨_, rfl⟩
  obtain ⟨C, hC⟩ : ∃ C, timesR R (m1, m2, m3, m4, mv) (sn un ul, toF (sn un ul) (sl un ul), toL (sn un ul) (sl un ul)) [] true = C := ⟨_, rfl⟩
  rw [hA] at t1 b1
  rw [hB] at t2 b2
  rw [hC] at t3
  obtain ⟨an, al, ae⟩ := A
  obtain ⟨bn, bl, be⟩ := B
  obtain ⟨cn, cl, ce⟩ := C
  simp only at b1 b2
  have c2 := fs_r11Union R an al bn bl (by omega) (by omega) b1.1 b2.1
  rw [← unR_eq] at c2
  have hDi := unR_ib' (r := R) (n1 := an) (n2 := bn) b1.1 b2.1
  obtain ⟨D, hD⟩ : ∃ D, unR R an al bn bl = D := ⟨_, rfl⟩
  rw [hD] at c2 hDi
  obtain ⟨dn', dl, de⟩ := D
  simp only at hDi
  have c2' : FS Try.prog 14 [.int .i64 R, VC an al, VC bn bl] (.tup [VC dn' dl, .int .i64 de]) := c2
  have z0 := fs_r2Zero R
  have w0 := fs_r12Where dn' dl 4 (rZero R) (by omega)
  by_cases hE : ue = 0 ∧ ae = 0 ∧ be = 0 ∧ ce = 0 ∧ de = 0
  · obtain ⟨rfl, rfl, rfl, rfl, rfl⟩ := hE
    have fU := unR_fine hX hY hR (by rw [hU])
    rw [hU] at fU
    obtain ⟨eU, hUe⟩ := fU
    simp only [Prod.mk.injEq, and_true] at eU
    obtain ⟨rfl, rfl⟩ := eU
    have hOU := okV_uL (r := R) (b := Y) hX
    rw [hOU.sn, hOU.sl] at hC
    have fA := times_fine hR hM hX (by rw [hA])
    have fB := times_fine hR hM hY (by rw [hB])
    have fC := times_fine hR hM hOU (by rw [hC])
    rw [hA] at fA
    rw [hB] at fB
    rw [hC] at fC
    simp only [Prod.mk.injEq, and_true] at fA fB fC
    obtain ⟨fA, rfl, rfl⟩ := fA
    obtain ⟨fB, rfl, rfl⟩ := fB
    obtain ⟨fC, rfl, rfl⟩ := fC
    have hOA := okV_tab hM.r0 hM.r1 (dn R (Rw R un m3 m4 mv X))
    have hOB := okV_tab hM.r0 hM.r1 (dn R (Rw R un m3 m4 mv Y))
    have fD := unR_fine hOA hOB hR (by rw [hD])
    rw [hD] at fD
    obtain ⟨eD, hDe⟩ := fD
    simp only [Prod.mk.injEq, and_true] at eD
    obtain ⟨rfl, rfl⟩ := eD
    have hOD := okV_uL (r := R) (b := tabL (dn R (Rw R un m3 m4 mv Y)) dn'.toNat) hOA
    rw [hOD.sn, hOD.sl, ← spread hR hM hrow hX hXv hY hYv hUe fA fB fC hDe] at w0
    have s0 := fs_r9Same dn' dn' (tabL (dn R (Rw R un m3 m4 mv (uL R un X Y))) dn'.toNat) (tabL (dn R (Rw R un m3 m4 mv (uL R un X Y))) dn'.toNat) (by have := tabL_le (dn R (Rw R un m3 m4 mv (uL R un X Y))) dn'.toNat; omega) (by have := tabL_le (dn R (Rw R un m3 m4 mv (uL R un X Y))) dn'.toNat; omega)
    rw [decide_eq_true rfl, decide_eq_true rfl, Bool.true_and] at s0
    have t1' : FS Try.prog 15 [.int .i64 R, MX dn' un m3 m4 mv, dV un X, .nils, .bool true] (.tup [VC dn' _, .int .i64 0]) := t1
    have t2' : FS Try.prog 15 [.int .i64 R, MX dn' un m3 m4 mv, dV un Y, .nils, .bool true] (.tup [VC dn' _, .int .i64 0]) := t2
    have t3' : FS Try.prog 15 [.int .i64 R, MX dn' un m3 m4 mv, dV (sn un (uL R un X Y)) (sl un (uL R un X Y)), .nils, .bool true] (.tup [VC dn' _, .int .i64 0]) := t3
    generalize tabL (dn R (Rw R un m3 m4 mv (uL R un X Y))) dn'.toNat = L3 at *
    generalize tabL (dn R (Rw R un m3 m4 mv X)) dn'.toNat = L1 at *
    generalize tabL (dn R (Rw R un m3 m4 mv Y)) dn'.toNat = L2 at *
    unfold dV at *
    generalize toF un X = F1 at *
    generalize toL un X = V1 at *
    generalize toF un Y = F2 at *
    generalize toL un Y = V2 at *
    generalize toF (sn un (uL R un X Y)) (sl un (uL R un X Y)) = F3 at *
    generalize toL (sn un (uL R un X Y)) (sl un (uL R un X Y)) = V3 at *
    repeat' (conv => whnf); first
      | ((refine Or.inl ⟨by rfl, _, k1, ?_⟩))
      | ((refine Or.inl ⟨by rfl, _, k2', ?_⟩))
      | ((refine Or.inl ⟨by rfl, _, k3, ?_⟩))
      | ((refine Or.inl ⟨by rfl, _, k4, ?_⟩))
      | ((refine Or.inl ⟨by rfl, _, c1', ?_⟩))
      | ((refine Or.inl ⟨by rfl, _, d1, ?_⟩))
      | ((refine Or.inl ⟨by rfl, _, d2, ?_⟩))
      | ((refine Or.inl ⟨by rfl, _, d3, ?_⟩))
      | ((refine Or.inl ⟨by rfl, _, t1', ?_⟩))
      | ((refine Or.inl ⟨by rfl, _, t2', ?_⟩))
      | ((refine Or.inl ⟨by rfl, _, t3', ?_⟩))
      | ((refine Or.inl ⟨by rfl, _, c2', ?_⟩))
      | ((refine Or.inl ⟨by rfl, _, z0, ?_⟩))
      | ((refine Or.inl ⟨by rfl, _, w0, ?_⟩))
      | ((refine Or.inl ⟨by rfl, _, fs_live13, ?_⟩))
      | ((refine Or.inl ⟨by rfl, _, s0, ?_⟩))
      | ((refine ex_last ?_; refine And.intro ?_ ?_; focus ((repeat' (first | exact trivial | exact rfl | (refine And.intro ?_ ?_) | omega | exact Nat.le_of_ble_eq_true rfl | ((conv => whnf); first | exact trivial | exact rfl | (refine And.intro ?_ ?_)))); done)))
      | ((exact rfl))
      | ((exact trivial))
      | ((refine And.intro ?_ ?_; focus ((repeat' (first | exact trivial | exact rfl | (refine And.intro ?_ ?_) | omega | exact Nat.le_of_ble_eq_true rfl | ((conv => whnf); first | exact trivial | exact rfl | (refine And.intro ?_ ?_)))); done)))
      | ((refine Br.beq (by rfl) ?_))
      | ((refine Br.bne (by rfl) ?_))
      | ((refine And.intro (Or.inl (Nat.zero_le _)) ?_))
      | ((refine And.intro (show _ ≤ _ from Nat.le_of_ble_eq_true rfl) ?_))
      | (refine Br.tt ?_)
      | (refine Br.ff ?_)
      | (refine Br.dec (fun h => ?_) (fun h => ?_)) <;> try (exfalso; omega)
      | (refine Br.neg ?_)
      | (refine Br.mk (fun h => ?_) (fun h => ?_))
      | (refine And.intro rfl ?_)
      | (refine And.intro (by omega) ?_)
      | (refine ⟨_, Or.inl ⟨⟨by omega, by omega⟩, rfl⟩, ?_⟩)
      | (refine And.intro (by simp only [lens_all, zs_len, U_len, sms_len, its_len, eds_len]; first | done | omega) ?_)
      | (refine And.intro (Nat.le_refl _) ?_)
      | fail
    all_goals exact rfl
  · have t1' : FS Try.prog 15 [.int .i64 R, MX m1 m2 m3 m4 mv, dV m2 X, .nils, .bool true] (.tup [VC an al, .int .i64 ae]) := t1
    have t2' : FS Try.prog 15 [.int .i64 R, MX m1 m2 m3 m4 mv, dV m2 Y, .nils, .bool true] (.tup [VC bn bl, .int .i64 be]) := t2
    have t3' : FS Try.prog 15 [.int .i64 R, MX m1 m2 m3 m4 mv, dV (sn un ul) (sl un ul), .nils, .bool true] (.tup [VC cn cl, .int .i64 ce]) := t3
    unfold dV at *
    generalize toF m2 X = F1 at *
    generalize toL m2 X = V1 at *
    generalize toF m2 Y = F2 at *
    generalize toL m2 Y = V2 at *
    generalize toF (sn un ul) (sl un ul) = F3 at *
    generalize toL (sn un ul) (sl un ul) = V3 at *
    repeat' (conv => whnf); first
      | ((refine Or.inl ⟨by rfl, _, k1, ?_⟩))
      | ((refine Or.inl ⟨by rfl, _, k2', ?_⟩))
      | ((refine Or.inl ⟨by rfl, _, k3, ?_⟩))
      | ((refine Or.inl ⟨by rfl, _, k4, ?_⟩))
      | ((refine Or.inl ⟨by rfl, _, c1', ?_⟩))
      | ((refine Or.inl ⟨by rfl, _, d1, ?_⟩))
      | ((refine Or.inl ⟨by rfl, _, d2, ?_⟩))
      | ((refine Or.inl ⟨by rfl, _, d3, ?_⟩))
      | ((refine Or.inl ⟨by rfl, _, t1', ?_⟩))
      | ((refine Or.inl ⟨by rfl, _, t2', ?_⟩))
      | ((refine Or.inl ⟨by rfl, _, t3', ?_⟩))
      | ((refine Or.inl ⟨by rfl, _, c2', ?_⟩))
      | ((refine Or.inl ⟨by rfl, _, fs_live13, ?_⟩))
      | ((refine ex_last ?_; refine And.intro ?_ ?_; focus ((repeat' (first | exact trivial | exact rfl | (refine And.intro ?_ ?_) | omega | exact Nat.le_of_ble_eq_true rfl | ((conv => whnf); first | exact trivial | exact rfl | (refine And.intro ?_ ?_)))); done)))
      | ((exact rfl))
      | ((exact trivial))
      | ((refine And.intro ?_ ?_; focus ((repeat' (first | exact trivial | exact rfl | (refine And.intro ?_ ?_) | omega | exact Nat.le_of_ble_eq_true rfl | ((conv => whnf); first | exact trivial | exact rfl | (refine And.intro ?_ ?_)))); done)))
      | ((refine Br.beq (by rfl) ?_))
      | ((refine Br.bne (by rfl) ?_))
      | ((refine And.intro (Or.inl (Nat.zero_le _)) ?_))
      | ((refine And.intro (show _ ≤ _ from Nat.le_of_ble_eq_true rfl) ?_))
      | (refine Br.tt ?_)
      | (refine Br.ff ?_)
      | (refine Br.dec (fun h => ?_) (fun h => ?_)) <;> try (exfalso; omega)
      | (refine Br.neg ?_)
      | (refine Br.mk (fun h => ?_) (fun h => ?_))
      | (refine And.intro rfl ?_)
      | (refine And.intro (by omega) ?_)
      | (refine ⟨_, Or.inl ⟨⟨by omega, by omega⟩, rfl⟩, ?_⟩)
      | (refine And.intro (by simp only [lens_all, zs_len, U_len, sms_len, its_len, eds_len]; first | done | omega) ?_)
      | (refine And.intro (Nat.le_refl _) ?_)
      | fail
    all_goals exact rfl
end
section
open Go.RowKit
attribute [local irreducible] FS FO IT HS

/-- Whether a row has a column at which the vector is 1. -/
def isB (W : List (Int × Int)) (row : List (Int × Int)) : Bool := row.any fun x => gt W x.1 == some 1
theorem row_or {g : Int → Option Int} (hg : ∀ c v, g c = some v → v = 0 ∨ v = 1) : ∀ (row : List (Int × Int)), (∀ x ∈ row, x.2 = 1) → ∀ (o : Option Int), (o = none ∨ o = some 0 ∨ o = some 1) →
    (row.foldl (rowF 2 g) o = none ∨ row.foldl (rowF 2 g) o = some 0 ∨ row.foldl (rowF 2 g) o = some 1) ∧ (row.foldl (rowF 2 g) o = some 1 ↔ o = some 1 ∨ (row.any fun x => g x.1 == some 1) = true)
  | [], _, o, ho => ⟨ho, by simp⟩
  | x :: row, h1, o, ho => by
    have ih := fun o ho => row_or hg row (fun y hy => h1 y (List.mem_cons_of_mem _ hy)) o ho
    rw [List.foldl_cons, List.any_cons]
    have hx := h1 x List.mem_cons_self
    cases hgx : g x.1 with
    | none =>
      have e : rowF 2 g o x = o := by unfold rowF; rw [hgx]
      rw [e]
      have := ih o ho
      refine ⟨this.1, ?_⟩
      rw [this.2]
      simp
    | some v =>
      have e : rowF 2 g o x = accS 2 o (rMul 2 1 v) := by unfold rowF; rw [hgx, hx]
      rw [e]
      have hv := hg _ _ hgx
      have key : (accS 2 o (rMul 2 1 v) = none ∨ accS 2 o (rMul 2 1 v) = some 0 ∨ accS 2 o (rMul 2 1 v) = some 1) ∧ (accS 2 o (rMul 2 1 v) = some 1 ↔ o = some 1 ∨ v = 1) := by
        rcases hv with rfl | rfl <;> rcases ho with rfl | rfl | rfl <;> decide
      have := ih _ key.1
      refine ⟨this.1, ?_⟩
      rw [this.2, key.2, Bool.or_eq_true]
      have e3 : ((some v : Option Int) == some 1) = true ↔ v = 1 := by simp
      rw [e3, or_assoc]
theorem rowL_ones {st col : List Int} {n : Nat} {i : Nat} (h : ∀ j, j < (st.getD (i + 1) 0 - st.getD i 0).toNat → (st.getD i 0).toNat + j < n) : ∀ x ∈ rowL st col (List.replicate n 1) i, x.2 = 1 := by
  intro x hx
  obtain ⟨j, hj, rfl⟩ := List.mem_map.1 hx
  have := h j (List.mem_range.1 hj)
  show (List.replicate n (1 : Int)).getD _ 0 = 1
  generalize (st.getD i 0).toNat + j = q at *
  simp [this]
theorem OkM.ones {rows cols : Int} {st col val : List Int} (h : OkM rows cols st col val) : OkM rows cols st col (List.replicate val.length 1) :=
  ⟨h.r0, h.r1, h.c0, h.c1, h.sl, by rw [h.vl]; simp, h.nl, h.s0, h.sn, h.row⟩
/-- What such a matrix comes to. -/
theorem times_or {m1 m2 : Int} {m3 m4 mv : List Int} {W : List (Int × Int)} (hM : OkM m1 m2 m3 m4 mv) (hW : OkV m2 W) (hv : ∀ x ∈ W, x.2 = 0 ∨ x.2 = 1) : ∃ L : List (Int × Int), timesR 2 (m1, m2, m3, m4, List.replicate mv.length 1) (m2, toF m2 W, toL m2 W) [] true = (m1, L, 0) ∧ OkV m1 L ∧ ∀ i : Nat, (i : Int) < m1 → gt L (i : Int) = if isB W (rowL m3 m4 (List.replicate mv.length 1) i) = true then some 1 else none := by
  have hO := hM.ones
  have hg : ∀ c v, gt W c = some v → v = 0 ∨ v = 1 := fun c v h => hv _ (gt_mem h)
  have hrow : ∀ i : Nat, (i : Int) < m1 → (Rw 2 m2 m3 m4 (List.replicate mv.length 1) W i = none ∨ Rw 2 m2 m3 m4 (List.replicate mv.length 1) W i = some 0 ∨ Rw 2 m2 m3 m4 (List.replicate mv.length 1) W i = some 1) ∧ (Rw 2 m2 m3 m4 (List.replicate mv.length 1) W i = some 1 ↔ isB W (rowL m3 m4 (List.replicate mv.length 1) i) = true) := fun i hi => by
    have hat := hM.at hi
    have hvl := hM.vl
    have := row_or hg (rowL m3 m4 (List.replicate mv.length 1) i) (rowL_ones fun j hj => by omega) none (.inl rfl)
    refine ⟨this.1, ?_⟩
    have h2 := this.2
    simp only [reduceCtorEq, false_or] at h2
    exact h2
  have hf : fitB (sumsL (Rw 2 m2 m3 m4 (List.replicate mv.length 1) W) (List.range m1.toNat)) = true := by
    refine fitB_iff.2 fun i hi s hs => ?_
    have h := (hrow i (by omega)).1
    rw [hs] at h
    rcases h with h | h | h
    · cases h
    · cases h; decide
    · cases h; decide
  refine ⟨_, by rw [times_all rfl hO hW, if_pos hf], okV_tab hM.r0 hM.r1 _, fun i hi => ?_⟩
  rw [gt_tabL, if_pos (by omega)]
  have h := hrow i hi
  unfold dn
  rw [Int.toNat_natCast]
  rcases h.1 with e | e | e
  · have : ¬ isB W (rowL m3 m4 (List.replicate mv.length 1) i) = true := fun h' => by rw [h.2.2 h'] at e; cases e
    rw [e, if_neg this]; rfl
  · have : ¬ isB W (rowL m3 m4 (List.replicate mv.length 1) i) = true := fun h' => by rw [h.2.2 h'] at e; cases e
    rw [e, if_neg this]; rfl
  · rw [e, if_pos (h.2.1 e)]; rfl
/-- The first ones are 1. -/
def oneK (val : List Int) (k : Nat) : List Int := List.replicate k 1 ++ val.drop k
theorem oneK_len {val : List Int} {k : Nat} (h : k ≤ val.length) : (oneK val k).length = val.length := by simp [oneK]; omega
theorem oneK_set {val : List Int} {k : Nat} (h : k < val.length) : (oneK val k).set k 1 = oneK val (k + 1) := by
  unfold oneK
  rw [List.set_append, if_neg (by simp), List.length_replicate, Nat.sub_self, List.drop_eq_getElem_cons h, List.set_cons_zero, List.replicate_succ', List.append_assoc]
  rfl
theorem oneK_end (val : List Int) : oneK val val.length = List.replicate val.length 1 := by simp [oneK]
/-- A matrix whose values are one's own, lent. -/
theorem frz_mat {H : List Blk} {F : List SV → Prop} {k n : Nat} {z : SV} {r c : Int} {st col val : List Int} {rest : List SV} (hz : z.pure = true) (hk : H[k]? = some (.arr 1 (zs val))) (hn : n = val.length) (hp : SV.pure.pureL rest = true) (h : F (z :: MX r c st col val :: rest)) : frzs (frzK 4 H) (z :: .agg [.int .i64 r, .int .i64 c, Z st, Z col, .osl k 1 0 n] :: rest) F := by
  have h1 : frzK 3 H (.osl k 1 0 n) fun y => frzs (frzK 4 H) rest fun ys => F (z :: .agg [.int .i64 r, .int .i64 c, Z st, Z col, y] :: ys) := by
    show match H[k]? with
      | some (.arr wd' xs) => wd' = 1 ∧ 0 + n ≤ xs.length ∧ frzs (frzK 4 H) rest fun ys => F (z :: .agg [.int .i64 r, .int .i64 c, Z st, Z col, .slc 1 ((xs.drop 0).take n)] :: ys)
      | _ => False
    rw [hk]
    refine ⟨rfl, by rw [zs_len]; omega, frzs_pure (frz_pure 4) rest _ hp ?_⟩
    rw [List.drop_zero, hn, ← zs_len val, List.take_length]
    exact h
  exact frz_pure 4 z (fun y => frzs (frzK 4 H) (.agg [.int .i64 r, .int .i64 c, Z st, Z col, .osl k 1 0 n] :: rest) fun ys => F (y :: ys)) hz h1

def ir_fretworklaw13_PullFinds : IR :=
(.seq (.reg (⟨(some 1), .bx (.t 0), none⟩ ::⟨(some 2), .mv (.c (.bool false)), none⟩ :: [])) (.seq (.reg (⟨(some 15), .fa 0 (.t 1), none⟩ ::⟨none, .st 1 (.t 15) (.c (.int .i64 2)), none⟩ :: [])) (.seq (.draw (⟨(some 16), .ld 8 true (.t 1), none⟩ ::⟨(some 17), .call (.c (.fn 12 [])) [(.t 16)], none⟩ ::⟨(some 18), .ld 8 true (.t 1), none⟩ ::⟨(some 19), .fa 4 (.t 1), none⟩ ::⟨(some 20), .ld 1 false (.t 19), none⟩ ::⟨(some 21), .call (.c (.fn 13 [])) [(.t 18), (.t 20)], none⟩ ::⟨(some 3), .al [.int .i64 0, .int .i64 0, .nils, .nils, .nils], none⟩ ::⟨(some 4), .al [.int .i64 0, .nils], none⟩ :: []) (⟨none, .st 5 (.t 3) (.t 17), none⟩ ::⟨none, .st 2 (.t 4) (.t 21), none⟩ :: [])) (.seq (.seq (.reg (⟨(some 5), .mv (.c (.int .i64 0)), none⟩ :: [])) (.block 0 (.loop (.seq (.seq (.reg (⟨(some 22), .mv (.t 5), none⟩ ::⟨(some 23), .fa 4 (.t 3), none⟩ ::⟨(some 24), .ld 1 false (.t 23), none⟩ ::⟨(some 25), .ln (.t 24), none⟩ ::⟨(some 26), .bin .lss (.t 22) (.t 25), none⟩ :: [])) (.cond (.t 26) .skip (.exit 0))) (.seq (.block 1 (.reg (⟨(some 29), .fa 4 (.t 3), none⟩ ::⟨(some 30), .ld 1 false (.t 29), none⟩ ::⟨(some 31), .mv (.t 5), none⟩ ::⟨(some 32), .ia 1 (.t 30) (.t 31), none⟩ ::⟨none, .st 1 (.t 32) (.c (.int .i64 1)), none⟩ :: []))) (.reg (⟨(some 27), .mv (.t 5), none⟩ ::⟨(some 28), .bin .add (.t 27) (.c (.int .i64 1)), none⟩ ::⟨(some 5), .mv (.t 28), none⟩ :: []))))))) (.seq (.drawL (⟨(some 34), .ld 5 true (.t 3), none⟩ ::⟨(some 35), .ld 2 true (.t 4), none⟩ ::⟨(some 36), .call (.c (.fn 16 [])) [(.t 35)], none⟩ ::⟨(some 37), .call (.c (.fn 15 [])) [(.c (.int .i64 2)), (.t 34), (.t 36), (.c (.nils)), (.c (.bool true))], none⟩ ::⟨(some 33), .mv (.t 37), none⟩ ::⟨(some 38), .ex 0 (.t 33), none⟩ ::⟨(some 39), .ex 1 (.t 33), none⟩ ::⟨(some 6), .al [.int .i64 0, .nils], none⟩ :: []) (⟨(some 39), .ex 1 (.t 33), none⟩ :: []) (⟨none, .st 2 (.t 6) (.t 38), none⟩ :: []) (⟨(some 7), .mv (.t 39), none⟩ :: [])) (.seq (.seq (.reg (⟨(some 8), .mv (.c (.int .i64 0)), none⟩ :: [])) (.block 2 (.loop (.seq (.seq (.reg (⟨(some 40), .mv (.t 8), none⟩ ::⟨(some 41), .fa 0 (.t 3), none⟩ ::⟨(some 42), .ld 1 false (.t 41), none⟩ ::⟨(some 43), .bin .lss (.t 40) (.t 42), none⟩ :: [])) (.cond (.t 43) .skip (.exit 2))) (.seq (.block 3 (.seq (.reg (⟨(some 9), .mv (.c (.bool false)), none⟩ :: [])) (.seq (.seq (.reg (⟨(some 46), .fa 2 (.t 3), none⟩ ::⟨(some 47), .ld 1 false (.t 46), none⟩ ::⟨(some 48), .mv (.t 8), none⟩ ::⟨(some 49), .ia 1 (.t 47) (.t 48), none⟩ ::⟨(some 50), .ld 1 false (.t 49), none⟩ ::⟨(some 10), .mv (.t 50), none⟩ :: [])) (.block 4 (.loop (.seq (.seq (.reg (⟨(some 51), .mv (.t 10), none⟩ ::⟨(some 52), .fa 2 (.t 3), none⟩ ::⟨(some 53), .ld 1 false (.t 52), none⟩ ::⟨(some 54), .mv (.t 8), none⟩ ::⟨(some 55), .bin .add (.t 54) (.c (.int .i64 1)), none⟩ ::⟨(some 56), .ia 1 (.t 53) (.t 55), none⟩ ::⟨(some 57), .ld 1 false (.t 56), none⟩ ::⟨(some 58), .bin .lss (.t 51) (.t 57), none⟩ :: [])) (.cond (.t 58) .skip (.exit 4))) (.seq (.block 5 (.seq (.draw (⟨(some 62), .ld 2 true (.t 4), none⟩ ::⟨(some 63), .fa 3 (.t 3), none⟩ ::⟨(some 64), .ld 1 false (.t 63), none⟩ ::⟨(some 65), .mv (.t 10), none⟩ ::⟨(some 66), .ia 1 (.t 64) (.t 65), none⟩ ::⟨(some 67), .ld 1 false (.t 66), none⟩ ::⟨(some 68), .call (.c (.fn 22 [])) [(.t 62), (.t 67)], none⟩ ::⟨(some 61), .mv (.t 68), none⟩ ::⟨(some 69), .ex 0 (.t 61), none⟩ ::⟨(some 70), .ex 1 (.t 61), none⟩ ::⟨(some 11), .mv (.t 69), none⟩ :: []) (⟨(some 12), .mv (.t 70), none⟩ :: [])) (.reg (⟨(some 71), .mv (.t 9), none⟩ ::⟨(some 72), .mv (.t 71), none⟩ ::⟨(some 73), .mv (.t 11), some (72, false)⟩ ::⟨(some 74), .bin .eql (.t 73) (.c (.int .i64 1)), some (72, false)⟩ ::⟨(some 75), .pick (.t 72) (.c (.bool true)) (.t 74), none⟩ ::⟨(some 9), .mv (.t 75), none⟩ :: [])))) (.reg (⟨(some 59), .mv (.t 10), none⟩ ::⟨(some 60), .bin .add (.t 59) (.c (.int .i64 1)), none⟩ ::⟨(some 10), .mv (.t 60), none⟩ :: []))))))) (.seq (.reg (⟨(some 77), .ld 2 true (.t 6), none⟩ ::⟨(some 78), .mv (.t 8), none⟩ ::⟨(some 79), .call (.c (.fn 22 [])) [(.t 77), (.t 78)], none⟩ ::⟨(some 76), .mv (.t 79), none⟩ ::⟨(some 80), .ex 0 (.t 76), none⟩ ::⟨(some 81), .ex 1 (.t 76), none⟩ ::⟨(some 13), .mv (.t 80), none⟩ ::⟨(some 14), .mv (.t 81), none⟩ :: [])) (.seq (.reg (⟨(some 82), .mv (.t 14), none⟩ ::⟨(some 83), .mv (.t 9), none⟩ ::⟨(some 84), .beq true (.t 82) (.t 83), none⟩ ::⟨(some 85), .mv (.t 84), none⟩ ::⟨(some 86), .mv (.t 14), some (85, false)⟩ ::⟨(some 87), .mv (.t 86), some (85, false)⟩ ::⟨(some 88), .mv (.t 13), some (87, true)⟩ ::⟨(some 89), .bin .neq (.t 88) (.c (.int .i64 1)), some (87, true)⟩ ::⟨(some 90), .pick (.t 87) (.t 89) (.c (.bool false)), some (85, false)⟩ ::⟨(some 91), .pick (.t 85) (.c (.bool true)) (.t 90), none⟩ :: [])) (.cond (.t 91) (.seq (.reg (⟨(some 2), .mv (.c (.bool false)), none⟩ :: [])) .ret) .skip)))))) (.reg (⟨(some 44), .mv (.t 8), none⟩ ::⟨(some 45), .bin .add (.t 44) (.c (.int .i64 1)), none⟩ ::⟨(some 8), .mv (.t 45), none⟩ :: []))))))) (.seq (.reg (⟨(some 92), .call (.c (.fn 7 [])) [], none⟩ ::⟨(some 93), .mv (.t 92), none⟩ ::⟨(some 94), .mv (.t 7), some (93, true)⟩ ::⟨(some 95), .bin .eql (.t 94) (.c (.int .i64 0)), some (93, true)⟩ ::⟨(some 96), .pick (.t 93) (.t 95) (.c (.bool false)), none⟩ ::⟨(some 2), .mv (.t 96), none⟩ :: [])) .ret)))))))
theorem cd_fretworklaw13_PullFinds : Code1 Try.prog 6 97 ir_fretworklaw13_PullFinds [.t 2] := ⟨Try.call6, _, _, Try.func6, rfl, by kernel_rfl, by kernel_rfl, by kernel_rfl, by kernel_rfl⟩

set_option maxHeartbeats 16000000 in
theorem fs_PullFinds (r a b : Int) (l : List Tri) (x y : List (Int × Int)) (f : List Nat) (o : Bool) (ha : 0 ≤ a ∧ a ≤ 255) (hb : 0 ≤ b ∧ b ≤ 255) (hl : ∀ x ∈ l, I64 x.2.2) (hx : Ib x) :
    FS Try.prog 6 [TK r a b l x y f o] (.bool true) := by
  refine fs_of_cvc mixed cd_fretworklaw13_PullFinds (by simp) ?_
  have k2 := fo_Matrix 2 a b l x y f o ha hb hl
  have k3 := fs_Vector 2 a b l x y f o x hb hx
  have hm := tkM_ok (r := 2) ha hb hl
  obtain ⟨e1, hX, hXi, hXl⟩ := tkV_V (r := 2) hb hx
  rw [e1] at k3
  have hXv : ∀ z ∈ (tkV 2 b x).2, z.2 = 0 ∨ z.2 = 1 := fun z hz => by
    obtain ⟨n, hn, e⟩ := hXi z hz
    rw [e, show rgt 2 = 2 from rfl]
    show n % 2 = 0 ∨ n % 2 = 1
    omega
  clear hXi
  obtain ⟨hM, _, hm1, hm2⟩ := hm
  generalize tkM 2 a b l = m at *
  obtain ⟨m1, m2, m3, m4, mv⟩ := m
  simp only at hM hm1 hm2
  unfold MW at k2
  simp only at k2
  rw [← hm2] at k3 hX
  generalize (tkV 2 b x).2 = W at *
  have hc0 := hM.c0
  have hc1 := hM.c1
  have hr0 := hM.r0
  have hr1 := hM.r1
  have hsl := hM.sl
  have hvl := hM.vl
  have hnl := hM.nl
  have hz3 := zs_len m3
  have hz4 := zs_len m4
  have iN : I64 m2 := by unfold I64; omega
  have k4 := fs_r10Of m2 W (by omega)
  rw [hX.sn, hX.sl] at k4
  have hD := okD_to hX
  obtain ⟨L, eL, hL, hgL⟩ := times_or hM hX hXv
  have zW : Zb (toL m2 W) := zb_toL fun z hz => by rcases hXv z hz with h | h <;> rw [h] <;> unfold I64 <;> omega
  have k5 := fo_pTimes 2 m1 m2 m3 m4 (List.replicate mv.length 1) m2 (toF m2 W) (toL m2 W) [] true (fun z hz => by rw [List.eq_of_mem_replicate hz]; exact ⟨by omega, by omega⟩) iN hD.wd (dl_f hX) (dl_v hX) zW (fun x hx => by cases hx)
  rw [hM.ones.mS, hD.dS, eL] at k5
  have k5' : FO Try.prog 15 [.int .i64 2, MX m1 m2 m3 m4 (List.replicate mv.length 1), DV m2 (toF m2 W) (toL m2 W), .nils, .bool true] (.tup [.agg [.int .i64 m1, .osl 0 2 0 L.length], .int .i64 0]) [.arr 2 (its L)] := fo_le k5 ⟨rfl, rfl, rfl, rfl, rfl, trivial⟩
  have hgW : ∀ p, FS Try.prog 22 [VC m2 W, .int .i64 p] (.tup [.int .i64 ((gt W p).getD 0), .bool (gt W p).isSome]) := fun p => by
    have := fs_r9Get m2 W p (by omega)
    rwa [hX.sl] at this
  have hLle := hL.le
  have hgV : ∀ i : Nat, (i : Int) < m1 → FS Try.prog 22 [.agg [.int .i64 m1, .slc 2 (its L)], .int .i64 (i : Int)] (.tup [.int .i64 ((if isB W (rowL m3 m4 (List.replicate mv.length 1) i) = true then some 1 else none : Option Int).getD 0), .bool (if isB W (rowL m3 m4 (List.replicate mv.length 1) i) = true then some 1 else none : Option Int).isSome]) := fun i hi => by
    have := fs_r9Get m1 L (i : Int) (by omega)
    rw [hL.sl, hgL i hi] at this
    exact this
  have hLi := its_len L
  unfold dV at k4
  generalize toF m2 W = F1 at *
  generalize toL m2 W = V1 at *
  have hlv := its_looseB L
  repeat' (conv => whnf); first
    | ((refine Or.inl ⟨by rfl, _, k3, ?_⟩))
    | ((refine Or.inr (Or.inl ⟨by rfl, _, _, k2, ?_⟩)))
    | ((refine Br.beq (by rfl) ?_))
    | ((refine Br.bne (by rfl) ?_))
    | ((refine And.intro (Or.inl (Nat.zero_le _)) ?_))
    | ((refine And.intro (show _ ≤ _ from Nat.le_of_ble_eq_true rfl) ?_))
    | (refine Br.tt ?_)
    | (refine Br.ff ?_)
    | (refine Br.dec (fun h => ?_) (fun h => ?_)) <;> try (exfalso; omega)
    | (refine Br.neg ?_)
    | (refine Br.mk (fun h => ?_) (fun h => ?_))
    | (refine And.intro rfl ?_)
    | (refine And.intro (by omega) ?_)
    | (refine ⟨_, Or.inl ⟨⟨by omega, by omega⟩, rfl⟩, ?_⟩)
    | (refine And.intro (by simp only [lens_all, zs_len, U_len, sms_len, its_len, eds_len]; first | done | omega) ?_)
    | (refine And.intro (Nat.le_refl _) ?_)
    | fail
  refine ⟨Nat, fun k => k ≤ mv.length, fun k => [(2, .bool false), (3, .ptr 2 0 0 0), (4, .ptr 3 0 0 0), (5, .int .i64 (k : Int))], fun k => [.dead, .arr 1 (zs (oneK mv k)), .vars [.int .i64 m1, .int .i64 m2, Z m3, Z m4, .osl 1 1 0 mv.length], .vars [.int .i64 m2, IL W]], fun _ => none, fun k => mv.length - k,
    ⟨0, Nat.zero_le _, ⟨rfl, rfl, rfl, rfl, trivial⟩, ⟨trivial, rfl, ⟨rfl, rfl, rfl, rfl, rfl, trivial⟩, ⟨rfl, rfl, trivial⟩, trivial⟩, rfl⟩, fun k hk => ?_⟩
  have hk : k ≤ mv.length := hk
  have hok := oneK_len hk
  have hoz := zs_len (oneK mv k)
  by_cases hkl : k < mv.length
  · have hset := oneK_set hkl
    repeat' (conv => whnf); first
      | ((refine ⟨_, zs_one (i := k) (by omega) (by omega), ?_⟩))
      | ((refine Br.beq (by rfl) ?_))
      | ((refine Br.bne (by rfl) ?_))
      | ((refine And.intro (Or.inl (Nat.zero_le _)) ?_))
      | ((refine And.intro (show _ ≤ _ from Nat.le_of_ble_eq_true rfl) ?_))
      | (refine Br.tt ?_)
      | (refine Br.ff ?_)
      | (refine Br.dec (fun h => ?_) (fun h => ?_)) <;> try (exfalso; omega)
      | (refine Br.neg ?_)
      | (refine Br.mk (fun h => ?_) (fun h => ?_))
      | (refine And.intro rfl ?_)
      | (refine And.intro (by omega) ?_)
      | (refine ⟨_, Or.inl ⟨⟨by omega, by omega⟩, rfl⟩, ?_⟩)
      | (refine And.intro (by simp only [lens_all, zs_len, U_len, sms_len, its_len, eds_len]; first | done | omega) ?_)
      | (refine And.intro (Nat.le_refl _) ?_)
      | fail
    refine ⟨k + 1, (show k + 1 ≤ mv.length by omega), (show mv.length - (k + 1) < mv.length - k by omega), ⟨rfl, rfl, rfl, rfl, trivial⟩, ⟨trivial, ?_, ⟨rfl, rfl, rfl, rfl, rfl, trivial⟩, ⟨rfl, rfl, trivial⟩, trivial⟩, rfl⟩
    show Blk.arr 1 ((zs (oneK mv k)).set (0 + (k : Int).toNat) [.int .i64 1]) = Blk.arr 1 (zs (oneK mv (k + 1)))
    rw [Int.toNat_natCast, Nat.zero_add, zs_set, hset]
  · obtain rfl : k = mv.length := by omega
    have hfz : [Blk.dead, .arr 1 (zs (oneK mv mv.length)), .vars [.int .i64 m1, .int .i64 m2, Z m3, Z m4, .osl 1 1 0 mv.length], .vars [.int .i64 m2, IL W]][1]? = some (.arr 1 (zs (List.replicate mv.length 1))) := by rw [oneK_end]; rfl
    have hrl : mv.length = (List.replicate mv.length (1 : Int)).length := by simp
    repeat' (conv => whnf); first
      | ((refine Or.inl ⟨by rfl, _, k4, ?_⟩))
      | ((refine Or.inr (Or.inr (Or.inr (Or.inr (Or.inl (frz_mat rfl hfz hrl rfl ⟨_, _, k5', rfl, hlv, ?_⟩)))))))
      | ((refine ex_last ?_; refine And.intro ?_ ?_; focus ((repeat' (first | exact trivial | exact rfl | (refine And.intro ?_ ?_) | omega | exact Nat.le_of_ble_eq_true rfl | ((conv => whnf); first | exact trivial | exact rfl | (refine And.intro ?_ ?_)))); done)))
      | ((exact rfl))
      | ((exact trivial))
      | ((refine And.intro ?_ ?_; focus ((repeat' (first | exact trivial | exact rfl | (refine And.intro ?_ ?_) | omega | exact Nat.le_of_ble_eq_true rfl | ((conv => whnf); first | exact trivial | exact rfl | (refine And.intro ?_ ?_)))); done)))
      | ((refine Br.beq (by rfl) ?_))
      | ((refine Br.bne (by rfl) ?_))
      | ((refine And.intro (Or.inl (Nat.zero_le _)) ?_))
      | ((refine And.intro (show _ ≤ _ from Nat.le_of_ble_eq_true rfl) ?_))
      | (refine Br.tt ?_)
      | (refine Br.ff ?_)
      | (refine Br.dec (fun h => ?_) (fun h => ?_)) <;> try (exfalso; omega)
      | (refine Br.neg ?_)
      | (refine Br.mk (fun h => ?_) (fun h => ?_))
      | (refine And.intro rfl ?_)
      | (refine And.intro (by omega) ?_)
      | (refine ⟨_, Or.inl ⟨⟨by omega, by omega⟩, rfl⟩, ?_⟩)
      | (refine And.intro (by simp only [lens_all, zs_len, U_len, sms_len, its_len, eds_len]; first | done | omega) ?_)
      | (refine And.intro (Nat.le_refl _) ?_)
      | fail
    refine ⟨Nat, fun i => (i : Int) ≤ m1, fun i => [(2, .bool false), (3, .ptr 2 0 0 0), (4, .ptr 3 0 0 0), (6, .ptr 5 0 0 0), (7, .int .i64 0), (8, .int .i64 (i : Int))], fun _ => [.dead, .dead, .vars [.int .i64 m1, .int .i64 m2, Z m3, Z m4, .any], .vars [.int .i64 m2, IL W], .arr 2 (its L), .vars [.int .i64 m1, .osl 4 2 0 L.length]], fun _ => none, fun i => m1.toNat - i,
      ⟨0, hr0, ⟨rfl, rfl, rfl, rfl, rfl, rfl, trivial⟩, ⟨trivial, trivial, ⟨rfl, rfl, rfl, rfl, trivial, trivial⟩, ⟨rfl, rfl, trivial⟩, rfl, ⟨rfl, rfl, trivial⟩, trivial⟩, rfl⟩, fun i hi => ?_⟩
    have hi : (i : Int) ≤ m1 := hi
    by_cases him : (i : Int) < m1
    · obtain ⟨s, hs⟩ : ∃ s, m3.getD i 0 = s := ⟨_, rfl⟩
      obtain ⟨e, he⟩ : ∃ e, m3.getD (i + 1) 0 = e := ⟨_, rfl⟩
      have hat := hM.at him
      rw [hs, he] at hat
      obtain ⟨h1, h2, h3⟩ := hat
      have hrow : ∀ j, j < (e - s).toNat → (rowL m3 m4 (List.replicate mv.length 1) i)[j]? = some (m4.getD (s.toNat + j) 0, (List.replicate mv.length 1).getD (s.toNat + j) 0) := fun j hj => by
        rw [rowL_at (by rw [hs, he]; exact hj), hs]
      have hlen : (rowL m3 m4 (List.replicate mv.length 1) i).length = (e - s).toNat := by rw [rowL_len, hs, he]
      have hget := hgV i him
      generalize rowL m3 m4 (List.replicate mv.length 1) i = row at *
      obtain ⟨P, hP⟩ : ∃ P : Nat → Bool, ∀ j, P j = isB W (row.take j) := ⟨_, fun _ => rfl⟩
      repeat' (conv => whnf); first
        | ((refine zs_go (i := i) (by omega) hs ?_))
        | ((refine Br.beq (by rfl) ?_))
        | ((refine Br.bne (by rfl) ?_))
        | ((refine And.intro (Or.inl (Nat.zero_le _)) ?_))
        | ((refine And.intro (show _ ≤ _ from Nat.le_of_ble_eq_true rfl) ?_))
        | (refine Br.tt ?_)
        | (refine Br.ff ?_)
        | (refine Br.dec (fun h => ?_) (fun h => ?_)) <;> try (exfalso; omega)
        | (refine Br.neg ?_)
        | (refine Br.mk (fun h => ?_) (fun h => ?_))
        | (refine And.intro rfl ?_)
        | (refine And.intro (by omega) ?_)
        | (refine ⟨_, Or.inl ⟨⟨by omega, by omega⟩, rfl⟩, ?_⟩)
        | (refine And.intro (by simp only [lens_all, zs_len, U_len, sms_len, its_len, eds_len]; first | done | omega) ?_)
        | (refine And.intro (Nat.le_refl _) ?_)
        | fail
      refine ⟨Nat × Bool, fun ⟨j, p⟩ => s + (j : Int) ≤ e ∧ p = P j, fun ⟨j, p⟩ => [(2, .bool false), (3, .ptr 2 0 0 0), (4, .ptr 3 0 0 0), (6, .ptr 5 0 0 0), (7, .int .i64 0), (8, .int .i64 (i : Int)), (9, .bool p), (10, .int .i64 (s + (j : Int)))], fun _ => [.dead, .dead, .vars [.int .i64 m1, .int .i64 m2, Z m3, Z m4, .any], .vars [.int .i64 m2, IL W], .arr 2 (its L), .vars [.int .i64 m1, .osl 4 2 0 L.length]], fun _ => none, fun ⟨j, _⟩ => (e - s).toNat - j,
        ⟨(0, false), ⟨by omega, (hP 0).symm⟩, ⟨rfl, rfl, rfl, rfl, rfl, rfl, rfl, ?_, trivial⟩, ⟨trivial, trivial, ⟨rfl, rfl, rfl, rfl, trivial, trivial⟩, ⟨rfl, rfl, trivial⟩, rfl, ⟨rfl, rfl, trivial⟩, trivial⟩, rfl⟩, fun ⟨j, p⟩ hj => ?_⟩
      · exact congrArg (SV.int .i64) (show s = s + ((0 : Nat) : Int) by omega)
      obtain ⟨hj, hp⟩ := hj
      by_cases hje : s + (j : Int) < e
      · obtain ⟨c, hc⟩ : ∃ c, m4.getD (s.toNat + j) 0 = c := ⟨_, rfl⟩
        have hst : P (j + 1) = (p || (gt W c == some 1)) := by
          rw [hp, hP, hP]
          unfold isB
          rw [List.take_add_one, hrow j (by omega), List.any_append, hc]
          simp
        have c1 := hgW c
        have hv := fun v h => hXv (c, v) (gt_mem h)
        have hvv : ((gt W c == some 1) = true ∧ (gt W c).getD 0 = 1) ∨ ((gt W c == some 1) = false ∧ (gt W c).getD 0 = 0) := by
          cases hg : gt W c with
          | none => exact .inr ⟨rfl, rfl⟩
          | some v =>
            rcases hv v hg with h | h
            · have h : v = 0 := h
              subst h; exact .inr ⟨rfl, rfl⟩
            · have h : v = 1 := h
              subst h; exact .inl ⟨rfl, rfl⟩
        rcases hvv with ⟨hv1, hv2⟩ | ⟨hv1, hv2⟩
        · rw [hv2] at c1
          rw [hv1, Bool.or_true] at hst
          cases p
          all_goals
            repeat' (conv => whnf); first
              | ((refine zs_go (i := i + 1) (by omega) he ?_))
              | ((refine zs_go (i := s.toNat + j) (by omega) hc ?_))
              | ((refine Or.inl ⟨by rfl, _, c1, ?_⟩))
              | ((refine Br.beq (by rfl) ?_))
              | ((refine Br.bne (by rfl) ?_))
              | ((refine And.intro (Or.inl (Nat.zero_le _)) ?_))
              | ((refine And.intro (show _ ≤ _ from Nat.le_of_ble_eq_true rfl) ?_))
              | (refine Br.tt ?_)
              | (refine Br.ff ?_)
              | (refine Br.dec (fun h => ?_) (fun h => ?_)) <;> try (exfalso; omega)
              | (refine Br.neg ?_)
              | (refine Br.mk (fun h => ?_) (fun h => ?_))
              | (refine And.intro rfl ?_)
              | (refine And.intro (by omega) ?_)
              | (refine ⟨_, Or.inl ⟨⟨by omega, by omega⟩, rfl⟩, ?_⟩)
              | (refine And.intro (by simp only [lens_all, zs_len, U_len, sms_len, its_len, eds_len]; first | done | omega) ?_)
              | (refine And.intro (Nat.le_refl _) ?_)
              | fail
            refine ⟨(j + 1, true), ⟨by omega, hst.symm⟩, (show (e - s).toNat - (j + 1) < (e - s).toNat - j by omega), ⟨rfl, rfl, rfl, rfl, rfl, rfl, rfl, ?_, trivial⟩, ⟨trivial, trivial, ⟨rfl, rfl, rfl, rfl, trivial, trivial⟩, ⟨rfl, rfl, trivial⟩, rfl, ⟨rfl, rfl, trivial⟩, trivial⟩, rfl⟩
            exact congrArg (SV.int .i64) (show s + (j : Int) + 1 = s + ((j + 1 : Nat) : Int) by omega)
        · rw [hv2] at c1
          rw [hv1, Bool.or_false] at hst
          cases p
          all_goals
            repeat' (conv => whnf); first
              | ((refine zs_go (i := i + 1) (by omega) he ?_))
              | ((refine zs_go (i := s.toNat + j) (by omega) hc ?_))
              | ((refine Or.inl ⟨by rfl, _, c1, ?_⟩))
              | ((refine Br.beq (by rfl) ?_))
              | ((refine Br.bne (by rfl) ?_))
              | ((refine And.intro (Or.inl (Nat.zero_le _)) ?_))
              | ((refine And.intro (show _ ≤ _ from Nat.le_of_ble_eq_true rfl) ?_))
              | (refine Br.tt ?_)
              | (refine Br.ff ?_)
              | (refine Br.dec (fun h => ?_) (fun h => ?_)) <;> try (exfalso; omega)
              | (refine Br.neg ?_)
              | (refine Br.mk (fun h => ?_) (fun h => ?_))
              | (refine And.intro rfl ?_)
              | (refine And.intro (by omega) ?_)
              | (refine ⟨_, Or.inl ⟨⟨by omega, by omega⟩, rfl⟩, ?_⟩)
              | (refine And.intro (by simp only [lens_all, zs_len, U_len, sms_len, its_len, eds_len]; first | done | omega) ?_)
              | (refine And.intro (Nat.le_refl _) ?_)
              | fail
            refine ⟨(j + 1, _), ⟨by omega, hst.symm⟩, (show (e - s).toNat - (j + 1) < (e - s).toNat - j by omega), ⟨rfl, rfl, rfl, rfl, rfl, rfl, rfl, ?_, trivial⟩, ⟨trivial, trivial, ⟨rfl, rfl, rfl, rfl, trivial, trivial⟩, ⟨rfl, rfl, trivial⟩, rfl, ⟨rfl, rfl, trivial⟩, trivial⟩, rfl⟩
            exact congrArg (SV.int .i64) (show s + (j : Int) + 1 = s + ((j + 1 : Nat) : Int) by omega)
      · have hpe : p = isB W row := by
          rw [hp, hP, List.take_of_length_le (by omega)]
        rw [← hpe] at hget
        cases p
        all_goals
          repeat' (conv => whnf); first
            | ((refine zs_go (i := i + 1) (by omega) he ?_))
            | ((refine Or.inr (Or.inr (Or.inl (lend_vec rfl hLi.symm rfl rfl hget rfl ?_)))))
            | ((refine Br.beq (by rfl) ?_))
            | ((refine Br.bne (by rfl) ?_))
            | ((refine And.intro (Or.inl (Nat.zero_le _)) ?_))
            | ((refine And.intro (show _ ≤ _ from Nat.le_of_ble_eq_true rfl) ?_))
            | (refine Br.tt ?_)
            | (refine Br.ff ?_)
            | (refine Br.dec (fun h => ?_) (fun h => ?_)) <;> try (exfalso; omega)
            | (refine Br.neg ?_)
            | (refine Br.mk (fun h => ?_) (fun h => ?_))
            | (refine And.intro rfl ?_)
            | (refine And.intro (by omega) ?_)
            | (refine ⟨_, Or.inl ⟨⟨by omega, by omega⟩, rfl⟩, ?_⟩)
            | (refine And.intro (by simp only [lens_all, zs_len, U_len, sms_len, its_len, eds_len]; first | done | omega) ?_)
            | (refine And.intro (Nat.le_refl _) ?_)
            | fail
          exact ⟨i + 1, (show ((i + 1 : Nat) : Int) ≤ m1 by omega), (show m1.toNat - (i + 1) < m1.toNat - i by omega), ⟨rfl, rfl, rfl, rfl, rfl, rfl, trivial⟩, ⟨trivial, trivial, ⟨rfl, rfl, rfl, rfl, trivial, trivial⟩, ⟨rfl, rfl, trivial⟩, rfl, ⟨rfl, rfl, trivial⟩, trivial⟩, rfl⟩
    · repeat' (conv => whnf); first
        | ((refine Or.inl ⟨by rfl, _, fs_live13, ?_⟩))
        | ((refine Br.beq (by rfl) ?_))
        | ((refine Br.bne (by rfl) ?_))
        | ((refine And.intro (Or.inl (Nat.zero_le _)) ?_))
        | ((refine And.intro (show _ ≤ _ from Nat.le_of_ble_eq_true rfl) ?_))
        | (refine Br.tt ?_)
        | (refine Br.ff ?_)
        | (refine Br.dec (fun h => ?_) (fun h => ?_)) <;> try (exfalso; omega)
        | (refine Br.neg ?_)
        | (refine Br.mk (fun h => ?_) (fun h => ?_))
        | (refine And.intro rfl ?_)
        | (refine And.intro (by omega) ?_)
        | (refine ⟨_, Or.inl ⟨⟨by omega, by omega⟩, rfl⟩, ?_⟩)
        | (refine And.intro (by simp only [lens_all, zs_len, U_len, sms_len, its_len, eds_len]; first | done | omega) ?_)
        | (refine And.intro (Nat.le_refl _) ?_)
        | fail
      exact rfl
end
end Go.Proofs.Ytlbmjnammgffiaa
