/- Sets of places: the laws, in plain words. -/
import Derived.Test.YtahpfomabgfmkaaK9
namespace Go.Proofs.Ytahpfomabgfmkaa
section
open Go.RowKit
attribute [local irreducible] FS FO IT HS

theorem pc_eq (b v : Nat) (h : v < 2 ^ b) : pc v = ((List.range b).filter fun j => v.testBit j).length := by
  have : ∀ (b v i : Nat), v < 2 ^ b → (wbits v i).length = pc v := by
    intro b
    induction b with
    | zero => intro v i hv; have : v = 0 := by simpa using hv
              subst this; simp [wbits_zero, pc_zero]
    | succ b ih =>
      intro v i hv
      rcases Nat.eq_zero_or_pos v with h | h
      · subst h; simp [wbits_zero, pc_zero]
      · rw [wbits_step h, List.length_append, ih (v / 2) (i + 1) (by rw [Nat.pow_succ] at hv; omega), pc_step v]
        rcases Nat.mod_two_eq_zero_or_one v with h1 | h1 <;> simp [h1]
  rw [← this b v 0 h, wbits_eq b v 0 h]
  simp

/-- How many places there are in some first ones. -/
theorem count_words : ∀ (ws : List Nat), Wd ws → cnt ws = ((List.range (64 * ws.length)).filter (hasN ws)).length
  | [], _ => by simp [cnt]
  | v :: ws, h => by
    have h2 := count_words ws fun x hx => h x (by simp [hx])
    have h1 := pc_eq 64 v (by simpa using h v (by simp))
    have e1 : ((List.range 64).filter fun j => v.testBit j) = (List.range 64).filter (hasN (v :: ws)) := List.filter_congr fun j hj => by
      rw [hasN_cons_lt (List.mem_range.1 hj)]
    have e : (hasN (v :: ws) ∘ fun x => 64 + x) = hasN ws := by
      funext j; exact hasN_cons_ge v ws j
    rw [List.length_cons, show 64 * (ws.length + 1) = 64 + 64 * ws.length by omega, List.range_add, List.filter_append, List.length_append, List.filter_map, e, List.length_map, ← e1, ← h1, ← h2]
    simp [cnt]
theorem cnt_eq {ws : List Nat} (h : Wd ws) : cnt ws = (bits ws).length := by rw [bits_eq h, count_words ws h]

theorem hasN_set {ws : List Nat} {k v i : Nat} (hk : k < ws.length) : hasN (ws.set k v) i = if i / 64 = k then v.testBit (i % 64) else hasN ws i := by
  unfold hasN
  rw [List.getD_eq_getElem?_getD, List.getElem?_set]
  by_cases e : k = i / 64
  · subst e; simp [hk]
  · rw [if_neg e, if_neg (Ne.symm e), List.getD_eq_getElem?_getD]
theorem hasN_put1 (ws : List Nat) (j : Int) (i : Nat) : hasN (put1 ws j) i = (hasN ws i || (decide ((i : Int) = j) && decide (i < 64 * ws.length))) := by
  unfold put1 turn
  split
  · rename_i h
    have h0 : 0 ≤ j := by simp [inW] at h; exact h.1
    have h1 : j / 64 < ws.length := by simp [inW] at h; exact h.2
    obtain ⟨n, rfl⟩ : ∃ n : Nat, j = n := ⟨j.toNat, by omega⟩
    have e0 : ((n : Int) / 64).toNat = n / 64 := by omega
    rw [e0, Int.toNat_natCast, hasN_set (by omega)]
    by_cases e : i / 64 = n / 64
    · rw [if_pos e, Nat.testBit_or, Nat.testBit_two_pow]
      unfold hasN
      rw [e]
      congr 1
      by_cases e2 : n % 64 = i % 64
      · have : i = n := by omega
        subst this; simp; omega
      · have : ¬ (i : Int) = n := by omega
        simp [e2, this]
    · rw [if_neg e]
      have : ¬ (i : Int) = n := by omega
      simp [this]
  · rename_i h
    have : ¬ ((i : Int) = j ∧ i < 64 * ws.length) := by
      rintro ⟨rfl, h2⟩
      exact h (by simp [inW]; omega)
    by_cases h1 : (i : Int) = j
    · have : ¬ i < 64 * ws.length := fun h2 => this ⟨h1, h2⟩
      simp [this]
    · simp [h1]
theorem hasN_zero (n : Nat) (i : Nat) : hasN (List.replicate n 0) i = false := by
  unfold hasN
  rw [List.getD_eq_getElem?_getD, List.getElem?_replicate]
  split <;> simp
theorem hasN_puts (p : Int → Option Int) : ∀ (l : List Int) (ws : List Nat) (i : Nat), hasN (puts p ws l) i = (hasN ws i || (decide (i < 64 * ws.length) && l.any fun x => p x == some (i : Int)))
  | [], ws, i => by simp [puts]
  | x :: l, ws, i => by
    have := hasN_puts p l (match p x with | some j => put1 ws j | none => ws) i
    show hasN (puts p (match p x with | some j => put1 ws j | none => ws) l) i = _
    rw [this, List.any_cons]
    cases hx : p x with
    | none => simp
    | some j =>
      simp only [hasN_put1, put1_len]
      have : (some j == some (i : Int)) = decide ((i : Int) = j) := by
        rw [Bool.eq_iff_iff, beq_iff_eq, Option.some.injEq, decide_eq_true_iff]
        exact eq_comm
      rw [this]
      cases hasN ws i <;> cases decide ((i : Int) = j) <;> cases decide (i < 64 * ws.length) <;> simp

theorem hasN_tab {n : Nat} {g : Nat → Nat} {i : Nat} : hasN (tab n g) i = (decide (i / 64 < n) && (g (i / 64)).testBit (i % 64)) := by
  unfold hasN
  rw [List.getD_eq_getElem?_getD]
  by_cases h : i / 64 < n
  · rw [tab_get g h]; simp [h]
  · rw [List.getElem?_eq_none (by rw [tab_len]; omega)]; simp [h]
theorem hasN_joinB (a b : List Nat) (i : Nat) : hasN (joinB a b) i = (hasN a i && hasN b i) := by
  rw [joinB, hasN_tab, Nat.testBit_and]
  by_cases h : i / 64 < a.length
  · simp [h, hasN]
  · have h1 : hasN a i = false := by
      rw [Bool.eq_false_iff]; intro hh; have := hasN_lt hh; omega
    simp [h, h1]
theorem testBit_andNot {x y : Nat} (hy : y < 18446744073709551616) {j : Nat} (hj : j < 64) : (natAndNot x y).testBit j = (x.testBit j && !y.testBit j) := by
  rw [natAndNot, Nat.testBit_and, testBit_not hy]; simp [hj]
theorem andNot_lt {x y : Nat} (hx : x < 18446744073709551616) : natAndNot x y < 18446744073709551616 := Nat.lt_of_le_of_lt Nat.and_le_left hx
theorem wd_tab {n : Nat} {g : Nat → Nat} (h : ∀ i, g i < 18446744073709551616) : Wd (tab n g) := by
  intro x hx
  obtain ⟨i, _, rfl⟩ := List.mem_map.1 hx
  exact h i
theorem wd_joinB {a b : List Nat} (ha : Wd a) : Wd (joinB a b) := wd_tab fun i => Nat.lt_of_le_of_lt Nat.and_le_left (getD_lt ha i)
theorem wd_set {ws : List Nat} (h : Wd ws) {v : Nat} (hv : v < 18446744073709551616) (k : Nat) : Wd (ws.set k v) := by
  intro x hx
  rcases List.mem_or_eq_of_mem_set hx with hx | rfl
  · exact h x hx
  · exact hv
theorem wd_turn {ws : List Nat} (h : Wd ws) {f : Nat → Nat → Nat} (hf : ∀ x y, x < 18446744073709551616 → y < 18446744073709551616 → f x y < 18446744073709551616) (i : Int) : Wd (turn ws i f) := by
  unfold turn
  split
  · exact wd_set h (hf _ _ (getD_lt h _) (pow_lt64 (Nat.mod_lt _ (by omega)))) _
  · exact h
end
end Go.Proofs.Ytahpfomabgfmkaa
