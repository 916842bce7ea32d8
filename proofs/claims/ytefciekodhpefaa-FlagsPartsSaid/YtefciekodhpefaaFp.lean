/- Sets of places: the places in plain words. -/
import Derived.Test.YtefciekodhpefaaFc
namespace Go.Proofs.Ytefciekodhpefaa
open Go.RowKit
attribute [local irreducible] FS FO IT HS

theorem wbits_eq (b : Nat) : ∀ (v i : Nat), v < 2 ^ b → wbits v i = ((List.range b).filter fun j => v.testBit j).map (i + ·) := by
  induction b with
  | zero =>
    intro v i hv
    have : v = 0 := by simpa using hv
    subst this; simp [wbits_zero]
  | succ b ih =>
    intro v i hv
    rw [List.range_succ_eq_map, List.filter_cons, List.filter_map, Function.comp_def]
    have e : (fun j => v.testBit (Nat.succ j)) = fun j => (v / 2).testBit j := by
      funext j; exact Nat.testBit_succ v j
    rw [e]
    have h2 := ih (v / 2) (i + 1) (by rw [Nat.pow_succ] at hv; omega)
    rcases Nat.eq_zero_or_pos v with h | h
    · subst h; simp [wbits_zero]
    · rw [wbits_step h, h2, Nat.testBit_zero]
      by_cases h1 : v % 2 = 1
      · simp [h1, Nat.add_assoc, Nat.add_comm 1]
      · simp [h1, Nat.add_assoc, Nat.add_comm 1]

theorem hasN_cons_lt {v : Nat} {ws : List Nat} {j : Nat} (h : j < 64) : hasN (v :: ws) j = v.testBit j := by
  unfold hasN
  rw [Nat.div_eq_of_lt h, Nat.mod_eq_of_lt h]; rfl
theorem hasN_cons_ge (v : Nat) (ws : List Nat) (j : Nat) : hasN (v :: ws) (64 + j) = hasN ws j := by
  unfold hasN
  rw [show (64 + j) / 64 = j / 64 + 1 by omega, show (64 + j) % 64 = j % 64 by omega]; rfl

theorem bitsF_eq : ∀ (ws : List Nat) (k : Nat), Wd ws → bitsF ws k = ((List.range (64 * ws.length)).filter (hasN ws)).map (64 * k + ·)
  | [], k, _ => by simp [bitsF]
  | v :: ws, k, h => by
    have h1 := wbits_eq 64 v (64 * k) (by simpa using h v (by simp))
    have h2 := bitsF_eq ws (k + 1) fun x hx => h x (by simp [hx])
    rw [bitsF, h1, h2, List.length_cons, show 64 * (ws.length + 1) = 64 + 64 * ws.length by omega, List.range_add, List.filter_append, List.map_append, List.filter_map]
    have e1 : ((List.range 64).filter fun j => v.testBit j) = (List.range 64).filter (hasN (v :: ws)) := List.filter_congr fun j hj => by
      rw [hasN_cons_lt (List.mem_range.1 hj)]
    have e : (hasN (v :: ws) ∘ fun x => 64 + x) = hasN ws := by
      funext j; exact hasN_cons_ge v ws j
    rw [e1, e, List.map_map]
    refine congrArg _ (List.map_congr_left fun j _ => ?_)
    show 64 * (k + 1) + j = 64 * k + (64 + j)
    omega

theorem bits_eq {ws : List Nat} (h : Wd ws) : bits ws = (List.range (64 * ws.length)).filter (hasN ws) := by
  rw [bits, bitsF_eq ws 0 h]
  simp

theorem bits_mem {ws : List Nat} (h : Wd ws) {x : Nat} : x ∈ bits ws ↔ x < 64 * ws.length ∧ hasN ws x = true := by
  rw [bits_eq h, List.mem_filter, List.mem_range]

theorem hasN_lt {ws : List Nat} {x : Nat} (h : hasN ws x = true) : x < 64 * ws.length := by
  unfold hasN at h
  by_cases hx : x / 64 < ws.length
  · omega
  · rw [List.getD_eq_getElem?_getD, List.getElem?_eq_none (by omega)] at h; simp at h

theorem bits_sorted {ws : List Nat} (h : Wd ws) : (bits ws).Pairwise (· < ·) := by
  rw [bits_eq h]
  exact List.Pairwise.filter _ List.pairwise_lt_range

/-- Words that have the same places are the same. -/
theorem words_ext {a b : List Nat} (ha : Wd a) (hb : Wd b) (hl : a.length = b.length) (h : ∀ i, i < 64 * a.length → hasN a i = hasN b i) : a = b := by
  refine List.ext_getElem hl fun k h1 h2 => ?_
  have hak := ha a[k] (List.getElem_mem h1)
  have hbk := hb b[k] (List.getElem_mem h2)
  refine Nat.eq_of_testBit_eq fun j => ?_
  by_cases hj : j < 64
  · have := h (64 * k + j) (by omega)
    unfold hasN at this
    rw [show (64 * k + j) / 64 = k by omega, show (64 * k + j) % 64 = j by omega] at this
    simpa [List.getD_eq_getElem?_getD, h1, h2] using this
  · have hp : 18446744073709551616 ≤ 2 ^ j := by
      have := Nat.pow_le_pow_right (n := 2) (by omega) (Nat.le_of_not_lt hj)
      simpa using this
    rw [Nat.testBit_lt_two_pow (Nat.lt_of_lt_of_le hak hp), Nat.testBit_lt_two_pow (Nat.lt_of_lt_of_le hbk hp)]

end Go.Proofs.Ytefciekodhpefaa
