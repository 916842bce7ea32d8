/- The program draws its orders. Numbers cut into parts: where parts begin. Numbers cut into parts: where parts begin, in plain words. Numbers cut into parts: where parts begin, how many they have, in which one a number is: the program's and the document's functions. In which part a number is; a worker's place: the program's and the document's functions. A worker's number, row and column: the program's and the document's functions. -/
import Derived.Test.YtjaakpigkoakkaaRows
import Derived.Test.YtjaakpigkoakkaaS5
namespace Go.Proofs.Ytjaakpigkoakkaa
section
open Go.RowKit

theorem mixed : Try.prog.follows .mixedOrders = true := by kernel_rfl
end
section
open Go.RowKit
attribute [local irreducible] FS FO IT HS

/-- May so many be cut into so many. -/
def mayB (n k : Int) : Bool := decide (0 ≤ n) && decide (n ≤ 4096) && (decide (0 < k) && decide (k ≤ 8))
def sideB (k : Int) : Bool := decide (0 < k) && decide (k ≤ 8)
theorem mayB_iff {n k : Int} : mayB n k = true ↔ 0 ≤ n ∧ n ≤ 4096 ∧ 0 < k ∧ k ≤ 8 := by
  simp [mayB, and_assoc]
/-- Where part i begins. -/
def lowI (n k i : Int) : Int := if mayB n k = true then min (max i 0) k * n / k else 0
def sizeI (n k i : Int) : Int := if 0 ≤ i ∧ i < k then lowI n k (i + 1) - lowI n k i else 0
def mostI (n k : Int) : Int := if mayB n k = true then (n + k - 1) / k else 0
/-- What is multiplied is small. -/
theorem pmul_bd {x n : Int} (h0 : 0 ≤ x) (h1 : x ≤ 8) (h2 : 0 ≤ n) (h3 : n ≤ 4096) : 0 ≤ x * n ∧ x * n ≤ 32768 := by
  refine ⟨Int.mul_nonneg h0 h2, ?_⟩
  have := Int.mul_le_mul h1 h3 h2 (by omega : (0 : Int) ≤ 8)
  omega

def ir_part_side : IR :=
(.seq (.reg (⟨(some 2), .mv (.c (.bool false)), none⟩ :: [])) (.seq (.reg (⟨(some 3), .mv (.t 0), none⟩ ::⟨(some 4), .bin .gtr (.t 3) (.c (.int .i64 0)), none⟩ ::⟨(some 5), .mv (.t 4), none⟩ ::⟨(some 6), .mv (.t 0), some (5, true)⟩ ::⟨(some 7), .bin .leq (.t 6) (.c (.int .i64 8)), some (5, true)⟩ ::⟨(some 8), .pick (.t 5) (.t 7) (.c (.bool false)), none⟩ ::⟨(some 2), .mv (.t 8), none⟩ :: [])) .ret))
theorem cd_part_side : Code1 Try.prog 28 9 ir_part_side [.t 2] := ⟨Try.call28, _, _, Try.func28, rfl, by kernel_rfl, by kernel_rfl, by kernel_rfl, by kernel_rfl⟩

theorem fs_side (k : Int) : FS Try.prog 28 [.int .i64 k] (.bool (sideB k)) := by
  refine fs_of_cvc mixed cd_part_side (by simp) ?_
  unfold sideB
  repeat' (conv => whnf); first
    | ((refine Br.beq (by rfl) ?_))
    | ((refine Br.bne (by rfl) ?_))
    | ((refine And.intro (show (_ : Int) ≠ 0 by omega) ?_))
    | ((refine ar_tdiv (by omega) (by omega) (by omega) ?_))
    | (refine Br.tt ?_)
    | (refine Br.ff ?_)
    | (refine Br.dec (fun h => ?_) (fun h => ?_)) <;> try (exfalso; omega)
    | (refine Br.neg ?_)
    | (refine Br.mk (fun h => ?_) (fun h => ?_))
    | (refine And.intro rfl ?_)
    | (refine And.intro (by omega) ?_)
    | (refine ⟨_, Or.inl ⟨⟨by omega, by omega⟩, rfl⟩, ?_⟩)
    | (refine And.intro (by simp only [lens_all]; first | done | omega) ?_)
    | (refine And.intro (Nat.le_refl _) ?_)
    | fail
  all_goals (show SV.bool _ = SV.bool _; simp [*])

def ir_part_may : IR :=
(.seq (.reg (⟨(some 4), .mv (.c (.bool false)), none⟩ :: [])) (.seq (.reg (⟨(some 5), .mv (.t 0), none⟩ ::⟨(some 6), .bin .geq (.t 5) (.c (.int .i64 0)), none⟩ ::⟨(some 7), .mv (.t 6), none⟩ ::⟨(some 8), .mv (.t 0), some (7, true)⟩ ::⟨(some 9), .bin .leq (.t 8) (.c (.int .i64 4096)), some (7, true)⟩ ::⟨(some 10), .pick (.t 7) (.t 9) (.c (.bool false)), none⟩ ::⟨(some 11), .mv (.t 10), none⟩ ::⟨(some 12), .mv (.t 1), some (11, true)⟩ ::⟨(some 13), .call (.c (.fn 28 [])) [(.t 12)], some (11, true)⟩ ::⟨(some 14), .pick (.t 11) (.t 13) (.c (.bool false)), none⟩ ::⟨(some 4), .mv (.t 14), none⟩ :: [])) .ret))
theorem cd_part_may : Code1 Try.prog 26 15 ir_part_may [.t 4] := ⟨Try.call26, _, _, Try.func26, rfl, by kernel_rfl, by kernel_rfl, by kernel_rfl, by kernel_rfl⟩

theorem fs_may (n k : Int) : FS Try.prog 26 [.int .i64 n, .int .i64 k] (.bool (mayB n k)) := by
  refine fs_of_cvc mixed cd_part_may (by simp) ?_
  have c := fs_side k
  have e : mayB n k = (decide (0 ≤ n) && decide (n ≤ 4096) && sideB k) := rfl
  rw [e]
  generalize sideB k = b at *
  repeat' (conv => whnf); first
    | ((refine Or.inl ⟨by rfl, _, c, ?_⟩))
    | ((refine Br.beq (by rfl) ?_))
    | ((refine Br.bne (by rfl) ?_))
    | ((refine And.intro (show (_ : Int) ≠ 0 by omega) ?_))
    | ((refine ar_tdiv (by omega) (by omega) (by omega) ?_))
    | (refine Br.tt ?_)
    | (refine Br.ff ?_)
    | (refine Br.dec (fun h => ?_) (fun h => ?_)) <;> try (exfalso; omega)
    | (refine Br.neg ?_)
    | (refine Br.mk (fun h => ?_) (fun h => ?_))
    | (refine And.intro rfl ?_)
    | (refine And.intro (by omega) ?_)
    | (refine ⟨_, Or.inl ⟨⟨by omega, by omega⟩, rfl⟩, ?_⟩)
    | (refine And.intro (by simp only [lens_all]; first | done | omega) ?_)
    | (refine And.intro (Nat.le_refl _) ?_)
    | fail
  all_goals (show SV.bool _ = SV.bool _; simp [*])

def ir_fretworkref17_may : IR :=
(.seq (.reg (⟨(some 4), .mv (.c (.bool false)), none⟩ :: [])) (.seq (.reg (⟨(some 5), .mv (.t 0), none⟩ ::⟨(some 6), .bin .geq (.t 5) (.c (.int .i64 0)), none⟩ ::⟨(some 7), .mv (.t 6), none⟩ ::⟨(some 8), .mv (.t 0), some (7, true)⟩ ::⟨(some 9), .bin .leq (.t 8) (.c (.int .i64 4096)), some (7, true)⟩ ::⟨(some 10), .pick (.t 7) (.t 9) (.c (.bool false)), none⟩ ::⟨(some 11), .mv (.t 10), none⟩ ::⟨(some 12), .mv (.t 1), some (11, true)⟩ ::⟨(some 13), .bin .geq (.t 12) (.c (.int .i64 1)), some (11, true)⟩ ::⟨(some 14), .pick (.t 11) (.t 13) (.c (.bool false)), none⟩ ::⟨(some 15), .mv (.t 14), none⟩ ::⟨(some 16), .mv (.t 1), some (15, true)⟩ ::⟨(some 17), .bin .leq (.t 16) (.c (.int .i64 8)), some (15, true)⟩ ::⟨(some 18), .pick (.t 15) (.t 17) (.c (.bool false)), none⟩ ::⟨(some 4), .mv (.t 18), none⟩ :: [])) .ret))
theorem cd_fretworkref17_may : Code1 Try.prog 27 19 ir_fretworkref17_may [.t 4] := ⟨Try.call27, _, _, Try.func27, rfl, by kernel_rfl, by kernel_rfl, by kernel_rfl, by kernel_rfl⟩

theorem fs_rmay (n k : Int) : FS Try.prog 27 [.int .i64 n, .int .i64 k] (.bool (mayB n k)) := by
  refine fs_of_cvc mixed cd_fretworkref17_may (by simp) ?_
  unfold mayB
  repeat' (conv => whnf); first
    | ((refine Br.beq (by rfl) ?_))
    | ((refine Br.bne (by rfl) ?_))
    | ((refine And.intro (show (_ : Int) ≠ 0 by omega) ?_))
    | ((refine ar_tdiv (by omega) (by omega) (by omega) ?_))
    | (refine Br.tt ?_)
    | (refine Br.ff ?_)
    | (refine Br.dec (fun h => ?_) (fun h => ?_)) <;> try (exfalso; omega)
    | (refine Br.neg ?_)
    | (refine Br.mk (fun h => ?_) (fun h => ?_))
    | (refine And.intro rfl ?_)
    | (refine And.intro (by omega) ?_)
    | (refine ⟨_, Or.inl ⟨⟨by omega, by omega⟩, rfl⟩, ?_⟩)
    | (refine And.intro (by simp only [lens_all]; first | done | omega) ?_)
    | (refine And.intro (Nat.le_refl _) ?_)
    | fail
  all_goals (show SV.bool _ = SV.bool _; simp [*] <;> omega)

def ir_part_Low : IR :=
(.seq (.reg (⟨(some 6), .mv (.c (.int .i64 0)), none⟩ :: [])) (.seq (.seq (.reg (⟨(some 7), .mv (.t 0), none⟩ ::⟨(some 8), .mv (.t 1), none⟩ ::⟨(some 9), .call (.c (.fn 26 [])) [(.t 7), (.t 8)], none⟩ ::⟨(some 10), .un .not (.t 9), none⟩ :: [])) (.cond (.t 10) (.seq (.reg (⟨(some 6), .mv (.c (.int .i64 0)), none⟩ :: [])) .ret) .skip)) (.seq (.reg (⟨(some 11), .mv (.t 2), none⟩ ::⟨(some 12), .mm true [(.t 11), (.c (.int .i64 0))], none⟩ ::⟨(some 13), .mv (.t 1), none⟩ ::⟨(some 14), .mm false [(.t 12), (.t 13)], none⟩ ::⟨(some 15), .mv (.t 0), none⟩ ::⟨(some 16), .bin .mul (.t 14) (.t 15), none⟩ ::⟨(some 17), .mv (.t 1), none⟩ ::⟨(some 18), .bin .quo (.t 16) (.t 17), none⟩ ::⟨(some 6), .mv (.t 18), none⟩ :: [])) .ret)))
theorem cd_part_Low : Code1 Try.prog 9 19 ir_part_Low [.t 6] := ⟨Try.call9, _, _, Try.func9, rfl, by kernel_rfl, by kernel_rfl, by kernel_rfl, by kernel_rfl⟩

theorem fs_Low (n k i : Int) : FS Try.prog 9 [.int .i64 n, .int .i64 k, .int .i64 i] (.int .i64 (lowI n k i)) := by
  refine fs_of_cvc mixed cd_part_Low (by simp) ?_
  have c := fs_may n k
  unfold lowI
  cases hb : mayB n k with
  | true =>
    rw [hb] at c
    obtain ⟨h0, h1, h2, h3⟩ := mayB_iff.1 hb
    have hm := pmul_bd (x := min (max i 0) k) (n := n) (by omega) (by omega) h0 h1
    repeat' (conv => whnf); first
      | ((refine Or.inl ⟨by rfl, _, c, ?_⟩))
      | ((refine Br.beq (by rfl) ?_))
      | ((refine Br.bne (by rfl) ?_))
      | ((refine And.intro (show (_ : Int) ≠ 0 by omega) ?_))
      | ((refine ar_tdiv (by omega) (by omega) (by omega) ?_))
      | (refine Br.tt ?_)
      | (refine Br.ff ?_)
      | (refine Br.dec (fun h => ?_) (fun h => ?_)) <;> try (exfalso; omega)
      | (refine Br.neg ?_)
      | (refine Br.mk (fun h => ?_) (fun h => ?_))
      | (refine And.intro rfl ?_)
      | (refine And.intro (by omega) ?_)
      | (refine ⟨_, Or.inl ⟨⟨by omega, by omega⟩, rfl⟩, ?_⟩)
      | (refine And.intro (by simp only [lens_all]; first | done | omega) ?_)
      | (refine And.intro (Nat.le_refl _) ?_)
      | fail
    all_goals exact rfl
  | false =>
    rw [hb] at c
    repeat' (conv => whnf); first
      | ((refine Or.inl ⟨by rfl, _, c, ?_⟩))
      | ((refine Br.beq (by rfl) ?_))
      | ((refine Br.bne (by rfl) ?_))
      | ((refine And.intro (show (_ : Int) ≠ 0 by omega) ?_))
      | ((refine ar_tdiv (by omega) (by omega) (by omega) ?_))
      | (refine Br.tt ?_)
      | (refine Br.ff ?_)
      | (refine Br.dec (fun h => ?_) (fun h => ?_)) <;> try (exfalso; omega)
      | (refine Br.neg ?_)
      | (refine Br.mk (fun h => ?_) (fun h => ?_))
      | (refine And.intro rfl ?_)
      | (refine And.intro (by omega) ?_)
      | (refine ⟨_, Or.inl ⟨⟨by omega, by omega⟩, rfl⟩, ?_⟩)
      | (refine And.intro (by simp only [lens_all]; first | done | omega) ?_)
      | (refine And.intro (Nat.le_refl _) ?_)
      | fail
    all_goals exact rfl
end
section
open Go.RowKit
attribute [local irreducible] FS FO IT HS

section
variable {n k : Int} (hm : mayB n k = true)
include hm
theorem low_neg {i : Int} (h : i < 0) : lowI n k i = 0 := by
  obtain ⟨h0, h1, h2, h3⟩ := mayB_iff.1 hm
  unfold lowI
  rw [if_pos hm, show min (max i 0) k = 0 by omega, Int.zero_mul, Int.zero_ediv]
theorem low_big {i : Int} (h : k ≤ i) : lowI n k i = n := by
  obtain ⟨h0, h1, h2, h3⟩ := mayB_iff.1 hm
  unfold lowI
  rw [if_pos hm, show min (max i 0) k = k by omega, Int.mul_ediv_cancel_left _ (by omega)]
theorem low_mid {i : Int} (h : 0 ≤ i) (h' : i ≤ k) : lowI n k i = i * n / k := by
  obtain ⟨h0, h1, h2, h3⟩ := mayB_iff.1 hm
  unfold lowI
  rw [if_pos hm, show min (max i 0) k = i by omega]
theorem low_zero : lowI n k 0 = 0 := by
  rw [low_mid hm (Int.le_refl _) (by have := mayB_iff.1 hm; omega), Int.zero_mul, Int.zero_ediv]
theorem low_mono {i j : Int} (h : i ≤ j) : lowI n k i ≤ lowI n k j := by
  obtain ⟨h0, h1, h2, h3⟩ := mayB_iff.1 hm
  unfold lowI
  rw [if_pos hm, if_pos hm]
  exact Int.ediv_le_ediv h2 (Int.mul_le_mul_of_nonneg_right (by omega) h0)
/-- Up to at, not beyond it. -/
theorem low_le {i at' : Int} (h : 0 ≤ i) (h' : i ≤ k) : lowI n k i ≤ at' ↔ i * n < (at' + 1) * k := by
  obtain ⟨h0, h1, h2, h3⟩ := mayB_iff.1 hm
  rw [low_mid hm h h', ← Int.ediv_lt_iff_lt_mul h2]
  omega
theorem low_gt {i at' : Int} (h : 0 ≤ i) (h' : i ≤ k) : at' < lowI n k i ↔ (at' + 1) * k ≤ i * n := by
  have := low_le hm (at' := at') h h'
  constructor <;> intro h
  · rcases Int.lt_or_le (i * n) ((at' + 1) * k) with h' | h'
    · have := this.2 h'; omega
    · exact h'
  · rcases Int.lt_or_le at' (lowI n k i) with h' | h'
    · exact h'
    · have := this.1 h'; omega
end
theorem low_bd (n k i : Int) : 0 ≤ lowI n k i ∧ lowI n k i ≤ 4096 := by
  cases hm : mayB n k with
  | false => unfold lowI; rw [hm]; exact ⟨by simp, by simp⟩
  | true =>
    obtain ⟨h0, h1, h2, h3⟩ := mayB_iff.1 hm
    have a : lowI n k (-1) ≤ lowI n k (max i (-1)) := low_mono hm (by omega)
    have b : lowI n k (min i k) ≤ lowI n k k := low_mono hm (by omega)
    rw [low_neg hm (by omega)] at a
    rw [low_big hm (Int.le_refl _)] at b
    rcases Int.lt_or_le i 0 with h | h
    · rw [low_neg hm h]; omega
    · rcases Int.lt_or_le i k with h' | h'
      · rw [show max i (-1) = i by omega] at a
        rw [show min i k = i by omega] at b
        omega
      · rw [low_big hm h']; omega

/-- In which part a number is. -/
def ofI (n k at' : Int) : Int := if mayB n k = true ∧ 0 ≤ at' ∧ at' < n then ((at' + 1) * k - 1) / n else -1
theorem ofI_eq {n k at' i : Int} (hm : mayB n k = true) (h0 : 0 ≤ i) (h1 : i < k) (h2 : lowI n k i ≤ at') (h3 : at' < lowI n k (i + 1)) : ofI n k at' = i := by
  have hb := low_bd n k i
  have hn : lowI n k (i + 1) ≤ lowI n k k := low_mono hm (by omega)
  rw [low_big hm (Int.le_refl _)] at hn
  have hn0 : 0 < n := by omega
  unfold ofI
  rw [if_pos ⟨hm, by omega, by omega⟩]
  rw [low_le hm h0 (by omega)] at h2
  rw [low_gt hm (by omega) (by omega)] at h3
  refine Int.le_antisymm ?_ ?_
  · have : ((at' + 1) * k - 1) / n < i + 1 := by
      rw [Int.ediv_lt_iff_lt_mul hn0]; omega
    omega
  · rw [Int.le_ediv_iff_mul_le hn0]; omega
theorem ofI_spec {n k at' : Int} (hm : mayB n k = true) (h0 : 0 ≤ at') (h1 : at' < n) : 0 ≤ ofI n k at' ∧ ofI n k at' < k ∧ lowI n k (ofI n k at') ≤ at' ∧ at' < lowI n k (ofI n k at' + 1) := by
  obtain ⟨_, _, h2, h3⟩ := mayB_iff.1 hm
  have e : ofI n k at' = ((at' + 1) * k - 1) / n := if_pos ⟨hm, h0, h1⟩
  have hn0 : 0 < n := by omega
  have p1 : 0 < (at' + 1) * k := Int.mul_pos (by omega) h2
  have q0 : 0 ≤ ofI n k at' := by rw [e]; exact Int.ediv_nonneg (by omega) (by omega)
  have q1 : ofI n k at' < k := by
    rw [e, Int.ediv_lt_iff_lt_mul hn0]
    have : (at' + 1) * k ≤ n * k := Int.mul_le_mul_of_nonneg_right (by omega) (by omega)
    rw [Int.mul_comm k n]
    omega
  have r1 : ofI n k at' * n ≤ (at' + 1) * k - 1 := by
    rw [← Int.le_ediv_iff_mul_le hn0, e]; exact Int.le_refl _
  have r2 : (at' + 1) * k - 1 < (ofI n k at' + 1) * n := by
    rw [← Int.ediv_lt_iff_lt_mul hn0, e]; omega
  refine ⟨q0, q1, ?_, ?_⟩
  · rw [low_le hm q0 (by omega)]; omega
  · rw [low_gt hm (by omega) (by omega)]; omega
theorem ofI_out {n k at' : Int} (h : ¬ (mayB n k = true ∧ 0 ≤ at' ∧ at' < n)) : ofI n k at' = -1 := if_neg h
end
section
open Go.RowKit
attribute [local irreducible] FS FO IT HS

def ir_fretworkref17_Low : IR :=
(.seq (.reg (⟨(some 6), .mv (.c (.int .i64 0)), none⟩ :: [])) (.seq (.seq (.reg (⟨(some 7), .mv (.t 0), none⟩ ::⟨(some 8), .mv (.t 1), none⟩ ::⟨(some 9), .call (.c (.fn 27 [])) [(.t 7), (.t 8)], none⟩ ::⟨(some 10), .un .not (.t 9), none⟩ ::⟨(some 11), .mv (.t 10), none⟩ ::⟨(some 12), .mv (.t 2), some (11, false)⟩ ::⟨(some 13), .bin .lss (.t 12) (.c (.int .i64 0)), some (11, false)⟩ ::⟨(some 14), .pick (.t 11) (.c (.bool true)) (.t 13), none⟩ :: [])) (.cond (.t 14) (.seq (.reg (⟨(some 6), .mv (.c (.int .i64 0)), none⟩ :: [])) .ret) .skip)) (.seq (.seq (.reg (⟨(some 15), .mv (.t 2), none⟩ ::⟨(some 16), .mv (.t 1), none⟩ ::⟨(some 17), .bin .geq (.t 15) (.t 16), none⟩ :: [])) (.cond (.t 17) (.seq (.reg (⟨(some 18), .mv (.t 0), none⟩ ::⟨(some 6), .mv (.t 18), none⟩ :: [])) .ret) .skip)) (.seq (.reg (⟨(some 19), .mv (.t 2), none⟩ ::⟨(some 20), .mv (.t 0), none⟩ ::⟨(some 21), .bin .mul (.t 19) (.t 20), none⟩ ::⟨(some 22), .mv (.t 1), none⟩ ::⟨(some 23), .bin .quo (.t 21) (.t 22), none⟩ ::⟨(some 6), .mv (.t 23), none⟩ :: [])) .ret))))
theorem cd_fretworkref17_Low : Code1 Try.prog 10 24 ir_fretworkref17_Low [.t 6] := ⟨Try.call10, _, _, Try.func10, rfl, by kernel_rfl, by kernel_rfl, by kernel_rfl, by kernel_rfl⟩

theorem fs_rLow (n k i : Int) : FS Try.prog 10 [.int .i64 n, .int .i64 k, .int .i64 i] (.int .i64 (lowI n k i)) := by
  refine fs_of_cvc mixed cd_fretworkref17_Low (by simp) ?_
  have c := fs_rmay n k
  cases hb : mayB n k with
  | true =>
    rw [hb] at c
    obtain ⟨h0, h1, h2, h3⟩ := mayB_iff.1 hb
    have e1 := fun h : i < 0 => low_neg hb h
    have e2 := fun h : k ≤ i => low_big hb h
    have e3 := fun h : 0 ≤ i ∧ i ≤ k => low_mid hb h.1 h.2
    have hm := fun h : 0 ≤ i ∧ i ≤ k => pmul_bd (x := i) (n := n) h.1 (by omega) h0 h1
    generalize lowI n k i = L at *
    rcases Int.lt_or_le i 0 with g | g
    · have e1 := e1 g
      subst e1
      repeat' (conv => whnf); first
        | ((refine Or.inl ⟨by rfl, _, c, ?_⟩))
        | ((refine Br.beq (by rfl) ?_))
        | ((refine Br.bne (by rfl) ?_))
        | ((refine And.intro (show (_ : Int) ≠ 0 by omega) ?_))
        | ((refine ar_tdiv (by omega) (by omega) (by omega) ?_))
        | (refine Br.tt ?_)
        | (refine Br.ff ?_)
        | (refine Br.dec (fun h => ?_) (fun h => ?_)) <;> try (exfalso; omega)
        | (refine Br.neg ?_)
        | (refine Br.mk (fun h => ?_) (fun h => ?_))
        | (refine And.intro rfl ?_)
        | (refine And.intro (by omega) ?_)
        | (refine ⟨_, Or.inl ⟨⟨by omega, by omega⟩, rfl⟩, ?_⟩)
        | (refine And.intro (by simp only [lens_all]; first | done | omega) ?_)
        | (refine And.intro (Nat.le_refl _) ?_)
        | fail
      all_goals exact rfl
    · rcases Int.lt_or_le i k with g' | g'
      · have e3 := e3 ⟨g, by omega⟩
        have hm := hm ⟨g, by omega⟩
        subst e3
        repeat' (conv => whnf); first
          | ((refine Or.inl ⟨by rfl, _, c, ?_⟩))
          | ((refine Br.beq (by rfl) ?_))
          | ((refine Br.bne (by rfl) ?_))
          | ((refine And.intro (show (_ : Int) ≠ 0 by omega) ?_))
          | ((refine ar_tdiv (by omega) (by omega) (by omega) ?_))
          | (refine Br.tt ?_)
          | (refine Br.ff ?_)
          | (refine Br.dec (fun h => ?_) (fun h => ?_)) <;> try (exfalso; omega)
          | (refine Br.neg ?_)
          | (refine Br.mk (fun h => ?_) (fun h => ?_))
          | (refine And.intro rfl ?_)
          | (refine And.intro (by omega) ?_)
          | (refine ⟨_, Or.inl ⟨⟨by omega, by omega⟩, rfl⟩, ?_⟩)
          | (refine And.intro (by simp only [lens_all]; first | done | omega) ?_)
          | (refine And.intro (Nat.le_refl _) ?_)
          | fail
        all_goals exact rfl
      · have e2 := e2 g'
        subst e2
        repeat' (conv => whnf); first
          | ((refine Or.inl ⟨by rfl, _, c, ?_⟩))
          | ((refine Br.beq (by rfl) ?_))
          | ((refine Br.bne (by rfl) ?_))
          | ((refine And.intro (show (_ : Int) ≠ 0 by omega) ?_))
          | ((refine ar_tdiv (by omega) (by omega) (by omega) ?_))
          | (refine Br.tt ?_)
          | (refine Br.ff ?_)
          | (refine Br.dec (fun h => ?_) (fun h => ?_)) <;> try (exfalso; omega)
          | (refine Br.neg ?_)
          | (refine Br.mk (fun h => ?_) (fun h => ?_))
          | (refine And.intro rfl ?_)
          | (refine And.intro (by omega) ?_)
          | (refine ⟨_, Or.inl ⟨⟨by omega, by omega⟩, rfl⟩, ?_⟩)
          | (refine And.intro (by simp only [lens_all]; first | done | omega) ?_)
          | (refine And.intro (Nat.le_refl _) ?_)
          | fail
        all_goals exact rfl
  | false =>
    rw [hb] at c
    have e : lowI n k i = 0 := by unfold lowI; rw [hb]; rfl
    rw [e]
    repeat' (conv => whnf); first
      | ((refine Or.inl ⟨by rfl, _, c, ?_⟩))
      | ((refine Br.beq (by rfl) ?_))
      | ((refine Br.bne (by rfl) ?_))
      | ((refine And.intro (show (_ : Int) ≠ 0 by omega) ?_))
      | ((refine ar_tdiv (by omega) (by omega) (by omega) ?_))
      | (refine Br.tt ?_)
      | (refine Br.ff ?_)
      | (refine Br.dec (fun h => ?_) (fun h => ?_)) <;> try (exfalso; omega)
      | (refine Br.neg ?_)
      | (refine Br.mk (fun h => ?_) (fun h => ?_))
      | (refine And.intro rfl ?_)
      | (refine And.intro (by omega) ?_)
      | (refine ⟨_, Or.inl ⟨⟨by omega, by omega⟩, rfl⟩, ?_⟩)
      | (refine And.intro (by simp only [lens_all]; first | done | omega) ?_)
      | (refine And.intro (Nat.le_refl _) ?_)
      | fail
    all_goals exact rfl

def ir_part_Size : IR :=
(.seq (.reg (⟨(some 6), .mv (.c (.int .i64 0)), none⟩ :: [])) (.seq (.seq (.reg (⟨(some 7), .mv (.t 2), none⟩ ::⟨(some 8), .bin .lss (.t 7) (.c (.int .i64 0)), none⟩ ::⟨(some 9), .mv (.t 8), none⟩ ::⟨(some 10), .mv (.t 2), some (9, false)⟩ ::⟨(some 11), .mv (.t 1), some (9, false)⟩ ::⟨(some 12), .bin .geq (.t 10) (.t 11), some (9, false)⟩ ::⟨(some 13), .pick (.t 9) (.c (.bool true)) (.t 12), none⟩ :: [])) (.cond (.t 13) (.seq (.reg (⟨(some 6), .mv (.c (.int .i64 0)), none⟩ :: [])) .ret) .skip)) (.seq (.reg (⟨(some 14), .mv (.t 0), none⟩ ::⟨(some 15), .mv (.t 1), none⟩ ::⟨(some 16), .mv (.t 2), none⟩ ::⟨(some 17), .bin .add (.t 16) (.c (.int .i64 1)), none⟩ ::⟨(some 18), .call (.c (.fn 9 [])) [(.t 14), (.t 15), (.t 17)], none⟩ ::⟨(some 19), .mv (.t 0), none⟩ ::⟨(some 20), .mv (.t 1), none⟩ ::⟨(some 21), .mv (.t 2), none⟩ ::⟨(some 22), .call (.c (.fn 9 [])) [(.t 19), (.t 20), (.t 21)], none⟩ ::⟨(some 23), .bin .sub (.t 18) (.t 22), none⟩ ::⟨(some 6), .mv (.t 23), none⟩ :: [])) .ret)))
theorem cd_part_Size : Code1 Try.prog 11 24 ir_part_Size [.t 6] := ⟨Try.call11, _, _, Try.func11, rfl, by kernel_rfl, by kernel_rfl, by kernel_rfl, by kernel_rfl⟩

theorem fs_Size (n k i : Int) (hk : I64 k) : FS Try.prog 11 [.int .i64 n, .int .i64 k, .int .i64 i] (.int .i64 (sizeI n k i)) := by
  refine fs_of_cvc mixed cd_part_Size (by simp) ?_
  have c1 := fs_Low n k i
  have c2 := fs_Low n k (i + 1)
  have b1 := low_bd n k i
  have b2 := low_bd n k (i + 1)
  have hk := hk.2
  unfold sizeI
  generalize lowI n k (i + 1) = L2 at *
  generalize lowI n k i = L1 at *
  by_cases h : 0 ≤ i ∧ i < k
  · rw [if_pos h]
    obtain ⟨h1, h2⟩ := h
    repeat' (conv => whnf); first
      | ((refine Or.inl ⟨by rfl, _, c1, ?_⟩))
      | ((refine Or.inl ⟨by rfl, _, c2, ?_⟩))
      | ((refine Br.beq (by rfl) ?_))
      | ((refine Br.bne (by rfl) ?_))
      | ((refine And.intro (show (_ : Int) ≠ 0 by omega) ?_))
      | ((refine ar_tdiv (by omega) (by omega) (by omega) ?_))
      | (refine Br.tt ?_)
      | (refine Br.ff ?_)
      | (refine Br.dec (fun h => ?_) (fun h => ?_)) <;> try (exfalso; omega)
      | (refine Br.neg ?_)
      | (refine Br.mk (fun h => ?_) (fun h => ?_))
      | (refine And.intro rfl ?_)
      | (refine And.intro (by omega) ?_)
      | (refine ⟨_, Or.inl ⟨⟨by omega, by omega⟩, rfl⟩, ?_⟩)
      | (refine And.intro (by simp only [lens_all]; first | done | omega) ?_)
      | (refine And.intro (Nat.le_refl _) ?_)
      | fail
    all_goals exact rfl
  · rw [if_neg h]
    repeat' (conv => whnf); first
      | ((refine Or.inl ⟨by rfl, _, c1, ?_⟩))
      | ((refine Or.inl ⟨by rfl, _, c2, ?_⟩))
      | ((refine Br.beq (by rfl) ?_))
      | ((refine Br.bne (by rfl) ?_))
      | ((refine And.intro (show (_ : Int) ≠ 0 by omega) ?_))
      | ((refine ar_tdiv (by omega) (by omega) (by omega) ?_))
      | (refine Br.tt ?_)
      | (refine Br.ff ?_)
      | (refine Br.dec (fun h => ?_) (fun h => ?_)) <;> try (exfalso; omega)
      | (refine Br.neg ?_)
      | (refine Br.mk (fun h => ?_) (fun h => ?_))
      | (refine And.intro rfl ?_)
      | (refine And.intro (by omega) ?_)
      | (refine ⟨_, Or.inl ⟨⟨by omega, by omega⟩, rfl⟩, ?_⟩)
      | (refine And.intro (by simp only [lens_all]; first | done | omega) ?_)
      | (refine And.intro (Nat.le_refl _) ?_)
      | fail
    all_goals exact rfl

def ir_fretworkref17_Size : IR :=
(.seq (.reg (⟨(some 6), .mv (.c (.int .i64 0)), none⟩ :: [])) (.seq (.seq (.reg (⟨(some 7), .mv (.t 0), none⟩ ::⟨(some 8), .mv (.t 1), none⟩ ::⟨(some 9), .call (.c (.fn 27 [])) [(.t 7), (.t 8)], none⟩ ::⟨(some 10), .un .not (.t 9), none⟩ ::⟨(some 11), .mv (.t 10), none⟩ ::⟨(some 12), .mv (.t 2), some (11, false)⟩ ::⟨(some 13), .bin .lss (.t 12) (.c (.int .i64 0)), some (11, false)⟩ ::⟨(some 14), .pick (.t 11) (.c (.bool true)) (.t 13), none⟩ ::⟨(some 15), .mv (.t 14), none⟩ ::⟨(some 16), .mv (.t 2), some (15, false)⟩ ::⟨(some 17), .mv (.t 1), some (15, false)⟩ ::⟨(some 18), .bin .geq (.t 16) (.t 17), some (15, false)⟩ ::⟨(some 19), .pick (.t 15) (.c (.bool true)) (.t 18), none⟩ :: [])) (.cond (.t 19) (.seq (.reg (⟨(some 6), .mv (.c (.int .i64 0)), none⟩ :: [])) .ret) .skip)) (.seq (.reg (⟨(some 20), .mv (.t 0), none⟩ ::⟨(some 21), .mv (.t 1), none⟩ ::⟨(some 22), .mv (.t 2), none⟩ ::⟨(some 23), .bin .add (.t 22) (.c (.int .i64 1)), none⟩ ::⟨(some 24), .call (.c (.fn 10 [])) [(.t 20), (.t 21), (.t 23)], none⟩ ::⟨(some 25), .mv (.t 0), none⟩ ::⟨(some 26), .mv (.t 1), none⟩ ::⟨(some 27), .mv (.t 2), none⟩ ::⟨(some 28), .call (.c (.fn 10 [])) [(.t 25), (.t 26), (.t 27)], none⟩ ::⟨(some 29), .bin .sub (.t 24) (.t 28), none⟩ ::⟨(some 6), .mv (.t 29), none⟩ :: [])) .ret)))
theorem cd_fretworkref17_Size : Code1 Try.prog 12 30 ir_fretworkref17_Size [.t 6] := ⟨Try.call12, _, _, Try.func12, rfl, by kernel_rfl, by kernel_rfl, by kernel_rfl, by kernel_rfl⟩

theorem fs_rSize (n k i : Int) (hk : I64 k) : FS Try.prog 12 [.int .i64 n, .int .i64 k, .int .i64 i] (.int .i64 (sizeI n k i)) := by
  refine fs_of_cvc mixed cd_fretworkref17_Size (by simp) ?_
  have c := fs_rmay n k
  have c1 := fs_rLow n k i
  have c2 := fs_rLow n k (i + 1)
  have b1 := low_bd n k i
  have b2 := low_bd n k (i + 1)
  have e : mayB n k = false → lowI n k (i + 1) - lowI n k i = 0 := fun h => by unfold lowI; rw [h]; rfl
  have hk := hk.2
  unfold sizeI
  generalize lowI n k (i + 1) = L2 at *
  generalize lowI n k i = L1 at *
  by_cases h : 0 ≤ i ∧ i < k
  · rw [if_pos h]
    obtain ⟨h1, h2⟩ := h
    cases hb : mayB n k with
    | true =>
      rw [hb] at c
      repeat' (conv => whnf); first
        | ((refine Or.inl ⟨by rfl, _, c, ?_⟩))
        | ((refine Or.inl ⟨by rfl, _, c1, ?_⟩))
        | ((refine Or.inl ⟨by rfl, _, c2, ?_⟩))
        | ((refine Br.beq (by rfl) ?_))
        | ((refine Br.bne (by rfl) ?_))
        | ((refine And.intro (show (_ : Int) ≠ 0 by omega) ?_))
        | ((refine ar_tdiv (by omega) (by omega) (by omega) ?_))
        | (refine Br.tt ?_)
        | (refine Br.ff ?_)
        | (refine Br.dec (fun h => ?_) (fun h => ?_)) <;> try (exfalso; omega)
        | (refine Br.neg ?_)
        | (refine Br.mk (fun h => ?_) (fun h => ?_))
        | (refine And.intro rfl ?_)
        | (refine And.intro (by omega) ?_)
        | (refine ⟨_, Or.inl ⟨⟨by omega, by omega⟩, rfl⟩, ?_⟩)
        | (refine And.intro (by simp only [lens_all]; first | done | omega) ?_)
        | (refine And.intro (Nat.le_refl _) ?_)
        | fail
      all_goals exact rfl
    | false =>
      rw [hb] at c
      rw [e hb]
      repeat' (conv => whnf); first
        | ((refine Or.inl ⟨by rfl, _, c, ?_⟩))
        | ((refine Or.inl ⟨by rfl, _, c1, ?_⟩))
        | ((refine Or.inl ⟨by rfl, _, c2, ?_⟩))
        | ((refine Br.beq (by rfl) ?_))
        | ((refine Br.bne (by rfl) ?_))
        | ((refine And.intro (show (_ : Int) ≠ 0 by omega) ?_))
        | ((refine ar_tdiv (by omega) (by omega) (by omega) ?_))
        | (refine Br.tt ?_)
        | (refine Br.ff ?_)
        | (refine Br.dec (fun h => ?_) (fun h => ?_)) <;> try (exfalso; omega)
        | (refine Br.neg ?_)
        | (refine Br.mk (fun h => ?_) (fun h => ?_))
        | (refine And.intro rfl ?_)
        | (refine And.intro (by omega) ?_)
        | (refine ⟨_, Or.inl ⟨⟨by omega, by omega⟩, rfl⟩, ?_⟩)
        | (refine And.intro (by simp only [lens_all]; first | done | omega) ?_)
        | (refine And.intro (Nat.le_refl _) ?_)
        | fail
      all_goals exact rfl
  · rw [if_neg h]
    cases hb : mayB n k <;> rw [hb] at c
    all_goals repeat' (conv => whnf); first
      | ((refine Or.inl ⟨by rfl, _, c, ?_⟩))
      | ((refine Or.inl ⟨by rfl, _, c1, ?_⟩))
      | ((refine Or.inl ⟨by rfl, _, c2, ?_⟩))
      | ((refine Br.beq (by rfl) ?_))
      | ((refine Br.bne (by rfl) ?_))
      | ((refine And.intro (show (_ : Int) ≠ 0 by omega) ?_))
      | ((refine ar_tdiv (by omega) (by omega) (by omega) ?_))
      | (refine Br.tt ?_)
      | (refine Br.ff ?_)
      | (refine Br.dec (fun h => ?_) (fun h => ?_)) <;> try (exfalso; omega)
      | (refine Br.neg ?_)
      | (refine Br.mk (fun h => ?_) (fun h => ?_))
      | (refine And.intro rfl ?_)
      | (refine And.intro (by omega) ?_)
      | (refine ⟨_, Or.inl ⟨⟨by omega, by omega⟩, rfl⟩, ?_⟩)
      | (refine And.intro (by simp only [lens_all]; first | done | omega) ?_)
      | (refine And.intro (Nat.le_refl _) ?_)
      | fail
    all_goals exact rfl

theorem most_eq {n k : Int} (h : mayB n k = true) : mostI n k = if 0 < n % k then n / k + 1 else n / k := by
  obtain ⟨h0, h1, h2, h3⟩ := mayB_iff.1 h
  unfold mostI
  rw [if_pos h]
  have : k = 1 ∨ k = 2 ∨ k = 3 ∨ k = 4 ∨ k = 5 ∨ k = 6 ∨ k = 7 ∨ k = 8 := by omega
  rcases this with rfl | rfl | rfl | rfl | rfl | rfl | rfl | rfl <;> split <;> omega

def ir_part_Most : IR :=
(.seq (.reg (⟨(some 4), .mv (.c (.int .i64 0)), none⟩ :: [])) (.seq (.seq (.reg (⟨(some 6), .mv (.t 0), none⟩ ::⟨(some 7), .mv (.t 1), none⟩ ::⟨(some 8), .call (.c (.fn 26 [])) [(.t 6), (.t 7)], none⟩ ::⟨(some 9), .un .not (.t 8), none⟩ :: [])) (.cond (.t 9) (.seq (.reg (⟨(some 4), .mv (.c (.int .i64 0)), none⟩ :: [])) .ret) .skip)) (.seq (.reg (⟨(some 10), .mv (.t 0), none⟩ ::⟨(some 11), .mv (.t 1), none⟩ ::⟨(some 12), .bin .quo (.t 10) (.t 11), none⟩ ::⟨(some 5), .mv (.t 12), none⟩ :: [])) (.seq (.seq (.reg (⟨(some 13), .mv (.t 0), none⟩ ::⟨(some 14), .mv (.t 1), none⟩ ::⟨(some 15), .bin .rem (.t 13) (.t 14), none⟩ ::⟨(some 16), .bin .gtr (.t 15) (.c (.int .i64 0)), none⟩ :: [])) (.cond (.t 16) (.reg (⟨(some 17), .mv (.t 5), none⟩ ::⟨(some 18), .bin .add (.t 17) (.c (.int .i64 1)), none⟩ ::⟨(some 5), .mv (.t 18), none⟩ :: [])) .skip)) (.seq (.reg (⟨(some 19), .mv (.t 5), none⟩ ::⟨(some 4), .mv (.t 19), none⟩ :: [])) .ret)))))
theorem cd_part_Most : Code1 Try.prog 13 20 ir_part_Most [.t 4] := ⟨Try.call13, _, _, Try.func13, rfl, by kernel_rfl, by kernel_rfl, by kernel_rfl, by kernel_rfl⟩

theorem fs_Most (n k : Int) : FS Try.prog 13 [.int .i64 n, .int .i64 k] (.int .i64 (mostI n k)) := by
  refine fs_of_cvc mixed cd_part_Most (by simp) ?_
  have c := fs_may n k
  cases hb : mayB n k with
  | true =>
    rw [hb] at c
    obtain ⟨h0, h1, h2, h3⟩ := mayB_iff.1 hb
    have e := most_eq hb
    have er : n.tmod k = n % k := Int.tmod_eq_emod_of_nonneg h0
    have q0 : 0 ≤ n / k := Int.ediv_nonneg h0 (by omega)
    have q1 : n / k ≤ n := Int.ediv_le_self k h0
    rw [e]
    by_cases g : 0 < n % k
    · rw [if_pos g]
      repeat' (conv => whnf); first
        | ((refine Or.inl ⟨by rfl, _, c, ?_⟩))
        | ((refine Br.beq (by rfl) ?_))
        | ((refine Br.bne (by rfl) ?_))
        | ((refine And.intro (show (_ : Int) ≠ 0 by omega) ?_))
        | ((refine ar_tdiv (by omega) (by omega) (by omega) ?_))
        | (refine Br.tt ?_)
        | (refine Br.ff ?_)
        | (refine Br.dec (fun h => ?_) (fun h => ?_)) <;> try (exfalso; omega)
        | (refine Br.neg ?_)
        | (refine Br.mk (fun h => ?_) (fun h => ?_))
        | (refine And.intro rfl ?_)
        | (refine And.intro (by omega) ?_)
        | (refine ⟨_, Or.inl ⟨⟨by omega, by omega⟩, rfl⟩, ?_⟩)
        | (refine And.intro (by simp only [lens_all]; first | done | omega) ?_)
        | (refine And.intro (Nat.le_refl _) ?_)
        | fail
      all_goals exact rfl
    · rw [if_neg g]
      repeat' (conv => whnf); first
        | ((refine Or.inl ⟨by rfl, _, c, ?_⟩))
        | ((refine Br.beq (by rfl) ?_))
        | ((refine Br.bne (by rfl) ?_))
        | ((refine And.intro (show (_ : Int) ≠ 0 by omega) ?_))
        | ((refine ar_tdiv (by omega) (by omega) (by omega) ?_))
        | (refine Br.tt ?_)
        | (refine Br.ff ?_)
        | (refine Br.dec (fun h => ?_) (fun h => ?_)) <;> try (exfalso; omega)
        | (refine Br.neg ?_)
        | (refine Br.mk (fun h => ?_) (fun h => ?_))
        | (refine And.intro rfl ?_)
        | (refine And.intro (by omega) ?_)
        | (refine ⟨_, Or.inl ⟨⟨by omega, by omega⟩, rfl⟩, ?_⟩)
        | (refine And.intro (by simp only [lens_all]; first | done | omega) ?_)
        | (refine And.intro (Nat.le_refl _) ?_)
        | fail
      all_goals exact rfl
  | false =>
    rw [hb] at c
    have e : mostI n k = 0 := by unfold mostI; rw [hb]; rfl
    rw [e]
    repeat' (conv => whnf); first
      | ((refine Or.inl ⟨by rfl, _, c, ?_⟩))
      | ((refine Br.beq (by rfl) ?_))
      | ((refine Br.bne (by rfl) ?_))
      | ((refine And.intro (show (_ : Int) ≠ 0 by omega) ?_))
      | ((refine ar_tdiv (by omega) (by omega) (by omega) ?_))
      | (refine Br.tt ?_)
      | (refine Br.ff ?_)
      | (refine Br.dec (fun h => ?_) (fun h => ?_)) <;> try (exfalso; omega)
      | (refine Br.neg ?_)
      | (refine Br.mk (fun h => ?_) (fun h => ?_))
      | (refine And.intro rfl ?_)
      | (refine And.intro (by omega) ?_)
      | (refine ⟨_, Or.inl ⟨⟨by omega, by omega⟩, rfl⟩, ?_⟩)
      | (refine And.intro (by simp only [lens_all]; first | done | omega) ?_)
      | (refine And.intro (Nat.le_refl _) ?_)
      | fail
    all_goals exact rfl

def ir_fretworkref17_Most : IR :=
(.seq (.reg (⟨(some 4), .mv (.c (.int .i64 0)), none⟩ :: [])) (.seq (.seq (.reg (⟨(some 5), .mv (.t 0), none⟩ ::⟨(some 6), .mv (.t 1), none⟩ ::⟨(some 7), .call (.c (.fn 27 [])) [(.t 5), (.t 6)], none⟩ ::⟨(some 8), .un .not (.t 7), none⟩ :: [])) (.cond (.t 8) (.seq (.reg (⟨(some 4), .mv (.c (.int .i64 0)), none⟩ :: [])) .ret) .skip)) (.seq (.reg (⟨(some 9), .mv (.t 0), none⟩ ::⟨(some 10), .mv (.t 1), none⟩ ::⟨(some 11), .bin .add (.t 9) (.t 10), none⟩ ::⟨(some 12), .bin .sub (.t 11) (.c (.int .i64 1)), none⟩ ::⟨(some 13), .mv (.t 1), none⟩ ::⟨(some 14), .bin .quo (.t 12) (.t 13), none⟩ ::⟨(some 4), .mv (.t 14), none⟩ :: [])) .ret)))
theorem cd_fretworkref17_Most : Code1 Try.prog 14 15 ir_fretworkref17_Most [.t 4] := ⟨Try.call14, _, _, Try.func14, rfl, by kernel_rfl, by kernel_rfl, by kernel_rfl, by kernel_rfl⟩

theorem fs_rMost (n k : Int) : FS Try.prog 14 [.int .i64 n, .int .i64 k] (.int .i64 (mostI n k)) := by
  refine fs_of_cvc mixed cd_fretworkref17_Most (by simp) ?_
  have c := fs_rmay n k
  unfold mostI
  cases hb : mayB n k with
  | true =>
    rw [hb] at c
    obtain ⟨h0, h1, h2, h3⟩ := mayB_iff.1 hb
    repeat' (conv => whnf); first
      | ((refine Or.inl ⟨by rfl, _, c, ?_⟩))
      | ((refine Br.beq (by rfl) ?_))
      | ((refine Br.bne (by rfl) ?_))
      | ((refine And.intro (show (_ : Int) ≠ 0 by omega) ?_))
      | ((refine ar_tdiv (by omega) (by omega) (by omega) ?_))
      | (refine Br.tt ?_)
      | (refine Br.ff ?_)
      | (refine Br.dec (fun h => ?_) (fun h => ?_)) <;> try (exfalso; omega)
      | (refine Br.neg ?_)
      | (refine Br.mk (fun h => ?_) (fun h => ?_))
      | (refine And.intro rfl ?_)
      | (refine And.intro (by omega) ?_)
      | (refine ⟨_, Or.inl ⟨⟨by omega, by omega⟩, rfl⟩, ?_⟩)
      | (refine And.intro (by simp only [lens_all]; first | done | omega) ?_)
      | (refine And.intro (Nat.le_refl _) ?_)
      | fail
    all_goals exact rfl
  | false =>
    rw [hb] at c
    repeat' (conv => whnf); first
      | ((refine Or.inl ⟨by rfl, _, c, ?_⟩))
      | ((refine Br.beq (by rfl) ?_))
      | ((refine Br.bne (by rfl) ?_))
      | ((refine And.intro (show (_ : Int) ≠ 0 by omega) ?_))
      | ((refine ar_tdiv (by omega) (by omega) (by omega) ?_))
      | (refine Br.tt ?_)
      | (refine Br.ff ?_)
      | (refine Br.dec (fun h => ?_) (fun h => ?_)) <;> try (exfalso; omega)
      | (refine Br.neg ?_)
      | (refine Br.mk (fun h => ?_) (fun h => ?_))
      | (refine And.intro rfl ?_)
      | (refine And.intro (by omega) ?_)
      | (refine ⟨_, Or.inl ⟨⟨by omega, by omega⟩, rfl⟩, ?_⟩)
      | (refine And.intro (by simp only [lens_all]; first | done | omega) ?_)
      | (refine And.intro (Nat.le_refl _) ?_)
      | fail
    all_goals exact rfl
end
section
open Go.RowKit
attribute [local irreducible] FS FO IT HS

def ir_part_Of : IR :=
(.seq (.reg (⟨(some 6), .mv (.c (.int .i64 0)), none⟩ :: [])) (.seq (.seq (.reg (⟨(some 8), .mv (.t 0), none⟩ ::⟨(some 9), .mv (.t 1), none⟩ ::⟨(some 10), .call (.c (.fn 26 [])) [(.t 8), (.t 9)], none⟩ ::⟨(some 11), .un .not (.t 10), none⟩ ::⟨(some 12), .mv (.t 11), none⟩ ::⟨(some 13), .mv (.t 2), some (12, false)⟩ ::⟨(some 14), .bin .lss (.t 13) (.c (.int .i64 0)), some (12, false)⟩ ::⟨(some 15), .pick (.t 12) (.c (.bool true)) (.t 14), none⟩ ::⟨(some 16), .mv (.t 15), none⟩ ::⟨(some 17), .mv (.t 2), some (16, false)⟩ ::⟨(some 18), .mv (.t 0), some (16, false)⟩ ::⟨(some 19), .bin .geq (.t 17) (.t 18), some (16, false)⟩ ::⟨(some 20), .pick (.t 16) (.c (.bool true)) (.t 19), none⟩ :: [])) (.cond (.t 20) (.seq (.reg (⟨(some 6), .mv (.c (.int .i64 (-1))), none⟩ :: [])) .ret) .skip)) (.seq (.reg (⟨(some 21), .mv (.t 2), none⟩ ::⟨(some 22), .mv (.t 1), none⟩ ::⟨(some 23), .bin .mul (.t 21) (.t 22), none⟩ ::⟨(some 24), .mv (.t 0), none⟩ ::⟨(some 25), .bin .quo (.t 23) (.t 24), none⟩ ::⟨(some 7), .mv (.t 25), none⟩ :: [])) (.seq (.block 0 (.loop (.seq (.seq (.reg (⟨(some 26), .mv (.t 0), none⟩ ::⟨(some 27), .mv (.t 1), none⟩ ::⟨(some 28), .mv (.t 7), none⟩ ::⟨(some 29), .bin .add (.t 28) (.c (.int .i64 1)), none⟩ ::⟨(some 30), .call (.c (.fn 9 [])) [(.t 26), (.t 27), (.t 29)], none⟩ ::⟨(some 31), .mv (.t 2), none⟩ ::⟨(some 32), .bin .leq (.t 30) (.t 31), none⟩ :: [])) (.cond (.t 32) .skip (.exit 0))) (.block 1 (.reg (⟨(some 33), .mv (.t 7), none⟩ ::⟨(some 34), .bin .add (.t 33) (.c (.int .i64 1)), none⟩ ::⟨(some 7), .mv (.t 34), none⟩ :: [])))))) (.seq (.reg (⟨(some 35), .mv (.t 7), none⟩ ::⟨(some 6), .mv (.t 35), none⟩ :: [])) .ret)))))
theorem cd_part_Of : Code1 Try.prog 15 36 ir_part_Of [.t 6] := ⟨Try.call15, _, _, Try.func15, rfl, by kernel_rfl, by kernel_rfl, by kernel_rfl, by kernel_rfl⟩

theorem fs_Of (n k p : Int) : FS Try.prog 15 [.int .i64 n, .int .i64 k, .int .i64 p] (.int .i64 (ofI n k p)) := by
  refine fs_of_cvc mixed cd_part_Of (by simp) ?_
  have c := fs_may n k
  by_cases h : mayB n k = true ∧ 0 ≤ p ∧ p < n
  · obtain ⟨hb, g0, g1⟩ := h
    rw [hb] at c
    obtain ⟨h0, h1, h2, h3⟩ := mayB_iff.1 hb
    have hm := pmul_bd (x := k) (n := p) (by omega) h3 g0 (by omega)
    rw [Int.mul_comm] at hm
    have hn0 : 0 < n := by omega
    have s0 : 0 ≤ p * k / n := Int.ediv_nonneg hm.1 h0
    have s1 : p * k / n < k := by
      rw [Int.ediv_lt_iff_lt_mul hn0, Int.mul_comm k n]
      exact Int.mul_lt_mul_of_pos_right g1 h2
    have s2 : lowI n k (p * k / n) ≤ p := by
      rw [low_le hb s0 (by omega), Int.add_mul]
      have := Int.ediv_mul_le (p * k) (show n ≠ 0 by omega)
      omega
    repeat' (conv => whnf); first
      | ((refine Or.inl ⟨by rfl, _, c, ?_⟩))
      | ((refine Br.beq (by rfl) ?_))
      | ((refine Br.bne (by rfl) ?_))
      | ((refine And.intro (show (_ : Int) ≠ 0 by omega) ?_))
      | ((refine ar_tdiv (by omega) (by omega) (by omega) ?_))
      | (refine Br.tt ?_)
      | (refine Br.ff ?_)
      | (refine Br.dec (fun h => ?_) (fun h => ?_)) <;> try (exfalso; omega)
      | (refine Br.neg ?_)
      | (refine Br.mk (fun h => ?_) (fun h => ?_))
      | (refine And.intro rfl ?_)
      | (refine And.intro (by omega) ?_)
      | (refine ⟨_, Or.inl ⟨⟨by omega, by omega⟩, rfl⟩, ?_⟩)
      | (refine And.intro (by simp only [lens_all]; first | done | omega) ?_)
      | (refine And.intro (Nat.le_refl _) ?_)
      | fail
    refine ⟨Int, fun i => 0 ≤ i ∧ i < k ∧ lowI n k i ≤ p, fun i => [(0, .int .i64 n), (1, .int .i64 k), (2, .int .i64 p), (7, .int .i64 i)], fun i => [], fun _ => none, fun i => (k - i).toNat, ⟨p * k / n, ⟨s0, s1, s2⟩, ⟨rfl, rfl, rfl, rfl, trivial⟩, trivial, rfl⟩, fun i hi => ?_⟩
    obtain ⟨i0, i1, i2⟩ := hi
    have c1 := fs_Low n k (i + 1)
    have hup : lowI n k (i + 1) ≤ p → i + 1 < k := fun hle => by
      rcases Int.lt_or_le (i + 1) k with h' | h'
      · exact h'
      · rw [low_big hb h'] at hle; omega
    have hfin : p < lowI n k (i + 1) → ofI n k p = i := fun hlt => ofI_eq hb i0 i1 i2 hlt
    generalize hL : lowI n k (i + 1) = L at *
    repeat' (conv => whnf); first
      | ((refine Or.inl ⟨by rfl, _, c1, ?_⟩))
      | ((refine Br.beq (by rfl) ?_))
      | ((refine Br.bne (by rfl) ?_))
      | ((refine And.intro (show (_ : Int) ≠ 0 by omega) ?_))
      | ((refine ar_tdiv (by omega) (by omega) (by omega) ?_))
      | (refine Br.tt ?_)
      | (refine Br.ff ?_)
      | (refine Br.dec (fun h => ?_) (fun h => ?_)) <;> try (exfalso; omega)
      | (refine Br.neg ?_)
      | (refine Br.mk (fun h => ?_) (fun h => ?_))
      | (refine And.intro rfl ?_)
      | (refine And.intro (by omega) ?_)
      | (refine ⟨_, Or.inl ⟨⟨by omega, by omega⟩, rfl⟩, ?_⟩)
      | (refine And.intro (by simp only [lens_all]; first | done | omega) ?_)
      | (refine And.intro (Nat.le_refl _) ?_)
      | fail
    · have h : L ≤ p := h
      have := hup h
      refine ⟨i + 1, ⟨by omega, this, by rw [hL]; exact h⟩, (show (k - (i + 1)).toNat < (k - i).toNat by omega), ⟨rfl, rfl, rfl, rfl, trivial⟩, trivial, rfl⟩
    · have h : ¬ L ≤ p := h
      rw [hfin (by omega)]
      exact rfl
  · rw [ofI_out h]
    cases hb : mayB n k with
    | true =>
      rw [hb] at c h
      have h : ¬ (0 ≤ p ∧ p < n) := fun g => h ⟨rfl, g⟩
      repeat' (conv => whnf); first
        | ((refine Or.inl ⟨by rfl, _, c, ?_⟩))
        | ((refine Br.beq (by rfl) ?_))
        | ((refine Br.bne (by rfl) ?_))
        | ((refine And.intro (show (_ : Int) ≠ 0 by omega) ?_))
        | ((refine ar_tdiv (by omega) (by omega) (by omega) ?_))
        | (refine Br.tt ?_)
        | (refine Br.ff ?_)
        | (refine Br.dec (fun h => ?_) (fun h => ?_)) <;> try (exfalso; omega)
        | (refine Br.neg ?_)
        | (refine Br.mk (fun h => ?_) (fun h => ?_))
        | (refine And.intro rfl ?_)
        | (refine And.intro (by omega) ?_)
        | (refine ⟨_, Or.inl ⟨⟨by omega, by omega⟩, rfl⟩, ?_⟩)
        | (refine And.intro (by simp only [lens_all]; first | done | omega) ?_)
        | (refine And.intro (Nat.le_refl _) ?_)
        | fail
      all_goals exact rfl
    | false =>
      rw [hb] at c
      repeat' (conv => whnf); first
        | ((refine Or.inl ⟨by rfl, _, c, ?_⟩))
        | ((refine Br.beq (by rfl) ?_))
        | ((refine Br.bne (by rfl) ?_))
        | ((refine And.intro (show (_ : Int) ≠ 0 by omega) ?_))
        | ((refine ar_tdiv (by omega) (by omega) (by omega) ?_))
        | (refine Br.tt ?_)
        | (refine Br.ff ?_)
        | (refine Br.dec (fun h => ?_) (fun h => ?_)) <;> try (exfalso; omega)
        | (refine Br.neg ?_)
        | (refine Br.mk (fun h => ?_) (fun h => ?_))
        | (refine And.intro rfl ?_)
        | (refine And.intro (by omega) ?_)
        | (refine ⟨_, Or.inl ⟨⟨by omega, by omega⟩, rfl⟩, ?_⟩)
        | (refine And.intro (by simp only [lens_all]; first | done | omega) ?_)
        | (refine And.intro (Nat.le_refl _) ?_)
        | fail
      all_goals exact rfl

def ir_fretworkref17_Of : IR :=
(.seq (.reg (⟨(some 6), .mv (.c (.int .i64 0)), none⟩ :: [])) (.seq (.seq (.reg (⟨(some 8), .mv (.t 0), none⟩ ::⟨(some 9), .mv (.t 1), none⟩ ::⟨(some 10), .call (.c (.fn 27 [])) [(.t 8), (.t 9)], none⟩ ::⟨(some 11), .un .not (.t 10), none⟩ :: [])) (.cond (.t 11) (.seq (.reg (⟨(some 6), .mv (.c (.int .i64 (-1))), none⟩ :: [])) .ret) .skip)) (.seq (.seq (.reg (⟨(some 7), .mv (.c (.int .i64 0)), none⟩ :: [])) (.block 0 (.loop (.seq (.seq (.reg (⟨(some 12), .mv (.t 7), none⟩ ::⟨(some 13), .mv (.t 1), none⟩ ::⟨(some 14), .bin .lss (.t 12) (.t 13), none⟩ :: [])) (.cond (.t 14) .skip (.exit 0))) (.seq (.block 1 (.seq (.reg (⟨(some 17), .mv (.t 2), none⟩ ::⟨(some 18), .mv (.t 0), none⟩ ::⟨(some 19), .mv (.t 1), none⟩ ::⟨(some 20), .mv (.t 7), none⟩ ::⟨(some 21), .call (.c (.fn 10 [])) [(.t 18), (.t 19), (.t 20)], none⟩ ::⟨(some 22), .bin .geq (.t 17) (.t 21), none⟩ ::⟨(some 23), .mv (.t 22), none⟩ ::⟨(some 24), .mv (.t 2), some (23, true)⟩ ::⟨(some 25), .mv (.t 0), some (23, true)⟩ ::⟨(some 26), .mv (.t 1), some (23, true)⟩ ::⟨(some 27), .mv (.t 7), some (23, true)⟩ ::⟨(some 28), .bin .add (.t 27) (.c (.int .i64 1)), some (23, true)⟩ ::⟨(some 29), .call (.c (.fn 10 [])) [(.t 25), (.t 26), (.t 28)], some (23, true)⟩ ::⟨(some 30), .bin .lss (.t 24) (.t 29), some (23, true)⟩ ::⟨(some 31), .pick (.t 23) (.t 30) (.c (.bool false)), none⟩ :: [])) (.cond (.t 31) (.seq (.reg (⟨(some 32), .mv (.t 7), none⟩ ::⟨(some 6), .mv (.t 32), none⟩ :: [])) .ret) .skip))) (.reg (⟨(some 15), .mv (.t 7), none⟩ ::⟨(some 16), .bin .add (.t 15) (.c (.int .i64 1)), none⟩ ::⟨(some 7), .mv (.t 16), none⟩ :: []))))))) (.seq (.reg (⟨(some 6), .mv (.c (.int .i64 (-1))), none⟩ :: [])) .ret))))
theorem cd_fretworkref17_Of : Code1 Try.prog 16 33 ir_fretworkref17_Of [.t 6] := ⟨Try.call16, _, _, Try.func16, rfl, by kernel_rfl, by kernel_rfl, by kernel_rfl, by kernel_rfl⟩

theorem fs_rOf (n k p : Int) : FS Try.prog 16 [.int .i64 n, .int .i64 k, .int .i64 p] (.int .i64 (ofI n k p)) := by
  refine fs_of_cvc mixed cd_fretworkref17_Of (by simp) ?_
  have c := fs_rmay n k
  cases hb : mayB n k with
  | true =>
    rw [hb] at c
    obtain ⟨h0, h1, h2, h3⟩ := mayB_iff.1 hb
    repeat' (conv => whnf); first
      | ((refine Or.inl ⟨by rfl, _, c, ?_⟩))
      | ((refine Br.beq (by rfl) ?_))
      | ((refine Br.bne (by rfl) ?_))
      | ((refine And.intro (show (_ : Int) ≠ 0 by omega) ?_))
      | ((refine ar_tdiv (by omega) (by omega) (by omega) ?_))
      | (refine Br.tt ?_)
      | (refine Br.ff ?_)
      | (refine Br.dec (fun h => ?_) (fun h => ?_)) <;> try (exfalso; omega)
      | (refine Br.neg ?_)
      | (refine Br.mk (fun h => ?_) (fun h => ?_))
      | (refine And.intro rfl ?_)
      | (refine And.intro (by omega) ?_)
      | (refine ⟨_, Or.inl ⟨⟨by omega, by omega⟩, rfl⟩, ?_⟩)
      | (refine And.intro (by simp only [lens_all]; first | done | omega) ?_)
      | (refine And.intro (Nat.le_refl _) ?_)
      | fail
    refine ⟨Int, fun i => 0 ≤ i ∧ i ≤ k ∧ ∀ j, 0 ≤ j → j < i → ¬ (lowI n k j ≤ p ∧ p < lowI n k (j + 1)), fun i => [(0, .int .i64 n), (1, .int .i64 k), (2, .int .i64 p), (7, .int .i64 i)], fun i => [], fun _ => none, fun i => (k - i).toNat, ⟨0, ⟨by omega, by omega, fun j a b => by omega⟩, ⟨rfl, rfl, rfl, rfl, trivial⟩, trivial, rfl⟩, fun i hi => ?_⟩
    obtain ⟨i0, i1, i2⟩ := hi
    have c1 := fs_rLow n k i
    have c2 := fs_rLow n k (i + 1)
    have hfin := fun (hk : i < k) a b => ofI_eq (at' := p) hb i0 hk a b
    have hend : i = k → ofI n k p = -1 := fun hk => by
      subst hk
      refine ofI_out fun ⟨_, g0, g1⟩ => ?_
      obtain ⟨q0, q1, q2, q3⟩ := ofI_spec hb g0 g1
      exact i2 _ q0 q1 ⟨q2, q3⟩
    generalize hL : lowI n k i = L at *
    generalize hM : lowI n k (i + 1) = M at *
    have next : i < k → ¬ (L ≤ p ∧ p < M) → (0 ≤ i + 1 ∧ i + 1 ≤ k ∧ ∀ j, 0 ≤ j → j < i + 1 → ¬ (lowI n k j ≤ p ∧ p < lowI n k (j + 1))) := fun hk hno => ⟨by omega, by omega, fun j a b => by
      rcases Int.lt_or_le j i with h' | h'
      · exact i2 j a h'
      · have : j = i := by omega
        subst this
        rw [hL, hM]; exact hno⟩
    by_cases hk : i < k
    · have next := next hk
      have hfin := hfin hk
      by_cases hin : L ≤ p ∧ p < M
      · obtain ⟨l1, l2⟩ := hin
        repeat' (conv => whnf); first
          | ((refine Or.inl ⟨by rfl, _, c1, ?_⟩))
          | ((refine Or.inl ⟨by rfl, _, c2, ?_⟩))
          | ((refine Br.beq (by rfl) ?_))
          | ((refine Br.bne (by rfl) ?_))
          | ((refine And.intro (show (_ : Int) ≠ 0 by omega) ?_))
          | ((refine ar_tdiv (by omega) (by omega) (by omega) ?_))
          | (refine Br.tt ?_)
          | (refine Br.ff ?_)
          | (refine Br.dec (fun h => ?_) (fun h => ?_)) <;> try (exfalso; omega)
          | (refine Br.neg ?_)
          | (refine Br.mk (fun h => ?_) (fun h => ?_))
          | (refine And.intro rfl ?_)
          | (refine And.intro (by omega) ?_)
          | (refine ⟨_, Or.inl ⟨⟨by omega, by omega⟩, rfl⟩, ?_⟩)
          | (refine And.intro (by simp only [lens_all]; first | done | omega) ?_)
          | (refine And.intro (Nat.le_refl _) ?_)
          | fail
        rw [hfin l1 l2]
        exact rfl
      · have next := next hin
        repeat' (conv => whnf); first
          | ((refine Or.inl ⟨by rfl, _, c1, ?_⟩))
          | ((refine Or.inl ⟨by rfl, _, c2, ?_⟩))
          | ((refine Br.beq (by rfl) ?_))
          | ((refine Br.bne (by rfl) ?_))
          | ((refine And.intro (show (_ : Int) ≠ 0 by omega) ?_))
          | ((refine ar_tdiv (by omega) (by omega) (by omega) ?_))
          | (refine Br.tt ?_)
          | (refine Br.ff ?_)
          | (refine Br.dec (fun h => ?_) (fun h => ?_)) <;> try (exfalso; omega)
          | (refine Br.neg ?_)
          | (refine Br.mk (fun h => ?_) (fun h => ?_))
          | (refine And.intro rfl ?_)
          | (refine And.intro (by omega) ?_)
          | (refine ⟨_, Or.inl ⟨⟨by omega, by omega⟩, rfl⟩, ?_⟩)
          | (refine And.intro (by simp only [lens_all]; first | done | omega) ?_)
          | (refine And.intro (Nat.le_refl _) ?_)
          | fail
        all_goals exact ⟨i + 1, next, (show (k - (i + 1)).toNat < (k - i).toNat by omega), ⟨rfl, rfl, rfl, rfl, trivial⟩, trivial, rfl⟩
    · have hend := hend (by omega)
      repeat' (conv => whnf); first
        | ((refine Or.inl ⟨by rfl, _, c1, ?_⟩))
        | ((refine Or.inl ⟨by rfl, _, c2, ?_⟩))
        | ((refine Br.beq (by rfl) ?_))
        | ((refine Br.bne (by rfl) ?_))
        | ((refine And.intro (show (_ : Int) ≠ 0 by omega) ?_))
        | ((refine ar_tdiv (by omega) (by omega) (by omega) ?_))
        | (refine Br.tt ?_)
        | (refine Br.ff ?_)
        | (refine Br.dec (fun h => ?_) (fun h => ?_)) <;> try (exfalso; omega)
        | (refine Br.neg ?_)
        | (refine Br.mk (fun h => ?_) (fun h => ?_))
        | (refine And.intro rfl ?_)
        | (refine And.intro (by omega) ?_)
        | (refine ⟨_, Or.inl ⟨⟨by omega, by omega⟩, rfl⟩, ?_⟩)
        | (refine And.intro (by simp only [lens_all]; first | done | omega) ?_)
        | (refine And.intro (Nat.le_refl _) ?_)
        | fail
      rw [hend]
      exact rfl
  | false =>
    rw [hb] at c
    rw [ofI_out fun h => by rw [hb] at h; cases h.1]
    repeat' (conv => whnf); first
      | ((refine Or.inl ⟨by rfl, _, c, ?_⟩))
      | ((refine Br.beq (by rfl) ?_))
      | ((refine Br.bne (by rfl) ?_))
      | ((refine And.intro (show (_ : Int) ≠ 0 by omega) ?_))
      | ((refine ar_tdiv (by omega) (by omega) (by omega) ?_))
      | (refine Br.tt ?_)
      | (refine Br.ff ?_)
      | (refine Br.dec (fun h => ?_) (fun h => ?_)) <;> try (exfalso; omega)
      | (refine Br.neg ?_)
      | (refine Br.mk (fun h => ?_) (fun h => ?_))
      | (refine And.intro rfl ?_)
      | (refine And.intro (by omega) ?_)
      | (refine ⟨_, Or.inl ⟨⟨by omega, by omega⟩, rfl⟩, ?_⟩)
      | (refine And.intro (by simp only [lens_all]; first | done | omega) ?_)
      | (refine And.intro (Nat.le_refl _) ?_)
      | fail
    all_goals exact rfl
end
section
open Go.RowKit
attribute [local irreducible] FS FO IT HS

theorem sideB_iff {k : Int} : sideB k = true ↔ 0 < k ∧ k ≤ 8 := by simp [sideB]
def plI (c i j : Int) : Int := if sideB c = true ∧ 0 ≤ i ∧ i < 8 ∧ 0 ≤ j ∧ j < c then i * c + j else -1
def rowI (c p : Int) : Int := if sideB c = true ∧ 0 ≤ p ∧ p < c * 8 then p / c else -1
def colI (c p : Int) : Int := if sideB c = true ∧ 0 ≤ p ∧ p < c * 8 then p % c else -1

def ir_part_Place : IR :=
(.seq (.reg (⟨(some 6), .mv (.c (.int .i64 0)), none⟩ :: [])) (.seq (.seq (.reg (⟨(some 7), .mv (.t 0), none⟩ ::⟨(some 8), .call (.c (.fn 28 [])) [(.t 7)], none⟩ ::⟨(some 9), .un .not (.t 8), none⟩ ::⟨(some 10), .mv (.t 9), none⟩ ::⟨(some 11), .mv (.t 1), some (10, false)⟩ ::⟨(some 12), .bin .lss (.t 11) (.c (.int .i64 0)), some (10, false)⟩ ::⟨(some 13), .pick (.t 10) (.c (.bool true)) (.t 12), none⟩ ::⟨(some 14), .mv (.t 13), none⟩ ::⟨(some 15), .mv (.t 1), some (14, false)⟩ ::⟨(some 16), .bin .geq (.t 15) (.c (.int .i64 8)), some (14, false)⟩ ::⟨(some 17), .pick (.t 14) (.c (.bool true)) (.t 16), none⟩ ::⟨(some 18), .mv (.t 17), none⟩ ::⟨(some 19), .mv (.t 2), some (18, false)⟩ ::⟨(some 20), .bin .lss (.t 19) (.c (.int .i64 0)), some (18, false)⟩ ::⟨(some 21), .pick (.t 18) (.c (.bool true)) (.t 20), none⟩ ::⟨(some 22), .mv (.t 21), none⟩ ::⟨(some 23), .mv (.t 2), some (22, false)⟩ ::⟨(some 24), .mv (.t 0), some (22, false)⟩ ::⟨(some 25), .bin .geq (.t 23) (.t 24), some (22, false)⟩ ::⟨(some 26), .pick (.t 22) (.c (.bool true)) (.t 25), none⟩ :: [])) (.cond (.t 26) (.seq (.reg (⟨(some 6), .mv (.c (.int .i64 (-1))), none⟩ :: [])) .ret) .skip)) (.seq (.reg (⟨(some 27), .mv (.t 1), none⟩ ::⟨(some 28), .mv (.t 0), none⟩ ::⟨(some 29), .bin .mul (.t 27) (.t 28), none⟩ ::⟨(some 30), .mv (.t 2), none⟩ ::⟨(some 31), .bin .add (.t 29) (.t 30), none⟩ ::⟨(some 6), .mv (.t 31), none⟩ :: [])) .ret)))
theorem cd_part_Place : Code1 Try.prog 17 32 ir_part_Place [.t 6] := ⟨Try.call17, _, _, Try.func17, rfl, by kernel_rfl, by kernel_rfl, by kernel_rfl, by kernel_rfl⟩

theorem fs_Place (c i j : Int) : FS Try.prog 17 [.int .i64 c, .int .i64 i, .int .i64 j] (.int .i64 (plI c i j)) := by
  refine fs_of_cvc mixed cd_part_Place (by simp) ?_
  have c1 := fs_side c
  unfold plI
  cases hb : sideB c with
  | true =>
    rw [hb] at c1
    obtain ⟨h0, h1⟩ := sideB_iff.1 hb
    by_cases h : 0 ≤ i ∧ i < 8 ∧ 0 ≤ j ∧ j < c
    · rw [if_pos ⟨rfl, h⟩]
      obtain ⟨g0, g1, g2, g3⟩ := h
      have hm := pmul_bd (x := i) (n := c) g0 (by omega) (by omega) (by omega)
      repeat' (conv => whnf); first
        | ((refine Or.inl ⟨by rfl, _, c1, ?_⟩))
        | ((refine Br.beq (by rfl) ?_))
        | ((refine Br.bne (by rfl) ?_))
        | ((refine And.intro (show (_ : Int) ≠ 0 by omega) ?_))
        | ((refine ar_tdiv (by omega) (by omega) (by omega) ?_))
        | (refine Br.tt ?_)
        | (refine Br.ff ?_)
        | (refine Br.dec (fun h => ?_) (fun h => ?_)) <;> try (exfalso; omega)
        | (refine Br.neg ?_)
        | (refine Br.mk (fun h => ?_) (fun h => ?_))
        | (refine And.intro rfl ?_)
        | (refine And.intro (by omega) ?_)
        | (refine ⟨_, Or.inl ⟨⟨by omega, by omega⟩, rfl⟩, ?_⟩)
        | (refine And.intro (by simp only [lens_all]; first | done | omega) ?_)
        | (refine And.intro (Nat.le_refl _) ?_)
        | fail
      all_goals exact rfl
    · rw [if_neg fun g => h g.2]
      repeat' (conv => whnf); first
        | ((refine Or.inl ⟨by rfl, _, c1, ?_⟩))
        | ((refine Br.beq (by rfl) ?_))
        | ((refine Br.bne (by rfl) ?_))
        | ((refine And.intro (show (_ : Int) ≠ 0 by omega) ?_))
        | ((refine ar_tdiv (by omega) (by omega) (by omega) ?_))
        | (refine Br.tt ?_)
        | (refine Br.ff ?_)
        | (refine Br.dec (fun h => ?_) (fun h => ?_)) <;> try (exfalso; omega)
        | (refine Br.neg ?_)
        | (refine Br.mk (fun h => ?_) (fun h => ?_))
        | (refine And.intro rfl ?_)
        | (refine And.intro (by omega) ?_)
        | (refine ⟨_, Or.inl ⟨⟨by omega, by omega⟩, rfl⟩, ?_⟩)
        | (refine And.intro (by simp only [lens_all]; first | done | omega) ?_)
        | (refine And.intro (Nat.le_refl _) ?_)
        | fail
      all_goals exact rfl
  | false =>
    rw [hb] at c1
    rw [if_neg fun g => by cases g.1]
    repeat' (conv => whnf); first
      | ((refine Or.inl ⟨by rfl, _, c1, ?_⟩))
      | ((refine Br.beq (by rfl) ?_))
      | ((refine Br.bne (by rfl) ?_))
      | ((refine And.intro (show (_ : Int) ≠ 0 by omega) ?_))
      | ((refine ar_tdiv (by omega) (by omega) (by omega) ?_))
      | (refine Br.tt ?_)
      | (refine Br.ff ?_)
      | (refine Br.dec (fun h => ?_) (fun h => ?_)) <;> try (exfalso; omega)
      | (refine Br.neg ?_)
      | (refine Br.mk (fun h => ?_) (fun h => ?_))
      | (refine And.intro rfl ?_)
      | (refine And.intro (by omega) ?_)
      | (refine ⟨_, Or.inl ⟨⟨by omega, by omega⟩, rfl⟩, ?_⟩)
      | (refine And.intro (by simp only [lens_all]; first | done | omega) ?_)
      | (refine And.intro (Nat.le_refl _) ?_)
      | fail
    all_goals exact rfl

def ir_fretworkref17_Place : IR :=
(.seq (.reg (⟨(some 6), .mv (.c (.int .i64 0)), none⟩ :: [])) (.seq (.seq (.reg (⟨(some 7), .mv (.t 0), none⟩ ::⟨(some 8), .bin .lss (.t 7) (.c (.int .i64 1)), none⟩ ::⟨(some 9), .mv (.t 8), none⟩ ::⟨(some 10), .mv (.t 0), some (9, false)⟩ ::⟨(some 11), .bin .gtr (.t 10) (.c (.int .i64 8)), some (9, false)⟩ ::⟨(some 12), .pick (.t 9) (.c (.bool true)) (.t 11), none⟩ ::⟨(some 13), .mv (.t 12), none⟩ ::⟨(some 14), .mv (.t 1), some (13, false)⟩ ::⟨(some 15), .bin .lss (.t 14) (.c (.int .i64 0)), some (13, false)⟩ ::⟨(some 16), .pick (.t 13) (.c (.bool true)) (.t 15), none⟩ ::⟨(some 17), .mv (.t 16), none⟩ ::⟨(some 18), .mv (.t 1), some (17, false)⟩ ::⟨(some 19), .bin .geq (.t 18) (.c (.int .i64 8)), some (17, false)⟩ ::⟨(some 20), .pick (.t 17) (.c (.bool true)) (.t 19), none⟩ ::⟨(some 21), .mv (.t 20), none⟩ ::⟨(some 22), .mv (.t 2), some (21, false)⟩ ::⟨(some 23), .bin .lss (.t 22) (.c (.int .i64 0)), some (21, false)⟩ ::⟨(some 24), .pick (.t 21) (.c (.bool true)) (.t 23), none⟩ ::⟨(some 25), .mv (.t 24), none⟩ ::⟨(some 26), .mv (.t 2), some (25, false)⟩ ::⟨(some 27), .mv (.t 0), some (25, false)⟩ ::⟨(some 28), .bin .geq (.t 26) (.t 27), some (25, false)⟩ ::⟨(some 29), .pick (.t 25) (.c (.bool true)) (.t 28), none⟩ :: [])) (.cond (.t 29) (.seq (.reg (⟨(some 6), .mv (.c (.int .i64 (-1))), none⟩ :: [])) .ret) .skip)) (.seq (.reg (⟨(some 30), .mv (.t 1), none⟩ ::⟨(some 31), .mv (.t 0), none⟩ ::⟨(some 32), .bin .mul (.t 30) (.t 31), none⟩ ::⟨(some 33), .mv (.t 2), none⟩ ::⟨(some 34), .bin .add (.t 32) (.t 33), none⟩ ::⟨(some 6), .mv (.t 34), none⟩ :: [])) .ret)))
theorem cd_fretworkref17_Place : Code1 Try.prog 18 35 ir_fretworkref17_Place [.t 6] := ⟨Try.call18, _, _, Try.func18, rfl, by kernel_rfl, by kernel_rfl, by kernel_rfl, by kernel_rfl⟩

theorem fs_rPlace (c i j : Int) : FS Try.prog 18 [.int .i64 c, .int .i64 i, .int .i64 j] (.int .i64 (plI c i j)) := by
  refine fs_of_cvc mixed cd_fretworkref17_Place (by simp) ?_
  unfold plI
  by_cases h : sideB c = true ∧ 0 ≤ i ∧ i < 8 ∧ 0 ≤ j ∧ j < c
  · rw [if_pos h]
    obtain ⟨hb, g0, g1, g2, g3⟩ := h
    obtain ⟨h0, h1⟩ := sideB_iff.1 hb
    have hm := pmul_bd (x := i) (n := c) g0 (by omega) (by omega) (by omega)
    repeat' (conv => whnf); first
      | ((refine Br.beq (by rfl) ?_))
      | ((refine Br.bne (by rfl) ?_))
      | ((refine And.intro (show (_ : Int) ≠ 0 by omega) ?_))
      | ((refine ar_tdiv (by omega) (by omega) (by omega) ?_))
      | (refine Br.tt ?_)
      | (refine Br.ff ?_)
      | (refine Br.dec (fun h => ?_) (fun h => ?_)) <;> try (exfalso; omega)
      | (refine Br.neg ?_)
      | (refine Br.mk (fun h => ?_) (fun h => ?_))
      | (refine And.intro rfl ?_)
      | (refine And.intro (by omega) ?_)
      | (refine ⟨_, Or.inl ⟨⟨by omega, by omega⟩, rfl⟩, ?_⟩)
      | (refine And.intro (by simp only [lens_all]; first | done | omega) ?_)
      | (refine And.intro (Nat.le_refl _) ?_)
      | fail
    all_goals exact rfl
  · rw [if_neg h]
    rw [sideB_iff] at h
    repeat' (conv => whnf); first
      | ((refine Br.beq (by rfl) ?_))
      | ((refine Br.bne (by rfl) ?_))
      | ((refine And.intro (show (_ : Int) ≠ 0 by omega) ?_))
      | ((refine ar_tdiv (by omega) (by omega) (by omega) ?_))
      | (refine Br.tt ?_)
      | (refine Br.ff ?_)
      | (refine Br.dec (fun h => ?_) (fun h => ?_)) <;> try (exfalso; omega)
      | (refine Br.neg ?_)
      | (refine Br.mk (fun h => ?_) (fun h => ?_))
      | (refine And.intro rfl ?_)
      | (refine And.intro (by omega) ?_)
      | (refine ⟨_, Or.inl ⟨⟨by omega, by omega⟩, rfl⟩, ?_⟩)
      | (refine And.intro (by simp only [lens_all]; first | done | omega) ?_)
      | (refine And.intro (Nat.le_refl _) ?_)
      | fail
    all_goals exact rfl

def ir_part_Row : IR :=
(.seq (.reg (⟨(some 4), .mv (.c (.int .i64 0)), none⟩ :: [])) (.seq (.seq (.reg (⟨(some 5), .mv (.t 0), none⟩ ::⟨(some 6), .call (.c (.fn 28 [])) [(.t 5)], none⟩ ::⟨(some 7), .un .not (.t 6), none⟩ ::⟨(some 8), .mv (.t 7), none⟩ ::⟨(some 9), .mv (.t 1), some (8, false)⟩ ::⟨(some 10), .bin .lss (.t 9) (.c (.int .i64 0)), some (8, false)⟩ ::⟨(some 11), .pick (.t 8) (.c (.bool true)) (.t 10), none⟩ ::⟨(some 12), .mv (.t 11), none⟩ ::⟨(some 13), .mv (.t 1), some (12, false)⟩ ::⟨(some 14), .mv (.t 0), some (12, false)⟩ ::⟨(some 15), .bin .mul (.t 14) (.c (.int .i64 8)), some (12, false)⟩ ::⟨(some 16), .bin .geq (.t 13) (.t 15), some (12, false)⟩ ::⟨(some 17), .pick (.t 12) (.c (.bool true)) (.t 16), none⟩ :: [])) (.cond (.t 17) (.seq (.reg (⟨(some 4), .mv (.c (.int .i64 (-1))), none⟩ :: [])) .ret) .skip)) (.seq (.reg (⟨(some 18), .mv (.t 1), none⟩ ::⟨(some 19), .mv (.t 0), none⟩ ::⟨(some 20), .bin .quo (.t 18) (.t 19), none⟩ ::⟨(some 4), .mv (.t 20), none⟩ :: [])) .ret)))
theorem cd_part_Row : Code1 Try.prog 19 21 ir_part_Row [.t 4] := ⟨Try.call19, _, _, Try.func19, rfl, by kernel_rfl, by kernel_rfl, by kernel_rfl, by kernel_rfl⟩

theorem fs_Row (c p : Int) : FS Try.prog 19 [.int .i64 c, .int .i64 p] (.int .i64 (rowI c p)) := by
  refine fs_of_cvc mixed cd_part_Row (by simp) ?_
  have c1 := fs_side c
  unfold rowI
  cases hb : sideB c with
  | true =>
    rw [hb] at c1
    obtain ⟨h0, h1⟩ := sideB_iff.1 hb
    by_cases h : 0 ≤ p ∧ p < c * 8
    · rw [if_pos ⟨rfl, h⟩]
      obtain ⟨g0, g1⟩ := h
      repeat' (conv => whnf); first
        | ((refine Or.inl ⟨by rfl, _, c1, ?_⟩))
        | ((refine Br.beq (by rfl) ?_))
        | ((refine Br.bne (by rfl) ?_))
        | ((refine And.intro (show (_ : Int) ≠ 0 by omega) ?_))
        | ((refine ar_tdiv (by omega) (by omega) (by omega) ?_))
        | (refine Br.tt ?_)
        | (refine Br.ff ?_)
        | (refine Br.dec (fun h => ?_) (fun h => ?_)) <;> try (exfalso; omega)
        | (refine Br.neg ?_)
        | (refine Br.mk (fun h => ?_) (fun h => ?_))
        | (refine And.intro rfl ?_)
        | (refine And.intro (by omega) ?_)
        | (refine ⟨_, Or.inl ⟨⟨by omega, by omega⟩, rfl⟩, ?_⟩)
        | (refine And.intro (by simp only [lens_all]; first | done | omega) ?_)
        | (refine And.intro (Nat.le_refl _) ?_)
        | fail
      all_goals exact rfl
    · rw [if_neg fun g => h g.2]
      repeat' (conv => whnf); first
        | ((refine Or.inl ⟨by rfl, _, c1, ?_⟩))
        | ((refine Br.beq (by rfl) ?_))
        | ((refine Br.bne (by rfl) ?_))
        | ((refine And.intro (show (_ : Int) ≠ 0 by omega) ?_))
        | ((refine ar_tdiv (by omega) (by omega) (by omega) ?_))
        | (refine Br.tt ?_)
        | (refine Br.ff ?_)
        | (refine Br.dec (fun h => ?_) (fun h => ?_)) <;> try (exfalso; omega)
        | (refine Br.neg ?_)
        | (refine Br.mk (fun h => ?_) (fun h => ?_))
        | (refine And.intro rfl ?_)
        | (refine And.intro (by omega) ?_)
        | (refine ⟨_, Or.inl ⟨⟨by omega, by omega⟩, rfl⟩, ?_⟩)
        | (refine And.intro (by simp only [lens_all]; first | done | omega) ?_)
        | (refine And.intro (Nat.le_refl _) ?_)
        | fail
      all_goals exact rfl
  | false =>
    rw [hb] at c1
    rw [if_neg fun g => by cases g.1]
    repeat' (conv => whnf); first
      | ((refine Or.inl ⟨by rfl, _, c1, ?_⟩))
      | ((refine Br.beq (by rfl) ?_))
      | ((refine Br.bne (by rfl) ?_))
      | ((refine And.intro (show (_ : Int) ≠ 0 by omega) ?_))
      | ((refine ar_tdiv (by omega) (by omega) (by omega) ?_))
      | (refine Br.tt ?_)
      | (refine Br.ff ?_)
      | (refine Br.dec (fun h => ?_) (fun h => ?_)) <;> try (exfalso; omega)
      | (refine Br.neg ?_)
      | (refine Br.mk (fun h => ?_) (fun h => ?_))
      | (refine And.intro rfl ?_)
      | (refine And.intro (by omega) ?_)
      | (refine ⟨_, Or.inl ⟨⟨by omega, by omega⟩, rfl⟩, ?_⟩)
      | (refine And.intro (by simp only [lens_all]; first | done | omega) ?_)
      | (refine And.intro (Nat.le_refl _) ?_)
      | fail
    all_goals exact rfl

def ir_fretworkref17_Row : IR :=
(.seq (.reg (⟨(some 4), .mv (.c (.int .i64 0)), none⟩ :: [])) (.seq (.seq (.reg (⟨(some 5), .mv (.t 0), none⟩ ::⟨(some 6), .bin .lss (.t 5) (.c (.int .i64 1)), none⟩ ::⟨(some 7), .mv (.t 6), none⟩ ::⟨(some 8), .mv (.t 0), some (7, false)⟩ ::⟨(some 9), .bin .gtr (.t 8) (.c (.int .i64 8)), some (7, false)⟩ ::⟨(some 10), .pick (.t 7) (.c (.bool true)) (.t 9), none⟩ ::⟨(some 11), .mv (.t 10), none⟩ ::⟨(some 12), .mv (.t 1), some (11, false)⟩ ::⟨(some 13), .bin .lss (.t 12) (.c (.int .i64 0)), some (11, false)⟩ ::⟨(some 14), .pick (.t 11) (.c (.bool true)) (.t 13), none⟩ ::⟨(some 15), .mv (.t 14), none⟩ ::⟨(some 16), .mv (.t 1), some (15, false)⟩ ::⟨(some 17), .mv (.t 0), some (15, false)⟩ ::⟨(some 18), .bin .mul (.t 17) (.c (.int .i64 8)), some (15, false)⟩ ::⟨(some 19), .bin .geq (.t 16) (.t 18), some (15, false)⟩ ::⟨(some 20), .pick (.t 15) (.c (.bool true)) (.t 19), none⟩ :: [])) (.cond (.t 20) (.seq (.reg (⟨(some 4), .mv (.c (.int .i64 (-1))), none⟩ :: [])) .ret) .skip)) (.seq (.reg (⟨(some 21), .mv (.t 1), none⟩ ::⟨(some 22), .mv (.t 0), none⟩ ::⟨(some 23), .bin .quo (.t 21) (.t 22), none⟩ ::⟨(some 4), .mv (.t 23), none⟩ :: [])) .ret)))
theorem cd_fretworkref17_Row : Code1 Try.prog 20 24 ir_fretworkref17_Row [.t 4] := ⟨Try.call20, _, _, Try.func20, rfl, by kernel_rfl, by kernel_rfl, by kernel_rfl, by kernel_rfl⟩

theorem fs_rRow (c p : Int) : FS Try.prog 20 [.int .i64 c, .int .i64 p] (.int .i64 (rowI c p)) := by
  refine fs_of_cvc mixed cd_fretworkref17_Row (by simp) ?_
  unfold rowI
  by_cases h : sideB c = true ∧ 0 ≤ p ∧ p < c * 8
  · rw [if_pos h]
    obtain ⟨hb, g0, g1⟩ := h
    obtain ⟨h0, h1⟩ := sideB_iff.1 hb
    repeat' (conv => whnf); first
      | ((refine Br.beq (by rfl) ?_))
      | ((refine Br.bne (by rfl) ?_))
      | ((refine And.intro (show (_ : Int) ≠ 0 by omega) ?_))
      | ((refine ar_tdiv (by omega) (by omega) (by omega) ?_))
      | (refine Br.tt ?_)
      | (refine Br.ff ?_)
      | (refine Br.dec (fun h => ?_) (fun h => ?_)) <;> try (exfalso; omega)
      | (refine Br.neg ?_)
      | (refine Br.mk (fun h => ?_) (fun h => ?_))
      | (refine And.intro rfl ?_)
      | (refine And.intro (by omega) ?_)
      | (refine ⟨_, Or.inl ⟨⟨by omega, by omega⟩, rfl⟩, ?_⟩)
      | (refine And.intro (by simp only [lens_all]; first | done | omega) ?_)
      | (refine And.intro (Nat.le_refl _) ?_)
      | fail
    all_goals exact rfl
  · rw [if_neg h]
    rw [sideB_iff] at h
    repeat' (conv => whnf); first
      | ((refine Br.beq (by rfl) ?_))
      | ((refine Br.bne (by rfl) ?_))
      | ((refine And.intro (show (_ : Int) ≠ 0 by omega) ?_))
      | ((refine ar_tdiv (by omega) (by omega) (by omega) ?_))
      | (refine Br.tt ?_)
      | (refine Br.ff ?_)
      | (refine Br.dec (fun h => ?_) (fun h => ?_)) <;> try (exfalso; omega)
      | (refine Br.neg ?_)
      | (refine Br.mk (fun h => ?_) (fun h => ?_))
      | (refine And.intro rfl ?_)
      | (refine And.intro (by omega) ?_)
      | (refine ⟨_, Or.inl ⟨⟨by omega, by omega⟩, rfl⟩, ?_⟩)
      | (refine And.intro (by simp only [lens_all]; first | done | omega) ?_)
      | (refine And.intro (Nat.le_refl _) ?_)
      | fail
    all_goals exact rfl

theorem row_col (c p : Int) : (rowI c p < 0 ∧ colI c p = -1) ∨ (0 ≤ rowI c p ∧ 0 < c ∧ 0 ≤ p ∧ p.tmod c = colI c p) := by
  unfold rowI colI
  by_cases h : sideB c = true ∧ 0 ≤ p ∧ p < c * 8
  · obtain ⟨h0, h1⟩ := sideB_iff.1 h.1
    right
    rw [if_pos h, if_pos h]
    exact ⟨Int.ediv_nonneg h.2.1 (by omega), h0, h.2.1, Int.tmod_eq_emod_of_nonneg h.2.1⟩
  · left
    rw [if_neg h, if_neg h]
    exact ⟨by omega, rfl⟩

def ir_part_Col : IR :=
(.seq (.reg (⟨(some 4), .mv (.c (.int .i64 0)), none⟩ :: [])) (.seq (.seq (.reg (⟨(some 5), .mv (.t 0), none⟩ ::⟨(some 6), .mv (.t 1), none⟩ ::⟨(some 7), .call (.c (.fn 19 [])) [(.t 5), (.t 6)], none⟩ ::⟨(some 8), .bin .lss (.t 7) (.c (.int .i64 0)), none⟩ :: [])) (.cond (.t 8) (.seq (.reg (⟨(some 4), .mv (.c (.int .i64 (-1))), none⟩ :: [])) .ret) .skip)) (.seq (.reg (⟨(some 9), .mv (.t 1), none⟩ ::⟨(some 10), .mv (.t 0), none⟩ ::⟨(some 11), .bin .rem (.t 9) (.t 10), none⟩ ::⟨(some 4), .mv (.t 11), none⟩ :: [])) .ret)))
theorem cd_part_Col : Code1 Try.prog 21 12 ir_part_Col [.t 4] := ⟨Try.call21, _, _, Try.func21, rfl, by kernel_rfl, by kernel_rfl, by kernel_rfl, by kernel_rfl⟩

theorem fs_Col (c p : Int) : FS Try.prog 21 [.int .i64 c, .int .i64 p] (.int .i64 (colI c p)) := by
  refine fs_of_cvc mixed cd_part_Col (by simp) ?_
  have c1 := fs_Row c p
  have e := row_col c p
  generalize colI c p = C at *
  generalize rowI c p = R at *
  rcases e with ⟨h, rfl⟩ | ⟨h, h0, h1, rfl⟩
  · repeat' (conv => whnf); first
      | ((refine Or.inl ⟨by rfl, _, c1, ?_⟩))
      | ((refine Br.beq (by rfl) ?_))
      | ((refine Br.bne (by rfl) ?_))
      | ((refine And.intro (show (_ : Int) ≠ 0 by omega) ?_))
      | ((refine ar_tdiv (by omega) (by omega) (by omega) ?_))
      | (refine Br.tt ?_)
      | (refine Br.ff ?_)
      | (refine Br.dec (fun h => ?_) (fun h => ?_)) <;> try (exfalso; omega)
      | (refine Br.neg ?_)
      | (refine Br.mk (fun h => ?_) (fun h => ?_))
      | (refine And.intro rfl ?_)
      | (refine And.intro (by omega) ?_)
      | (refine ⟨_, Or.inl ⟨⟨by omega, by omega⟩, rfl⟩, ?_⟩)
      | (refine And.intro (by simp only [lens_all]; first | done | omega) ?_)
      | (refine And.intro (Nat.le_refl _) ?_)
      | fail
    all_goals exact rfl
  · repeat' (conv => whnf); first
      | ((refine Or.inl ⟨by rfl, _, c1, ?_⟩))
      | ((refine Br.beq (by rfl) ?_))
      | ((refine Br.bne (by rfl) ?_))
      | ((refine And.intro (show (_ : Int) ≠ 0 by omega) ?_))
      | ((refine ar_tdiv (by omega) (by omega) (by omega) ?_))
      | (refine Br.tt ?_)
      | (refine Br.ff ?_)
      | (refine Br.dec (fun h => ?_) (fun h => ?_)) <;> try (exfalso; omega)
      | (refine Br.neg ?_)
      | (refine Br.mk (fun h => ?_) (fun h => ?_))
      | (refine And.intro rfl ?_)
      | (refine And.intro (by omega) ?_)
      | (refine ⟨_, Or.inl ⟨⟨by omega, by omega⟩, rfl⟩, ?_⟩)
      | (refine And.intro (by simp only [lens_all]; first | done | omega) ?_)
      | (refine And.intro (Nat.le_refl _) ?_)
      | fail
    all_goals exact rfl

def ir_fretworkref17_Col : IR :=
(.seq (.reg (⟨(some 4), .mv (.c (.int .i64 0)), none⟩ :: [])) (.seq (.seq (.reg (⟨(some 5), .mv (.t 0), none⟩ ::⟨(some 6), .mv (.t 1), none⟩ ::⟨(some 7), .call (.c (.fn 20 [])) [(.t 5), (.t 6)], none⟩ ::⟨(some 8), .bin .lss (.t 7) (.c (.int .i64 0)), none⟩ :: [])) (.cond (.t 8) (.seq (.reg (⟨(some 4), .mv (.c (.int .i64 (-1))), none⟩ :: [])) .ret) .skip)) (.seq (.reg (⟨(some 9), .mv (.t 1), none⟩ ::⟨(some 10), .mv (.t 0), none⟩ ::⟨(some 11), .bin .rem (.t 9) (.t 10), none⟩ ::⟨(some 4), .mv (.t 11), none⟩ :: [])) .ret)))
theorem cd_fretworkref17_Col : Code1 Try.prog 22 12 ir_fretworkref17_Col [.t 4] := ⟨Try.call22, _, _, Try.func22, rfl, by kernel_rfl, by kernel_rfl, by kernel_rfl, by kernel_rfl⟩

theorem fs_rCol (c p : Int) : FS Try.prog 22 [.int .i64 c, .int .i64 p] (.int .i64 (colI c p)) := by
  refine fs_of_cvc mixed cd_fretworkref17_Col (by simp) ?_
  have c1 := fs_rRow c p
  have e := row_col c p
  generalize colI c p = C at *
  generalize rowI c p = R at *
  rcases e with ⟨h, rfl⟩ | ⟨h, h0, h1, rfl⟩
  · repeat' (conv => whnf); first
      | ((refine Or.inl ⟨by rfl, _, c1, ?_⟩))
      | ((refine Br.beq (by rfl) ?_))
      | ((refine Br.bne (by rfl) ?_))
      | ((refine And.intro (show (_ : Int) ≠ 0 by omega) ?_))
      | ((refine ar_tdiv (by omega) (by omega) (by omega) ?_))
      | (refine Br.tt ?_)
      | (refine Br.ff ?_)
      | (refine Br.dec (fun h => ?_) (fun h => ?_)) <;> try (exfalso; omega)
      | (refine Br.neg ?_)
      | (refine Br.mk (fun h => ?_) (fun h => ?_))
      | (refine And.intro rfl ?_)
      | (refine And.intro (by omega) ?_)
      | (refine ⟨_, Or.inl ⟨⟨by omega, by omega⟩, rfl⟩, ?_⟩)
      | (refine And.intro (by simp only [lens_all]; first | done | omega) ?_)
      | (refine And.intro (Nat.le_refl _) ?_)
      | fail
    all_goals exact rfl
  · repeat' (conv => whnf); first
      | ((refine Or.inl ⟨by rfl, _, c1, ?_⟩))
      | ((refine Br.beq (by rfl) ?_))
      | ((refine Br.bne (by rfl) ?_))
      | ((refine And.intro (show (_ : Int) ≠ 0 by omega) ?_))
      | ((refine ar_tdiv (by omega) (by omega) (by omega) ?_))
      | (refine Br.tt ?_)
      | (refine Br.ff ?_)
      | (refine Br.dec (fun h => ?_) (fun h => ?_)) <;> try (exfalso; omega)
      | (refine Br.neg ?_)
      | (refine Br.mk (fun h => ?_) (fun h => ?_))
      | (refine And.intro rfl ?_)
      | (refine And.intro (by omega) ?_)
      | (refine ⟨_, Or.inl ⟨⟨by omega, by omega⟩, rfl⟩, ?_⟩)
      | (refine And.intro (by simp only [lens_all]; first | done | omega) ?_)
      | (refine And.intro (Nat.le_refl _) ?_)
      | fail
    all_goals exact rfl
end
end Go.Proofs.Ytjaakpigkoakkaa
