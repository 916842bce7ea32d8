/- Sets of places: what two sets come to. -/
import Derived.Test.YtefciekodhpefaaFd
namespace Go.Proofs.Ytefciekodhpefaa
open Go.RowKit
attribute [local irreducible] FS FO IT HS

def ir_flags_Union_1 : IR :=
(.seq
 (.reg (⟨(some 4), .mv (.c (.int .u64 0)), none⟩ ::
   []))
 (.seq
  (.reg (⟨(some 5), .mv (.t 0), none⟩ ::
    ⟨(some 6), .mv (.t 1), none⟩ ::
    ⟨(some 7), .bin .or (.t 5) (.t 6), none⟩ ::
    ⟨(some 4), .mv (.t 7), none⟩ ::
    []))
  .ret))
theorem cd_flags_Union_1 : Code1 Try.prog 57 8 ir_flags_Union_1 [.t 4] := ⟨Try.call57, _, _, Try.func57, rfl, by kernel_rfl, by kernel_rfl, by kernel_rfl, by kernel_rfl⟩

def ir_flags_Both_1 : IR :=
(.seq
 (.reg (⟨(some 4), .mv (.c (.int .u64 0)), none⟩ ::
   []))
 (.seq
  (.reg (⟨(some 5), .mv (.t 0), none⟩ ::
    ⟨(some 6), .mv (.t 1), none⟩ ::
    ⟨(some 7), .bin .and (.t 5) (.t 6), none⟩ ::
    ⟨(some 4), .mv (.t 7), none⟩ ::
    []))
  .ret))
theorem cd_flags_Both_1 : Code1 Try.prog 59 8 ir_flags_Both_1 [.t 4] := ⟨Try.call59, _, _, Try.func59, rfl, by kernel_rfl, by kernel_rfl, by kernel_rfl, by kernel_rfl⟩

def ir_flags_Minus_1 : IR :=
(.seq
 (.reg (⟨(some 4), .mv (.c (.int .u64 0)), none⟩ ::
   []))
 (.seq
  (.reg (⟨(some 5), .mv (.t 0), none⟩ ::
    ⟨(some 6), .mv (.t 1), none⟩ ::
    ⟨(some 7), .bin .andNot (.t 5) (.t 6), none⟩ ::
    ⟨(some 4), .mv (.t 7), none⟩ ::
    []))
  .ret))
theorem cd_flags_Minus_1 : Code1 Try.prog 60 8 ir_flags_Minus_1 [.t 4] := ⟨Try.call60, _, _, Try.func60, rfl, by kernel_rfl, by kernel_rfl, by kernel_rfl, by kernel_rfl⟩

def ir_flags_Flip_1 : IR :=
(.seq
 (.reg (⟨(some 4), .mv (.c (.int .u64 0)), none⟩ ::
   []))
 (.seq
  (.reg (⟨(some 5), .mv (.t 0), none⟩ ::
    ⟨(some 6), .un .xor (.t 5), none⟩ ::
    ⟨(some 4), .mv (.t 6), none⟩ ::
    []))
  .ret))
theorem cd_flags_Flip_1 : Code1 Try.prog 61 7 ir_flags_Flip_1 [.t 4] := ⟨Try.call61, _, _, Try.func61, rfl, by kernel_rfl, by kernel_rfl, by kernel_rfl, by kernel_rfl⟩

theorem or_lt {x y : Nat} (hx : x < 18446744073709551616) (hy : y < 18446744073709551616) : x ||| y < 18446744073709551616 := by
  have := Nat.or_lt_two_pow (n := 64) (x := x) (y := y) (by simpa using hx) (by simpa using hy)
  simpa using this
theorem fs_Union1 (x y : Nat) (hx : x < 18446744073709551616) (hy : y < 18446744073709551616) : FS Try.prog 57 [.int .u64 (x : Int), .int .u64 (y : Int)] (.int .u64 ((x ||| y : Nat) : Int)) := by
  refine fs_of_cvc mixed cd_flags_Union_1 (by simp) ?_
  repeat' (conv => whnf); first
    | ((refine fun x hx => ?_); (obtain ⟨v, hv, rfl⟩ := U_get hx))
    | ((refine And.intro rfl (And.intro (by simp only [U_len, tab_len, List.length_set]; omega) ?_)))
    | (refine Br.tt ?_)
    | (refine Br.ff ?_)
    | (refine Br.dec (fun h => ?_) (fun h => ?_)) <;> try (exfalso; omega)
    | (refine Br.neg ?_)
    | (refine Br.mk (fun h => ?_) (fun h => ?_))
    | (refine And.intro rfl ?_)
    | (refine And.intro (by omega) ?_)
    | (refine ⟨_, Or.inl ⟨⟨by omega, by omega⟩, rfl⟩, ?_⟩)
    | (refine And.intro (by simp only [List.length_map, List.length_replicate, List.length_set, List.length_append, List.length_take, List.length_drop, List.length_cons, List.length_nil, U_len, tab_len]; first | done | omega) ?_)
    | (refine And.intro (Nat.le_refl _) ?_)
    | fail
  show SV.int _ (bOr .u64 x y) = _
  rw [bOr_u64 hx hy]
theorem fs_Both1 (x y : Nat) (hx : x < 18446744073709551616) (hy : y < 18446744073709551616) : FS Try.prog 59 [.int .u64 (x : Int), .int .u64 (y : Int)] (.int .u64 ((x &&& y : Nat) : Int)) := by
  refine fs_of_cvc mixed cd_flags_Both_1 (by simp) ?_
  repeat' (conv => whnf); first
    | ((refine fun x hx => ?_); (obtain ⟨v, hv, rfl⟩ := U_get hx))
    | ((refine And.intro rfl (And.intro (by simp only [U_len, tab_len, List.length_set]; omega) ?_)))
    | (refine Br.tt ?_)
    | (refine Br.ff ?_)
    | (refine Br.dec (fun h => ?_) (fun h => ?_)) <;> try (exfalso; omega)
    | (refine Br.neg ?_)
    | (refine Br.mk (fun h => ?_) (fun h => ?_))
    | (refine And.intro rfl ?_)
    | (refine And.intro (by omega) ?_)
    | (refine ⟨_, Or.inl ⟨⟨by omega, by omega⟩, rfl⟩, ?_⟩)
    | (refine And.intro (by simp only [List.length_map, List.length_replicate, List.length_set, List.length_append, List.length_take, List.length_drop, List.length_cons, List.length_nil, U_len, tab_len]; first | done | omega) ?_)
    | (refine And.intro (Nat.le_refl _) ?_)
    | fail
  show SV.int _ (bAnd .u64 x y) = _
  rw [bAnd_u64 hx hy]
theorem fs_Minus1 (x y : Nat) (hx : x < 18446744073709551616) (hy : y < 18446744073709551616) : FS Try.prog 60 [.int .u64 (x : Int), .int .u64 (y : Int)] (.int .u64 ((natAndNot x y : Nat) : Int)) := by
  refine fs_of_cvc mixed cd_flags_Minus_1 (by simp) ?_
  repeat' (conv => whnf); first
    | ((refine fun x hx => ?_); (obtain ⟨v, hv, rfl⟩ := U_get hx))
    | ((refine And.intro rfl (And.intro (by simp only [U_len, tab_len, List.length_set]; omega) ?_)))
    | (refine Br.tt ?_)
    | (refine Br.ff ?_)
    | (refine Br.dec (fun h => ?_) (fun h => ?_)) <;> try (exfalso; omega)
    | (refine Br.neg ?_)
    | (refine Br.mk (fun h => ?_) (fun h => ?_))
    | (refine And.intro rfl ?_)
    | (refine And.intro (by omega) ?_)
    | (refine ⟨_, Or.inl ⟨⟨by omega, by omega⟩, rfl⟩, ?_⟩)
    | (refine And.intro (by simp only [List.length_map, List.length_replicate, List.length_set, List.length_append, List.length_take, List.length_drop, List.length_cons, List.length_nil, U_len, tab_len]; first | done | omega) ?_)
    | (refine And.intro (Nat.le_refl _) ?_)
    | fail
  show SV.int _ (bAndNot .u64 x y) = _
  rw [bAndNot_u64 hx hy]
theorem fs_Flip1 (x y : Nat) (hx : x < 18446744073709551616) (_hy : y < 18446744073709551616) : FS Try.prog 61 [.int .u64 (x : Int), .int .u64 (y : Int)] (.int .u64 ((18446744073709551615 - x : Nat) : Int)) := by
  refine fs_of_cvc mixed cd_flags_Flip_1 (by simp) ?_
  repeat' (conv => whnf); first
    | ((refine fun x hx => ?_); (obtain ⟨v, hv, rfl⟩ := U_get hx))
    | ((refine And.intro rfl (And.intro (by simp only [U_len, tab_len, List.length_set]; omega) ?_)))
    | (refine Br.tt ?_)
    | (refine Br.ff ?_)
    | (refine Br.dec (fun h => ?_) (fun h => ?_)) <;> try (exfalso; omega)
    | (refine Br.neg ?_)
    | (refine Br.mk (fun h => ?_) (fun h => ?_))
    | (refine And.intro rfl ?_)
    | (refine And.intro (by omega) ?_)
    | (refine ⟨_, Or.inl ⟨⟨by omega, by omega⟩, rfl⟩, ?_⟩)
    | (refine And.intro (by simp only [List.length_map, List.length_replicate, List.length_set, List.length_append, List.length_take, List.length_drop, List.length_cons, List.length_nil, U_len, tab_len]; first | done | omega) ?_)
    | (refine And.intro (Nat.le_refl _) ?_)
    | fail
  show SV.int _ (bXor .u64 18446744073709551615 x) = _
  have := bXor_u64 (x := 18446744073709551615) (y := x) (by omega) hx
  rw [show bXor .u64 18446744073709551615 (x : Int) = bXor .u64 ((18446744073709551615 : Nat) : Int) x from rfl, this]
  congr 2
  apply Nat.eq_of_testBit_eq
  intro j
  have h1 := testBit_not (i := j) hx
  have h2 := testBit_not (y := 0) (i := j) (by omega)
  rw [Nat.testBit_xor, h1, show (18446744073709551615 : Nat) = 18446744073709551615 - 0 from rfl, h2]
  by_cases hj : j < 64
  · simp [hj]
  · have : x.testBit j = false := Nat.testBit_lt_two_pow (Nat.lt_of_lt_of_le hx (by
      have := Nat.pow_le_pow_right (n := 2) (by omega) (Nat.le_of_not_lt hj)
      simpa using this))
    simp [hj, this]

theorem frz_tab {n : Nat} {ws : List Nat} (h : ws.length = n) : frzK 4 [.arr 1 (uw ws)] (.osl 0 1 0 n) fun y => y = U ws := by
  refine ⟨rfl, by rw [U_len]; omega, ?_⟩
  subst h
  rw [frz_U rfl]

def joinU (a b : List Nat) : List Nat := tab (max a.length b.length) fun i => a.getD i 0 ||| b.getD i 0
def joinB (a b : List Nat) : List Nat := tab a.length fun i => a.getD i 0 &&& b.getD i 0
def joinM (a b : List Nat) : List Nat := tab a.length fun i => natAndNot (a.getD i 0) (b.getD i 0)

def ir_flags_Union : IR :=
(.seq
 (.reg (⟨(some 4), .mv (.c (.nils)), none⟩ ::
   []))
 (.seq
  (.reg (⟨(some 5), .mv (.t 0), none⟩ ::
    ⟨(some 6), .ln (.t 5), none⟩ ::
    ⟨(some 7), .mv (.t 1), none⟩ ::
    ⟨(some 8), .ln (.t 7), none⟩ ::
    ⟨(some 9), .mm true [(.t 6), (.t 8)], none⟩ ::
    ⟨(some 10), .mv (.t 0), none⟩ ::
    ⟨(some 11), .mv (.t 1), none⟩ ::
    ⟨(some 12), .call (.c (.fn 56 [])) [(.t 9), (.t 10), (.t 11), (.c (.fn 57 []))], none⟩ ::
    ⟨(some 4), .mv (.t 12), none⟩ ::
    []))
  .ret))
theorem cd_flags_Union : Code1 Try.prog 33 13 ir_flags_Union [.t 4] := ⟨Try.call33, _, _, Try.func33, rfl, by kernel_rfl, by kernel_rfl, by kernel_rfl, by kernel_rfl⟩

def ir_flags_Both : IR :=
(.seq
 (.reg (⟨(some 4), .mv (.c (.nils)), none⟩ ::
   []))
 (.seq
  (.reg (⟨(some 5), .mv (.t 0), none⟩ ::
    ⟨(some 6), .ln (.t 5), none⟩ ::
    ⟨(some 7), .mv (.t 0), none⟩ ::
    ⟨(some 8), .mv (.t 1), none⟩ ::
    ⟨(some 9), .call (.c (.fn 56 [])) [(.t 6), (.t 7), (.t 8), (.c (.fn 59 []))], none⟩ ::
    ⟨(some 4), .mv (.t 9), none⟩ ::
    []))
  .ret))
theorem cd_flags_Both : Code1 Try.prog 35 10 ir_flags_Both [.t 4] := ⟨Try.call35, _, _, Try.func35, rfl, by kernel_rfl, by kernel_rfl, by kernel_rfl, by kernel_rfl⟩

def ir_flags_Minus : IR :=
(.seq
 (.reg (⟨(some 4), .mv (.c (.nils)), none⟩ ::
   []))
 (.seq
  (.reg (⟨(some 5), .mv (.t 0), none⟩ ::
    ⟨(some 6), .ln (.t 5), none⟩ ::
    ⟨(some 7), .mv (.t 0), none⟩ ::
    ⟨(some 8), .mv (.t 1), none⟩ ::
    ⟨(some 9), .call (.c (.fn 56 [])) [(.t 6), (.t 7), (.t 8), (.c (.fn 60 []))], none⟩ ::
    ⟨(some 4), .mv (.t 9), none⟩ ::
    []))
  .ret))
theorem cd_flags_Minus : Code1 Try.prog 37 10 ir_flags_Minus [.t 4] := ⟨Try.call37, _, _, Try.func37, rfl, by kernel_rfl, by kernel_rfl, by kernel_rfl, by kernel_rfl⟩

section
variable (a b : List Nat) (ha : Wd a) (hb : Wd b) (hla : a.length ≤ 1000000) (hlb : b.length ≤ 1000000)
include ha hb hla hlb
theorem fs_Union : FS Try.prog 33 [U a, U b] (U (joinU a b)) := by
  refine fs_of_cvc mixed cd_flags_Union (by simp) ?_
  refine Or.inl ⟨rfl, _, fs_le (fs_of_fo (fo_both (max a.length b.length) a b ha hb hla hlb (by omega) _ _ fs_Union1) (frz_tab (tab_len _ _))) ⟨?_, rfl, rfl, rfl, trivial⟩, ?_⟩
  · show SV.int .i64 (max ((uw a).length : Int) ((uw b).length : Int)) = _
    rw [U_len, U_len]; congr 1; omega
  · exact rfl
theorem fs_Both : FS Try.prog 35 [U a, U b] (U (joinB a b)) := by
  refine fs_of_cvc mixed cd_flags_Both (by simp) ?_
  refine Or.inl ⟨rfl, _, fs_le (fs_of_fo (fo_both a.length a b ha hb hla hlb (by omega) _ _ fs_Both1) (frz_tab (tab_len _ _))) ⟨?_, rfl, rfl, rfl, trivial⟩, ?_⟩
  · show SV.int .i64 ((uw a).length : Int) = _
    rw [U_len]
  · exact rfl
theorem fs_Minus : FS Try.prog 37 [U a, U b] (U (joinM a b)) := by
  refine fs_of_cvc mixed cd_flags_Minus (by simp) ?_
  refine Or.inl ⟨rfl, _, fs_le (fs_of_fo (fo_both a.length a b ha hb hla hlb (by omega) _ _ fs_Minus1) (frz_tab (tab_len _ _))) ⟨?_, rfl, rfl, rfl, trivial⟩, ?_⟩
  · show SV.int .i64 ((uw a).length : Int) = _
    rw [U_len]
  · exact rfl
end

/-- All others, ahead of the last word's end; and all others of so many places. -/
def flip0 (a : List Nat) (n : Int) : List Nat := tab (wordsI n) fun i => 18446744073709551615 - a.getD i 0
def flipN (a : List Nat) (n : Int) : List Nat :=
  if 0 < n ∧ n < 4096 ∧ n % 64 ≠ 0 then (flip0 a n).set (wordsI n - 1) ((flip0 a n).getD (wordsI n - 1) 0 % 2 ^ (n % 64).toNat) else flip0 a n

def ir_flags_Flip : IR :=
(.seq
 (.reg (⟨(some 4), .mv (.c (.nils)), none⟩ ::
   []))
 (.seq
  (.reg (⟨(some 7), .mv (.t 1), none⟩ ::
    ⟨(some 8), .call (.c (.fn 47 [])) [(.t 7)], none⟩ ::
    ⟨(some 9), .mv (.t 0), none⟩ ::
    ⟨(some 10), .call (.c (.fn 56 [])) [(.t 8), (.t 9), (.c (.nils)), (.c (.fn 61 []))], none⟩ ::
    ⟨(some 5), .mv (.t 10), none⟩ ::
    []))
  (.seq
   (.seq
    (.reg (⟨(some 11), .mv (.t 1), none⟩ ::
      ⟨(some 12), .bin .and (.t 11) (.c (.int .i64 63)), none⟩ ::
      ⟨(some 6), .mv (.t 12), none⟩ ::
      []))
    (.seq
     (.reg (⟨(some 13), .mv (.t 6), none⟩ ::
       ⟨(some 14), .bin .neq (.t 13) (.c (.int .i64 0)), none⟩ ::
       ⟨(some 15), .mv (.t 14), none⟩ ::
       ⟨(some 16), .mv (.t 1), some (15, true)⟩ ::
       ⟨(some 17), .bin .gtr (.t 16) (.c (.int .i64 0)), some (15, true)⟩ ::
       ⟨(some 18), .pick (.t 15) (.t 17) (.c (.bool false)), none⟩ ::
       ⟨(some 19), .mv (.t 18), none⟩ ::
       ⟨(some 20), .mv (.t 1), some (19, true)⟩ ::
       ⟨(some 21), .bin .lss (.t 20) (.c (.int .i64 4096)), some (19, true)⟩ ::
       ⟨(some 22), .pick (.t 19) (.t 21) (.c (.bool false)), none⟩ ::
       []))
     (.cond (.t 22)
      (.reg (⟨(some 23), .mv (.t 5), none⟩ ::
        ⟨(some 24), .mv (.t 5), none⟩ ::
        ⟨(some 25), .ln (.t 24), none⟩ ::
        ⟨(some 26), .bin .sub (.t 25) (.c (.int .i64 1)), none⟩ ::
        ⟨(some 27), .ia 1 (.t 23) (.t 26), none⟩ ::
        ⟨(some 28), .ld 1 false (.t 27), none⟩ ::
        ⟨(some 29), .mv (.t 6), none⟩ ::
        ⟨(some 30), .cv .u64 (.t 29), none⟩ ::
        ⟨(some 31), .bin .shl (.c (.int .u64 1)) (.t 30), none⟩ ::
        ⟨(some 32), .bin .sub (.t 31) (.c (.int .u64 1)), none⟩ ::
        ⟨(some 33), .bin .and (.t 28) (.t 32), none⟩ ::
        ⟨(some 34), .ia 1 (.t 23) (.t 26), none⟩ ::
        ⟨none, .st 1 (.t 34) (.t 33), none⟩ ::
        []))
      .skip)))
   (.seq
    (.reg (⟨(some 35), .mv (.t 5), none⟩ ::
      ⟨(some 4), .mv (.t 35), none⟩ ::
      []))
    .ret))))
theorem cd_flags_Flip : Code1 Try.prog 39 36 ir_flags_Flip [.t 4] := ⟨Try.call39, _, _, Try.func39, rfl, by kernel_rfl, by kernel_rfl, by kernel_rfl, by kernel_rfl⟩

theorem fs_Flip (a : List Nat) (ha : Wd a) (hla : a.length ≤ 1000000) (n : Int) (h0 : -9223372036854775808 ≤ n) (h1 : n ≤ 9223372036854775807) : FS Try.prog 39 [U a, .int .i64 n] (U (flipN a n)) := by
  refine fs_of_cvc mixed cd_flags_Flip (by simp) ?_
  have hwl : wordsI n ≤ 64 := by unfold wordsI; omega
  refine Or.inl ⟨rfl, _, fs_words n h0 h1, ?_⟩
  refine Or.inr (Or.inl ⟨rfl, _, _, fo_le (fo_both (wordsI n) a [] ha (by intro x hx; simp at hx) hla (by simp) (by omega) _ _ fs_Flip1) ⟨rfl, rfl, rfl, rfl, trivial⟩, ?_⟩)
  have e63 := bAnd_63 n
  have hf0 : (tab (wordsI n) fun i => 18446744073709551615 - a.getD i 0) = flip0 a n := rfl
  have hlen : (flip0 a n).length = wordsI n := tab_len _ _
  have fin : ¬ (0 < n ∧ n < 4096 ∧ n % 64 ≠ 0) → SV.slc 1 (List.take (wordsI n) (List.drop 0 (uw (flip0 a n)))) = U (flipN a n) := fun h => by
    rw [frz_U hlen.symm, flipN, if_neg h]
  repeat' (conv => whnf); first
    | ((refine fun x hx => ?_); (obtain ⟨v, hv, rfl⟩ := U_get hx))
    | ((refine And.intro rfl (And.intro (by simp only [U_len, tab_len, List.length_set]; omega) ?_)))
    | (refine Br.tt ?_)
    | (refine Br.ff ?_)
    | (refine Br.dec (fun h => ?_) (fun h => ?_)) <;> try (exfalso; omega)
    | (refine Br.neg ?_)
    | (refine Br.mk (fun h => ?_) (fun h => ?_))
    | (refine And.intro rfl ?_)
    | (refine And.intro (by omega) ?_)
    | (refine ⟨_, Or.inl ⟨⟨by omega, by omega⟩, rfl⟩, ?_⟩)
    | (refine And.intro (by simp only [List.length_map, List.length_replicate, List.length_set, List.length_append, List.length_take, List.length_drop, List.length_cons, List.length_nil, U_len, tab_len]; first | done | omega) ?_)
    | (refine And.intro (Nat.le_refl _) ?_)
    | fail
  · have hw1 : 1 ≤ wordsI n := by unfold wordsI; omega
    have hb : (bAnd .i64 n 63).toNat < 64 := by omega
    have hp := pow_lt64 hb
    have e1 : (1 : Int) * 2 ^ (min (bAnd .i64 n 63).toNat IntKind.u64.bits) = ((2 ^ (bAnd .i64 n 63).toNat : Nat) : Int) := by
      rw [bits_u64, Nat.min_eq_left (by omega)]; simp
    have hpos : 0 < 2 ^ (bAnd .i64 n 63).toNat := Nat.pow_pos (by omega)
    repeat' (conv => whnf); first
      | ((refine fun x hx => ?_); (obtain ⟨v, hv, rfl⟩ := U_get hx))
      | ((refine And.intro rfl (And.intro (by simp only [U_len, tab_len, List.length_set]; omega) ?_)))
      | (refine Br.tt ?_)
      | (refine Br.ff ?_)
      | (refine Br.dec (fun h => ?_) (fun h => ?_)) <;> try (exfalso; omega)
      | (refine Br.neg ?_)
      | (refine Br.mk (fun h => ?_) (fun h => ?_))
      | (refine And.intro rfl ?_)
      | (refine And.intro (by omega) ?_)
      | (refine ⟨_, Or.inl ⟨⟨by omega, by omega⟩, rfl⟩, ?_⟩)
      | (refine And.intro (by simp only [List.length_map, List.length_replicate, List.length_set, List.length_append, List.length_take, List.length_drop, List.length_cons, List.length_nil, U_len, tab_len]; first | done | omega) ?_)
      | (refine And.intro (Nat.le_refl _) ?_)
      | fail
    refine ⟨_, uw_at (by simp only [tab_len]; omega), ?_⟩
    repeat' (conv => whnf); first
      | ((refine fun x hx => ?_); (obtain ⟨v, hv, rfl⟩ := U_get hx))
      | ((refine And.intro rfl (And.intro (by simp only [U_len, tab_len, List.length_set]; omega) ?_)))
      | (refine Br.tt ?_)
      | (refine Br.ff ?_)
      | (refine Br.dec (fun h => ?_) (fun h => ?_)) <;> try (exfalso; omega)
      | (refine Br.neg ?_)
      | (refine Br.mk (fun h => ?_) (fun h => ?_))
      | (refine And.intro rfl ?_)
      | (refine And.intro (by omega) ?_)
      | (refine ⟨_, Or.inl ⟨⟨by omega, by omega⟩, rfl⟩, ?_⟩)
      | (refine And.intro (by simp only [List.length_map, List.length_replicate, List.length_set, List.length_append, List.length_take, List.length_drop, List.length_cons, List.length_nil, U_len, tab_len]; first | done | omega) ?_)
      | (refine And.intro (Nat.le_refl _) ?_)
      | fail
    refine ⟨_, uw_at (by simp only [tab_len]; omega), ?_⟩
    repeat' (conv => whnf); first
      | ((refine fun x hx => ?_); (obtain ⟨v, hv, rfl⟩ := U_get hx))
      | ((refine And.intro rfl (And.intro (by simp only [U_len, tab_len, List.length_set]; omega) ?_)))
      | (refine Br.tt ?_)
      | (refine Br.ff ?_)
      | (refine Br.dec (fun h => ?_) (fun h => ?_)) <;> try (exfalso; omega)
      | (refine Br.neg ?_)
      | (refine Br.mk (fun h => ?_) (fun h => ?_))
      | (refine And.intro rfl ?_)
      | (refine And.intro (by omega) ?_)
      | (refine ⟨_, Or.inl ⟨⟨by omega, by omega⟩, rfl⟩, ?_⟩)
      | (refine And.intro (by simp only [List.length_map, List.length_replicate, List.length_set, List.length_append, List.length_take, List.length_drop, List.length_cons, List.length_nil, U_len, tab_len]; first | done | omega) ?_)
      | (refine And.intro (Nat.le_refl _) ?_)
      | fail
    have hi : 0 + ((wordsI n : Int) - 1).toNat = wordsI n - 1 := by omega
    have hlast : (flip0 a n).getD (wordsI n - 1) 0 < 18446744073709551616 := by
      rw [flip0, List.getD_eq_getElem?_getD, tab_get _ (by omega)]; simp; omega
    show SV.slc 1 (List.take (wordsI n) (List.drop 0 ((uw (flip0 a n)).set (0 + ((wordsI n : Int) - 1).toNat) [SV.int .u64 (bAnd .u64 (((flip0 a n).getD (0 + ((wordsI n : Int) - 1).toNat) 0 : Nat) : Int) (1 * 2 ^ (min (bAnd .i64 n 63).toNat IntKind.u64.bits) - 1))]))) = _
    rw [hi, e1, show (((2 ^ (bAnd .i64 n 63).toNat : Nat) : Int) - 1) = ((2 ^ (bAnd .i64 n 63).toNat - 1 : Nat) : Int) by omega, bAnd_u64 hlast (by omega), and_mask, uw_set, frz_U (by simp [hlen]), flipN, if_pos (by omega), e63]
    rfl
  · exact fin (by omega)
  · exact fin (by omega)
  · exact fin (by omega)

end Go.Proofs.Ytefciekodhpefaa
