/- The program draws its orders. Wide numbers: the program's functions. Rings: the program's functions. -/
import Derived.Test.YtahpfomabgfmkaaRows
import Derived.Test.YtahpfomabgfmkaaS5
namespace Go.Proofs.Ytahpfomabgfmkaa
section
open Go.RowKit

theorem mixed : Try.prog.follows .mixedOrders = true := by kernel_rfl
end
section
open Go.RowKit
attribute [local irreducible] FS FO IT HS

/-- A wide number. -/
def WN (x : Int) : SV := .agg [.int .i64 (hi x), .int .u64 (lo x)]

theorem w64 (x : Int) : IntKind.i64.wrap x = wrap64 x := by rw [wrap_i64]; unfold wrap64; split <;> omega
theorem wn_eq {a b x : Int} (h1 : a = hi x) (h2 : b = lo x) : SV.agg [.int .i64 a, .int .u64 b] = WN x := by rw [h1, h2]; rfl

def ir_wide_Of : IR :=
(.seq (.reg (⟨(some 2), .al [.int .i64 0, .int .u64 0], none⟩ :: [])) (.seq (.reg (⟨(some 3), .mv (.t 0), none⟩ ::⟨(some 4), .bin .shr (.t 3) (.c (.int .u64 63)), none⟩ ::⟨(some 5), .mv (.t 0), none⟩ ::⟨(some 6), .cv .u64 (.t 5), none⟩ ::⟨(some 7), .bld [.int .i64 0, .int .u64 0] [(0, 1, (.t 4)), (1, 1, (.t 6))], none⟩ ::⟨none, .st 2 (.t 2) (.t 7), none⟩ :: [])) .ret))
theorem cd_wide_Of : Code1 Try.prog 103 8 ir_wide_Of [.c 2 true 2] := ⟨Try.call103, _, _, Try.func103, rfl, by kernel_rfl, by kernel_rfl, by kernel_rfl, by kernel_rfl⟩

theorem fs_wOf (n : Int) (h : I64 n) : FS Try.prog 103 [.int .i64 n] (WN n) := by
  refine fs_of_cvc mixed cd_wide_Of (by simp) ?_
  repeat' (conv => whnf); first
    | ((refine ⟨_, Or.inr rfl, ?_⟩))
    | ((refine Br.beq (by rfl) ?_))
    | ((refine Br.bne (by rfl) ?_))
    | (refine Br.tt ?_)
    | (refine Br.ff ?_)
    | (refine Br.dec (fun h => ?_) (fun h => ?_)) <;> try (exfalso; omega)
    | (refine Br.neg ?_)
    | (refine Br.mk (fun h => ?_) (fun h => ?_))
    | (refine And.intro rfl ?_)
    | (refine And.intro (by omega) ?_)
    | (refine ⟨_, Or.inl ⟨⟨by omega, by omega⟩, rfl⟩, ?_⟩)
    | (refine And.intro (by simp only [lens_all]; first | done | omega) ?_)
    | (refine And.intro (Nat.le_refl _) ?_)
    | fail
  show SV.agg [SV.int .i64 _, SV.int .u64 _] = WN _
  refine wn_eq ?_ ?_
  · exact of_hi n h
  · exact of_lo n

def ir_wide_carry : IR :=
(.seq (.reg (⟨(some 2), .mv (.c (.int .u64 0)), none⟩ :: [])) (.seq (.seq (.reg (⟨(some 3), .mv (.t 0), none⟩ :: [])) (.cond (.t 3) (.seq (.reg (⟨(some 2), .mv (.c (.int .u64 1)), none⟩ :: [])) .ret) .skip)) (.seq (.reg (⟨(some 2), .mv (.c (.int .u64 0)), none⟩ :: [])) .ret)))
theorem cd_wide_carry : Code1 Try.prog 144 4 ir_wide_carry [.t 2] := ⟨Try.call144, _, _, Try.func144, rfl, by kernel_rfl, by kernel_rfl, by kernel_rfl, by kernel_rfl⟩

theorem fs_carry (b : Bool) : FS Try.prog 144 [.bool b] (.int .u64 (cy b)) := by
  refine fs_of_cvc mixed cd_wide_carry (by simp) ?_
  repeat' (conv => whnf); first
    | ((refine Br.beq (by rfl) ?_))
    | ((refine Br.bne (by rfl) ?_))
    | (refine Br.tt ?_)
    | (refine Br.ff ?_)
    | (refine Br.dec (fun h => ?_) (fun h => ?_)) <;> try (exfalso; omega)
    | (refine Br.neg ?_)
    | (refine Br.mk (fun h => ?_) (fun h => ?_))
    | (refine And.intro rfl ?_)
    | (refine And.intro (by omega) ?_)
    | (refine ⟨_, Or.inl ⟨⟨by omega, by omega⟩, rfl⟩, ?_⟩)
    | (refine And.intro (by simp only [lens_all]; first | done | omega) ?_)
    | (refine And.intro (Nat.le_refl _) ?_)
    | fail
  · subst h; exact rfl
  · subst h; exact rfl

def ir_wide_Add : IR :=
(.seq (.reg (⟨(some 2), .bx (.t 0), none⟩ ::⟨(some 3), .bx (.t 1), none⟩ ::⟨(some 4), .al [.int .i64 0, .int .u64 0], none⟩ :: [])) (.seq (.reg (⟨(some 6), .fa 1 (.t 2), none⟩ ::⟨(some 7), .ld 1 false (.t 6), none⟩ ::⟨(some 8), .fa 1 (.t 3), none⟩ ::⟨(some 9), .ld 1 false (.t 8), none⟩ ::⟨(some 10), .bin .add (.t 7) (.t 9), none⟩ ::⟨(some 5), .mv (.t 10), none⟩ :: [])) (.seq (.draw (⟨(some 11), .fa 0 (.t 2), none⟩ ::⟨(some 12), .ld 1 false (.t 11), none⟩ ::⟨(some 13), .cv .u64 (.t 12), none⟩ ::⟨(some 14), .fa 0 (.t 3), none⟩ ::⟨(some 15), .ld 1 false (.t 14), none⟩ ::⟨(some 16), .cv .u64 (.t 15), none⟩ ::⟨(some 17), .bin .add (.t 13) (.t 16), none⟩ ::⟨(some 18), .mv (.t 5), none⟩ ::⟨(some 19), .fa 1 (.t 3), none⟩ ::⟨(some 20), .ld 1 false (.t 19), none⟩ ::⟨(some 21), .bin .lss (.t 18) (.t 20), none⟩ ::⟨(some 22), .call (.c (.fn 144 [])) [(.t 21)], none⟩ ::⟨(some 23), .bin .add (.t 17) (.t 22), none⟩ ::⟨(some 24), .cv .i64 (.t 23), none⟩ ::⟨(some 25), .mv (.t 5), none⟩ :: []) (⟨(some 26), .bld [.int .i64 0, .int .u64 0] [(0, 1, (.t 24)), (1, 1, (.t 25))], none⟩ ::⟨none, .st 2 (.t 4) (.t 26), none⟩ :: [])) .ret)))
theorem cd_wide_Add : Code1 Try.prog 131 27 ir_wide_Add [.c 2 true 4] := ⟨Try.call131, _, _, Try.func131, rfl, by kernel_rfl, by kernel_rfl, by kernel_rfl, by kernel_rfl⟩

theorem fs_wAdd (x y : Int) : FS Try.prog 131 [WN x, WN y] (WN (x + y)) := by
  refine fs_of_cvc mixed cd_wide_Add (by simp) ?_
  repeat' (conv => whnf); first
    | ((refine ⟨_, Or.inr rfl, ?_⟩))
    | ((refine Or.inl ⟨by rfl, _, fs_carry _, ?_⟩))
    | ((refine Br.beq (by rfl) ?_))
    | ((refine Br.bne (by rfl) ?_))
    | (refine Br.tt ?_)
    | (refine Br.ff ?_)
    | (refine Br.dec (fun h => ?_) (fun h => ?_)) <;> try (exfalso; omega)
    | (refine Br.neg ?_)
    | (refine Br.mk (fun h => ?_) (fun h => ?_))
    | (refine And.intro rfl ?_)
    | (refine And.intro (by omega) ?_)
    | (refine ⟨_, Or.inl ⟨⟨by omega, by omega⟩, rfl⟩, ?_⟩)
    | (refine And.intro (by simp only [lens_all]; first | done | omega) ?_)
    | (refine And.intro (Nat.le_refl _) ?_)
    | fail
  show SV.agg [SV.int .i64 _, SV.int .u64 _] = WN _
  refine wn_eq ?_ ?_
  · have := add_hi x y
    rw [← add_lo] at this
    rw [w64]; exact this
  · exact add_lo x y

/-- Which one is less. -/
def ir_cmp_isNaN_int64 : IR :=
(.seq
 (.reg (⟨(some 2), .mv (.c (.bool false)), none⟩ ::
   []))
 (.seq
  (.reg (⟨(some 3), .mv (.t 0), none⟩ ::
    ⟨(some 4), .mv (.t 0), none⟩ ::
    ⟨(some 5), .bin .neq (.t 3) (.t 4), none⟩ ::
    ⟨(some 2), .mv (.t 5), none⟩ ::
    []))
  .ret))
theorem cd_cmp_isNaN_int64 : Code1 Try.prog 167 6 ir_cmp_isNaN_int64 [.t 2] := ⟨Try.call167, _, _, Try.func167, rfl, by kernel_rfl, by kernel_rfl, by kernel_rfl, by kernel_rfl⟩

def ir_cmp_isNaN_uint64 : IR :=
(.seq (.reg (⟨(some 2), .mv (.c (.bool false)), none⟩ :: [])) (.seq (.reg (⟨(some 3), .mv (.t 0), none⟩ ::⟨(some 4), .mv (.t 0), none⟩ ::⟨(some 5), .bin .neq (.t 3) (.t 4), none⟩ ::⟨(some 2), .mv (.t 5), none⟩ :: [])) .ret))
theorem cd_cmp_isNaN_uint64 : Code1 Try.prog 168 6 ir_cmp_isNaN_uint64 [.t 2] := ⟨Try.call168, _, _, Try.func168, rfl, by kernel_rfl, by kernel_rfl, by kernel_rfl, by kernel_rfl⟩

def ir_cmp_Compare_int64 : IR :=
(.seq (.reg (⟨(some 4), .mv (.c (.int .i64 0)), none⟩ :: [])) (.seq (.reg (⟨(some 7), .mv (.t 0), none⟩ ::⟨(some 8), .call (.c (.fn 167 [])) [(.t 7)], none⟩ ::⟨(some 5), .mv (.t 8), none⟩ :: [])) (.seq (.reg (⟨(some 9), .mv (.t 1), none⟩ ::⟨(some 10), .call (.c (.fn 167 [])) [(.t 9)], none⟩ ::⟨(some 6), .mv (.t 10), none⟩ :: [])) (.seq (.seq (.reg (⟨(some 11), .mv (.t 5), none⟩ :: [])) (.cond (.t 11) (.seq (.seq (.reg (⟨(some 12), .mv (.t 6), none⟩ :: [])) (.cond (.t 12) (.seq (.reg (⟨(some 4), .mv (.c (.int .i64 0)), none⟩ :: [])) .ret) .skip)) (.seq (.reg (⟨(some 4), .mv (.c (.int .i64 (-1))), none⟩ :: [])) .ret)) .skip)) (.seq (.seq (.reg (⟨(some 13), .mv (.t 6), none⟩ :: [])) (.cond (.t 13) (.seq (.reg (⟨(some 4), .mv (.c (.int .i64 1)), none⟩ :: [])) .ret) .skip)) (.seq (.seq (.reg (⟨(some 14), .mv (.t 0), none⟩ ::⟨(some 15), .mv (.t 1), none⟩ ::⟨(some 16), .bin .lss (.t 14) (.t 15), none⟩ :: [])) (.cond (.t 16) (.seq (.reg (⟨(some 4), .mv (.c (.int .i64 (-1))), none⟩ :: [])) .ret) .skip)) (.seq (.seq (.reg (⟨(some 17), .mv (.t 0), none⟩ ::⟨(some 18), .mv (.t 1), none⟩ ::⟨(some 19), .bin .gtr (.t 17) (.t 18), none⟩ :: [])) (.cond (.t 19) (.seq (.reg (⟨(some 4), .mv (.c (.int .i64 1)), none⟩ :: [])) .ret) .skip)) (.seq (.reg (⟨(some 4), .mv (.c (.int .i64 0)), none⟩ :: [])) .ret))))))))
theorem cd_cmp_Compare_int64 : Code1 Try.prog 154 20 ir_cmp_Compare_int64 [.t 4] := ⟨Try.call154, _, _, Try.func154, rfl, by kernel_rfl, by kernel_rfl, by kernel_rfl, by kernel_rfl⟩

def ir_cmp_Compare_uint64 : IR :=
(.seq (.reg (⟨(some 4), .mv (.c (.int .i64 0)), none⟩ :: [])) (.seq (.reg (⟨(some 7), .mv (.t 0), none⟩ ::⟨(some 8), .call (.c (.fn 168 [])) [(.t 7)], none⟩ ::⟨(some 5), .mv (.t 8), none⟩ :: [])) (.seq (.reg (⟨(some 9), .mv (.t 1), none⟩ ::⟨(some 10), .call (.c (.fn 168 [])) [(.t 9)], none⟩ ::⟨(some 6), .mv (.t 10), none⟩ :: [])) (.seq (.seq (.reg (⟨(some 11), .mv (.t 5), none⟩ :: [])) (.cond (.t 11) (.seq (.seq (.reg (⟨(some 12), .mv (.t 6), none⟩ :: [])) (.cond (.t 12) (.seq (.reg (⟨(some 4), .mv (.c (.int .i64 0)), none⟩ :: [])) .ret) .skip)) (.seq (.reg (⟨(some 4), .mv (.c (.int .i64 (-1))), none⟩ :: [])) .ret)) .skip)) (.seq (.seq (.reg (⟨(some 13), .mv (.t 6), none⟩ :: [])) (.cond (.t 13) (.seq (.reg (⟨(some 4), .mv (.c (.int .i64 1)), none⟩ :: [])) .ret) .skip)) (.seq (.seq (.reg (⟨(some 14), .mv (.t 0), none⟩ ::⟨(some 15), .mv (.t 1), none⟩ ::⟨(some 16), .bin .lss (.t 14) (.t 15), none⟩ :: [])) (.cond (.t 16) (.seq (.reg (⟨(some 4), .mv (.c (.int .i64 (-1))), none⟩ :: [])) .ret) .skip)) (.seq (.seq (.reg (⟨(some 17), .mv (.t 0), none⟩ ::⟨(some 18), .mv (.t 1), none⟩ ::⟨(some 19), .bin .gtr (.t 17) (.t 18), none⟩ :: [])) (.cond (.t 19) (.seq (.reg (⟨(some 4), .mv (.c (.int .i64 1)), none⟩ :: [])) .ret) .skip)) (.seq (.reg (⟨(some 4), .mv (.c (.int .i64 0)), none⟩ :: [])) .ret))))))))
theorem cd_cmp_Compare_uint64 : Code1 Try.prog 155 20 ir_cmp_Compare_uint64 [.t 4] := ⟨Try.call155, _, _, Try.func155, rfl, by kernel_rfl, by kernel_rfl, by kernel_rfl, by kernel_rfl⟩

def ir_cmp_Or_int : IR :=
(.seq (.reg (⟨(some 2), .mv (.c (.int .i64 0)), none⟩ :: [])) (.seq (.reg (⟨(some 3), .mv (.c (.int .i64 0)), none⟩ :: [])) (.seq (.seq (.reg (⟨(some 6), .mv (.t 0), none⟩ ::⟨(some 7), .ln (.t 6), none⟩ ::⟨(some 8), .mv (.c (.int .i64 0)), none⟩ :: [])) (.block 0 (.loop (.seq (.reg (⟨(some 9), .bin .lss (.t 8) (.t 7), none⟩ :: [])) (.seq (.cond (.t 9) .skip (.exit 0)) (.seq (.block 1 (.seq (.reg (⟨(some 10), .ia 1 (.t 6) (.t 8), none⟩ ::⟨(some 11), .ld 1 false (.t 10), none⟩ ::⟨(some 5), .mv (.t 11), none⟩ :: [])) (.seq (.reg (⟨(some 12), .mv (.t 5), none⟩ ::⟨(some 13), .mv (.t 3), none⟩ ::⟨(some 14), .bin .neq (.t 12) (.t 13), none⟩ :: [])) (.cond (.t 14) (.seq (.reg (⟨(some 15), .mv (.t 5), none⟩ ::⟨(some 2), .mv (.t 15), none⟩ :: [])) .ret) .skip)))) (.reg (⟨(some 16), .bin .add (.t 8) (.c (.int .i64 1)), none⟩ ::⟨(some 8), .mv (.t 16), none⟩ :: [])))))))) (.seq (.reg (⟨(some 17), .mv (.t 3), none⟩ ::⟨(some 2), .mv (.t 17), none⟩ :: [])) .ret))))
theorem cd_cmp_Or_int : Code1 Try.prog 153 18 ir_cmp_Or_int [.t 2] := ⟨Try.call153, _, _, Try.func153, rfl, by kernel_rfl, by kernel_rfl, by kernel_rfl, by kernel_rfl⟩

theorem fs_nan_i (a : Int) : FS Try.prog 167 [.int .i64 a] (.bool false) := by
  refine fs_of_cvc mixed cd_cmp_isNaN_int64 (by simp) ?_
  repeat' (conv => whnf); first
    | ((refine Br.beq (by rfl) ?_))
    | ((refine Br.bne (by rfl) ?_))
    | (refine Br.tt ?_)
    | (refine Br.ff ?_)
    | (refine Br.dec (fun h => ?_) (fun h => ?_)) <;> try (exfalso; omega)
    | (refine Br.neg ?_)
    | (refine Br.mk (fun h => ?_) (fun h => ?_))
    | (refine And.intro rfl ?_)
    | (refine And.intro (by omega) ?_)
    | (refine ⟨_, Or.inl ⟨⟨by omega, by omega⟩, rfl⟩, ?_⟩)
    | (refine And.intro (by simp only [lens_all]; first | done | omega) ?_)
    | (refine And.intro (Nat.le_refl _) ?_)
    | fail
  show SV.bool (decide (a ≠ a)) = _
  simp
theorem fs_nan_u (a : Int) : FS Try.prog 168 [.int .u64 a] (.bool false) := by
  refine fs_of_cvc mixed cd_cmp_isNaN_uint64 (by simp) ?_
  repeat' (conv => whnf); first
    | ((refine Br.beq (by rfl) ?_))
    | ((refine Br.bne (by rfl) ?_))
    | (refine Br.tt ?_)
    | (refine Br.ff ?_)
    | (refine Br.dec (fun h => ?_) (fun h => ?_)) <;> try (exfalso; omega)
    | (refine Br.neg ?_)
    | (refine Br.mk (fun h => ?_) (fun h => ?_))
    | (refine And.intro rfl ?_)
    | (refine And.intro (by omega) ?_)
    | (refine ⟨_, Or.inl ⟨⟨by omega, by omega⟩, rfl⟩, ?_⟩)
    | (refine And.intro (by simp only [lens_all]; first | done | omega) ?_)
    | (refine And.intro (Nat.le_refl _) ?_)
    | fail
  show SV.bool (decide (a ≠ a)) = _
  simp
theorem fs_cmp_i (a b : Int) : FS Try.prog 154 [.int .i64 a, .int .i64 b] (.int .i64 (sgn3 a b)) := by
  refine fs_of_cvc mixed cd_cmp_Compare_int64 (by simp) ?_
  repeat' (conv => whnf); first
    | ((refine Or.inl ⟨by rfl, _, fs_nan_i _, ?_⟩))
    | ((refine Br.beq (by rfl) ?_))
    | ((refine Br.bne (by rfl) ?_))
    | (refine Br.tt ?_)
    | (refine Br.ff ?_)
    | (refine Br.dec (fun h => ?_) (fun h => ?_)) <;> try (exfalso; omega)
    | (refine Br.neg ?_)
    | (refine Br.mk (fun h => ?_) (fun h => ?_))
    | (refine And.intro rfl ?_)
    | (refine And.intro (by omega) ?_)
    | (refine ⟨_, Or.inl ⟨⟨by omega, by omega⟩, rfl⟩, ?_⟩)
    | (refine And.intro (by simp only [lens_all]; first | done | omega) ?_)
    | (refine And.intro (Nat.le_refl _) ?_)
    | fail
  all_goals (show SV.int .i64 _ = SV.int .i64 _; congr 1; unfold sgn3; simp [*])
theorem fs_cmp_u (a b : Int) : FS Try.prog 155 [.int .u64 a, .int .u64 b] (.int .i64 (sgn3 a b)) := by
  refine fs_of_cvc mixed cd_cmp_Compare_uint64 (by simp) ?_
  repeat' (conv => whnf); first
    | ((refine Or.inl ⟨by rfl, _, fs_nan_u _, ?_⟩))
    | ((refine Br.beq (by rfl) ?_))
    | ((refine Br.bne (by rfl) ?_))
    | (refine Br.tt ?_)
    | (refine Br.ff ?_)
    | (refine Br.dec (fun h => ?_) (fun h => ?_)) <;> try (exfalso; omega)
    | (refine Br.neg ?_)
    | (refine Br.mk (fun h => ?_) (fun h => ?_))
    | (refine And.intro rfl ?_)
    | (refine And.intro (by omega) ?_)
    | (refine ⟨_, Or.inl ⟨⟨by omega, by omega⟩, rfl⟩, ?_⟩)
    | (refine And.intro (by simp only [lens_all]; first | done | omega) ?_)
    | (refine And.intro (Nat.le_refl _) ?_)
    | fail
  all_goals (show SV.int .i64 _ = SV.int .i64 _; congr 1; unfold sgn3; simp [*])
theorem fs_or2 (p q : Int) : FS Try.prog 153 [.slc 1 [[.int .i64 p], [.int .i64 q]]] (.int .i64 (or2 p q)) := by
  refine fs_of_cvc mixed cd_cmp_Or_int (by simp) ?_
  repeat' (conv => whnf); first
    | ((refine Br.beq (by rfl) ?_))
    | ((refine Br.bne (by rfl) ?_))
    | (refine Br.tt ?_)
    | (refine Br.ff ?_)
    | (refine Br.dec (fun h => ?_) (fun h => ?_)) <;> try (exfalso; omega)
    | (refine Br.neg ?_)
    | (refine Br.mk (fun h => ?_) (fun h => ?_))
    | (refine And.intro rfl ?_)
    | (refine And.intro (by omega) ?_)
    | (refine ⟨_, Or.inl ⟨⟨by omega, by omega⟩, rfl⟩, ?_⟩)
    | (refine And.intro (by simp only [lens_all]; first | done | omega) ?_)
    | (refine And.intro (Nat.le_refl _) ?_)
    | fail
  refine ⟨Nat, fun k => k ≤ 2 ∧ (1 ≤ k → p = 0) ∧ (2 ≤ k → q = 0), fun k => [(3, .int .i64 0), (6, .slc 1 [[.int .i64 p], [.int .i64 q]]), (7, .int .i64 2), (8, .int .i64 (k : Int))], fun k => [], fun _ => none, fun k => 2 - k, ⟨0, ⟨by omega, by omega, by omega⟩, ⟨rfl, rfl, rfl, rfl, trivial⟩, trivial, rfl⟩, fun k hk => ?_⟩
  obtain ⟨h1, h2, h3⟩ := hk
  repeat' (conv => whnf); first
    | ((refine Br.beq (by rfl) ?_))
    | ((refine Br.bne (by rfl) ?_))
    | (refine Br.tt ?_)
    | (refine Br.ff ?_)
    | (refine Br.dec (fun h => ?_) (fun h => ?_)) <;> try (exfalso; omega)
    | (refine Br.neg ?_)
    | (refine Br.mk (fun h => ?_) (fun h => ?_))
    | (refine And.intro rfl ?_)
    | (refine And.intro (by omega) ?_)
    | (refine ⟨_, Or.inl ⟨⟨by omega, by omega⟩, rfl⟩, ?_⟩)
    | (refine And.intro (by simp only [lens_all]; first | done | omega) ?_)
    | (refine And.intro (Nat.le_refl _) ?_)
    | fail
  · rcases (show k = 0 ∨ k = 1 by omega) with rfl | rfl
    · intro x hx
      obtain rfl : x = [.int .i64 p] := by simpa using hx.symm
      repeat' (conv => whnf); first
        | ((refine Br.beq (by rfl) ?_))
        | ((refine Br.bne (by rfl) ?_))
        | (refine Br.tt ?_)
        | (refine Br.ff ?_)
        | (refine Br.dec (fun h => ?_) (fun h => ?_)) <;> try (exfalso; omega)
        | (refine Br.neg ?_)
        | (refine Br.mk (fun h => ?_) (fun h => ?_))
        | (refine And.intro rfl ?_)
        | (refine And.intro (by omega) ?_)
        | (refine ⟨_, Or.inl ⟨⟨by omega, by omega⟩, rfl⟩, ?_⟩)
        | (refine And.intro (by simp only [lens_all]; first | done | omega) ?_)
        | (refine And.intro (Nat.le_refl _) ?_)
        | fail
      · show SV.int .i64 p = _
        rw [or2, if_neg h]
      · exact ⟨1, ⟨by omega, fun _ => by omega, by omega⟩, (show 2 - 1 < 2 - 0 by omega), ⟨rfl, rfl, rfl, rfl, trivial⟩, trivial, rfl⟩
    · intro x hx
      obtain rfl : x = [.int .i64 q] := by simpa using hx.symm
      repeat' (conv => whnf); first
        | ((refine Br.beq (by rfl) ?_))
        | ((refine Br.bne (by rfl) ?_))
        | (refine Br.tt ?_)
        | (refine Br.ff ?_)
        | (refine Br.dec (fun h => ?_) (fun h => ?_)) <;> try (exfalso; omega)
        | (refine Br.neg ?_)
        | (refine Br.mk (fun h => ?_) (fun h => ?_))
        | (refine And.intro rfl ?_)
        | (refine And.intro (by omega) ?_)
        | (refine ⟨_, Or.inl ⟨⟨by omega, by omega⟩, rfl⟩, ?_⟩)
        | (refine And.intro (by simp only [lens_all]; first | done | omega) ?_)
        | (refine And.intro (Nat.le_refl _) ?_)
        | fail
      · show SV.int .i64 q = _
        rw [or2, if_pos (h2 (by omega))]
      · exact ⟨2, ⟨by omega, fun _ => h2 (by omega), fun _ => by omega⟩, (show 2 - 2 < 2 - 1 by omega), ⟨rfl, rfl, rfl, rfl, trivial⟩, trivial, rfl⟩
  · show SV.int .i64 0 = _
    rw [or2, if_pos (h2 (by omega)), h3 (by omega)]

def ir_wide_Compare : IR :=
(.seq (.reg (⟨(some 2), .bx (.t 0), none⟩ ::⟨(some 3), .bx (.t 1), none⟩ ::⟨(some 4), .mv (.c (.int .i64 0)), none⟩ :: [])) (.seq (.draw (⟨(some 5), .fa 0 (.t 2), none⟩ ::⟨(some 6), .ld 1 false (.t 5), none⟩ ::⟨(some 7), .fa 0 (.t 3), none⟩ ::⟨(some 8), .ld 1 false (.t 7), none⟩ ::⟨(some 9), .call (.c (.fn 154 [])) [(.t 6), (.t 8)], none⟩ ::⟨(some 10), .fa 1 (.t 2), none⟩ ::⟨(some 11), .ld 1 false (.t 10), none⟩ ::⟨(some 12), .fa 1 (.t 3), none⟩ ::⟨(some 13), .ld 1 false (.t 12), none⟩ :: []) (⟨(some 14), .call (.c (.fn 155 [])) [(.t 11), (.t 13)], none⟩ ::⟨(some 15), .bsl 2 1 [.int .i64 0] [(0, (.t 9)), (1, (.t 14))], none⟩ ::⟨(some 16), .call (.c (.fn 153 [])) [(.t 15)], none⟩ ::⟨(some 4), .mv (.t 16), none⟩ :: [])) .ret))
theorem cd_wide_Compare : Code1 Try.prog 143 17 ir_wide_Compare [.t 4] := ⟨Try.call143, _, _, Try.func143, rfl, by kernel_rfl, by kernel_rfl, by kernel_rfl, by kernel_rfl⟩

theorem fs_wCompare (x y : Int) (hx : W128 x) (hy : W128 y) : FS Try.prog 143 [WN x, WN y] (.int .i64 (sgn3 x y)) := by
  refine fs_of_cvc mixed cd_wide_Compare (by simp) ?_
  have c := fs_or2 (sgn3 (hi x) (hi y)) (sgn3 (lo x) (lo y))
  rw [sgn_halves x y hx hy] at c
  repeat' (conv => whnf); first
    | ((refine Or.inl ⟨by rfl, _, fs_cmp_i _ _, ?_⟩))
    | ((refine Or.inl ⟨by rfl, _, fs_cmp_u _ _, ?_⟩))
    | ((refine Or.inl ⟨by rfl, _, c, ?_⟩))
    | ((refine Br.beq (by rfl) ?_))
    | ((refine Br.bne (by rfl) ?_))
    | (refine Br.tt ?_)
    | (refine Br.ff ?_)
    | (refine Br.dec (fun h => ?_) (fun h => ?_)) <;> try (exfalso; omega)
    | (refine Br.neg ?_)
    | (refine Br.mk (fun h => ?_) (fun h => ?_))
    | (refine And.intro rfl ?_)
    | (refine And.intro (by omega) ?_)
    | (refine ⟨_, Or.inl ⟨⟨by omega, by omega⟩, rfl⟩, ?_⟩)
    | (refine And.intro (by simp only [lens_all]; first | done | omega) ?_)
    | (refine And.intro (Nat.le_refl _) ?_)
    | fail
  exact rfl
end
section
open Go.RowKit
attribute [local irreducible] FS FO IT HS

/-- The same number, modulo 2^128, that a wide one can be. -/
def norm (x : Int) : Int := hi x * 18446744073709551616 + lo x
theorem norm_w (x : Int) : W128 (norm x) := (halves_of _ _ (hi_bd x) (lo_bd x)).2.2
theorem WN_norm (x : Int) : WN (norm x) = WN x := by
  obtain ⟨h1, h2, _⟩ := halves_of _ _ (hi_bd x) (lo_bd x)
  unfold WN norm
  rw [h1, h2]
theorem W64i {n : Int} (h : I64 n) : W128 n := of_wide n h
theorem W0 : W128 0 := by unfold W128; omega
theorem W1 : W128 1 := by unfold W128; omega

theorem eqw (neg : Bool) {x y : Int} (hx : W128 x) (hy : W128 y) : EqOk Try.prog neg 107 [.int .i64 (hi x), .int .u64 (lo x)] [.int .i64 (hi y), .int .u64 (lo y)] (match neg with | true => decide (x ≠ y) | false => decide (x = y)) := by
  have h := eqok_flat (P := Try.prog) neg Try.underlying107 (by kernel_rfl) (by kernel_rfl) (ks := [.i64, .u64]) ⟨by decide, rfl, by kernel_rfl, by kernel_rfl, by kernel_rfl, by decide, rfl, by kernel_rfl, by kernel_rfl, by kernel_rfl, trivial⟩ (la := [hi x, lo x]) (lb := [hi y, lo y]) rfl rfl
  have e : ([hi x, lo x] = [hi y, lo y]) ↔ x = y := ⟨fun h => by
    simp only [List.cons.injEq, and_true] at h
    exact eq_of_halves hx hy h.1 h.2, fun h => by rw [h]⟩
  have e2 : ([hi x, lo x] ≠ [hi y, lo y]) ↔ x ≠ y := not_congr e
  cases neg
  · simp only [decide_eq_decide.2 e] at h; exact h
  · simp only [decide_eq_decide.2 e2] at h; exact h

def ir_wide_Narrow : IR :=
(.seq (.reg (⟨(some 1), .bx (.t 0), none⟩ ::⟨(some 2), .mv (.c (.int .i64 0)), none⟩ ::⟨(some 3), .mv (.c (.bool false)), none⟩ :: [])) (.seq (.reg (⟨(some 5), .fa 1 (.t 1), none⟩ ::⟨(some 6), .ld 1 false (.t 5), none⟩ ::⟨(some 7), .cv .i64 (.t 6), none⟩ ::⟨(some 4), .mv (.t 7), none⟩ :: [])) (.seq (.seq (.draw (⟨(some 8), .mv (.t 4), none⟩ ::⟨(some 9), .call (.c (.fn 103 [])) [(.t 8)], none⟩ ::⟨(some 10), .ld 2 true (.t 1), none⟩ :: []) (⟨(some 11), .eqv true 107 (.t 9) (.t 10), none⟩ :: [])) (.cond (.t 11) (.seq (.reg (⟨(some 2), .mv (.c (.int .i64 0)), none⟩ ::⟨(some 3), .mv (.c (.bool false)), none⟩ :: [])) .ret) .skip)) (.seq (.reg (⟨(some 12), .mv (.t 4), none⟩ ::⟨(some 2), .mv (.t 12), none⟩ ::⟨(some 3), .mv (.c (.bool true)), none⟩ :: [])) .ret))))
theorem cd_wide_Narrow : Code1 Try.prog 135 13 ir_wide_Narrow [.t 2, .t 3] := ⟨Try.call135, _, _, Try.func135, rfl, by kernel_rfl, by kernel_rfl, by kernel_rfl, by kernel_rfl⟩

theorem fs_wNarrow (x : Int) (hx : W128 x) : FS Try.prog 135 [WN x] (.tup [.int .i64 (nar x), .bool (fits x)]) := by
  refine fs_of_cvc mixed cd_wide_Narrow (by simp) ?_
  have hb := wrap64_bd (lo x)
  have he := eqw true (W64i hb) hx
  repeat' (conv => whnf); first
    | ((refine ⟨wrap64 (lo x), Or.inr (w64 _).symm, ?_⟩))
    | ((refine Or.inl ⟨by rfl, _, fs_wOf _ hb, ?_⟩))
    | ((refine ⟨_, he, ?_⟩))
    | ((refine Br.beq (by rfl) ?_))
    | ((refine Br.bne (by rfl) ?_))
    | (refine Br.tt ?_)
    | (refine Br.ff ?_)
    | (refine Br.dec (fun h => ?_) (fun h => ?_)) <;> try (exfalso; omega)
    | (refine Br.neg ?_)
    | (refine Br.mk (fun h => ?_) (fun h => ?_))
    | (refine And.intro rfl ?_)
    | (refine And.intro (by omega) ?_)
    | (refine ⟨_, Or.inl ⟨⟨by omega, by omega⟩, rfl⟩, ?_⟩)
    | (refine And.intro (by simp only [lens_all]; first | done | omega) ?_)
    | (refine And.intro (Nat.le_refl _) ?_)
    | fail
  · show SV.tup [.int .i64 0, .bool false] = _
    rw [low64] at h
    have hf : fits x = false := by
      rw [Bool.eq_false_iff]; intro hf
      obtain ⟨_, h2, h3⟩ := fits_yes x hx hf
      exact h (eq_of_halves (W64i (wrap64_bd x)) hx h2 h3)
    rw [hf, nar, hf]; rfl
  · show SV.tup [.int .i64 (wrap64 (lo x)), .bool true] = _
    rw [low64] at h ⊢
    have e : wrap64 x = x := Classical.not_not.1 h
    have hf : fits x = true := by
      cases hf : fits x with
      | true => rfl
      | false => exact absurd (by rw [e]) (fits_no x hx hf)
    obtain ⟨h1, _, _⟩ := fits_yes x hx hf
    rw [hf, h1]

/-! ### Rings -/
def lt3 (r : Int) : Bool := decide (r = 1) || (decide (r = 3) || decide (r = 4))
def isR (r : Int) : Bool := decide (0 < r) && decide (r < 6)
def tru (b : Bool) : Int := if b then 1 else 0
/-- Two sums put together. -/
def rAdd (r x y : Int) : Int := if lt3 r = true then (if x ≤ y then x else y) else if r = 2 then tru (decide (x ≠ 0) || decide (y ≠ 0)) else if r = 5 then norm (x + y) else 0
def ir_ring_Is : IR :=
(.seq (.reg (⟨(some 2), .mv (.c (.bool false)), none⟩ :: [])) (.seq (.reg (⟨(some 3), .mv (.t 0), none⟩ ::⟨(some 4), .bin .gtr (.t 3) (.c (.int .i64 0)), none⟩ ::⟨(some 5), .mv (.t 4), none⟩ ::⟨(some 6), .mv (.t 0), some (5, true)⟩ ::⟨(some 7), .bin .lss (.t 6) (.c (.int .i64 6)), some (5, true)⟩ ::⟨(some 8), .pick (.t 5) (.t 7) (.c (.bool false)), none⟩ ::⟨(some 2), .mv (.t 8), none⟩ :: [])) .ret))
theorem cd_ring_Is : Code1 Try.prog 100 9 ir_ring_Is [.t 2] := ⟨Try.call100, _, _, Try.func100, rfl, by kernel_rfl, by kernel_rfl, by kernel_rfl, by kernel_rfl⟩

theorem fs_Is (r : Int) : FS Try.prog 100 [.int .i64 r] (.bool (isR r)) := by
  refine fs_of_cvc mixed cd_ring_Is (by simp) ?_
  repeat' (conv => whnf); first
    | ((refine Br.beq (by rfl) ?_))
    | ((refine Br.bne (by rfl) ?_))
    | (refine Br.tt ?_)
    | (refine Br.ff ?_)
    | (refine Br.dec (fun h => ?_) (fun h => ?_)) <;> try (exfalso; omega)
    | (refine Br.neg ?_)
    | (refine Br.mk (fun h => ?_) (fun h => ?_))
    | (refine And.intro rfl ?_)
    | (refine And.intro (by omega) ?_)
    | (refine ⟨_, Or.inl ⟨⟨by omega, by omega⟩, rfl⟩, ?_⟩)
    | (refine And.intro (by simp only [lens_all]; first | done | omega) ?_)
    | (refine And.intro (Nat.le_refl _) ?_)
    | fail
  all_goals (show SV.bool _ = SV.bool _; unfold isR; simp [*])

def ir_ring_truth : IR :=
(.seq (.reg (⟨(some 2), .al [.int .i64 0, .int .u64 0], none⟩ :: [])) (.seq (.seq (.reg (⟨(some 3), .mv (.t 0), none⟩ :: [])) (.cond (.t 3) (.seq (.reg (⟨(some 4), .call (.c (.fn 103 [])) [(.c (.int .i64 1))], none⟩ ::⟨none, .st 2 (.t 2) (.t 4), none⟩ :: [])) .ret) .skip)) (.seq (.reg (⟨(some 5), .bld [.int .i64 0, .int .u64 0] [], none⟩ ::⟨none, .st 2 (.t 2) (.t 5), none⟩ :: [])) .ret)))
theorem cd_ring_truth : Code1 Try.prog 130 6 ir_ring_truth [.c 2 true 2] := ⟨Try.call130, _, _, Try.func130, rfl, by kernel_rfl, by kernel_rfl, by kernel_rfl, by kernel_rfl⟩

theorem fs_truth (b : Bool) : FS Try.prog 130 [.bool b] (WN (tru b)) := by
  refine fs_of_cvc mixed cd_ring_truth (by simp) ?_
  repeat' (conv => whnf); first
    | ((refine Or.inl ⟨by rfl, _, fs_wOf 1 (by unfold I64; omega), ?_⟩))
    | ((refine Br.beq (by rfl) ?_))
    | ((refine Br.bne (by rfl) ?_))
    | (refine Br.tt ?_)
    | (refine Br.ff ?_)
    | (refine Br.dec (fun h => ?_) (fun h => ?_)) <;> try (exfalso; omega)
    | (refine Br.neg ?_)
    | (refine Br.mk (fun h => ?_) (fun h => ?_))
    | (refine And.intro rfl ?_)
    | (refine And.intro (by omega) ?_)
    | (refine ⟨_, Or.inl ⟨⟨by omega, by omega⟩, rfl⟩, ?_⟩)
    | (refine And.intro (by simp only [lens_all]; first | done | omega) ?_)
    | (refine And.intro (Nat.le_refl _) ?_)
    | fail
  · subst h; exact rfl
  · subst h
    show SV.agg [.int .i64 0, .int .u64 0] = WN 0
    unfold WN; rw [zero_hi, zero_lo]

def ir_ring_lesser : IR :=
(.seq (.reg (⟨(some 2), .bx (.t 0), none⟩ ::⟨(some 3), .bx (.t 1), none⟩ ::⟨(some 4), .al [.int .i64 0, .int .u64 0], none⟩ :: [])) (.seq (.seq (.reg (⟨(some 5), .ld 2 true (.t 2), none⟩ ::⟨(some 6), .ld 2 true (.t 3), none⟩ ::⟨(some 7), .call (.c (.fn 143 [])) [(.t 5), (.t 6)], none⟩ ::⟨(some 8), .bin .leq (.t 7) (.c (.int .i64 0)), none⟩ :: [])) (.cond (.t 8) (.seq (.reg (⟨(some 9), .ld 2 true (.t 2), none⟩ ::⟨none, .st 2 (.t 4) (.t 9), none⟩ :: [])) .ret) .skip)) (.seq (.reg (⟨(some 10), .ld 2 true (.t 3), none⟩ ::⟨none, .st 2 (.t 4) (.t 10), none⟩ :: [])) .ret)))
theorem cd_ring_lesser : Code1 Try.prog 129 11 ir_ring_lesser [.c 2 true 4] := ⟨Try.call129, _, _, Try.func129, rfl, by kernel_rfl, by kernel_rfl, by kernel_rfl, by kernel_rfl⟩

theorem fs_lesser (x y : Int) (hx : W128 x) (hy : W128 y) : FS Try.prog 129 [WN x, WN y] (WN (if x ≤ y then x else y)) := by
  refine fs_of_cvc mixed cd_ring_lesser (by simp) ?_
  repeat' (conv => whnf); first
    | ((refine Or.inl ⟨by rfl, _, fs_wCompare x y hx hy, ?_⟩))
    | ((refine Br.beq (by rfl) ?_))
    | ((refine Br.bne (by rfl) ?_))
    | (refine Br.tt ?_)
    | (refine Br.ff ?_)
    | (refine Br.dec (fun h => ?_) (fun h => ?_)) <;> try (exfalso; omega)
    | (refine Br.neg ?_)
    | (refine Br.mk (fun h => ?_) (fun h => ?_))
    | (refine And.intro rfl ?_)
    | (refine And.intro (by omega) ?_)
    | (refine ⟨_, Or.inl ⟨⟨by omega, by omega⟩, rfl⟩, ?_⟩)
    | (refine And.intro (by simp only [lens_all]; first | done | omega) ?_)
    | (refine And.intro (Nat.le_refl _) ?_)
    | fail
  · show WN x = _
    rw [if_pos]; unfold sgn3 at h; split at h <;> (try split at h) <;> omega
  · show WN y = _
    rw [if_neg]; unfold sgn3 at h; split at h <;> (try split at h) <;> omega

theorem W_min {x y : Int} (hx : W128 x) (hy : W128 y) : W128 (if x ≤ y then x else y) := by split <;> assumption
theorem W_tru (b : Bool) : W128 (tru b) := by
  cases b
  · exact W0
  · exact W1
theorem rAdd_w {r x y : Int} (hx : W128 x) (hy : W128 y) : W128 (rAdd r x y) := by
  unfold rAdd
  split
  · exact W_min hx hy
  · split
    · exact W_tru _
    · split
      · exact norm_w _
      · exact W0

def ir_ring_Add : IR :=
(.seq (.reg (⟨(some 4), .bx (.t 1), none⟩ ::⟨(some 5), .bx (.t 2), none⟩ ::⟨(some 6), .al [.int .i64 0, .int .u64 0], none⟩ :: [])) (.seq (.seq (.reg (⟨(some 7), .mv (.t 0), none⟩ :: [])) (.block 0 (.seq (.seq (.reg (⟨(some 9), .bin .eql (.t 7) (.c (.int .i64 1)), none⟩ ::⟨(some 8), .mv (.t 9), none⟩ :: [])) (.cond (.t 8) .skip (.seq (.reg (⟨(some 10), .bin .eql (.t 7) (.c (.int .i64 3)), none⟩ ::⟨(some 8), .mv (.t 10), none⟩ :: [])) (.cond (.t 8) .skip (.reg (⟨(some 11), .bin .eql (.t 7) (.c (.int .i64 4)), none⟩ ::⟨(some 8), .mv (.t 11), none⟩ :: [])))))) (.cond (.t 8) (.seq (.reg (⟨(some 12), .ld 2 true (.t 4), none⟩ ::⟨(some 13), .ld 2 true (.t 5), none⟩ ::⟨(some 14), .call (.c (.fn 129 [])) [(.t 12), (.t 13)], none⟩ ::⟨none, .st 2 (.t 6) (.t 14), none⟩ :: [])) .ret) (.seq (.reg (⟨(some 16), .bin .eql (.t 7) (.c (.int .i64 2)), none⟩ ::⟨(some 15), .mv (.t 16), none⟩ :: [])) (.cond (.t 15) (.seq (.reg (⟨(some 17), .ld 2 true (.t 4), none⟩ ::⟨(some 18), .ld 2 true (.t 5), none⟩ ::⟨(some 19), .eqv true 107 (.t 17) (.t 18), none⟩ ::⟨(some 20), .mv (.t 19), none⟩ ::⟨(some 21), .ld 2 true (.t 4), some (20, false)⟩ ::⟨(some 22), .bld [.int .i64 0, .int .u64 0] [], some (20, false)⟩ ::⟨(some 23), .eqv true 107 (.t 21) (.t 22), some (20, false)⟩ ::⟨(some 24), .pick (.t 20) (.c (.bool true)) (.t 23), none⟩ ::⟨(some 25), .call (.c (.fn 130 [])) [(.t 24)], none⟩ ::⟨none, .st 2 (.t 6) (.t 25), none⟩ :: [])) .ret) (.seq (.reg (⟨(some 27), .bin .eql (.t 7) (.c (.int .i64 5)), none⟩ ::⟨(some 26), .mv (.t 27), none⟩ :: [])) (.cond (.t 26) (.seq (.reg (⟨(some 28), .ld 2 true (.t 4), none⟩ ::⟨(some 29), .ld 2 true (.t 5), none⟩ ::⟨(some 30), .call (.c (.fn 131 [])) [(.t 28), (.t 29)], none⟩ ::⟨none, .st 2 (.t 6) (.t 30), none⟩ :: [])) .ret) .skip)))))))) (.seq (.reg (⟨(some 31), .bld [.int .i64 0, .int .u64 0] [], none⟩ ::⟨none, .st 2 (.t 6) (.t 31), none⟩ :: [])) .ret)))
theorem cd_ring_Add : Code1 Try.prog 104 32 ir_ring_Add [.c 2 true 6] := ⟨Try.call104, _, _, Try.func104, rfl, by kernel_rfl, by kernel_rfl, by kernel_rfl, by kernel_rfl⟩

set_option maxHeartbeats 1000000 in
theorem fs_rAdd (r x y : Int) (hx : W128 x) (hy : W128 y) : FS Try.prog 104 [.int .i64 r, WN x, WN y] (WN (rAdd r x y)) := by
  refine fs_of_cvc mixed cd_ring_Add (by simp) ?_
  have e1 := eqw true hx hy
  have e2 : EqOk Try.prog true 107 [.int .i64 (hi x), .int .u64 (lo x)] [.int .i64 0, .int .u64 0] (decide (x ≠ 0)) := by
    have := eqw true hx W0
    rwa [zero_hi, zero_lo] at this
  have lt : lt3 r = true → rAdd r x y = if x ≤ y then x else y := fun h => if_pos h
  repeat' (conv => whnf); first
    | ((refine Or.inl ⟨by rfl, _, fs_lesser x y hx hy, ?_⟩))
    | ((refine ⟨_, e1, ?_⟩))
    | ((refine ⟨_, e2, ?_⟩))
    | ((refine Or.inl ⟨by rfl, _, fs_truth _, ?_⟩))
    | ((refine Or.inl ⟨by rfl, _, fs_wAdd x y, ?_⟩))
    | ((refine Br.beq (by rfl) ?_))
    | ((refine Br.bne (by rfl) ?_))
    | (refine Br.tt ?_)
    | (refine Br.ff ?_)
    | (refine Br.dec (fun h => ?_) (fun h => ?_)) <;> try (exfalso; omega)
    | (refine Br.neg ?_)
    | (refine Br.mk (fun h => ?_) (fun h => ?_))
    | (refine And.intro rfl ?_)
    | (refine And.intro (by omega) ?_)
    | (refine ⟨_, Or.inl ⟨⟨by omega, by omega⟩, rfl⟩, ?_⟩)
    | (refine And.intro (by simp only [lens_all]; first | done | omega) ?_)
    | (refine And.intro (Nat.le_refl _) ?_)
    | fail
  · show WN _ = WN _
    rw [lt (by simp [lt3, *])]
  · show WN _ = WN _
    rw [lt (by simp [lt3, *])]
  · show WN _ = WN _
    rw [lt (by simp [lt3, *])]
  · show WN (tru true) = WN _
    have e3 : (decide (x ≠ 0) || decide (y ≠ 0)) = true := by
      rw [Bool.or_eq_true, decide_eq_true_iff, decide_eq_true_iff]; omega
    rw [rAdd, if_neg (by simp [lt3, *]), if_pos (by assumption), e3]
  · show WN (tru (decide (x ≠ 0))) = WN _
    have e3 : (decide (x ≠ 0) || decide (y ≠ 0)) = decide (x ≠ 0) := by
      rw [show y = x from (Classical.not_not.1 h).symm, Bool.or_self]
    rw [rAdd, if_neg (by simp [lt3, *]), if_pos (by assumption), e3]
  · show WN (x + y) = WN _
    rw [rAdd, if_neg (by simp [lt3, *]), if_neg (by assumption), if_pos (by assumption), WN_norm]
  · show SV.agg [.int .i64 0, .int .u64 0] = WN _
    rw [rAdd, if_neg (by simp [lt3, *]), if_neg (by assumption), if_neg (by assumption)]
    unfold WN; rw [zero_hi, zero_lo]

def ir_ring_Narrow : IR :=
(.seq (.reg (⟨(some 3), .bx (.t 1), none⟩ ::⟨(some 4), .mv (.c (.int .i64 0)), none⟩ ::⟨(some 5), .mv (.c (.bool false)), none⟩ :: [])) (.seq (.reg (⟨(some 6), .ld 2 true (.t 3), none⟩ ::⟨(some 7), .call (.c (.fn 135 [])) [(.t 6)], none⟩ ::⟨(some 8), .ex 0 (.t 7), none⟩ ::⟨(some 9), .ex 1 (.t 7), none⟩ ::⟨(some 4), .mv (.t 8), none⟩ ::⟨(some 5), .mv (.t 9), none⟩ :: [])) .ret))
theorem cd_ring_Narrow : Code1 Try.prog 107 10 ir_ring_Narrow [.t 4, .t 5] := ⟨Try.call107, _, _, Try.func107, rfl, by kernel_rfl, by kernel_rfl, by kernel_rfl, by kernel_rfl⟩

theorem fs_rNarrow (r x : Int) (hx : W128 x) : FS Try.prog 107 [.int .i64 r, WN x] (.tup [.int .i64 (nar x), .bool (fits x)]) := by
  refine fs_of_cvc mixed cd_ring_Narrow (by simp) ?_
  repeat' (conv => whnf); first
    | ((refine Or.inl ⟨by rfl, _, fs_wNarrow x hx, ?_⟩))
    | ((refine Br.beq (by rfl) ?_))
    | ((refine Br.bne (by rfl) ?_))
    | (refine Br.tt ?_)
    | (refine Br.ff ?_)
    | (refine Br.dec (fun h => ?_) (fun h => ?_)) <;> try (exfalso; omega)
    | (refine Br.neg ?_)
    | (refine Br.mk (fun h => ?_) (fun h => ?_))
    | (refine And.intro rfl ?_)
    | (refine And.intro (by omega) ?_)
    | (refine ⟨_, Or.inl ⟨⟨by omega, by omega⟩, rfl⟩, ?_⟩)
    | (refine And.intro (by simp only [lens_all]; first | done | omega) ?_)
    | (refine And.intro (Nat.le_refl _) ?_)
    | fail
  exact rfl
end
end Go.Proofs.Ytahpfomabgfmkaa
